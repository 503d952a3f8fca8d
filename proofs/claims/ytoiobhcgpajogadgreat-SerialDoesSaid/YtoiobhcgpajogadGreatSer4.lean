/- The walk of the document's Serial. -/
import Derived.Test.YtoiobhcgpajogadGreatSer3
import Derived.Test.YtoiobhcgpajogadGreatReg
namespace Go.Proofs.YtoiobhcgpajogadGreat
open Go.RowKit

/-- Ahead of a number. -/
def aheadS (l : List Dn) : Nat → (Nat → Val) × Bool
  | 0 => (fun _ => Val.zero, true)
  | n + 1 => serialGo l n

/-- All that a number's deeds did. -/
def passR (l : List Dn) (n : Nat) : (Nat → Val) × Bool := if n = 0 then aheadS l 0 else passS (n : Int) (aheadS l n) l

theorem aheadS_succ (l : List Dn) (n : Nat) : aheadS l (n + 1) = ((passR l n).1, lookS (passR l n).1 (n : Int) (passR l n).2 l) := by
  cases n with
  | zero => rfl
  | succ n => exact serialGo_succ l n

set_option maxHeartbeats 4000000 in
set_option maxRecDepth 100000 in
theorem ref_Serial (a : Option Addr) (cap : Nat) (l : List Dnx) (w : World) (hn : l.length ≤ 1000000) (hl : ∀ y ∈ l, y.acts.length ≤ 1000000 ∧ ∀ z ∈ y.acts, z.a.l.length ≤ 1000000) (hN : ∀ y ∈ l, y.n ≤ 1000000) (hD : DonesF w a l) :
    Calls Tryz.prog 15 #[.slice a l.length cap] w (BoolPost (serialS (l.map Dnx.d)) w) := by
  have HF := hid (fun r (hr : serialS (l.map Dnx.d) = r) w' (h : Below w.heap.size w w') => (show BoolPost (serialS (l.map Dnx.d)) w (.returned (.bool r)) w' from ⟨by rw [hr], h⟩))
  have HD := hid hD
  have HL := hid hl
  have HN := hid hN
  have HR := hid (show serialS (l.map Dnx.d) = (serialGo (l.map Dnx.d) (lastS (l.map Dnx.d)).toNat).2 from rfl)
  have HLa := hid (show lastS (l.map Dnx.d) = (l.map Dnx.d).foldl (fun m d => max m d.n) 0 from rfl)
  generalize serialS (l.map Dnx.d) = R at *
  generalize lastS (l.map Dnx.d) = last at *
  have hn63 : (l.length : Int) ≤ 9223372036854775807 := by omega
  clear hD hl hN
  go_enter Tryz.func15, Tryz.ntmps15
  go_wp2
  go_loopw [3, 4] (fun m i wr => ∃ (k : Nat) (x : Int), k ≤ l.length ∧ i = .int .i64 k ∧ m = .int .i64 x ∧ 0 ≤ x ∧ x ≤ 1000000 ∧ Hid (last = ((l.drop k).map Dnx.d).foldl (fun m d => max m d.n) x) ∧ Hid (w = wr)) (fun _ i _ => l.length - (intOf i).toNat)
  case atStart => exact ⟨0, 0, Nat.zero_le _, rfl, rfl, Int.le_refl _, by omega, HLa, hid rfl⟩
  case round =>
    clear HLa
    obtain ⟨k, x, hk, rfl, rfl, hx0, hx1, HQ, HW⟩ := hrel
    have hw := HW.out
    subst hw
    by_cases hlt : k < l.length
    · obtain ⟨sb, off, rfl, hsb, hf⟩ := HD.out.facts (by omega)
      obtain ⟨e0, -⟩ := hf k hlt
      have hst : last = ((l.drop (k + 1)).map Dnx.d).foldl (fun m d => max m d.n) (max x l[k].n) := by
        rw [HQ.out, List.drop_eq_getElem_cons hlt, List.map_cons, List.foldl_cons]; rfl
      have hz := HN.out l[k] (List.getElem_mem _)
      have HST := hid hst
      clear hf hst HQ
      generalize l[k] = y at *
      have hki : (k : Int) < (l.length : Int) := by omega
      have hk0 : (0 : Int) ≤ (k : Int) := by omega
      by_cases hm : x < y.n
      · have HT := hid (show last = ((l.drop (k + 1)).map Dnx.d).foldl (fun m d => max m d.n) y.n from by rw [HST.out, Int.max_eq_right (by omega)])
        clear HST
        go_wp2
        go_roundw
        case rel => exact ⟨k + 1, y.n, by omega, by go_num, rfl, by omega, hz, HT, hid trivial⟩
        case measure => simp [intOf]; omega
      · have HT := hid (show last = ((l.drop (k + 1)).map Dnx.d).foldl (fun m d => max m d.n) x from by rw [HST.out, Int.max_eq_left (by omega)])
        clear HST
        go_wp2
        go_roundw
        case rel => exact ⟨k + 1, x, by omega, by go_num, rfl, hx0, hx1, HT, hid trivial⟩
        case measure => simp [intOf]; omega
    · obtain rfl : k = l.length := by omega
      obtain rfl : last = x := by rw [HQ.out, List.drop_length]; rfl
      obtain ⟨t, rfl⟩ : ∃ t : Nat, last = t := ⟨last.toNat, by omega⟩
      have ht63 : (t : Int) + 1 ≤ 9223372036854775807 := by omega
      obtain ⟨T1, hT1⟩ : ∃ T1, T1 = t + 1 := ⟨_, rfl⟩
      have HR2 := hid (show R = (aheadS (l.map Dnx.d) T1).2 from by rw [hT1]; exact HR.out)
      have HT1 := hid hT1
      clear hT1
      clear HQ HR
      go_upto_region 8 with (fail)
      have X0 := hid (show Loc (w.alloc (.cells #[.bool false, .string ⟨#[]⟩, .bool false, .string ⟨#[]⟩, .bool false, .string ⟨#[]⟩, .bool false, .string ⟨#[]⟩, .bool false, .string ⟨#[]⟩, .bool false, .string ⟨#[]⟩, .bool false, .string ⟨#[]⟩, .bool false, .string ⟨#[]⟩] 48)) w.heap.size 48 (vals8 (aheadS (l.map Dnx.d) 0).1) from Loc.new w 48 (vals8 fun _ => Val.zero))
      have B0 := hid ((Below.refl w.heap.size w).alloc (Nat.le_refl _) (.cells #[.bool false, .string ⟨#[]⟩, .bool false, .string ⟨#[]⟩, .bool false, .string ⟨#[]⟩, .bool false, .string ⟨#[]⟩, .bool false, .string ⟨#[]⟩, .bool false, .string ⟨#[]⟩, .bool false, .string ⟨#[]⟩, .bool false, .string ⟨#[]⟩] 48))
      generalize w.alloc (.cells #[.bool false, .string ⟨#[]⟩, .bool false, .string ⟨#[]⟩, .bool false, .string ⟨#[]⟩, .bool false, .string ⟨#[]⟩, .bool false, .string ⟨#[]⟩, .bool false, .string ⟨#[]⟩, .bool false, .string ⟨#[]⟩, .bool false, .string ⟨#[]⟩] 48) = w0 at *
      go_wp2
      go_loopw [6, 7] (fun o i wr => ∃ n : Nat, n ≤ T1 ∧ i = .int .i64 (n : Int) ∧ o = .bool (aheadS (l.map Dnx.d) n).2 ∧ Hid (Loc wr w.heap.size 48 (vals8 (aheadS (l.map Dnx.d) n).1)) ∧ Hid (Below w.heap.size w wr)) (fun _ i _ => t + 1 - (intOf i).toNat)
      case atStart => exact ⟨0, Nat.zero_le _, rfl, rfl, X0, B0⟩
      case round =>
        clear X0 B0
        obtain ⟨n, hnt, rfl, rfl, HX, HB⟩ := hrel
        by_cases hle : (n : Int) ≤ (t : Int)
        · have GO := hid (aheadS_succ (l.map Dnx.d) n)
          obtain ⟨ps, hps⟩ : ∃ ps, passR (l.map Dnx.d) n = ps := ⟨_, rfl⟩
          rw [hps] at GO
          have HP0 := hid (show n = 0 → ps = aheadS (l.map Dnx.d) n from fun h => by subst h; rw [← hps]; rfl)
          have HP := hid (show 0 < n → ps = passS (n : Int) (aheadS (l.map Dnx.d) n) (l.map Dnx.d) from fun h => by rw [← hps]; unfold passR; rw [if_neg (by omega)])
          clear hps
          generalize aheadS (l.map Dnx.d) n = g at *
          go_wp2
          go_loopw [6, 8] (fun o i wr => ∃ (k : Nat) (r : (Nat → Val) × Bool), k ≤ l.length ∧ i = .int .i64 k ∧ o = .bool r.2 ∧ Hid (n = 0 → ps = r) ∧ Hid (0 < n → ps = passS (n : Int) r ((l.drop k).map Dnx.d)) ∧ Hid (Loc wr w.heap.size 48 (vals8 r.1)) ∧ Hid (Below w.heap.size w wr)) (fun _ i _ => l.length - (intOf i).toNat)
          case atStart => exact ⟨0, g, Nat.zero_le _, rfl, rfl, HP0, HP, HX, HB⟩
          case round =>
            clear HP0 HP HX HB
            obtain ⟨k, ⟨rf, rb⟩, hk, rfl, rfl, HP0, HP, HX, HB⟩ := hrel
            simp only at HX
            by_cases hgo : k < l.length ∧ 0 < n
            · obtain ⟨hlt, hn0⟩ := hgo
              obtain ⟨sb, off, rfl, hsb, hf⟩ := HD.out.facts (by omega)
              obtain ⟨e0, -, e2, e3, hA⟩ := hf k hlt
              have hst : ps = passS (n : Int) (if l[k].n = (n : Int) then ((replay rf (l[k].acts.map (·.a))).1, rb && ((replay rf (l[k].acts.map (·.a))).2 || !(l[k].mode == 2))) else (rf, rb)) ((l.drop (k + 1)).map Dnx.d) := by
                rw [HP.out hn0, List.drop_eq_getElem_cons hlt, List.map_cons, passS_cons]; rfl
              have HZ := hid (HL.out l[k] (List.getElem_mem _))
              have HA := hid hA
              have HST := hid hst
              have HE := hid (fun W (h : Below w.heap.size w W) => And.intro ((below_cell h hsb).trans e2) ((below_cell h hsb).trans e3))
              have E0 := (below_cell HB.out hsb).trans e0
              clear hf hA hst HP HP0 e0 e2 e3
              generalize l[k] = y at *
              have hki : (k : Int) < (l.length : Int) := by omega
              have hk0 : (0 : Int) ≤ (k : Int) := by omega
              have hng : (0 : Int) < (n : Int) := by omega
              by_cases h0 : y.n = (n : Int)
              · have HT := hid (show ps = passS (n : Int) ((replay rf (y.acts.map (·.a))).1, rb && ((replay rf (y.acts.map (·.a))).2 || !(y.mode == 2))) ((l.drop (k + 1)).map Dnx.d) from by rw [HST.out, if_pos h0])
                rw [h0] at E0
                clear h0 HST
                go_upto_region 16 with (fail)
                have RT := hid (fun W (h : Below wr.heap.size wr W) => ref_Replay rf y.ad y.cap y.acts W HZ.out.1 HZ.out.2 (HA.out.below (HB.out.trans (h.mono HB.out.size))))
                have KS := hid (fun W (h : Below wr.heap.size wr W) => (show Below wr.heap.size wr W ∧ W.rangeAt w.heap.size 0 (vals8 rf) ∧ W.cell? ⟨sb, off + k * 4 + 3, none⟩ = some (.slice y.ad y.acts.length y.cap) from ⟨h, (HX.out.keep h).range, (HE.out W (HB.out.trans (h.mono HB.out.size))).2⟩))
                clear HA
                generalize replay rf (y.acts.map (·.a)) = rr at *
                obtain ⟨gf, gb⟩ := rr
                simp only at RT HT
                refine' join2 (fun (b : Nat) W => Below wr.heap.size wr W ∧ Loc W b 48 (vals8 gf)) _ (fun HJ => ?_) (fun b9 w5 hS5 => ?_)
                rotate_left
                · skip
                  -- REGION 16
                  refine wp_region_noPanic ?_
                  refine wp_region_held_drew (S := (fun W' : World => Below wr.heap.size wr W' ∧ W'.rangeAt w.heap.size 0 (vals8 rf) ∧ W'.cell? ⟨sb, off + k * 4 + 3, none⟩ = some (.slice y.ad y.acts.length y.cap))) (by kernel_rfl) ?_ (fun hH0 => ?_)
                  · (try dsimp only); (first | assumption | exact KS.out _ (Below.refl wr.heap.size wr).drew)
                  refine wpAnyH_take (i := 0) (v := .agg (vals8 rf).toArray) (by simp only [List.getElem?_toArray, List.getElem?_cons_zero]; rfl) (by kernel_rfl) (by kernel_rfl) (by kernel_rfl) (fun _ _ _ h => h) (yieldsIf_load_mid (by rfl) 48 _ rfl w.heap.size 0 rfl (vals8 rf) _ (fun w h => h.2.1) Tryz.underlying48 rfl Tryz.infoWorld) (by assumption) ?_
                  try simp only [Act.put, List.setIfInBounds_toArray, List.set_cons_zero, List.set_cons_succ]
                  refine wpAnyH_take (i := 1) (v := ?_) (by simp only [List.getElem?_toArray, List.getElem?_cons_zero, List.getElem?_cons_succ]; rfl) (by kernel_rfl) (by kernel_rfl) (by kernel_rfl) (fun _ _ _ h => h) (Or.inl ⟨by rfl, ?_⟩) (by assumption) ?_
                  rotate_left
                  · intro w hSw; (try dsimp only at hSw); go_simp; (try with_reducible rfl)
                  try simp only [Act.put, List.setIfInBounds_toArray, List.set_cons_zero, List.set_cons_succ]
                  refine wpAnyH_take (i := 2) (v := ?_) (by simp only [List.getElem?_toArray, List.getElem?_cons_zero, List.getElem?_cons_succ]; rfl) (by kernel_rfl) (by kernel_rfl) (by kernel_rfl) (fun _ _ _ h => h) (Or.inl ⟨by rfl, ?_⟩) (by assumption) ?_
                  rotate_left
                  · intro w hSw; (try dsimp only at hSw); go_simp; (try with_reducible rfl)
                  try simp only [Act.put, List.setIfInBounds_toArray, List.set_cons_zero, List.set_cons_succ]
                  refine wpAnyH_take (i := 3) (v := ?_) (by simp only [List.getElem?_toArray, List.getElem?_cons_zero, List.getElem?_cons_succ]; rfl) (by kernel_rfl) (by kernel_rfl) (by kernel_rfl) (fun _ _ _ h => h) (Or.inl ⟨by rfl, ?_⟩) (by assumption) ?_
                  rotate_left
                  · intro w hSw; (try dsimp only at hSw); go_simp; (try with_reducible rfl)
                  try simp only [Act.put, List.setIfInBounds_toArray, List.set_cons_zero, List.set_cons_succ]
                  refine wpAnyH_take (i := 4) (v := ?_) (by simp only [List.getElem?_toArray, List.getElem?_cons_zero, List.getElem?_cons_succ]; rfl) (by kernel_rfl) (by kernel_rfl) (by kernel_rfl) (fun _ _ _ h => h) (Or.inl ⟨by rfl, ?_⟩) (by assumption) ?_
                  rotate_left
                  · intro w hSw; (try dsimp only at hSw); go_simp; (try with_reducible rfl)
                  try simp only [Act.put, List.setIfInBounds_toArray, List.set_cons_zero, List.set_cons_succ]
                  refine wpAnyH_take (i := 5) (v := ?_) (by simp only [List.getElem?_toArray, List.getElem?_cons_zero, List.getElem?_cons_succ]; rfl) (by kernel_rfl) (by kernel_rfl) (by kernel_rfl) (fun _ _ _ h => h) (Or.inl ⟨by rfl, ?_⟩) (by assumption) ?_
                  rotate_left
                  · intro w hSw; (try dsimp only at hSw); go_simp; (try with_reducible rfl)
                  try simp only [Act.put, List.setIfInBounds_toArray, List.set_cons_zero, List.set_cons_succ]
                  refine wpAnyH_ready (rs := [6, 10]) (by kernel_rfl) (by simp) ?_
                  refine AllReadyH.cons (by simp only [List.getElem?_toArray, List.getElem?_cons_zero, List.getElem?_cons_succ]; rfl) (fun K hK => ?_) ?_
                  · skip
                    go_simp
                    go_at_call 12
                    have hS := (‹Below _ wr _ ∧ _›).1
                    (with_reducible refine (RT.out _ hS).mono ?_)
                    rintro e w7 ⟨rfl, hb7⟩
                    have hS' := KS.out _ (hS.trans (hb7.mono (by first | exact hS.size | (have h1 := hS.size; have h2 := HB6.out; omega))))
                    try (have hLZ := LZ.out.keep hb7; clear LZ; have LZ := hid hLZ; clear hLZ)
                    clear hb7 hS
                    try go_wp2_with fail
                    refine hK.out _ _ ?_ (fun hH1 => ?_)
                    · (try dsimp only); (first | assumption | exact KS.out _ (Below.refl wr.heap.size wr).drew)
                    clear hK K hH0
                    try simp only [Act.put, List.setIfInBounds_toArray, List.set_cons_zero, List.set_cons_succ]
                    refine wpAnyH_take (i := 7) (v := ?_) (by simp only [List.getElem?_toArray, List.getElem?_cons_zero, List.getElem?_cons_succ]; rfl) (by kernel_rfl) (by kernel_rfl) (by kernel_rfl) (fun _ _ _ h => h) (Or.inl ⟨by rfl, ?_⟩) (by assumption) ?_
                    rotate_left
                    · intro w hSw; (try dsimp only at hSw); go_simp; (try with_reducible rfl)
                    try simp only [Act.put, List.setIfInBounds_toArray, List.set_cons_zero, List.set_cons_succ]
                    refine wpAnyH_take (i := 8) (v := ?_) (by simp only [List.getElem?_toArray, List.getElem?_cons_zero, List.getElem?_cons_succ]; rfl) (by kernel_rfl) (by kernel_rfl) (by kernel_rfl) (fun _ _ _ h => h) (Or.inl ⟨by rfl, ?_⟩) (by assumption) ?_
                    rotate_left
                    · intro w hSw; (try dsimp only at hSw); go_simp; (try with_reducible rfl)
                    try simp only [Act.put, List.setIfInBounds_toArray, List.set_cons_zero, List.set_cons_succ]
                    refine wpAnyH_take (i := 9) (v := ?_) (by simp only [List.getElem?_toArray, List.getElem?_cons_zero, List.getElem?_cons_succ]; rfl) (by kernel_rfl) (by kernel_rfl) (by kernel_rfl) (fun _ _ _ h => h) (Or.inl ⟨by rfl, ?_⟩) (by assumption) ?_
                    rotate_left
                    · intro w hSw; (try dsimp only at hSw); go_simp; (try with_reducible rfl)
                    try simp only [Act.put, List.setIfInBounds_toArray, List.set_cons_zero, List.set_cons_succ]
                    refine wpAnyH_ready (rs := [10]) (by kernel_rfl) (by simp) ?_
                    refine AllReadyH.cons (by simp only [List.getElem?_toArray, List.getElem?_cons_zero, List.getElem?_cons_succ]; rfl) (fun K hK => ?_) AllReadyH.nil
                    go_simp
                    have hS := (‹Below _ wr _ ∧ _›).1
                    first
                      | (have LZ : Hid (Loc (w7.alloc (.cells #[.bool false, .string ⟨#[]⟩, .bool false, .string ⟨#[]⟩, .bool false, .string ⟨#[]⟩, .bool false, .string ⟨#[]⟩, .bool false, .string ⟨#[]⟩, .bool false, .string ⟨#[]⟩, .bool false, .string ⟨#[]⟩, .bool false, .string ⟨#[]⟩] 48)) w7.heap.size 48 (vals8 fun _ => Val.zero)) := hid (Loc.new w7 48 (vals8 fun _ => Val.zero)); have HBN := hid hS.size; have hS' := KS.out (w7.alloc (.cells #[.bool false, .string ⟨#[]⟩, .bool false, .string ⟨#[]⟩, .bool false, .string ⟨#[]⟩, .bool false, .string ⟨#[]⟩, .bool false, .string ⟨#[]⟩, .bool false, .string ⟨#[]⟩, .bool false, .string ⟨#[]⟩, .bool false, .string ⟨#[]⟩] 48)) (hS.alloc hS.size _); clear hS; generalize w7.alloc (.cells #[.bool false, .string ⟨#[]⟩, .bool false, .string ⟨#[]⟩, .bool false, .string ⟨#[]⟩, .bool false, .string ⟨#[]⟩, .bool false, .string ⟨#[]⟩, .bool false, .string ⟨#[]⟩, .bool false, .string ⟨#[]⟩, .bool false, .string ⟨#[]⟩] 48) = w6 at *; generalize w7.heap.size = b6 at *)
                      | (have LZ : Hid (Loc (wr.alloc (.cells #[.bool false, .string ⟨#[]⟩, .bool false, .string ⟨#[]⟩, .bool false, .string ⟨#[]⟩, .bool false, .string ⟨#[]⟩, .bool false, .string ⟨#[]⟩, .bool false, .string ⟨#[]⟩, .bool false, .string ⟨#[]⟩, .bool false, .string ⟨#[]⟩] 48)).drew wr.heap.size 48 (vals8 fun _ => Val.zero)) := hid (Loc.new wr 48 (vals8 fun _ => Val.zero)); have HBN := hid (Nat.le_refl wr.heap.size); have hS' := KS.out (wr.alloc (.cells #[.bool false, .string ⟨#[]⟩, .bool false, .string ⟨#[]⟩, .bool false, .string ⟨#[]⟩, .bool false, .string ⟨#[]⟩, .bool false, .string ⟨#[]⟩, .bool false, .string ⟨#[]⟩, .bool false, .string ⟨#[]⟩, .bool false, .string ⟨#[]⟩] 48)).drew (((Below.refl wr.heap.size wr).alloc (Nat.le_refl _) _).drew); clear hS; generalize (wr.alloc (.cells #[.bool false, .string ⟨#[]⟩, .bool false, .string ⟨#[]⟩, .bool false, .string ⟨#[]⟩, .bool false, .string ⟨#[]⟩, .bool false, .string ⟨#[]⟩, .bool false, .string ⟨#[]⟩, .bool false, .string ⟨#[]⟩, .bool false, .string ⟨#[]⟩] 48)).drew = w6 at *; generalize hb6 : wr.heap.size = b6 at *; have HB6 := hid hb6; clear hb6)
                    try go_wp2_with fail
                    refine hK.out _ _ ?_ (fun hH2 => ?_)
                    · (try dsimp only); (first | assumption | exact KS.out _ (Below.refl wr.heap.size wr).drew)
                    clear hK K hH1
                    try simp only [Act.put, List.setIfInBounds_toArray, List.set_cons_zero, List.set_cons_succ]
                    refine wpAnyH_ready (rs := [11]) (by kernel_rfl) (by simp) ?_
                    refine AllReadyH.cons (by simp only [List.getElem?_toArray, List.getElem?_cons_zero, List.getElem?_cons_succ]; rfl) (fun K hK => ?_) AllReadyH.nil
                    have hS := (‹Below _ wr _ ∧ _›).1
                    refine wp_store_mid 48 _ _ rfl _ 0 (vals8 gf).toArray rfl rfl (LZ.out.there8 gf) Tryz.infoWorld (vals8_one gf) ?_
                    have hS' := KS.out _ (Below.setCells' HBN.out (vals8 gf) 0 hS)
                    have LN := hid (LZ.out.setAll (vs := vals8 gf) rfl)
                    clear hS
                    first
                      | (generalize w7.setCells b6 0 (vals8 gf) = wz at *; have LN2 : Hid (Loc wz b6 48 (vals8 gf)) := by with_reducible exact LN)
                      | (generalize w6.setCells b6 0 (vals8 gf) = wz at *; have LN2 : Hid (Loc wz b6 48 (vals8 gf)) := by with_reducible exact LN)
                    refine hK.out _ _ ?_ (fun hH3 => ?_)
                    · (try dsimp only); (first | assumption | exact KS.out _ (Below.refl wr.heap.size wr).drew)
                    clear hK K hH2
                    try simp only [Act.put]
                    refine wpAnyH_take (i := 12) (v := ?_) (by simp only [List.getElem?_toArray, List.getElem?_cons_zero, List.getElem?_cons_succ]; rfl) (by kernel_rfl) (by kernel_rfl) (by kernel_rfl) (fun _ _ _ h => h) (Or.inl ⟨by rfl, ?_⟩) (by assumption) ?_
                    rotate_left
                    · intro w hSw; (try dsimp only at hSw); go_simp; (try with_reducible rfl)
                    try simp only [Act.put, List.setIfInBounds_toArray, List.set_cons_zero, List.set_cons_succ]
                    refine wpAnyH_done (by kernel_rfl) ?_ _
                    refine NoPanic.normal ?_
                    exact HJ b6 wz ⟨(‹Below _ wr wz ∧ _›).1, LN2.out⟩
                  refine AllReadyH.cons (by simp only [List.getElem?_toArray, List.getElem?_cons_zero, List.getElem?_cons_succ]; rfl) (fun K hK => ?_) AllReadyH.nil
                  go_simp
                  have hS := (‹Below _ wr _ ∧ _›).1
                  first
                    | (have LZ : Hid (Loc (w7.alloc (.cells #[.bool false, .string ⟨#[]⟩, .bool false, .string ⟨#[]⟩, .bool false, .string ⟨#[]⟩, .bool false, .string ⟨#[]⟩, .bool false, .string ⟨#[]⟩, .bool false, .string ⟨#[]⟩, .bool false, .string ⟨#[]⟩, .bool false, .string ⟨#[]⟩] 48)) w7.heap.size 48 (vals8 fun _ => Val.zero)) := hid (Loc.new w7 48 (vals8 fun _ => Val.zero)); have HBN := hid hS.size; have hS' := KS.out (w7.alloc (.cells #[.bool false, .string ⟨#[]⟩, .bool false, .string ⟨#[]⟩, .bool false, .string ⟨#[]⟩, .bool false, .string ⟨#[]⟩, .bool false, .string ⟨#[]⟩, .bool false, .string ⟨#[]⟩, .bool false, .string ⟨#[]⟩, .bool false, .string ⟨#[]⟩] 48)) (hS.alloc hS.size _); clear hS; generalize w7.alloc (.cells #[.bool false, .string ⟨#[]⟩, .bool false, .string ⟨#[]⟩, .bool false, .string ⟨#[]⟩, .bool false, .string ⟨#[]⟩, .bool false, .string ⟨#[]⟩, .bool false, .string ⟨#[]⟩, .bool false, .string ⟨#[]⟩, .bool false, .string ⟨#[]⟩] 48) = w6 at *; generalize w7.heap.size = b6 at *)
                    | (have LZ : Hid (Loc (wr.alloc (.cells #[.bool false, .string ⟨#[]⟩, .bool false, .string ⟨#[]⟩, .bool false, .string ⟨#[]⟩, .bool false, .string ⟨#[]⟩, .bool false, .string ⟨#[]⟩, .bool false, .string ⟨#[]⟩, .bool false, .string ⟨#[]⟩, .bool false, .string ⟨#[]⟩] 48)).drew wr.heap.size 48 (vals8 fun _ => Val.zero)) := hid (Loc.new wr 48 (vals8 fun _ => Val.zero)); have HBN := hid (Nat.le_refl wr.heap.size); have hS' := KS.out (wr.alloc (.cells #[.bool false, .string ⟨#[]⟩, .bool false, .string ⟨#[]⟩, .bool false, .string ⟨#[]⟩, .bool false, .string ⟨#[]⟩, .bool false, .string ⟨#[]⟩, .bool false, .string ⟨#[]⟩, .bool false, .string ⟨#[]⟩, .bool false, .string ⟨#[]⟩] 48)).drew (((Below.refl wr.heap.size wr).alloc (Nat.le_refl _) _).drew); clear hS; generalize (wr.alloc (.cells #[.bool false, .string ⟨#[]⟩, .bool false, .string ⟨#[]⟩, .bool false, .string ⟨#[]⟩, .bool false, .string ⟨#[]⟩, .bool false, .string ⟨#[]⟩, .bool false, .string ⟨#[]⟩, .bool false, .string ⟨#[]⟩, .bool false, .string ⟨#[]⟩] 48)).drew = w6 at *; generalize hb6 : wr.heap.size = b6 at *; have HB6 := hid hb6; clear hb6)
                  try go_wp2_with fail
                  refine hK.out _ _ ?_ (fun hH4 => ?_)
                  · (try dsimp only); (first | assumption | exact KS.out _ (Below.refl wr.heap.size wr).drew)
                  clear hK K hH0
                  try simp only [Act.put, List.setIfInBounds_toArray, List.set_cons_zero, List.set_cons_succ]
                  refine wpAnyH_ready (rs := [6]) (by kernel_rfl) (by simp) ?_
                  refine AllReadyH.cons (by simp only [List.getElem?_toArray, List.getElem?_cons_zero, List.getElem?_cons_succ]; rfl) (fun K hK => ?_) AllReadyH.nil
                  go_simp
                  go_at_call 12
                  have hS := (‹Below _ wr _ ∧ _›).1
                  (with_reducible refine (RT.out _ hS).mono ?_)
                  rintro e w7 ⟨rfl, hb7⟩
                  have hS' := KS.out _ (hS.trans (hb7.mono (by first | exact hS.size | (have h1 := hS.size; have h2 := HB6.out; omega))))
                  try (have hLZ := LZ.out.keep hb7; clear LZ; have LZ := hid hLZ; clear hLZ)
                  clear hb7 hS
                  try go_wp2_with fail
                  refine hK.out _ _ ?_ (fun hH5 => ?_)
                  · (try dsimp only); (first | assumption | exact KS.out _ (Below.refl wr.heap.size wr).drew)
                  clear hK K hH4
                  try simp only [Act.put, List.setIfInBounds_toArray, List.set_cons_zero, List.set_cons_succ]
                  refine wpAnyH_take (i := 7) (v := ?_) (by simp only [List.getElem?_toArray, List.getElem?_cons_zero, List.getElem?_cons_succ]; rfl) (by kernel_rfl) (by kernel_rfl) (by kernel_rfl) (fun _ _ _ h => h) (Or.inl ⟨by rfl, ?_⟩) (by assumption) ?_
                  rotate_left
                  · intro w hSw; (try dsimp only at hSw); go_simp; (try with_reducible rfl)
                  try simp only [Act.put, List.setIfInBounds_toArray, List.set_cons_zero, List.set_cons_succ]
                  refine wpAnyH_take (i := 8) (v := ?_) (by simp only [List.getElem?_toArray, List.getElem?_cons_zero, List.getElem?_cons_succ]; rfl) (by kernel_rfl) (by kernel_rfl) (by kernel_rfl) (fun _ _ _ h => h) (Or.inl ⟨by rfl, ?_⟩) (by assumption) ?_
                  rotate_left
                  · intro w hSw; (try dsimp only at hSw); go_simp; (try with_reducible rfl)
                  try simp only [Act.put, List.setIfInBounds_toArray, List.set_cons_zero, List.set_cons_succ]
                  refine wpAnyH_take (i := 9) (v := ?_) (by simp only [List.getElem?_toArray, List.getElem?_cons_zero, List.getElem?_cons_succ]; rfl) (by kernel_rfl) (by kernel_rfl) (by kernel_rfl) (fun _ _ _ h => h) (Or.inl ⟨by rfl, ?_⟩) (by assumption) ?_
                  rotate_left
                  · intro w hSw; (try dsimp only at hSw); go_simp; (try with_reducible rfl)
                  try simp only [Act.put, List.setIfInBounds_toArray, List.set_cons_zero, List.set_cons_succ]
                  refine wpAnyH_ready (rs := [11]) (by kernel_rfl) (by simp) ?_
                  refine AllReadyH.cons (by simp only [List.getElem?_toArray, List.getElem?_cons_zero, List.getElem?_cons_succ]; rfl) (fun K hK => ?_) AllReadyH.nil
                  have hS := (‹Below _ wr _ ∧ _›).1
                  refine wp_store_mid 48 _ _ rfl _ 0 (vals8 gf).toArray rfl rfl (LZ.out.there8 gf) Tryz.infoWorld (vals8_one gf) ?_
                  have hS' := KS.out _ (Below.setCells' HBN.out (vals8 gf) 0 hS)
                  have LN := hid (LZ.out.setAll (vs := vals8 gf) rfl)
                  clear hS
                  first
                    | (generalize w7.setCells b6 0 (vals8 gf) = wz at *; have LN2 : Hid (Loc wz b6 48 (vals8 gf)) := by with_reducible exact LN)
                    | (generalize w6.setCells b6 0 (vals8 gf) = wz at *; have LN2 : Hid (Loc wz b6 48 (vals8 gf)) := by with_reducible exact LN)
                  refine hK.out _ _ ?_ (fun hH6 => ?_)
                  · (try dsimp only); (first | assumption | exact KS.out _ (Below.refl wr.heap.size wr).drew)
                  clear hK K hH5
                  try simp only [Act.put]
                  refine wpAnyH_take (i := 12) (v := ?_) (by simp only [List.getElem?_toArray, List.getElem?_cons_zero, List.getElem?_cons_succ]; rfl) (by kernel_rfl) (by kernel_rfl) (by kernel_rfl) (fun _ _ _ h => h) (Or.inl ⟨by rfl, ?_⟩) (by assumption) ?_
                  rotate_left
                  · intro w hSw; (try dsimp only at hSw); go_simp; (try with_reducible rfl)
                  try simp only [Act.put, List.setIfInBounds_toArray, List.set_cons_zero, List.set_cons_succ]
                  refine wpAnyH_done (by kernel_rfl) ?_ _
                  refine NoPanic.normal ?_
                  exact HJ b6 wz ⟨(‹Below _ wr wz ∧ _›).1, LN2.out⟩
                  -- END 16
                · skip
                  have HB5 := hid (HB.out.trans (hS5.1.mono HB.out.size))
                  have X5 := hid (HX.out.keep hS5.1)
                  have L9 := hid hS5.2
                  clear hS5 KS RT
                  clear HX HB E0
                  cases rb
                  all_goals (
                    cases gb
                    all_goals (
                      go_wp2_with (first
                        | refine wpList_load_vals rfl (.tmp 9) rfl b9 rfl gf L9.out ?_
                        | (refine wpList_store_mid rfl 48 (.tmp 5) (.tmp 64) rfl w.heap.size 0 (vals8 gf).toArray rfl rfl (X5.out.there8 _) Tryz.infoWorld (vals8_one _) ?_
                           have X6 := hid (X5.out.setAll (vs := (vals8 gf).toArray.toList) rfl)
                           have HB6 := hid (Below.setCells' (Nat.le_refl _) (vals8 gf).toArray.toList 0 HB5.out)
                           generalize w5.setCells w.heap.size 0 (vals8 gf).toArray.toList = w6 at *
                           have E2 := (HE.out _ HB6.out).1))
                      go_roundw
                      case rel => exact ⟨k + 1, (gf, _), by omega, by go_num, rfl, hid (fun h => by omega), hid (fun _ => HT.out), X6, HB6⟩
                      case measure => simp [intOf]; omega))
              · have HT := hid (show ps = passS (n : Int) (rf, rb) ((l.drop (k + 1)).map Dnx.d) from by rw [HST.out, if_neg h0])
                have g1 : (y.n == (n : Int)) = false := by simpa using h0
                clear h0 HST
                go_wp2
                go_roundw
                case rel => exact ⟨k + 1, (rf, rb), by omega, by go_num, rfl, hid (fun h => by omega), hid (fun _ => HT.out), HX, HB⟩
                case measure => simp [intOf]; omega
            · have hps : ps = (rf, rb) := by
                by_cases e : n = 0
                · exact HP0.out e
                · rw [HP.out (by omega), show k = l.length by omega, List.drop_length]; rfl
              have hcond : ¬ ((k : Int) < (l.length : Int)) ∨ ¬ ((0 : Int) < (n : Int)) := by omega
              clear HP HP0
              subst hps
              simp only at GO
              have LK := hid (show ∀ q, lookS rf (n : Int) rb (l.map Dnx.d) = q → aheadS (l.map Dnx.d) (n + 1) = (rf, q) from fun q hq => by rw [GO.out, hq])
              obtain ⟨Q, hQ⟩ : ∃ Q, lookS rf (n : Int) rb (l.map Dnx.d) = Q := ⟨_, rfl⟩
              have LQ := hid (LK.out Q hQ)
              have HQ := hid hQ.symm
              clear LK hQ GO
              have HCO := hid hcond
              clear hgo hcond
              by_cases hlt0 : (k : Int) < (l.length : Int)
              all_goals (
                first
                  | (have hng2 : ¬ ((0 : Int) < (n : Int)) := (by have := HCO.out; omega); have hng3 : ¬ (0 < n) := by omega)
                  | (have hng2 : ¬ (k < l.length) := by omega)
                have hng4 := hid True.intro
                go_wp2
                go_loopw [6, 11] (fun o i wr => ∃ (j : Nat) (q : Bool), j ≤ l.length ∧ i = .int .i64 j ∧ o = .bool q ∧ Hid (Q = lookS rf (n : Int) q ((l.drop j).map Dnx.d)) ∧ Hid (Loc wr w.heap.size 48 (vals8 rf)) ∧ Hid (Below w.heap.size w wr)) (fun _ i _ => l.length - (intOf i).toNat)
                case atStart => exact ⟨0, rb, Nat.zero_le _, rfl, rfl, HQ, HX, HB⟩
                case round =>
                  clear HQ HX HB hlt0 hk
                  clear hng2
                  try clear hng3
                  obtain ⟨k, q, hk, rfl, rfl, HQ, HX, HB⟩ := hrel
                  by_cases hlt : k < l.length
                  · obtain ⟨sb, off, rfl, hsb, hf⟩ := HD.out.facts (by omega)
                    obtain ⟨e0, e1, -, e3, hA⟩ := hf k hlt
                    have hst : Q = lookS rf (n : Int) (if l[k].n = 0 ∧ l[k].at_ = (n : Int) then q && (replay rf (l[k].acts.map (·.a))).2 else q) ((l.drop (k + 1)).map Dnx.d) := by
                      rw [HQ.out, List.drop_eq_getElem_cons hlt, List.map_cons, lookS_cons]; rfl
                    have HZ := hid (HL.out l[k] (List.getElem_mem _))
                    have HA := hid hA
                    have HST := hid hst
                    have HE := hid (fun W (h : Below w.heap.size w W) => (below_cell h hsb).trans e3)
                    have E0 := (below_cell HB.out hsb).trans e0
                    have E1 := (below_cell HB.out hsb).trans e1
                    clear hf hA hst HQ e0 e1 e3
                    generalize l[k] = y at *
                    have hki : (k : Int) < (l.length : Int) := by omega
                    have hk0 : (0 : Int) ≤ (k : Int) := by omega
                    by_cases h0 : y.n = 0
                    · by_cases ha : y.at_ = (n : Int)
                      · have HT := hid (show Q = lookS rf (n : Int) (q && (replay rf (y.acts.map (·.a))).2) ((l.drop (k + 1)).map Dnx.d) from by rw [HST.out, if_pos ⟨h0, ha⟩])
                        rw [h0] at E0
                        rw [ha] at E1
                        clear h0 ha HST
                        go_upto_region 23 with (fail)
                        have RT := hid (fun W (h : Below wr.heap.size wr W) => ref_Replay rf y.ad y.cap y.acts W HZ.out.1 HZ.out.2 (HA.out.below (HB.out.trans (h.mono HB.out.size))))
                        have KS := hid (fun W (h : Below wr.heap.size wr W) => (show Below wr.heap.size wr W ∧ W.rangeAt w.heap.size 0 (vals8 rf) ∧ W.cell? ⟨sb, off + k * 4 + 3, none⟩ = some (.slice y.ad y.acts.length y.cap) from ⟨h, (HX.out.keep h).range, HE.out W (HB.out.trans (h.mono HB.out.size))⟩))
                        clear HA
                        generalize replay rf (y.acts.map (·.a)) = rr at *
                        obtain ⟨gf, gb⟩ := rr
                        simp only at RT HT
                        refine' join2 (fun (b : Nat) W => Below wr.heap.size wr W ∧ Loc W b 48 (vals8 gf)) _ (fun HJ => ?_) (fun b9 w5 hS5 => ?_)
                        rotate_left
                        · skip
                          -- REGION 23
                          refine wp_region_noPanic ?_
                          refine wp_region_held_drew (S := (fun W' : World => Below wr.heap.size wr W' ∧ W'.rangeAt w.heap.size 0 (vals8 rf) ∧ W'.cell? ⟨sb, off + k * 4 + 3, none⟩ = some (.slice y.ad y.acts.length y.cap))) (by kernel_rfl) ?_ (fun hH0 => ?_)
                          · (try dsimp only); (first | assumption | exact KS.out _ (Below.refl wr.heap.size wr).drew)
                          refine wpAnyH_take (i := 0) (v := .agg (vals8 rf).toArray) (by simp only [List.getElem?_toArray, List.getElem?_cons_zero]; rfl) (by kernel_rfl) (by kernel_rfl) (by kernel_rfl) (fun _ _ _ h => h) (yieldsIf_load_mid (by rfl) 48 _ rfl w.heap.size 0 rfl (vals8 rf) _ (fun w h => h.2.1) Tryz.underlying48 rfl Tryz.infoWorld) (by assumption) ?_
                          try simp only [Act.put, List.setIfInBounds_toArray, List.set_cons_zero, List.set_cons_succ]
                          refine wpAnyH_take (i := 1) (v := ?_) (by simp only [List.getElem?_toArray, List.getElem?_cons_zero, List.getElem?_cons_succ]; rfl) (by kernel_rfl) (by kernel_rfl) (by kernel_rfl) (fun _ _ _ h => h) (Or.inl ⟨by rfl, ?_⟩) (by assumption) ?_
                          rotate_left
                          · intro w hSw; (try dsimp only at hSw); go_simp; (try with_reducible rfl)
                          try simp only [Act.put, List.setIfInBounds_toArray, List.set_cons_zero, List.set_cons_succ]
                          refine wpAnyH_take (i := 2) (v := ?_) (by simp only [List.getElem?_toArray, List.getElem?_cons_zero, List.getElem?_cons_succ]; rfl) (by kernel_rfl) (by kernel_rfl) (by kernel_rfl) (fun _ _ _ h => h) (Or.inl ⟨by rfl, ?_⟩) (by assumption) ?_
                          rotate_left
                          · intro w hSw; (try dsimp only at hSw); go_simp; (try with_reducible rfl)
                          try simp only [Act.put, List.setIfInBounds_toArray, List.set_cons_zero, List.set_cons_succ]
                          refine wpAnyH_take (i := 3) (v := ?_) (by simp only [List.getElem?_toArray, List.getElem?_cons_zero, List.getElem?_cons_succ]; rfl) (by kernel_rfl) (by kernel_rfl) (by kernel_rfl) (fun _ _ _ h => h) (Or.inl ⟨by rfl, ?_⟩) (by assumption) ?_
                          rotate_left
                          · intro w hSw; (try dsimp only at hSw); go_simp; (try with_reducible rfl)
                          try simp only [Act.put, List.setIfInBounds_toArray, List.set_cons_zero, List.set_cons_succ]
                          refine wpAnyH_take (i := 4) (v := ?_) (by simp only [List.getElem?_toArray, List.getElem?_cons_zero, List.getElem?_cons_succ]; rfl) (by kernel_rfl) (by kernel_rfl) (by kernel_rfl) (fun _ _ _ h => h) (Or.inl ⟨by rfl, ?_⟩) (by assumption) ?_
                          rotate_left
                          · intro w hSw; (try dsimp only at hSw); go_simp; (try with_reducible rfl)
                          try simp only [Act.put, List.setIfInBounds_toArray, List.set_cons_zero, List.set_cons_succ]
                          refine wpAnyH_take (i := 5) (v := ?_) (by simp only [List.getElem?_toArray, List.getElem?_cons_zero, List.getElem?_cons_succ]; rfl) (by kernel_rfl) (by kernel_rfl) (by kernel_rfl) (fun _ _ _ h => h) (Or.inl ⟨by rfl, ?_⟩) (by assumption) ?_
                          rotate_left
                          · intro w hSw; (try dsimp only at hSw); go_simp; (try with_reducible rfl)
                          try simp only [Act.put, List.setIfInBounds_toArray, List.set_cons_zero, List.set_cons_succ]
                          refine wpAnyH_ready (rs := [6, 10]) (by kernel_rfl) (by simp) ?_
                          refine AllReadyH.cons (by simp only [List.getElem?_toArray, List.getElem?_cons_zero, List.getElem?_cons_succ]; rfl) (fun K hK => ?_) ?_
                          · skip
                            go_simp
                            go_at_call 12
                            have hS := (‹Below _ wr _ ∧ _›).1
                            (with_reducible refine (RT.out _ hS).mono ?_)
                            rintro e w7 ⟨rfl, hb7⟩
                            have hS' := KS.out _ (hS.trans (hb7.mono (by first | exact hS.size | (have h1 := hS.size; have h2 := HB6.out; omega))))
                            try (have hLZ := LZ.out.keep hb7; clear LZ; have LZ := hid hLZ; clear hLZ)
                            clear hb7 hS
                            try go_wp2_with fail
                            refine hK.out _ _ ?_ (fun hH1 => ?_)
                            · (try dsimp only); (first | assumption | exact KS.out _ (Below.refl wr.heap.size wr).drew)
                            clear hK K hH0
                            try simp only [Act.put, List.setIfInBounds_toArray, List.set_cons_zero, List.set_cons_succ]
                            refine wpAnyH_take (i := 7) (v := ?_) (by simp only [List.getElem?_toArray, List.getElem?_cons_zero, List.getElem?_cons_succ]; rfl) (by kernel_rfl) (by kernel_rfl) (by kernel_rfl) (fun _ _ _ h => h) (Or.inl ⟨by rfl, ?_⟩) (by assumption) ?_
                            rotate_left
                            · intro w hSw; (try dsimp only at hSw); go_simp; (try with_reducible rfl)
                            try simp only [Act.put, List.setIfInBounds_toArray, List.set_cons_zero, List.set_cons_succ]
                            refine wpAnyH_take (i := 8) (v := ?_) (by simp only [List.getElem?_toArray, List.getElem?_cons_zero, List.getElem?_cons_succ]; rfl) (by kernel_rfl) (by kernel_rfl) (by kernel_rfl) (fun _ _ _ h => h) (Or.inl ⟨by rfl, ?_⟩) (by assumption) ?_
                            rotate_left
                            · intro w hSw; (try dsimp only at hSw); go_simp; (try with_reducible rfl)
                            try simp only [Act.put, List.setIfInBounds_toArray, List.set_cons_zero, List.set_cons_succ]
                            refine wpAnyH_take (i := 9) (v := ?_) (by simp only [List.getElem?_toArray, List.getElem?_cons_zero, List.getElem?_cons_succ]; rfl) (by kernel_rfl) (by kernel_rfl) (by kernel_rfl) (fun _ _ _ h => h) (Or.inl ⟨by rfl, ?_⟩) (by assumption) ?_
                            rotate_left
                            · intro w hSw; (try dsimp only at hSw); go_simp; (try with_reducible rfl)
                            try simp only [Act.put, List.setIfInBounds_toArray, List.set_cons_zero, List.set_cons_succ]
                            refine wpAnyH_ready (rs := [10]) (by kernel_rfl) (by simp) ?_
                            refine AllReadyH.cons (by simp only [List.getElem?_toArray, List.getElem?_cons_zero, List.getElem?_cons_succ]; rfl) (fun K hK => ?_) AllReadyH.nil
                            go_simp
                            have hS := (‹Below _ wr _ ∧ _›).1
                            first
                              | (have LZ : Hid (Loc (w7.alloc (.cells #[.bool false, .string ⟨#[]⟩, .bool false, .string ⟨#[]⟩, .bool false, .string ⟨#[]⟩, .bool false, .string ⟨#[]⟩, .bool false, .string ⟨#[]⟩, .bool false, .string ⟨#[]⟩, .bool false, .string ⟨#[]⟩, .bool false, .string ⟨#[]⟩] 48)) w7.heap.size 48 (vals8 fun _ => Val.zero)) := hid (Loc.new w7 48 (vals8 fun _ => Val.zero)); have HBN := hid hS.size; have hS' := KS.out (w7.alloc (.cells #[.bool false, .string ⟨#[]⟩, .bool false, .string ⟨#[]⟩, .bool false, .string ⟨#[]⟩, .bool false, .string ⟨#[]⟩, .bool false, .string ⟨#[]⟩, .bool false, .string ⟨#[]⟩, .bool false, .string ⟨#[]⟩, .bool false, .string ⟨#[]⟩] 48)) (hS.alloc hS.size _); clear hS; generalize w7.alloc (.cells #[.bool false, .string ⟨#[]⟩, .bool false, .string ⟨#[]⟩, .bool false, .string ⟨#[]⟩, .bool false, .string ⟨#[]⟩, .bool false, .string ⟨#[]⟩, .bool false, .string ⟨#[]⟩, .bool false, .string ⟨#[]⟩, .bool false, .string ⟨#[]⟩] 48) = w6 at *; generalize w7.heap.size = b6 at *)
                              | (have LZ : Hid (Loc (wr.alloc (.cells #[.bool false, .string ⟨#[]⟩, .bool false, .string ⟨#[]⟩, .bool false, .string ⟨#[]⟩, .bool false, .string ⟨#[]⟩, .bool false, .string ⟨#[]⟩, .bool false, .string ⟨#[]⟩, .bool false, .string ⟨#[]⟩, .bool false, .string ⟨#[]⟩] 48)).drew wr.heap.size 48 (vals8 fun _ => Val.zero)) := hid (Loc.new wr 48 (vals8 fun _ => Val.zero)); have HBN := hid (Nat.le_refl wr.heap.size); have hS' := KS.out (wr.alloc (.cells #[.bool false, .string ⟨#[]⟩, .bool false, .string ⟨#[]⟩, .bool false, .string ⟨#[]⟩, .bool false, .string ⟨#[]⟩, .bool false, .string ⟨#[]⟩, .bool false, .string ⟨#[]⟩, .bool false, .string ⟨#[]⟩, .bool false, .string ⟨#[]⟩] 48)).drew (((Below.refl wr.heap.size wr).alloc (Nat.le_refl _) _).drew); clear hS; generalize (wr.alloc (.cells #[.bool false, .string ⟨#[]⟩, .bool false, .string ⟨#[]⟩, .bool false, .string ⟨#[]⟩, .bool false, .string ⟨#[]⟩, .bool false, .string ⟨#[]⟩, .bool false, .string ⟨#[]⟩, .bool false, .string ⟨#[]⟩, .bool false, .string ⟨#[]⟩] 48)).drew = w6 at *; generalize hb6 : wr.heap.size = b6 at *; have HB6 := hid hb6; clear hb6)
                            try go_wp2_with fail
                            refine hK.out _ _ ?_ (fun hH2 => ?_)
                            · (try dsimp only); (first | assumption | exact KS.out _ (Below.refl wr.heap.size wr).drew)
                            clear hK K hH1
                            try simp only [Act.put, List.setIfInBounds_toArray, List.set_cons_zero, List.set_cons_succ]
                            refine wpAnyH_ready (rs := [11]) (by kernel_rfl) (by simp) ?_
                            refine AllReadyH.cons (by simp only [List.getElem?_toArray, List.getElem?_cons_zero, List.getElem?_cons_succ]; rfl) (fun K hK => ?_) AllReadyH.nil
                            have hS := (‹Below _ wr _ ∧ _›).1
                            refine wp_store_mid 48 _ _ rfl _ 0 (vals8 gf).toArray rfl rfl (LZ.out.there8 gf) Tryz.infoWorld (vals8_one gf) ?_
                            have hS' := KS.out _ (Below.setCells' HBN.out (vals8 gf) 0 hS)
                            have LN := hid (LZ.out.setAll (vs := vals8 gf) rfl)
                            clear hS
                            first
                              | (generalize w7.setCells b6 0 (vals8 gf) = wz at *; have LN2 : Hid (Loc wz b6 48 (vals8 gf)) := by with_reducible exact LN)
                              | (generalize w6.setCells b6 0 (vals8 gf) = wz at *; have LN2 : Hid (Loc wz b6 48 (vals8 gf)) := by with_reducible exact LN)
                            refine hK.out _ _ ?_ (fun hH3 => ?_)
                            · (try dsimp only); (first | assumption | exact KS.out _ (Below.refl wr.heap.size wr).drew)
                            clear hK K hH2
                            try simp only [Act.put]
                            refine wpAnyH_take (i := 12) (v := ?_) (by simp only [List.getElem?_toArray, List.getElem?_cons_zero, List.getElem?_cons_succ]; rfl) (by kernel_rfl) (by kernel_rfl) (by kernel_rfl) (fun _ _ _ h => h) (Or.inl ⟨by rfl, ?_⟩) (by assumption) ?_
                            rotate_left
                            · intro w hSw; (try dsimp only at hSw); go_simp; (try with_reducible rfl)
                            try simp only [Act.put, List.setIfInBounds_toArray, List.set_cons_zero, List.set_cons_succ]
                            refine wpAnyH_done (by kernel_rfl) ?_ _
                            refine NoPanic.normal ?_
                            exact HJ b6 wz ⟨(‹Below _ wr wz ∧ _›).1, LN2.out⟩
                          refine AllReadyH.cons (by simp only [List.getElem?_toArray, List.getElem?_cons_zero, List.getElem?_cons_succ]; rfl) (fun K hK => ?_) AllReadyH.nil
                          go_simp
                          have hS := (‹Below _ wr _ ∧ _›).1
                          first
                            | (have LZ : Hid (Loc (w7.alloc (.cells #[.bool false, .string ⟨#[]⟩, .bool false, .string ⟨#[]⟩, .bool false, .string ⟨#[]⟩, .bool false, .string ⟨#[]⟩, .bool false, .string ⟨#[]⟩, .bool false, .string ⟨#[]⟩, .bool false, .string ⟨#[]⟩, .bool false, .string ⟨#[]⟩] 48)) w7.heap.size 48 (vals8 fun _ => Val.zero)) := hid (Loc.new w7 48 (vals8 fun _ => Val.zero)); have HBN := hid hS.size; have hS' := KS.out (w7.alloc (.cells #[.bool false, .string ⟨#[]⟩, .bool false, .string ⟨#[]⟩, .bool false, .string ⟨#[]⟩, .bool false, .string ⟨#[]⟩, .bool false, .string ⟨#[]⟩, .bool false, .string ⟨#[]⟩, .bool false, .string ⟨#[]⟩, .bool false, .string ⟨#[]⟩] 48)) (hS.alloc hS.size _); clear hS; generalize w7.alloc (.cells #[.bool false, .string ⟨#[]⟩, .bool false, .string ⟨#[]⟩, .bool false, .string ⟨#[]⟩, .bool false, .string ⟨#[]⟩, .bool false, .string ⟨#[]⟩, .bool false, .string ⟨#[]⟩, .bool false, .string ⟨#[]⟩, .bool false, .string ⟨#[]⟩] 48) = w6 at *; generalize w7.heap.size = b6 at *)
                            | (have LZ : Hid (Loc (wr.alloc (.cells #[.bool false, .string ⟨#[]⟩, .bool false, .string ⟨#[]⟩, .bool false, .string ⟨#[]⟩, .bool false, .string ⟨#[]⟩, .bool false, .string ⟨#[]⟩, .bool false, .string ⟨#[]⟩, .bool false, .string ⟨#[]⟩, .bool false, .string ⟨#[]⟩] 48)).drew wr.heap.size 48 (vals8 fun _ => Val.zero)) := hid (Loc.new wr 48 (vals8 fun _ => Val.zero)); have HBN := hid (Nat.le_refl wr.heap.size); have hS' := KS.out (wr.alloc (.cells #[.bool false, .string ⟨#[]⟩, .bool false, .string ⟨#[]⟩, .bool false, .string ⟨#[]⟩, .bool false, .string ⟨#[]⟩, .bool false, .string ⟨#[]⟩, .bool false, .string ⟨#[]⟩, .bool false, .string ⟨#[]⟩, .bool false, .string ⟨#[]⟩] 48)).drew (((Below.refl wr.heap.size wr).alloc (Nat.le_refl _) _).drew); clear hS; generalize (wr.alloc (.cells #[.bool false, .string ⟨#[]⟩, .bool false, .string ⟨#[]⟩, .bool false, .string ⟨#[]⟩, .bool false, .string ⟨#[]⟩, .bool false, .string ⟨#[]⟩, .bool false, .string ⟨#[]⟩, .bool false, .string ⟨#[]⟩, .bool false, .string ⟨#[]⟩] 48)).drew = w6 at *; generalize hb6 : wr.heap.size = b6 at *; have HB6 := hid hb6; clear hb6)
                          try go_wp2_with fail
                          refine hK.out _ _ ?_ (fun hH4 => ?_)
                          · (try dsimp only); (first | assumption | exact KS.out _ (Below.refl wr.heap.size wr).drew)
                          clear hK K hH0
                          try simp only [Act.put, List.setIfInBounds_toArray, List.set_cons_zero, List.set_cons_succ]
                          refine wpAnyH_ready (rs := [6]) (by kernel_rfl) (by simp) ?_
                          refine AllReadyH.cons (by simp only [List.getElem?_toArray, List.getElem?_cons_zero, List.getElem?_cons_succ]; rfl) (fun K hK => ?_) AllReadyH.nil
                          go_simp
                          go_at_call 12
                          have hS := (‹Below _ wr _ ∧ _›).1
                          (with_reducible refine (RT.out _ hS).mono ?_)
                          rintro e w7 ⟨rfl, hb7⟩
                          have hS' := KS.out _ (hS.trans (hb7.mono (by first | exact hS.size | (have h1 := hS.size; have h2 := HB6.out; omega))))
                          try (have hLZ := LZ.out.keep hb7; clear LZ; have LZ := hid hLZ; clear hLZ)
                          clear hb7 hS
                          try go_wp2_with fail
                          refine hK.out _ _ ?_ (fun hH5 => ?_)
                          · (try dsimp only); (first | assumption | exact KS.out _ (Below.refl wr.heap.size wr).drew)
                          clear hK K hH4
                          try simp only [Act.put, List.setIfInBounds_toArray, List.set_cons_zero, List.set_cons_succ]
                          refine wpAnyH_take (i := 7) (v := ?_) (by simp only [List.getElem?_toArray, List.getElem?_cons_zero, List.getElem?_cons_succ]; rfl) (by kernel_rfl) (by kernel_rfl) (by kernel_rfl) (fun _ _ _ h => h) (Or.inl ⟨by rfl, ?_⟩) (by assumption) ?_
                          rotate_left
                          · intro w hSw; (try dsimp only at hSw); go_simp; (try with_reducible rfl)
                          try simp only [Act.put, List.setIfInBounds_toArray, List.set_cons_zero, List.set_cons_succ]
                          refine wpAnyH_take (i := 8) (v := ?_) (by simp only [List.getElem?_toArray, List.getElem?_cons_zero, List.getElem?_cons_succ]; rfl) (by kernel_rfl) (by kernel_rfl) (by kernel_rfl) (fun _ _ _ h => h) (Or.inl ⟨by rfl, ?_⟩) (by assumption) ?_
                          rotate_left
                          · intro w hSw; (try dsimp only at hSw); go_simp; (try with_reducible rfl)
                          try simp only [Act.put, List.setIfInBounds_toArray, List.set_cons_zero, List.set_cons_succ]
                          refine wpAnyH_take (i := 9) (v := ?_) (by simp only [List.getElem?_toArray, List.getElem?_cons_zero, List.getElem?_cons_succ]; rfl) (by kernel_rfl) (by kernel_rfl) (by kernel_rfl) (fun _ _ _ h => h) (Or.inl ⟨by rfl, ?_⟩) (by assumption) ?_
                          rotate_left
                          · intro w hSw; (try dsimp only at hSw); go_simp; (try with_reducible rfl)
                          try simp only [Act.put, List.setIfInBounds_toArray, List.set_cons_zero, List.set_cons_succ]
                          refine wpAnyH_ready (rs := [11]) (by kernel_rfl) (by simp) ?_
                          refine AllReadyH.cons (by simp only [List.getElem?_toArray, List.getElem?_cons_zero, List.getElem?_cons_succ]; rfl) (fun K hK => ?_) AllReadyH.nil
                          have hS := (‹Below _ wr _ ∧ _›).1
                          refine wp_store_mid 48 _ _ rfl _ 0 (vals8 gf).toArray rfl rfl (LZ.out.there8 gf) Tryz.infoWorld (vals8_one gf) ?_
                          have hS' := KS.out _ (Below.setCells' HBN.out (vals8 gf) 0 hS)
                          have LN := hid (LZ.out.setAll (vs := vals8 gf) rfl)
                          clear hS
                          first
                            | (generalize w7.setCells b6 0 (vals8 gf) = wz at *; have LN2 : Hid (Loc wz b6 48 (vals8 gf)) := by with_reducible exact LN)
                            | (generalize w6.setCells b6 0 (vals8 gf) = wz at *; have LN2 : Hid (Loc wz b6 48 (vals8 gf)) := by with_reducible exact LN)
                          refine hK.out _ _ ?_ (fun hH6 => ?_)
                          · (try dsimp only); (first | assumption | exact KS.out _ (Below.refl wr.heap.size wr).drew)
                          clear hK K hH5
                          try simp only [Act.put]
                          refine wpAnyH_take (i := 12) (v := ?_) (by simp only [List.getElem?_toArray, List.getElem?_cons_zero, List.getElem?_cons_succ]; rfl) (by kernel_rfl) (by kernel_rfl) (by kernel_rfl) (fun _ _ _ h => h) (Or.inl ⟨by rfl, ?_⟩) (by assumption) ?_
                          rotate_left
                          · intro w hSw; (try dsimp only at hSw); go_simp; (try with_reducible rfl)
                          try simp only [Act.put, List.setIfInBounds_toArray, List.set_cons_zero, List.set_cons_succ]
                          refine wpAnyH_done (by kernel_rfl) ?_ _
                          refine NoPanic.normal ?_
                          exact HJ b6 wz ⟨(‹Below _ wr wz ∧ _›).1, LN2.out⟩
                          -- END 23
                        · skip
                          have HB5 := hid (HB.out.trans (hS5.1.mono HB.out.size))
                          have X5 := hid (HX.out.keep hS5.1)
                          have L9 := hid hS5.2
                          clear hS5 KS RT
                          clear HX HB E0 E1
                          cases q
                          all_goals (
                            go_wp2
                            go_roundw
                            case rel => exact ⟨k + 1, _, by omega, by go_num, rfl, HT, X5, HB5⟩
                            case measure => simp [intOf]; omega)
                      · have HT := hid (show Q = lookS rf (n : Int) q ((l.drop (k + 1)).map Dnx.d) from by rw [HST.out, if_neg (fun h => ha h.2)])
                        have g1 : (y.at_ == (n : Int)) = false := by simpa using ha
                        rw [h0] at E0
                        clear h0 ha HST
                        go_wp2
                        go_roundw
                        case rel => exact ⟨k + 1, q, by omega, by go_num, rfl, HT, HX, HB⟩
                        case measure => simp [intOf]; omega
                    · have HT := hid (show Q = lookS rf (n : Int) q ((l.drop (k + 1)).map Dnx.d) from by rw [HST.out, if_neg (fun h => h0 h.1)])
                      have g1 : (y.n == 0) = false := by simpa using h0
                      clear h0 HST
                      go_wp2
                      go_roundw
                      case rel => exact ⟨k + 1, q, by omega, by go_num, rfl, HT, HX, HB⟩
                      case measure => simp [intOf]; omega
                  · obtain rfl : k = l.length := by omega
                    obtain rfl : Q = q := by rw [HQ.out, List.drop_length]; rfl
                    clear HQ
                    go_wp2
                    go_roundw
                    case rel => exact ⟨n + 1, by have := HT1.out; omega, by go_num, by rw [LQ.out], hid (by rw [LQ.out]; exact HX.out), HB⟩
                    case measure => simp [intOf]; omega)
        · obtain rfl : n = T1 := by have := HT1.out; omega
          generalize aheadS (l.map Dnx.d) n = q at *
          clear hnt
          go_wp2
          go_ret
          exact HF.out _ HR2.out _ HB.out

end Go.Proofs.YtoiobhcgpajogadGreat
