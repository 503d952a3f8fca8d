/- The walk of SerialJoins. -/
import Derived.Test.YtoiobhcgpajogadBook12
import Derived.Test.YtoiobhcgpajogadSerP
import Derived.Test.YtoiobhcgpajogadReg
namespace Go.Proofs.Ytoiobhcgpajogad
open Go.RowKit

theorem umodS (x m : Int) (h : 1 ≤ m ∧ m ≤ 1000000) : ∃ k : Nat, wrap64 ((IntKind.u64.wrap x).tmod m) = (k : Int) ∧ (k : Int) < m := by
  rw [IntKind.wrap_u64]
  have h1 : 0 ≤ x % 18446744073709551616 := Int.emod_nonneg _ (by decide)
  generalize x % 18446744073709551616 = u at *
  have h2 : 0 ≤ u % m := Int.emod_nonneg _ (by omega)
  have h3 : u % m < m := Int.emod_lt_of_pos _ (by omega)
  rw [Int.tmod_eq_emod_of_nonneg h1]
  exact ⟨(u % m).toNat, by rw [IntWalk.wrap64_in _ ⟨by omega, by omega⟩]; omega, by omega⟩

theorem Try.infoArr8 : (Try.prog.info? 47).map (·.size) = some 16 := by kernel_rfl

theorem ActsF.take' {w : World} {a : Option Addr} {l : List Acx} (h : ActsF w a l) (k : Nat) : ActsF w a (l.take k) := by
  refine ⟨?_, fun z hz => h.2 z (List.mem_of_mem_take hz)⟩
  rw [encActs_take]
  rcases h.1 with e | ⟨b', off', e, hc⟩
  · rw [e]; exact .inl (by simp)
  · refine .inr ⟨b', off', e, fun j u hu => ?_⟩
    rw [List.getElem?_take] at hu
    split at hu
    · exact hc j u hu
    · cases hu

theorem ActsF.drop' {w : World} {a : Option Addr} {l : List Acx} (h : ActsF w a l) {k cap : Nat} (hk : k ≤ l.length) (hc : l.length ≤ cap) : ActsF w (if cap = k then a else Option.map (fun x => x.add (k * 6)) a) (l.drop k) := by
  refine ⟨?_, fun z hz => h.2 z (List.mem_of_mem_drop hz)⟩
  split
  · rw [List.drop_of_length_le (by omega)]; exact .inl rfl
  · rw [encActs_drop]
    rcases h.1 with e | ⟨b', off', rfl, hcc⟩
    · rw [e]; exact .inl (by simp)
    · refine .inr ⟨b', off' + k * 6, by simp [Addr.add], fun j u hu => ?_⟩
      rw [List.getElem?_drop] at hu
      rw [Nat.add_assoc]
      exact hcc _ u hu

theorem ActsAt.f {w : World} {a : Option Addr} {l : List Acx} (h : ActsAt w a l) : ActsF w a l := ⟨h.1, fun z hz => (h.2 z hz).1.sl⟩

set_option maxHeartbeats 4000000 in
set_option maxRecDepth 100000 in
theorem walk_SerialJoins (f : Nat → Val) (a : Option Addr) (cap : Nat) (l : List Acx) (n : Int) (w : World) (hn : l.length ≤ 9223372036854775807) (hA : ActsAt w a l) (hcap : l.length ≤ cap) (_ : (Lit.int .i64 n).wf = true) :
    Calls Try.prog 5 #[.agg (vals8 f).toArray, .slice a l.length cap, .int .i64 n] w (TruePost w) := by
  have HA := hid hA
  clear hA
  go_enter Try.func5, Try.ntmps5
  go_wp2_with fail
  have hB0 := (Below.refl w.heap.size w).alloc (Nat.le_refl _) (.cells (vals8 f).toArray 47)
  have X0 := hid (Loc.new w 47 (vals8 f))
  refine (law_serialBegun _).mono ?_
  rintro e w1 ⟨rfl, hb⟩
  have B1 := hid (hB0.trans (hb.mono hB0.size))
  have X1 := hid (X0.out.keep hb)
  clear hB0 X0 hb
  go_wp2_with fail
  refine (law_greatActs a cap l w1 hn (HA.out.below B1.out)).mono ?_
  rintro e w2 ⟨rfl, hb⟩
  have B2 := hid (B1.out.trans (hb.mono B1.out.size))
  have X2 := hid (X1.out.keep hb)
  clear hb B1 X1
  cases hg : greatA l with
  | true =>
    go_wp2
    go_ret
    exact ⟨rfl, B2.out⟩
  | false =>
    obtain ⟨h150, hz⟩ := greatA_false hg
    have HZ := hid (fun (z : Acx) (hz' : z ∈ l) => (show z.a.l.length ≤ 1000000 from by have := (hz z hz').2; omega))
    clear hg hz
    go_wp2
    go_loopw [7] (fun i wr => ∃ k : Nat, k ≤ l.length ∧ i = .int .i64 k ∧ Hid (∀ j (hj : j < l.length), j < k → 0 ≤ l[j].a.key ∧ l[j].a.key < 8) ∧ Hid (Below w.heap.size w wr) ∧ Hid (Loc wr w.heap.size 47 (vals8 f))) (fun i _ => l.length - (intOf i).toNat)
    case atStart => exact ⟨0, Nat.zero_le _, rfl, hid (fun j _ h => absurd h (Nat.not_lt_zero _)), B2, X2⟩
    case round =>
      clear B2 X2
      obtain ⟨k, hk, rfl, HK, B2, X2⟩ := hrel
      by_cases hlt : k < l.length
      · obtain ⟨b, off, rfl, hbb, hv⟩ := (HA.out.below B2.out).facts (by omega)
        obtain ⟨-, g1, -⟩ := hv k hlt
        have hki : (k : Int) < (l.length : Int) := by omega
        have hk0 : (0 : Int) ≤ (k : Int) := by omega
        clear hv
        by_cases hkey : 0 ≤ l[k].a.key ∧ l[k].a.key < 8
        · have HK2 := hid (fun j (hj : j < l.length) (h : j < k + 1) => (show 0 ≤ l[j].a.key ∧ l[j].a.key < 8 from by
            by_cases e : j = k
            · subst e; exact hkey
            · exact HK.out j hj (by omega)))
          generalize l[k] = x at *
          have CK := hid (fun W => ref_IsKey_in x.a.key W hkey)
          clear hkey
          go_wp2_with fail
          refine (CK.out _).mono ?_
          rintro e w3 ⟨rfl, rfl⟩
          go_wp2
          go_roundw
          case rel => exact ⟨k + 1, by omega, by go_num, HK2, B2, X2⟩
          case measure => simp [intOf]; omega
        · generalize l[k] = x at *
          have CK := hid (fun W => ref_IsKey_out x.a.key W (by omega))
          clear hkey
          go_wp2_with fail
          refine (CK.out _).mono ?_
          rintro e w3 ⟨rfl, rfl⟩
          go_wp2
          go_ret
          exact ⟨rfl, B2.out⟩
      · obtain rfl : k = l.length := by omega
        have KO := hid (show KeysOk (l.map (·.a)) from by
          intro z hz
          obtain ⟨x, hx, rfl⟩ := List.mem_map.1 hz
          obtain ⟨i, hi, rfl⟩ := List.mem_iff_getElem.1 hx
          exact HK.out i hi hi)
        clear HK hlt
        obtain ⟨k, hk1, hk2⟩ := umodS n ((l.length : Int) + 1) ⟨by omega, by omega⟩
        have hwn : IntKind.u64.wrap ((l.length : Int) + 1) = (l.length : Int) + 1 := by rw [IntKind.wrap_u64]; omega
        have hz0 : (((l.length : Int) + 1) == 0) = false := by rw [beq_eq_false_iff_ne]; omega
        have HJ0 := hid (replay_joins KO.out f k)
        have HA2 := hid ((HA.out.below B2.out).f)
        clear HA KO
        go_upto_region 11 with (fail)
        rw [hk1]
        clear hk1 hwn hz0
        go_wp2_with (refine wpList_load_all rfl _ (.tmp 3) rfl w.heap.size 0 rfl (vals8 f) _ X2.out.range Try.underlying47 rfl Try.infoArr8 ?_)
        refine (serial_Replay f a cap l wr (by omega) HZ.out HA2.out).mono ?_
        rintro e w3 ⟨rfl, hb⟩
        have B3 := hid (B2.out.trans (hb.mono B2.out.size))
        have X3 := hid (X2.out.keep hb)
        have HBB := hid hb
        clear hb B2 X2
        generalize replay f (l.map (·.a)) = R1 at *
        go_upto_region 12 with (refine wpList_new_valsS w3 rfl (.tmp 9) (.tmp 44) rfl R1.1 rfl rfl ?_; intro w4 hL hb4; have L4 := hid hL; have B4 := hid (B3.out.trans (hb4.mono B3.out.size)); have X4 := hid (X3.out.keep hb4); have HBA := hid (HBB.out.trans (hb4.mono HBB.out.size)))
        clear HBB
        generalize w3.heap.size = b9 at *
        clear B3 X3
        have hs1 : (k : Int) ≤ (cap : Int) := by omega
        have hs2 : (0 : Int) ≤ (k : Int) := by omega
        obtain ⟨R2, hR2⟩ : ∃ R2, replay f ((l.map (·.a)).take k) = R2 := ⟨_, rfl⟩
        obtain ⟨R3, hR3⟩ : ∃ R3, replay R2.1 ((l.map (·.a)).drop k) = R3 := ⟨_, rfl⟩
        have HR1 := hid (show R1 = (R3.1, R2.2 && R3.2) from by rw [HJ0.out, hR2, hR3])
        have HA4 := hid (HA2.out.below (show Below wr.heap.size wr w4 from HBA.out))
        have RT := hid (fun W (h : Below w4.heap.size w4 W) => (show Calls Try.prog 15 #[.agg (vals8 f).toArray, .slice a k cap] W (SheetPost R2.1 R2.2 W) from by
          have := serial_Replay f a cap (l.take k) W (by rw [List.length_take]; omega) (fun z hz => HZ.out z (List.mem_of_mem_take hz)) ((HA4.out.below h).take' k)
          rw [List.map_take, hR2, List.length_take, Nat.min_eq_left (by omega)] at this
          exact this))
        have KS := hid (fun W (h : Below w4.heap.size w4 W) => (show Below w4.heap.size w4 W ∧ W.rangeAt w.heap.size 0 (vals8 f) from ⟨h, (X4.out.keep h).range⟩))
        have HR3 := hid hR3
        clear HJ0 HA2 HBA hR2 hR3
        refine' join2 (fun (b : Nat) W => Below w4.heap.size w4 W ∧ Loc W b 48 (vals8 R2.1)) _ (fun HJ => ?_) (fun b11 w5 hS5 => ?_)
        rotate_left
        · skip
          -- REGION 12
          refine wp_region_noPanic ?_
          refine wp_region_held_drew (S := (fun W' : World => Below w4.heap.size w4 W' ∧ W'.rangeAt w.heap.size 0 (vals8 f))) (by kernel_rfl) ?_ (fun hH0 => ?_)
          · (try dsimp only); (first | assumption | exact KS.out _ (Below.refl w4.heap.size w4).drew)
          refine wpAnyH_take (i := 0) (v := .agg (vals8 f).toArray) (by simp only [List.getElem?_toArray, List.getElem?_cons_zero]; rfl) (by kernel_rfl) (by kernel_rfl) (by kernel_rfl) (fun _ _ _ h => h) (yieldsIf_load_mid (by rfl) 47 _ rfl w.heap.size 0 rfl (vals8 f) _ (fun w h => h.2) Try.underlying47 rfl Try.infoArr8) (by assumption) ?_
          try simp only [Act.put, List.setIfInBounds_toArray, List.set_cons_zero, List.set_cons_succ]
          refine wpAnyH_take (i := 1) (v := ?_) (by simp only [List.getElem?_toArray, List.getElem?_cons_zero, List.getElem?_cons_succ]; rfl) (by kernel_rfl) (by kernel_rfl) (by kernel_rfl) (fun _ _ _ h => h) (Or.inl ⟨by rfl, ?_⟩) (by assumption) ?_
          rotate_left
          · intro w hSw; (try dsimp only at hSw); go_simp; (try with_reducible rfl)
          try simp only [Act.put, List.setIfInBounds_toArray, List.set_cons_zero, List.set_cons_succ]
          refine wpAnyH_take (i := 2) (v := ?_) (by simp only [List.getElem?_toArray, List.getElem?_cons_zero, List.getElem?_cons_succ]; rfl) (by kernel_rfl) (by kernel_rfl) (by kernel_rfl) (fun _ _ _ h => h) (Or.inl ⟨by rfl, ?_⟩) (by assumption) ?_
          rotate_left
          · intro w hSw; (try dsimp only at hSw); go_simp; (try with_reducible rfl)
          try simp only [Act.put, List.setIfInBounds_toArray, List.set_cons_zero, List.set_cons_succ]
          refine wpAnyH_take (i := 3) (v := ?_) (by simp only [List.getElem?_toArray, List.getElem?_cons_zero, List.getElem?_cons_succ]; rfl) (by kernel_rfl) (by kernel_rfl) (by kernel_rfl) (fun _ _ _ h => h) (Or.inl ⟨by rfl, ?_⟩) (by assumption) ?_
          rotate_left
          · intro w hSw; (try dsimp only at hSw); go_simp; (try with_reducible rfl)
          try simp only [Act.put, List.setIfInBounds_toArray, List.set_cons_zero, List.set_cons_succ]
          refine wpAnyH_ready (rs := [4, 8]) (by kernel_rfl) (by simp) ?_
          refine AllReadyH.cons (by simp only [List.getElem?_toArray, List.getElem?_cons_zero, List.getElem?_cons_succ]; rfl) (fun K hK => ?_) ?_
          · skip
            go_simp
            go_at_call 15
            have hS := (‹Below _ w4 _ ∧ _›).1
            (with_reducible refine (RT.out _ hS).mono ?_)
            rintro e w7 ⟨rfl, hb7⟩
            have hS' := KS.out _ (hS.trans (hb7.mono (by first | exact hS.size | (have h1 := hS.size; have h2 := HB6.out; omega))))
            try (have hLZ := LZ.out.keep hb7; clear LZ; have LZ := hid hLZ; clear hLZ)
            clear hb7 hS
            try go_wp2_with fail
            refine hK.out _ _ ?_ (fun hH1 => ?_)
            · (try dsimp only); (first | assumption | exact KS.out _ (Below.refl w4.heap.size w4).drew)
            clear hK K hH0
            try simp only [Act.put, List.setIfInBounds_toArray, List.set_cons_zero, List.set_cons_succ]
            refine wpAnyH_take (i := 5) (v := ?_) (by simp only [List.getElem?_toArray, List.getElem?_cons_zero, List.getElem?_cons_succ]; rfl) (by kernel_rfl) (by kernel_rfl) (by kernel_rfl) (fun _ _ _ h => h) (Or.inl ⟨by rfl, ?_⟩) (by assumption) ?_
            rotate_left
            · intro w hSw; (try dsimp only at hSw); go_simp; (try with_reducible rfl)
            try simp only [Act.put, List.setIfInBounds_toArray, List.set_cons_zero, List.set_cons_succ]
            refine wpAnyH_take (i := 6) (v := ?_) (by simp only [List.getElem?_toArray, List.getElem?_cons_zero, List.getElem?_cons_succ]; rfl) (by kernel_rfl) (by kernel_rfl) (by kernel_rfl) (fun _ _ _ h => h) (Or.inl ⟨by rfl, ?_⟩) (by assumption) ?_
            rotate_left
            · intro w hSw; (try dsimp only at hSw); go_simp; (try with_reducible rfl)
            try simp only [Act.put, List.setIfInBounds_toArray, List.set_cons_zero, List.set_cons_succ]
            refine wpAnyH_take (i := 7) (v := ?_) (by simp only [List.getElem?_toArray, List.getElem?_cons_zero, List.getElem?_cons_succ]; rfl) (by kernel_rfl) (by kernel_rfl) (by kernel_rfl) (fun _ _ _ h => h) (Or.inl ⟨by rfl, ?_⟩) (by assumption) ?_
            rotate_left
            · intro w hSw; (try dsimp only at hSw); go_simp; (try with_reducible rfl)
            try simp only [Act.put, List.setIfInBounds_toArray, List.set_cons_zero, List.set_cons_succ]
            refine wpAnyH_ready (rs := [8]) (by kernel_rfl) (by simp) ?_
            refine AllReadyH.cons (by simp only [List.getElem?_toArray, List.getElem?_cons_zero, List.getElem?_cons_succ]; rfl) (fun K hK => ?_) AllReadyH.nil
            go_simp
            have hS := (‹Below _ w4 _ ∧ _›).1
            first
              | (have LZ : Hid (Loc (w7.alloc (.cells #[.bool false, .string ⟨#[]⟩, .bool false, .string ⟨#[]⟩, .bool false, .string ⟨#[]⟩, .bool false, .string ⟨#[]⟩, .bool false, .string ⟨#[]⟩, .bool false, .string ⟨#[]⟩, .bool false, .string ⟨#[]⟩, .bool false, .string ⟨#[]⟩] 48)) w7.heap.size 48 (vals8 fun _ => Val.zero)) := hid (Loc.new w7 48 (vals8 fun _ => Val.zero)); have HBN := hid hS.size; have hS' := KS.out (w7.alloc (.cells #[.bool false, .string ⟨#[]⟩, .bool false, .string ⟨#[]⟩, .bool false, .string ⟨#[]⟩, .bool false, .string ⟨#[]⟩, .bool false, .string ⟨#[]⟩, .bool false, .string ⟨#[]⟩, .bool false, .string ⟨#[]⟩, .bool false, .string ⟨#[]⟩] 48)) (hS.alloc hS.size _); clear hS; generalize w7.alloc (.cells #[.bool false, .string ⟨#[]⟩, .bool false, .string ⟨#[]⟩, .bool false, .string ⟨#[]⟩, .bool false, .string ⟨#[]⟩, .bool false, .string ⟨#[]⟩, .bool false, .string ⟨#[]⟩, .bool false, .string ⟨#[]⟩, .bool false, .string ⟨#[]⟩] 48) = w6 at *; generalize w7.heap.size = b6 at *)
              | (have LZ : Hid (Loc (w4.alloc (.cells #[.bool false, .string ⟨#[]⟩, .bool false, .string ⟨#[]⟩, .bool false, .string ⟨#[]⟩, .bool false, .string ⟨#[]⟩, .bool false, .string ⟨#[]⟩, .bool false, .string ⟨#[]⟩, .bool false, .string ⟨#[]⟩, .bool false, .string ⟨#[]⟩] 48)).drew w4.heap.size 48 (vals8 fun _ => Val.zero)) := hid (Loc.new w4 48 (vals8 fun _ => Val.zero)); have HBN := hid (Nat.le_refl w4.heap.size); have hS' := KS.out (w4.alloc (.cells #[.bool false, .string ⟨#[]⟩, .bool false, .string ⟨#[]⟩, .bool false, .string ⟨#[]⟩, .bool false, .string ⟨#[]⟩, .bool false, .string ⟨#[]⟩, .bool false, .string ⟨#[]⟩, .bool false, .string ⟨#[]⟩, .bool false, .string ⟨#[]⟩] 48)).drew (((Below.refl w4.heap.size w4).alloc (Nat.le_refl _) _).drew); clear hS; generalize (w4.alloc (.cells #[.bool false, .string ⟨#[]⟩, .bool false, .string ⟨#[]⟩, .bool false, .string ⟨#[]⟩, .bool false, .string ⟨#[]⟩, .bool false, .string ⟨#[]⟩, .bool false, .string ⟨#[]⟩, .bool false, .string ⟨#[]⟩, .bool false, .string ⟨#[]⟩] 48)).drew = w6 at *; generalize hb6 : w4.heap.size = b6 at *; have HB6 := hid hb6; clear hb6)
            try go_wp2_with fail
            refine hK.out _ _ ?_ (fun hH2 => ?_)
            · (try dsimp only); (first | assumption | exact KS.out _ (Below.refl w4.heap.size w4).drew)
            clear hK K hH1
            try simp only [Act.put, List.setIfInBounds_toArray, List.set_cons_zero, List.set_cons_succ]
            refine wpAnyH_ready (rs := [9]) (by kernel_rfl) (by simp) ?_
            refine AllReadyH.cons (by simp only [List.getElem?_toArray, List.getElem?_cons_zero, List.getElem?_cons_succ]; rfl) (fun K hK => ?_) AllReadyH.nil
            have hS := (‹Below _ w4 _ ∧ _›).1
            refine wp_store_mid 48 _ _ rfl _ 0 (vals8 (R2.1)).toArray rfl rfl (LZ.out.there8 (R2.1)) Try.infoSWorld (vals8_one (R2.1)) ?_
            have hS' := KS.out _ (Below.setCells' HBN.out (vals8 (R2.1)) 0 hS)
            have LN := hid (LZ.out.setAll (vs := vals8 (R2.1)) rfl)
            clear hS
            first
              | (generalize w7.setCells b6 0 (vals8 (R2.1)) = wz at *; have LN2 : Hid (Loc wz b6 48 (vals8 (R2.1))) := by with_reducible exact LN)
              | (generalize w6.setCells b6 0 (vals8 (R2.1)) = wz at *; have LN2 : Hid (Loc wz b6 48 (vals8 (R2.1))) := by with_reducible exact LN)
            refine hK.out _ _ ?_ (fun hH3 => ?_)
            · (try dsimp only); (first | assumption | exact KS.out _ (Below.refl w4.heap.size w4).drew)
            clear hK K hH2
            try simp only [Act.put]
            refine wpAnyH_take (i := 10) (v := ?_) (by simp only [List.getElem?_toArray, List.getElem?_cons_zero, List.getElem?_cons_succ]; rfl) (by kernel_rfl) (by kernel_rfl) (by kernel_rfl) (fun _ _ _ h => h) (Or.inl ⟨by rfl, ?_⟩) (by assumption) ?_
            rotate_left
            · intro w hSw; (try dsimp only at hSw); go_simp; (try with_reducible rfl)
            try simp only [Act.put, List.setIfInBounds_toArray, List.set_cons_zero, List.set_cons_succ]
            refine wpAnyH_done (by kernel_rfl) ?_ _
            refine NoPanic.normal ?_
            exact HJ b6 wz ⟨(‹Below _ w4 wz ∧ _›).1, LN2.out⟩
          refine AllReadyH.cons (by simp only [List.getElem?_toArray, List.getElem?_cons_zero, List.getElem?_cons_succ]; rfl) (fun K hK => ?_) AllReadyH.nil
          go_simp
          have hS := (‹Below _ w4 _ ∧ _›).1
          first
            | (have LZ : Hid (Loc (w7.alloc (.cells #[.bool false, .string ⟨#[]⟩, .bool false, .string ⟨#[]⟩, .bool false, .string ⟨#[]⟩, .bool false, .string ⟨#[]⟩, .bool false, .string ⟨#[]⟩, .bool false, .string ⟨#[]⟩, .bool false, .string ⟨#[]⟩, .bool false, .string ⟨#[]⟩] 48)) w7.heap.size 48 (vals8 fun _ => Val.zero)) := hid (Loc.new w7 48 (vals8 fun _ => Val.zero)); have HBN := hid hS.size; have hS' := KS.out (w7.alloc (.cells #[.bool false, .string ⟨#[]⟩, .bool false, .string ⟨#[]⟩, .bool false, .string ⟨#[]⟩, .bool false, .string ⟨#[]⟩, .bool false, .string ⟨#[]⟩, .bool false, .string ⟨#[]⟩, .bool false, .string ⟨#[]⟩, .bool false, .string ⟨#[]⟩] 48)) (hS.alloc hS.size _); clear hS; generalize w7.alloc (.cells #[.bool false, .string ⟨#[]⟩, .bool false, .string ⟨#[]⟩, .bool false, .string ⟨#[]⟩, .bool false, .string ⟨#[]⟩, .bool false, .string ⟨#[]⟩, .bool false, .string ⟨#[]⟩, .bool false, .string ⟨#[]⟩, .bool false, .string ⟨#[]⟩] 48) = w6 at *; generalize w7.heap.size = b6 at *)
            | (have LZ : Hid (Loc (w4.alloc (.cells #[.bool false, .string ⟨#[]⟩, .bool false, .string ⟨#[]⟩, .bool false, .string ⟨#[]⟩, .bool false, .string ⟨#[]⟩, .bool false, .string ⟨#[]⟩, .bool false, .string ⟨#[]⟩, .bool false, .string ⟨#[]⟩, .bool false, .string ⟨#[]⟩] 48)).drew w4.heap.size 48 (vals8 fun _ => Val.zero)) := hid (Loc.new w4 48 (vals8 fun _ => Val.zero)); have HBN := hid (Nat.le_refl w4.heap.size); have hS' := KS.out (w4.alloc (.cells #[.bool false, .string ⟨#[]⟩, .bool false, .string ⟨#[]⟩, .bool false, .string ⟨#[]⟩, .bool false, .string ⟨#[]⟩, .bool false, .string ⟨#[]⟩, .bool false, .string ⟨#[]⟩, .bool false, .string ⟨#[]⟩, .bool false, .string ⟨#[]⟩] 48)).drew (((Below.refl w4.heap.size w4).alloc (Nat.le_refl _) _).drew); clear hS; generalize (w4.alloc (.cells #[.bool false, .string ⟨#[]⟩, .bool false, .string ⟨#[]⟩, .bool false, .string ⟨#[]⟩, .bool false, .string ⟨#[]⟩, .bool false, .string ⟨#[]⟩, .bool false, .string ⟨#[]⟩, .bool false, .string ⟨#[]⟩, .bool false, .string ⟨#[]⟩] 48)).drew = w6 at *; generalize hb6 : w4.heap.size = b6 at *; have HB6 := hid hb6; clear hb6)
          try go_wp2_with fail
          refine hK.out _ _ ?_ (fun hH4 => ?_)
          · (try dsimp only); (first | assumption | exact KS.out _ (Below.refl w4.heap.size w4).drew)
          clear hK K hH0
          try simp only [Act.put, List.setIfInBounds_toArray, List.set_cons_zero, List.set_cons_succ]
          refine wpAnyH_ready (rs := [4]) (by kernel_rfl) (by simp) ?_
          refine AllReadyH.cons (by simp only [List.getElem?_toArray, List.getElem?_cons_zero, List.getElem?_cons_succ]; rfl) (fun K hK => ?_) AllReadyH.nil
          go_simp
          go_at_call 15
          have hS := (‹Below _ w4 _ ∧ _›).1
          (with_reducible refine (RT.out _ hS).mono ?_)
          rintro e w7 ⟨rfl, hb7⟩
          have hS' := KS.out _ (hS.trans (hb7.mono (by first | exact hS.size | (have h1 := hS.size; have h2 := HB6.out; omega))))
          try (have hLZ := LZ.out.keep hb7; clear LZ; have LZ := hid hLZ; clear hLZ)
          clear hb7 hS
          try go_wp2_with fail
          refine hK.out _ _ ?_ (fun hH5 => ?_)
          · (try dsimp only); (first | assumption | exact KS.out _ (Below.refl w4.heap.size w4).drew)
          clear hK K hH4
          try simp only [Act.put, List.setIfInBounds_toArray, List.set_cons_zero, List.set_cons_succ]
          refine wpAnyH_take (i := 5) (v := ?_) (by simp only [List.getElem?_toArray, List.getElem?_cons_zero, List.getElem?_cons_succ]; rfl) (by kernel_rfl) (by kernel_rfl) (by kernel_rfl) (fun _ _ _ h => h) (Or.inl ⟨by rfl, ?_⟩) (by assumption) ?_
          rotate_left
          · intro w hSw; (try dsimp only at hSw); go_simp; (try with_reducible rfl)
          try simp only [Act.put, List.setIfInBounds_toArray, List.set_cons_zero, List.set_cons_succ]
          refine wpAnyH_take (i := 6) (v := ?_) (by simp only [List.getElem?_toArray, List.getElem?_cons_zero, List.getElem?_cons_succ]; rfl) (by kernel_rfl) (by kernel_rfl) (by kernel_rfl) (fun _ _ _ h => h) (Or.inl ⟨by rfl, ?_⟩) (by assumption) ?_
          rotate_left
          · intro w hSw; (try dsimp only at hSw); go_simp; (try with_reducible rfl)
          try simp only [Act.put, List.setIfInBounds_toArray, List.set_cons_zero, List.set_cons_succ]
          refine wpAnyH_take (i := 7) (v := ?_) (by simp only [List.getElem?_toArray, List.getElem?_cons_zero, List.getElem?_cons_succ]; rfl) (by kernel_rfl) (by kernel_rfl) (by kernel_rfl) (fun _ _ _ h => h) (Or.inl ⟨by rfl, ?_⟩) (by assumption) ?_
          rotate_left
          · intro w hSw; (try dsimp only at hSw); go_simp; (try with_reducible rfl)
          try simp only [Act.put, List.setIfInBounds_toArray, List.set_cons_zero, List.set_cons_succ]
          refine wpAnyH_ready (rs := [9]) (by kernel_rfl) (by simp) ?_
          refine AllReadyH.cons (by simp only [List.getElem?_toArray, List.getElem?_cons_zero, List.getElem?_cons_succ]; rfl) (fun K hK => ?_) AllReadyH.nil
          have hS := (‹Below _ w4 _ ∧ _›).1
          refine wp_store_mid 48 _ _ rfl _ 0 (vals8 (R2.1)).toArray rfl rfl (LZ.out.there8 (R2.1)) Try.infoSWorld (vals8_one (R2.1)) ?_
          have hS' := KS.out _ (Below.setCells' HBN.out (vals8 (R2.1)) 0 hS)
          have LN := hid (LZ.out.setAll (vs := vals8 (R2.1)) rfl)
          clear hS
          first
            | (generalize w7.setCells b6 0 (vals8 (R2.1)) = wz at *; have LN2 : Hid (Loc wz b6 48 (vals8 (R2.1))) := by with_reducible exact LN)
            | (generalize w6.setCells b6 0 (vals8 (R2.1)) = wz at *; have LN2 : Hid (Loc wz b6 48 (vals8 (R2.1))) := by with_reducible exact LN)
          refine hK.out _ _ ?_ (fun hH6 => ?_)
          · (try dsimp only); (first | assumption | exact KS.out _ (Below.refl w4.heap.size w4).drew)
          clear hK K hH5
          try simp only [Act.put]
          refine wpAnyH_take (i := 10) (v := ?_) (by simp only [List.getElem?_toArray, List.getElem?_cons_zero, List.getElem?_cons_succ]; rfl) (by kernel_rfl) (by kernel_rfl) (by kernel_rfl) (fun _ _ _ h => h) (Or.inl ⟨by rfl, ?_⟩) (by assumption) ?_
          rotate_left
          · intro w hSw; (try dsimp only at hSw); go_simp; (try with_reducible rfl)
          try simp only [Act.put, List.setIfInBounds_toArray, List.set_cons_zero, List.set_cons_succ]
          refine wpAnyH_done (by kernel_rfl) ?_ _
          refine NoPanic.normal ?_
          exact HJ b6 wz ⟨(‹Below _ w4 wz ∧ _›).1, LN2.out⟩
          -- END 12
        · skip
          have L5 := hid (L4.out.keep hS5.1)
          have B5 := hid (B4.out.trans (hS5.1.mono B4.out.size))
          have HA5 := hid (HA4.out.below hS5.1)
          have Y5 := hid hS5.2
          clear hS5 L4 B4 X4 HA4 RT KS
          go_upto_region 13 with (fail)
          have hs3 : (k : Int) ≤ (l.length : Int) := by omega
          have RT := hid (fun W (h : Below w5.heap.size w5 W) => (show Calls Try.prog 15 #[.agg (vals8 R2.1).toArray, .slice (if cap = k then a else Option.map (fun x => x.add (k * 6)) a) (l.length - k) (cap - k)] W (SheetPost R3.1 R3.2 W) from by
            have := serial_Replay R2.1 (if cap = k then a else Option.map (fun x => x.add (k * 6)) a) (cap - k) (l.drop k) W (by rw [List.length_drop]; omega) (fun z hz => HZ.out z (List.mem_of_mem_drop hz)) ((HA5.out.below h).drop' (by omega) hcap)
            rw [List.map_drop, HR3.out, List.length_drop] at this
            exact this))
          have KS := hid (fun W (h : Below w5.heap.size w5 W) => (show Below w5.heap.size w5 W ∧ W.rangeAt b11 0 (vals8 R2.1) from ⟨h, (Y5.out.keep h).range⟩))
          clear HA5 HR3
          generalize hda : (if cap = k then a else Option.map (fun x => x.add (k * 6)) a) = da at *
          refine' join2 (fun (b : Nat) W => Below w5.heap.size w5 W ∧ Loc W b 48 (vals8 R3.1)) _ (fun HJ => ?_) (fun b13 w8 hS8 => ?_)
          rotate_left
          · skip
            -- REGION 13
            refine wp_region_noPanic ?_
            refine wp_region_held_drew (S := (fun W' : World => Below w5.heap.size w5 W' ∧ W'.rangeAt b11 0 (vals8 R2.1))) (by kernel_rfl) ?_ (fun hH0 => ?_)
            · (try dsimp only); (first | assumption | exact KS.out _ (Below.refl w5.heap.size w5).drew)
            refine wpAnyH_take (i := 0) (v := .agg (vals8 R2.1).toArray) (by simp only [List.getElem?_toArray, List.getElem?_cons_zero]; rfl) (by kernel_rfl) (by kernel_rfl) (by kernel_rfl) (fun _ _ _ h => h) (yieldsIf_load_mid (by rfl) 48 _ rfl b11 0 rfl (vals8 R2.1) _ (fun w h => h.2) Try.underlying48 rfl Try.infoSWorld) (by assumption) ?_
            try simp only [Act.put, List.setIfInBounds_toArray, List.set_cons_zero, List.set_cons_succ]
            refine wpAnyH_take (i := 1) (v := ?_) (by simp only [List.getElem?_toArray, List.getElem?_cons_zero, List.getElem?_cons_succ]; rfl) (by kernel_rfl) (by kernel_rfl) (by kernel_rfl) (fun _ _ _ h => h) (Or.inl ⟨by rfl, ?_⟩) (by assumption) ?_
            rotate_left
            · intro w hSw; (try dsimp only at hSw); go_simp; (try with_reducible rfl)
            try simp only [Act.put, List.setIfInBounds_toArray, List.set_cons_zero, List.set_cons_succ]
            refine wpAnyH_take (i := 2) (v := ?_) (by simp only [List.getElem?_toArray, List.getElem?_cons_zero, List.getElem?_cons_succ]; rfl) (by kernel_rfl) (by kernel_rfl) (by kernel_rfl) (fun _ _ _ h => h) (Or.inl ⟨by rfl, ?_⟩) (by assumption) ?_
            rotate_left
            · intro w hSw; (try dsimp only at hSw); go_simp; (try with_reducible rfl)
            try simp only [Act.put, List.setIfInBounds_toArray, List.set_cons_zero, List.set_cons_succ]
            refine wpAnyH_take (i := 3) (v := ?_) (by simp only [List.getElem?_toArray, List.getElem?_cons_zero, List.getElem?_cons_succ]; rfl) (by kernel_rfl) (by kernel_rfl) (by kernel_rfl) (fun _ _ _ h => h) (Or.inl ⟨by rfl, ?_⟩) (by assumption) ?_
            rotate_left
            · intro w hSw; (try dsimp only at hSw); go_simp; (try with_reducible rfl)
            try simp only [Act.put, List.setIfInBounds_toArray, List.set_cons_zero, List.set_cons_succ]
            refine wpAnyH_ready (rs := [4, 8]) (by kernel_rfl) (by simp) ?_
            refine AllReadyH.cons (by simp only [List.getElem?_toArray, List.getElem?_cons_zero, List.getElem?_cons_succ]; rfl) (fun K hK => ?_) ?_
            · skip
              go_simp
              go_at_call 15
              have hS := (‹Below _ w5 _ ∧ _›).1
              (with_reducible refine (RT.out _ hS).mono ?_)
              rintro e w7 ⟨rfl, hb7⟩
              have hS' := KS.out _ (hS.trans (hb7.mono (by first | exact hS.size | (have h1 := hS.size; have h2 := HB6.out; omega))))
              try (have hLZ := LZ.out.keep hb7; clear LZ; have LZ := hid hLZ; clear hLZ)
              clear hb7 hS
              try go_wp2_with fail
              refine hK.out _ _ ?_ (fun hH1 => ?_)
              · (try dsimp only); (first | assumption | exact KS.out _ (Below.refl w5.heap.size w5).drew)
              clear hK K hH0
              try simp only [Act.put, List.setIfInBounds_toArray, List.set_cons_zero, List.set_cons_succ]
              refine wpAnyH_take (i := 5) (v := ?_) (by simp only [List.getElem?_toArray, List.getElem?_cons_zero, List.getElem?_cons_succ]; rfl) (by kernel_rfl) (by kernel_rfl) (by kernel_rfl) (fun _ _ _ h => h) (Or.inl ⟨by rfl, ?_⟩) (by assumption) ?_
              rotate_left
              · intro w hSw; (try dsimp only at hSw); go_simp; (try with_reducible rfl)
              try simp only [Act.put, List.setIfInBounds_toArray, List.set_cons_zero, List.set_cons_succ]
              refine wpAnyH_take (i := 6) (v := ?_) (by simp only [List.getElem?_toArray, List.getElem?_cons_zero, List.getElem?_cons_succ]; rfl) (by kernel_rfl) (by kernel_rfl) (by kernel_rfl) (fun _ _ _ h => h) (Or.inl ⟨by rfl, ?_⟩) (by assumption) ?_
              rotate_left
              · intro w hSw; (try dsimp only at hSw); go_simp; (try with_reducible rfl)
              try simp only [Act.put, List.setIfInBounds_toArray, List.set_cons_zero, List.set_cons_succ]
              refine wpAnyH_take (i := 7) (v := ?_) (by simp only [List.getElem?_toArray, List.getElem?_cons_zero, List.getElem?_cons_succ]; rfl) (by kernel_rfl) (by kernel_rfl) (by kernel_rfl) (fun _ _ _ h => h) (Or.inl ⟨by rfl, ?_⟩) (by assumption) ?_
              rotate_left
              · intro w hSw; (try dsimp only at hSw); go_simp; (try with_reducible rfl)
              try simp only [Act.put, List.setIfInBounds_toArray, List.set_cons_zero, List.set_cons_succ]
              refine wpAnyH_ready (rs := [8]) (by kernel_rfl) (by simp) ?_
              refine AllReadyH.cons (by simp only [List.getElem?_toArray, List.getElem?_cons_zero, List.getElem?_cons_succ]; rfl) (fun K hK => ?_) AllReadyH.nil
              go_simp
              have hS := (‹Below _ w5 _ ∧ _›).1
              first
                | (have LZ : Hid (Loc (w7.alloc (.cells #[.bool false, .string ⟨#[]⟩, .bool false, .string ⟨#[]⟩, .bool false, .string ⟨#[]⟩, .bool false, .string ⟨#[]⟩, .bool false, .string ⟨#[]⟩, .bool false, .string ⟨#[]⟩, .bool false, .string ⟨#[]⟩, .bool false, .string ⟨#[]⟩] 48)) w7.heap.size 48 (vals8 fun _ => Val.zero)) := hid (Loc.new w7 48 (vals8 fun _ => Val.zero)); have HBN := hid hS.size; have hS' := KS.out (w7.alloc (.cells #[.bool false, .string ⟨#[]⟩, .bool false, .string ⟨#[]⟩, .bool false, .string ⟨#[]⟩, .bool false, .string ⟨#[]⟩, .bool false, .string ⟨#[]⟩, .bool false, .string ⟨#[]⟩, .bool false, .string ⟨#[]⟩, .bool false, .string ⟨#[]⟩] 48)) (hS.alloc hS.size _); clear hS; generalize w7.alloc (.cells #[.bool false, .string ⟨#[]⟩, .bool false, .string ⟨#[]⟩, .bool false, .string ⟨#[]⟩, .bool false, .string ⟨#[]⟩, .bool false, .string ⟨#[]⟩, .bool false, .string ⟨#[]⟩, .bool false, .string ⟨#[]⟩, .bool false, .string ⟨#[]⟩] 48) = w6 at *; generalize w7.heap.size = b6 at *)
                | (have LZ : Hid (Loc (w5.alloc (.cells #[.bool false, .string ⟨#[]⟩, .bool false, .string ⟨#[]⟩, .bool false, .string ⟨#[]⟩, .bool false, .string ⟨#[]⟩, .bool false, .string ⟨#[]⟩, .bool false, .string ⟨#[]⟩, .bool false, .string ⟨#[]⟩, .bool false, .string ⟨#[]⟩] 48)).drew w5.heap.size 48 (vals8 fun _ => Val.zero)) := hid (Loc.new w5 48 (vals8 fun _ => Val.zero)); have HBN := hid (Nat.le_refl w5.heap.size); have hS' := KS.out (w5.alloc (.cells #[.bool false, .string ⟨#[]⟩, .bool false, .string ⟨#[]⟩, .bool false, .string ⟨#[]⟩, .bool false, .string ⟨#[]⟩, .bool false, .string ⟨#[]⟩, .bool false, .string ⟨#[]⟩, .bool false, .string ⟨#[]⟩, .bool false, .string ⟨#[]⟩] 48)).drew (((Below.refl w5.heap.size w5).alloc (Nat.le_refl _) _).drew); clear hS; generalize (w5.alloc (.cells #[.bool false, .string ⟨#[]⟩, .bool false, .string ⟨#[]⟩, .bool false, .string ⟨#[]⟩, .bool false, .string ⟨#[]⟩, .bool false, .string ⟨#[]⟩, .bool false, .string ⟨#[]⟩, .bool false, .string ⟨#[]⟩, .bool false, .string ⟨#[]⟩] 48)).drew = w6 at *; generalize hb6 : w5.heap.size = b6 at *; have HB6 := hid hb6; clear hb6)
              try go_wp2_with fail
              refine hK.out _ _ ?_ (fun hH2 => ?_)
              · (try dsimp only); (first | assumption | exact KS.out _ (Below.refl w5.heap.size w5).drew)
              clear hK K hH1
              try simp only [Act.put, List.setIfInBounds_toArray, List.set_cons_zero, List.set_cons_succ]
              refine wpAnyH_ready (rs := [9]) (by kernel_rfl) (by simp) ?_
              refine AllReadyH.cons (by simp only [List.getElem?_toArray, List.getElem?_cons_zero, List.getElem?_cons_succ]; rfl) (fun K hK => ?_) AllReadyH.nil
              have hS := (‹Below _ w5 _ ∧ _›).1
              refine wp_store_mid 48 _ _ rfl _ 0 (vals8 (R3.1)).toArray rfl rfl (LZ.out.there8 (R3.1)) Try.infoSWorld (vals8_one (R3.1)) ?_
              have hS' := KS.out _ (Below.setCells' HBN.out (vals8 (R3.1)) 0 hS)
              have LN := hid (LZ.out.setAll (vs := vals8 (R3.1)) rfl)
              clear hS
              first
                | (generalize w7.setCells b6 0 (vals8 (R3.1)) = wz at *; have LN2 : Hid (Loc wz b6 48 (vals8 (R3.1))) := by with_reducible exact LN)
                | (generalize w6.setCells b6 0 (vals8 (R3.1)) = wz at *; have LN2 : Hid (Loc wz b6 48 (vals8 (R3.1))) := by with_reducible exact LN)
              refine hK.out _ _ ?_ (fun hH3 => ?_)
              · (try dsimp only); (first | assumption | exact KS.out _ (Below.refl w5.heap.size w5).drew)
              clear hK K hH2
              try simp only [Act.put]
              refine wpAnyH_take (i := 10) (v := ?_) (by simp only [List.getElem?_toArray, List.getElem?_cons_zero, List.getElem?_cons_succ]; rfl) (by kernel_rfl) (by kernel_rfl) (by kernel_rfl) (fun _ _ _ h => h) (Or.inl ⟨by rfl, ?_⟩) (by assumption) ?_
              rotate_left
              · intro w hSw; (try dsimp only at hSw); go_simp; (try with_reducible rfl)
              try simp only [Act.put, List.setIfInBounds_toArray, List.set_cons_zero, List.set_cons_succ]
              refine wpAnyH_done (by kernel_rfl) ?_ _
              refine NoPanic.normal ?_
              exact HJ b6 wz ⟨(‹Below _ w5 wz ∧ _›).1, LN2.out⟩
            refine AllReadyH.cons (by simp only [List.getElem?_toArray, List.getElem?_cons_zero, List.getElem?_cons_succ]; rfl) (fun K hK => ?_) AllReadyH.nil
            go_simp
            have hS := (‹Below _ w5 _ ∧ _›).1
            first
              | (have LZ : Hid (Loc (w7.alloc (.cells #[.bool false, .string ⟨#[]⟩, .bool false, .string ⟨#[]⟩, .bool false, .string ⟨#[]⟩, .bool false, .string ⟨#[]⟩, .bool false, .string ⟨#[]⟩, .bool false, .string ⟨#[]⟩, .bool false, .string ⟨#[]⟩, .bool false, .string ⟨#[]⟩] 48)) w7.heap.size 48 (vals8 fun _ => Val.zero)) := hid (Loc.new w7 48 (vals8 fun _ => Val.zero)); have HBN := hid hS.size; have hS' := KS.out (w7.alloc (.cells #[.bool false, .string ⟨#[]⟩, .bool false, .string ⟨#[]⟩, .bool false, .string ⟨#[]⟩, .bool false, .string ⟨#[]⟩, .bool false, .string ⟨#[]⟩, .bool false, .string ⟨#[]⟩, .bool false, .string ⟨#[]⟩, .bool false, .string ⟨#[]⟩] 48)) (hS.alloc hS.size _); clear hS; generalize w7.alloc (.cells #[.bool false, .string ⟨#[]⟩, .bool false, .string ⟨#[]⟩, .bool false, .string ⟨#[]⟩, .bool false, .string ⟨#[]⟩, .bool false, .string ⟨#[]⟩, .bool false, .string ⟨#[]⟩, .bool false, .string ⟨#[]⟩, .bool false, .string ⟨#[]⟩] 48) = w6 at *; generalize w7.heap.size = b6 at *)
              | (have LZ : Hid (Loc (w5.alloc (.cells #[.bool false, .string ⟨#[]⟩, .bool false, .string ⟨#[]⟩, .bool false, .string ⟨#[]⟩, .bool false, .string ⟨#[]⟩, .bool false, .string ⟨#[]⟩, .bool false, .string ⟨#[]⟩, .bool false, .string ⟨#[]⟩, .bool false, .string ⟨#[]⟩] 48)).drew w5.heap.size 48 (vals8 fun _ => Val.zero)) := hid (Loc.new w5 48 (vals8 fun _ => Val.zero)); have HBN := hid (Nat.le_refl w5.heap.size); have hS' := KS.out (w5.alloc (.cells #[.bool false, .string ⟨#[]⟩, .bool false, .string ⟨#[]⟩, .bool false, .string ⟨#[]⟩, .bool false, .string ⟨#[]⟩, .bool false, .string ⟨#[]⟩, .bool false, .string ⟨#[]⟩, .bool false, .string ⟨#[]⟩, .bool false, .string ⟨#[]⟩] 48)).drew (((Below.refl w5.heap.size w5).alloc (Nat.le_refl _) _).drew); clear hS; generalize (w5.alloc (.cells #[.bool false, .string ⟨#[]⟩, .bool false, .string ⟨#[]⟩, .bool false, .string ⟨#[]⟩, .bool false, .string ⟨#[]⟩, .bool false, .string ⟨#[]⟩, .bool false, .string ⟨#[]⟩, .bool false, .string ⟨#[]⟩, .bool false, .string ⟨#[]⟩] 48)).drew = w6 at *; generalize hb6 : w5.heap.size = b6 at *; have HB6 := hid hb6; clear hb6)
            try go_wp2_with fail
            refine hK.out _ _ ?_ (fun hH4 => ?_)
            · (try dsimp only); (first | assumption | exact KS.out _ (Below.refl w5.heap.size w5).drew)
            clear hK K hH0
            try simp only [Act.put, List.setIfInBounds_toArray, List.set_cons_zero, List.set_cons_succ]
            refine wpAnyH_ready (rs := [4]) (by kernel_rfl) (by simp) ?_
            refine AllReadyH.cons (by simp only [List.getElem?_toArray, List.getElem?_cons_zero, List.getElem?_cons_succ]; rfl) (fun K hK => ?_) AllReadyH.nil
            go_simp
            go_at_call 15
            have hS := (‹Below _ w5 _ ∧ _›).1
            (with_reducible refine (RT.out _ hS).mono ?_)
            rintro e w7 ⟨rfl, hb7⟩
            have hS' := KS.out _ (hS.trans (hb7.mono (by first | exact hS.size | (have h1 := hS.size; have h2 := HB6.out; omega))))
            try (have hLZ := LZ.out.keep hb7; clear LZ; have LZ := hid hLZ; clear hLZ)
            clear hb7 hS
            try go_wp2_with fail
            refine hK.out _ _ ?_ (fun hH5 => ?_)
            · (try dsimp only); (first | assumption | exact KS.out _ (Below.refl w5.heap.size w5).drew)
            clear hK K hH4
            try simp only [Act.put, List.setIfInBounds_toArray, List.set_cons_zero, List.set_cons_succ]
            refine wpAnyH_take (i := 5) (v := ?_) (by simp only [List.getElem?_toArray, List.getElem?_cons_zero, List.getElem?_cons_succ]; rfl) (by kernel_rfl) (by kernel_rfl) (by kernel_rfl) (fun _ _ _ h => h) (Or.inl ⟨by rfl, ?_⟩) (by assumption) ?_
            rotate_left
            · intro w hSw; (try dsimp only at hSw); go_simp; (try with_reducible rfl)
            try simp only [Act.put, List.setIfInBounds_toArray, List.set_cons_zero, List.set_cons_succ]
            refine wpAnyH_take (i := 6) (v := ?_) (by simp only [List.getElem?_toArray, List.getElem?_cons_zero, List.getElem?_cons_succ]; rfl) (by kernel_rfl) (by kernel_rfl) (by kernel_rfl) (fun _ _ _ h => h) (Or.inl ⟨by rfl, ?_⟩) (by assumption) ?_
            rotate_left
            · intro w hSw; (try dsimp only at hSw); go_simp; (try with_reducible rfl)
            try simp only [Act.put, List.setIfInBounds_toArray, List.set_cons_zero, List.set_cons_succ]
            refine wpAnyH_take (i := 7) (v := ?_) (by simp only [List.getElem?_toArray, List.getElem?_cons_zero, List.getElem?_cons_succ]; rfl) (by kernel_rfl) (by kernel_rfl) (by kernel_rfl) (fun _ _ _ h => h) (Or.inl ⟨by rfl, ?_⟩) (by assumption) ?_
            rotate_left
            · intro w hSw; (try dsimp only at hSw); go_simp; (try with_reducible rfl)
            try simp only [Act.put, List.setIfInBounds_toArray, List.set_cons_zero, List.set_cons_succ]
            refine wpAnyH_ready (rs := [9]) (by kernel_rfl) (by simp) ?_
            refine AllReadyH.cons (by simp only [List.getElem?_toArray, List.getElem?_cons_zero, List.getElem?_cons_succ]; rfl) (fun K hK => ?_) AllReadyH.nil
            have hS := (‹Below _ w5 _ ∧ _›).1
            refine wp_store_mid 48 _ _ rfl _ 0 (vals8 (R3.1)).toArray rfl rfl (LZ.out.there8 (R3.1)) Try.infoSWorld (vals8_one (R3.1)) ?_
            have hS' := KS.out _ (Below.setCells' HBN.out (vals8 (R3.1)) 0 hS)
            have LN := hid (LZ.out.setAll (vs := vals8 (R3.1)) rfl)
            clear hS
            first
              | (generalize w7.setCells b6 0 (vals8 (R3.1)) = wz at *; have LN2 : Hid (Loc wz b6 48 (vals8 (R3.1))) := by with_reducible exact LN)
              | (generalize w6.setCells b6 0 (vals8 (R3.1)) = wz at *; have LN2 : Hid (Loc wz b6 48 (vals8 (R3.1))) := by with_reducible exact LN)
            refine hK.out _ _ ?_ (fun hH6 => ?_)
            · (try dsimp only); (first | assumption | exact KS.out _ (Below.refl w5.heap.size w5).drew)
            clear hK K hH5
            try simp only [Act.put]
            refine wpAnyH_take (i := 10) (v := ?_) (by simp only [List.getElem?_toArray, List.getElem?_cons_zero, List.getElem?_cons_succ]; rfl) (by kernel_rfl) (by kernel_rfl) (by kernel_rfl) (fun _ _ _ h => h) (Or.inl ⟨by rfl, ?_⟩) (by assumption) ?_
            rotate_left
            · intro w hSw; (try dsimp only at hSw); go_simp; (try with_reducible rfl)
            try simp only [Act.put, List.setIfInBounds_toArray, List.set_cons_zero, List.set_cons_succ]
            refine wpAnyH_done (by kernel_rfl) ?_ _
            refine NoPanic.normal ?_
            exact HJ b6 wz ⟨(‹Below _ w5 wz ∧ _›).1, LN2.out⟩
            -- END 13
          · skip
            have L8 := hid (L5.out.keep hS8.1)
            have B8 := hid (B5.out.trans (hS8.1.mono B5.out.size))
            have Y8 := hid hS8.2
            clear hS8 L5 B5 RT KS
            obtain ⟨f2, q2⟩ := R2
            obtain ⟨f3, q3⟩ := R3
            obtain rfl := HR1.out
            simp only at L8
            cases q2
            all_goals (
              cases q3
              all_goals (
                go_wp2_with (first
                  | refine wpList_load_valsS rfl (.tmp 9) rfl b9 rfl f3 L8.out ?_
                  | refine wpList_load_valsS rfl (.tmp 13) rfl b13 rfl f3 Y8.out ?_
                  | refine wpList_eq_valsS rfl (.tmp 62) (.tmp 63) 48 rfl f3 rfl rfl ?_)
                go_ret
                exact ⟨rfl, B8.out⟩))

end Go.Proofs.Ytoiobhcgpajogad
