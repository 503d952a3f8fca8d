/- The walk of SerialWorld. -/
import Derived.Test.YtoiobhcgpajogadBook12
import Derived.Test.YtoiobhcgpajogadHall6
import Derived.Test.YtoiobhcgpajogadReg
namespace Go.Proofs.Ytoiobhcgpajogad
open Go.RowKit

/-- A pass: what the deeds of a commit write, and how many they are. -/
def passW (n : Int) (r : (Nat → Val) × Nat) (l : List Dn) : (Nat → Val) × Nat := l.foldl (fun r d => if d.n = n then ((replay r.1 d.acts).1, r.2 + 1) else r) r

theorem passW_cons (n : Int) (r : (Nat → Val) × Nat) (d : Dn) (l : List Dn) : passW n r (d :: l) = passW n (if d.n = n then ((replay r.1 d.acts).1, r.2 + 1) else r) l := rfl

theorem passW_filter (n : Int) : ∀ (l : List Dn) (r : (Nat → Val) × Nat), passW n r l = (l.filter (fun d => d.n == n)).foldl (fun r d => ((replay r.1 d.acts).1, r.2 + 1)) r
  | [], r => rfl
  | d :: l, r => by
    have ih := passW_filter n l
    rw [passW_cons]
    by_cases e : d.n = n
    · rw [if_pos e, List.filter_cons, if_pos (by simpa using e), List.foldl_cons]
      exact ih _
    · rw [if_neg e, List.filter_cons, if_neg (by simpa using e)]
      exact ih _

theorem passW_one {F : Tab} {l : List Dn} (h : OneEach F l) (hD : ∀ d ∈ l, DoneOk F d) {n : Nat} (hn : n + 1 ≤ F.last) : passW ((n : Int) + 1) (shF F n, 0) l = (shF F ((n : Int) + 1), 1) := by
  obtain ⟨d, hq, hdn, hd⟩ := one_of h hD (n := n + 1) (by omega) hn
  have e : ((n + 1 : Nat) : Int) = (n : Int) + 1 := by omega
  rw [e] at hq hdn
  rw [passW_filter, hq]
  obtain ⟨-, -, h3, -⟩ := hd.some_ (by omega)
  rw [hdn, show (n : Int) + 1 - 1 = n by omega] at h3
  show ((replay (shF F n) d.acts).1, 1) = _
  rw [show (replay (shF F n) d.acts).1 = shF F ((n : Int) + 1) from funext h3]

def wroteA (l : List Acx) : Bool := l.any (fun z => z.a.kind == 3 || z.a.kind == 4)

theorem wroteA_done {F : Tab} {y : Dnx} (h : DoneOk F y.d) : wroteA y.acts = decide (0 < y.n) ∧ (0 < y.n → y.at_ < y.n) ∧ 0 ≤ y.n := by
  have hn : y.d.n = y.n := rfl
  have hat : y.d.at_ = y.at_ := rfl
  have h0 : y.n = 0 ∨ 0 < y.n := by
    by_cases e : y.n = 0
    · exact .inl e
    · obtain ⟨h1, -⟩ := h.some_ (by rw [hn]; exact e)
      have := h.beg.1
      rw [hat] at this h1
      rw [hn] at h1
      omega
  refine ⟨?_, fun hp => ?_, by omega⟩
  · have hw := h.wrote
    rw [hn] at hw
    unfold wroteA
    rw [Bool.eq_iff_iff, List.any_eq_true, decide_eq_true_eq]
    constructor
    · rintro ⟨z, hz, hk⟩
      have : y.n ≠ 0 := hw.1 ⟨z.a, List.mem_map_of_mem hz, by simpa using hk⟩
      omega
    · intro hp
      obtain ⟨a, ha, hk⟩ := hw.2 (by omega)
      obtain ⟨z, hz, rfl⟩ := List.mem_map.1 ha
      exact ⟨z, hz, by simpa using hk⟩
  · obtain ⟨h1, -⟩ := h.some_ (by rw [hn]; omega)
    rw [hat, hn] at h1
    exact h1

theorem full_last {H : Ht} (h : H.v.Sound) : (fullH H).last = H.v.tab.last := h.1.symm

theorem world_end {H : Ht} (hT : H.v.tab.Ok) (h : H.v.Sound) : sheetT H.v.tab H.v.tab.last = shF (fullH H) H.v.tab.last := by
  have hF := full_ok H
  rw [Suf.sheet h hT hF, show (writeAll Tab.new H.v.log.l).last = (fullH H).last from rfl, full_last h]
  have e := sheetT_end (codesT_top hF)
  rw [full_last h] at e
  exact e

set_option maxHeartbeats 8000000 in
set_option maxRecDepth 100000 in
theorem walk_SerialWorld (a : Option Addr) (cap : Nat) (l : List St) (w : World) (hl : l.length ≤ 9223372036854775807) (hA : StepsAt w a l) :
    Calls Try.prog 4 #[.slice a l.length cap] w (TruePost w) := by
  have HA := hid hA
  clear hA
  go_enter Try.func4, Try.ntmps4
  go_wp2_with fail
  (with_reducible refine (law_serialBegun w).mono ?_)
  rintro e w1 ⟨rfl, hb⟩
  have B1 := hid hb
  clear hb
  go_wp2_with fail
  (with_reducible refine (law_greatSteps a cap l w1 hl (HA.out.below B1.out)).mono ?_)
  rintro e w1' ⟨rfl, rfl⟩
  cases hg : greatS l with
  | true =>
    clear hg
    go_wp2
    go_ret
    exact ⟨rfl, B1.out⟩
  | false =>
  obtain ⟨h200, h100⟩ := greatS_false hg
  have H100 := hid h100
  have SA := hid (HA.out.below B1.out)
  clear hg h100 HA
  go_wp2_with fail
  refine (hall_New (fun _ => 0) 1 w1).mono ?_
  rintro e w2 ⟨h0, g2, rfl, hE, -, hH⟩
  have B2 := hid ((Base.start w1).step hE (by omega))
  have H2 := hid hH
  clear hE hH
  go_wp2_with fail
  go_loopw [4] (fun i wr => ∃ (k : Nat) (g : Nat → Nat), k ≤ l.length ∧ i = .int .i64 k ∧ Hid (HallAt wr g 1 h0 (runN (Ht.new, Bk.new) (l.take k)).1) ∧ Hid (Base w1.heap.size w1 g wr)) (fun i _ => l.length - (intOf i).toNat)
  case atStart => exact ⟨0, g2, Nat.zero_le _, rfl, H2, B2⟩
  case round =>
    clear H2 B2
    obtain ⟨k, g, hk, rfl, HH, HB⟩ := hrel
    by_cases hlt : k < l.length
    · have HST := hid (congrArg Prod.fst (runN_take (Ht.new, Bk.new) l hlt))
      obtain ⟨b1, o1, rfl, hbb, v1⟩ := SA.out.facts (by omega)
      obtain ⟨p0, p1, p2, p3, p4, p5, p6, p7, -⟩ := v1 k hlt
      have hx100 := H100.out l[k] (List.getElem_mem _)
      have P0 := (HB.out.cell (p := ⟨b1, _, none⟩) hbb).trans p0
      have P1 := (HB.out.cell (p := ⟨b1, _, none⟩) hbb).trans p1
      have P2 := (HB.out.cell (p := ⟨b1, _, none⟩) hbb).trans p2
      have P3 := (HB.out.cell (p := ⟨b1, _, none⟩) hbb).trans p3
      have P4 := (HB.out.cell (p := ⟨b1, _, none⟩) hbb).trans p4
      have P5 := (HB.out.cell (p := ⟨b1, _, none⟩) hbb).trans p5
      have P6 := (HB.out.cell (p := ⟨b1, _, none⟩) hbb).trans p6
      have P7 := (HB.out.cell (p := ⟨b1, _, none⟩) hbb).trans p7
      have hki : (k : Int) < (l.length : Int) := by omega
      have hk0 : (0 : Int) ≤ (k : Int) := by omega
      generalize l[k] = x at *
      generalize runN (Ht.new, Bk.new) (l.take k) = r at *
      have hxm : x.bytes.size ≤ maxLen := by unfold maxLen; omega
      clear v1 p0 p1 p2 p3 p4 p5 p6 p7
      go_wp2_with fail
      refine (hall_Do g 1 h0 r.1 x wr hxm HH.out).mono ?_
      rintro e w3 ⟨a3, c3, g3, rfl, hH3, hE3, -, -⟩
      have H3 := hid (show HallAt w3 g3 1 h0 (runN (Ht.new, Bk.new) (l.take (k + 1))).1 from by rw [HST.out]; exact hH3)
      have B3 := hid (HB.out.step hE3 (by omega))
      clear hH3 hE3 P0 P1 P2 P3 P4 P5 P6 P7 HH HB HST
      generalize doH r.1 x = y at *
      go_wp2
      go_roundw
      case rel => exact ⟨k + 1, g3, by omega, by go_num, H3, B3⟩
      case measure => simp [intOf]; omega
    · obtain rfl : k = l.length := by omega
      have hge : (l.length : Int) ≤ (l.length : Int) := Int.le_refl _
      have HH2 := hid (show HallAt wr g 1 h0 (runN (Ht.new, Bk.new) l).1 from by have := HH.out; rw [List.take_length] at this; exact this)
      clear HH
      go_wp2_with fail
      refine (law_noted a cap l wr (by omega) (fun x hx => by have := H100.out x hx; unfold maxLen; omega) (SA.out.below HB.out.below)).mono ?_
      rintro e w5 ⟨ad, c, M, rfl, hD, hM, hb, hlen, hl8, -, hG⟩
      have HC0 := hid (HH2.out.below hb)
      have B5 := hid (HB.out.below' hb)
      have HD := hid hD
      have HG := hid (show ∀ y ∈ M, DoneOk (fullH (runN (Ht.new, Bk.new) l).1) y.d from fun y hy => hG.kept.done _ (by show _ ∈ notedS l; rw [← hM]; exact List.mem_map_of_mem hy))
      have HO := hid (show OneEach (fullH (runN (Ht.new, Bk.new) l).1) (M.map Dnx.d) from by rw [hM]; exact hG.kept.each)
      have HS := hid hG.sound
      have HL8 := hid (show ∀ y ∈ M, y.acts.length ≤ 1000000 ∧ ∀ z ∈ y.acts, z.a.l.length ≤ 1000000 from fun y hy => ⟨by have := (hl8 y hy).1; omega, fun z hz => by have := (hl8 y hy).2 z hz; omega⟩)
      have hM63 : (M.length : Int) ≤ 9223372036854775807 := by omega
      have hM6 : M.length ≤ 1000000 := by omega
      have HG2 := hid (show ∀ d ∈ M.map Dnx.d, DoneOk (fullH (runN (Ht.new, Bk.new) l).1) d from fun d hd => by
        obtain ⟨y, hy, rfl⟩ := List.mem_map.1 hd
        exact HG.out y hy)
      clear hD hM hb hl8 hG HB HH2 SA hlen
      generalize (runN (Ht.new, Bk.new) l).1 = H at *
      go_upto_region 12 with (fail)
      have Q0 := hid (show Loc (w5.alloc (.cells #[.bool false, .string ⟨#[]⟩, .bool false, .string ⟨#[]⟩, .bool false, .string ⟨#[]⟩, .bool false, .string ⟨#[]⟩, .bool false, .string ⟨#[]⟩, .bool false, .string ⟨#[]⟩, .bool false, .string ⟨#[]⟩, .bool false, .string ⟨#[]⟩] 48)) w5.heap.size 48 (vals8 (shF (fullH H) (0 : Nat))) from by rw [show ((0 : Nat) : Int) = 0 from rfl, full_zero]; exact Loc.new w5 48 (vals8 fun _ => Val.zero))
      have W0 := hid ((Below.refl w5.heap.size w5).alloc (Nat.le_refl _) (.cells #[.bool false, .string ⟨#[]⟩, .bool false, .string ⟨#[]⟩, .bool false, .string ⟨#[]⟩, .bool false, .string ⟨#[]⟩, .bool false, .string ⟨#[]⟩, .bool false, .string ⟨#[]⟩, .bool false, .string ⟨#[]⟩, .bool false, .string ⟨#[]⟩] 48))
      generalize w5.alloc (.cells #[.bool false, .string ⟨#[]⟩, .bool false, .string ⟨#[]⟩, .bool false, .string ⟨#[]⟩, .bool false, .string ⟨#[]⟩, .bool false, .string ⟨#[]⟩, .bool false, .string ⟨#[]⟩, .bool false, .string ⟨#[]⟩, .bool false, .string ⟨#[]⟩] 48) = w6 at *
      obtain ⟨vp, ds, hC⟩ := HC0.out
      obtain ⟨r0, t, tb, hV⟩ := hC.top
      have LA := hid (fun W (hb : Below w5.heap.size w5 W) => table_Last g (1 + 1 + 1) t H.v.tab W (hV.2.2.1.below hb))
      have SH := hid (fun W (hb : Below w5.heap.size w5 W) => (by
        have P := law_sheet g (1 + 1 + 1) t H.v.tab W (H.v.tab.last : Int) (hV.2.2.1.below hb)
        rw [codesT_top HC0.out.ok.2, world_end HC0.out.ok.2 HS.out] at P
        exact P : Calls Try.prog 16 #[.pointer (some ⟨t, 0, none⟩), .int .i64 (H.v.tab.last : Int)] W (SheetPost (shF (fullH H) (H.v.tab.last : Int)) true W)))
      have HC := hid (fun W (hb : Below w5.heap.size w5 W) => (⟨(hC.below hb).top.1, (hV.below hb).cells.1⟩ : W.cell? ⟨h0, 0, none⟩ = some (.pointer (some ⟨vp, 0, none⟩)) ∧ W.cell? ⟨vp, 0, none⟩ = some (.pointer (some ⟨t, 0, none⟩))))
      have hF := full_last HS.out
      have h40 : H.v.tab.last ≤ 40 := hV.2.2.1.1.2
      clear hC hV r0 HC0 HS
      generalize fullH H = F at *
      generalize H.v.tab.last = T at *
      subst hF
      go_wp2_with fail
      go_loopw [7] (fun i wr => ∃ n : Nat, n ≤ F.last ∧ i = .int .i64 ((n : Int) + 1) ∧ Hid (Loc wr w5.heap.size 48 (vals8 (shF F n))) ∧ Hid (Below w5.heap.size w5 wr)) (fun i _ => F.last + 1 - (intOf i).toNat)
      case atStart => exact ⟨0, Nat.zero_le _, by go_num, Q0, W0⟩
      case round =>
        clear Q0 W0
        obtain ⟨n, hn, rfl, HQ, HB⟩ := hrel
        obtain ⟨u0, u1⟩ := HC.out _ HB.out
        go_wp2_with fail
        (with_reducible refine (LA.out _ HB.out).mono ?_)
        rintro e w3 ⟨rfl, rfl⟩
        clear u0 u1
        by_cases hle : (n : Int) + 1 ≤ (F.last : Int)
        · have HP1 := hid (passW_one HO.out HG2.out (n := n) (by omega))
          generalize shF F (n : Int) = f0 at *
          go_wp2
          go_loopw [8, 9] (fun o i wr => ∃ (k cn : Nat) (f : Nat → Val), k ≤ M.length ∧ cn ≤ k ∧ i = .int .i64 k ∧ o = .int .i64 cn ∧ Hid (passW ((n : Int) + 1) (f, cn) ((M.drop k).map Dnx.d) = (shF F ((n : Int) + 1), 1)) ∧ Hid (Loc wr w5.heap.size 48 (vals8 f)) ∧ Hid (Below w5.heap.size w5 wr)) (fun _ i _ => M.length - (intOf i).toNat)
          case atStart => exact ⟨0, 0, f0, Nat.zero_le _, Nat.le_refl _, rfl, rfl, HP1, HQ, HB⟩
          case round =>
            clear HP1 HQ HB
            obtain ⟨k, cn, f, hk, hcn, rfl, rfl, HP, HQ, HB⟩ := hrel
            by_cases hlt : k < M.length
            · obtain ⟨sb, off, rfl, hsb, hf⟩ := HD.out.facts (by omega)
              obtain ⟨e0, -, -, e3, hAF⟩ := hf k hlt
              have E0 := (below_cell HB.out hsb).trans e0
              have HE3 := hid (fun W (h : Below w5.heap.size w5 W) => (below_cell h hsb).trans e3)
              have hps : passW ((n : Int) + 1) (if M[k].n = (n : Int) + 1 then ((replay f (M[k].acts.map (·.a))).1, cn + 1) else (f, cn)) ((M.drop (k + 1)).map Dnx.d) = (shF F ((n : Int) + 1), 1) := by
                rw [← HP.out, List.drop_eq_getElem_cons hlt, List.map_cons, passW_cons]; rfl
              have HAF := hid hAF
              have HPS := hid hps
              have HZ := hid (HL8.out M[k] (List.getElem_mem _))
              have hki : (k : Int) < (M.length : Int) := by omega
              have hk0 : (0 : Int) ≤ (k : Int) := by omega
              clear hf e0 e3 hAF hps HP
              generalize M[k] = y at *
              by_cases hy0 : y.n = (n : Int) + 1
              · have HPT := hid (show passW ((n : Int) + 1) ((replay f (y.acts.map (·.a))).1, cn + 1) ((M.drop (k + 1)).map Dnx.d) = (shF F ((n : Int) + 1), 1) from by have := HPS.out; rwa [if_pos hy0] at this)
                rw [hy0] at E0
                clear hy0 HPS
                go_upto_region 21 with (fail)
                have hS0 := HE3.out _ (HB.out.trans ((Below.refl wr.heap.size wr).drew.mono HB.out.size))
                clear E0
                -- REGION 21
                refine wp_region_noPanic ?_
                refine wp_region_held_drew (S := (fun W : World => W.cell? ⟨sb, off + k * 4 + 3, none⟩ = some (.slice y.ad y.acts.length y.cap))) (by kernel_rfl) ?_ (fun hH0 => ?_)
                · (try dsimp only); (first | assumption | exact hS0)
                refine wpAnyH_take (i := 1) (v := ?_) (by simp only [List.getElem?_toArray, List.getElem?_cons_zero, List.getElem?_cons_succ]; rfl) (by kernel_rfl) (by kernel_rfl) (by kernel_rfl) (fun _ _ _ h => h) (Or.inl ⟨by rfl, ?_⟩) (by assumption) ?_
                rotate_left
                · intro w hSw; (try dsimp only at hSw); go_simp; (try with_reducible rfl)
                try simp only [Act.put, List.setIfInBounds_toArray, List.set_cons_zero, List.set_cons_succ]
                refine wpAnyH_take (i := 2) (v := ?_) (by simp only [List.getElem?_toArray, List.getElem?_cons_zero, List.getElem?_cons_succ]; rfl) (by kernel_rfl) (by kernel_rfl) (by kernel_rfl) (fun _ _ _ h => h) (Or.inl ⟨by rfl, ?_⟩) (by assumption) ?_
                rotate_left
                · intro w hSw; (try dsimp only at hSw); go_simp; (try with_reducible rfl)
                try simp only [Act.put, List.setIfInBounds_toArray, List.set_cons_zero, List.set_cons_succ]
                refine wpAnyH_take (i := 3) (v := ?_) (by simp only [List.getElem?_toArray, List.getElem?_cons_zero, List.getElem?_cons_succ]; rfl) (by kernel_rfl) (by kernel_rfl) (by kernel_rfl) (fun _ _ _ h => h) (Or.inl ⟨by rfl, ?_⟩) (by assumption) ?_
                rotate_left
                · intro w hSw; (try dsimp only at hSw); go_simp; (try with_reducible rfl)
                try simp only [Act.put, List.setIfInBounds_toArray, List.set_cons_zero, List.set_cons_succ]
                refine wpAnyH_take (i := 4) (v := ?_) (by simp only [List.getElem?_toArray, List.getElem?_cons_zero, List.getElem?_cons_succ]; rfl) (by kernel_rfl) (by kernel_rfl) (by kernel_rfl) (fun _ _ _ h => h) (Or.inl ⟨by rfl, ?_⟩) (by assumption) ?_
                rotate_left
                · intro w hSw; (try dsimp only at hSw); go_simp; (try with_reducible rfl)
                try simp only [Act.put, List.setIfInBounds_toArray, List.set_cons_zero, List.set_cons_succ]
                refine wpAnyH_take (i := 5) (v := ?_) (by simp only [List.getElem?_toArray, List.getElem?_cons_zero, List.getElem?_cons_succ]; rfl) (by kernel_rfl) (by kernel_rfl) (by kernel_rfl) (fun _ _ _ h => h) (Or.inl ⟨by rfl, ?_⟩) (by assumption) ?_
                rotate_left
                · intro w hSw; (try dsimp only at hSw); go_simp; (try with_reducible rfl)
                try simp only [Act.put, List.setIfInBounds_toArray, List.set_cons_zero, List.set_cons_succ]
                refine wpAnyH_ready (rs := [0]) (by kernel_rfl) (by simp) ?_
                refine AllReadyH.cons (by simp only [List.getElem?_toArray, List.getElem?_cons_zero]; rfl) (fun K hK => ?_) AllReadyH.nil
                have LD := HQ.out.keep (Below.refl wr.heap.size wr).drew
                refine wp_load_mid 48 _ rfl _ 0 rfl (vals8 f) _ LD.range Try.underlying48 rfl Try.infoSWorld ?_
                have hS' := hS0
                refine hK.out _ _ ?_ (fun hH1 => ?_)
                · (try dsimp only); (first | assumption | exact hS0)
                clear hK K hH0
                try simp only [Act.put]
                refine wpAnyH_ready (rs := [6]) (by kernel_rfl) (by simp) ?_
                refine AllReadyH.cons (by simp only [List.getElem?_toArray, List.getElem?_cons_zero, List.getElem?_cons_succ]; rfl) (fun K hK => ?_) AllReadyH.nil
                go_simp
                go_at_call 15
                refine (serial_Replay f y.ad y.cap y.acts wr.drew HZ.out.1 HZ.out.2 (HAF.out.below (HB.out.trans ((Below.refl wr.heap.size wr).drew.mono HB.out.size)))).mono ?_
                rintro e w7 ⟨rfl, hb7⟩
                have B7 := hid ((HB.out.trans ((Below.refl wr.heap.size wr).drew.mono HB.out.size)).trans (hb7.mono HB.out.size))
                have L7 := hid ((HQ.out.keep (Below.refl wr.heap.size wr).drew).keep hb7)
                have hS' := HE3.out _ B7.out
                clear hb7
                generalize hrr : (replay f (y.acts.map (·.a))).1 = rr at *
                try go_wp2_with fail
                refine hK.out _ _ ?_ (fun hH2 => ?_)
                · (try dsimp only); (first | assumption | exact hS0)
                clear hK K hH1
                try simp only [Act.put, List.setIfInBounds_toArray, List.set_cons_zero, List.set_cons_succ]
                refine wpAnyH_take (i := 7) (v := ?_) (by simp only [List.getElem?_toArray, List.getElem?_cons_zero, List.getElem?_cons_succ]; rfl) (by kernel_rfl) (by kernel_rfl) (by kernel_rfl) (fun _ _ _ h => h) (Or.inl ⟨by rfl, ?_⟩) (by assumption) ?_
                rotate_left
                · intro w hSw; (try dsimp only at hSw); go_simp; (try with_reducible rfl)
                try simp only [Act.put, List.setIfInBounds_toArray, List.set_cons_zero, List.set_cons_succ]
                refine wpAnyH_take (i := 8) (v := ?_) (by simp only [List.getElem?_toArray, List.getElem?_cons_zero, List.getElem?_cons_succ]; rfl) (by kernel_rfl) (by kernel_rfl) (by kernel_rfl) (fun _ _ _ h => h) (Or.inl ⟨by rfl, ?_⟩) (by assumption) ?_
                rotate_left
                · intro w hSw; (try dsimp only at hSw); go_simp; (try with_reducible rfl)
                try simp only [Act.put, List.setIfInBounds_toArray, List.set_cons_zero, List.set_cons_succ]
                refine wpAnyH_take (i := 9) (v := ?_) (by simp only [List.getElem?_toArray, List.getElem?_cons_zero, List.getElem?_cons_succ]; rfl) (by kernel_rfl) (by kernel_rfl) (by kernel_rfl) (fun _ _ _ h => h) (Or.inl ⟨by rfl, ?_⟩) (by assumption) ?_
                rotate_left
                · intro w hSw; (try dsimp only at hSw); go_simp; (try with_reducible rfl)
                try simp only [Act.put, List.setIfInBounds_toArray, List.set_cons_zero, List.set_cons_succ]
                refine wpAnyH_ready (rs := [10]) (by kernel_rfl) (by simp) ?_
                refine AllReadyH.cons (by simp only [List.getElem?_toArray, List.getElem?_cons_zero, List.getElem?_cons_succ]; rfl) (fun K hK => ?_) AllReadyH.nil
                refine wp_store_mid 48 _ _ rfl _ 0 (vals8 rr).toArray rfl rfl (L7.out.there8 rr) Try.infoSWorld (vals8_one rr) ?_
                have hS' := HE3.out _ (Below.setCells' (Nat.le_refl _) (vals8 rr) 0 B7.out)
                have B8 := hid (Below.setCells' (Nat.le_refl _) (vals8 rr) 0 B7.out)
                have L8 := hid (L7.out.setAll (vs := vals8 rr) rfl)
                generalize w7.setCells w5.heap.size 0 (vals8 rr) = w8 at *
                refine hK.out _ _ ?_ (fun hH3 => ?_)
                · (try dsimp only); (first | assumption | exact hS0)
                clear hK K hH2
                try simp only [Act.put]
                refine wpAnyH_done (by kernel_rfl) ?_ _
                refine NoPanic.normal ?_
                rotate_left
                -- END 21
                go_wp2
                go_roundw
                case rel => exact ⟨k + 1, cn + 1, _, by omega, by omega, by go_num, by go_num, HPT, L8, B8⟩
                case measure => simp [intOf]; omega
              · have HPT := hid (show passW ((n : Int) + 1) (f, cn) ((M.drop (k + 1)).map Dnx.d) = (shF F ((n : Int) + 1), 1) from by have := HPS.out; rwa [if_neg hy0] at this)
                have g1 : (y.n == (n : Int) + 1) = false := by simpa using hy0
                clear hy0 HPS
                go_wp2
                go_roundw
                case rel => exact ⟨k + 1, cn, f, by omega, by omega, by go_num, rfl, HPT, HQ, HB⟩
                case measure => simp [intOf]; omega
            · obtain rfl : k = M.length := by omega
              have hend : (f, cn) = (shF F ((n : Int) + 1), 1) := by have := HP.out; rw [List.drop_length] at this; exact this
              obtain ⟨rfl, rfl⟩ := Prod.mk.inj hend
              clear hend HP
              go_wp2
              go_roundw
              case rel => exact ⟨n + 1, by omega, by go_num, hid (by rw [show ((n + 1 : Nat) : Int) = (n : Int) + 1 by omega]; exact HQ.out), HB⟩
              case measure => simp [intOf]; omega
        · obtain rfl : n = F.last := by omega
          go_wp2
          go_loopw [10] (fun i wr => ∃ k : Nat, k ≤ M.length ∧ i = .int .i64 k ∧ Hid (Loc wr w5.heap.size 48 (vals8 (shF F F.last))) ∧ Hid (Below w5.heap.size w5 wr)) (fun i _ => M.length - (intOf i).toNat)
          case atStart => exact ⟨0, Nat.zero_le _, rfl, HQ, HB⟩
          case round =>
            clear HQ HB
            obtain ⟨k, hk, rfl, HQ, HB⟩ := hrel
            by_cases hlt : k < M.length
            · obtain ⟨sb, off, rfl, hsb, hf⟩ := HD.out.facts (by omega)
              obtain ⟨e0, e1, -, e3, hAF⟩ := hf k hlt
              have HE := hid (fun W (h : Below w5.heap.size w5 W) => And.intro ((below_cell h hsb).trans e0) (And.intro ((below_cell h hsb).trans e1) ((below_cell h hsb).trans e3)))
              have HAF := hid hAF
              obtain ⟨hw1, hw2, hw3⟩ := wroteA_done (HG.out M[k] (List.getElem_mem _))
              have HZ := hid (HL8.out M[k] (List.getElem_mem _))
              have hki : (k : Int) < (M.length : Int) := by omega
              have hk0 : (0 : Int) ≤ (k : Int) := by omega
              clear hf e0 e1 e3 hAF
              generalize M[k] = y at *
              have HW1 := hid hw1
              have HW2 := hid hw2
              have ha63 : (y.acts.length : Int) ≤ 9223372036854775807 := by have := HZ.out.1; omega
              clear hw1 hw2
              go_wp2
              go_loopw [11, 12] (fun o i wr => ∃ (j : Nat) (q : Bool), j ≤ y.acts.length ∧ i = .int .i64 j ∧ o = .bool q ∧ Hid (q = (y.acts.take j).any (fun z => z.a.kind == 3 || z.a.kind == 4)) ∧ Hid (Loc wr w5.heap.size 48 (vals8 (shF F F.last))) ∧ Hid (Below w5.heap.size w5 wr)) (fun _ i _ => y.acts.length - (intOf i).toNat)
              case atStart => exact ⟨0, false, Nat.zero_le _, rfl, rfl, hid rfl, HQ, HB⟩
              case round =>
                clear HQ HB
                obtain ⟨j, q, hj, rfl, rfl, HJ, HQ, HB⟩ := hrel
                obtain ⟨E0, E1, E3⟩ := HE.out _ HB.out
                by_cases hlt2 : j < y.acts.length
                · obtain ⟨s2, f2, hs2, hsb2, hv⟩ := HAF.out.facts (by omega)
                  rw [hs2] at E3
                  have Z0 := (below_cell HB.out hsb2).trans (hv j hlt2).1
                  have HST := hid (show (y.acts.take (j + 1)).any (fun z => z.a.kind == 3 || z.a.kind == 4) = (q || (y.acts[j].a.kind == 3 || y.acts[j].a.kind == 4)) from by
                    rw [List.take_succ_eq_append_getElem hlt2, List.any_append, HJ.out]; simp)
                  have hji : (j : Int) < (y.acts.length : Int) := by omega
                  have hj0 : (0 : Int) ≤ (j : Int) := by omega
                  clear hv hs2 HJ
                  generalize y.acts[j].a.kind = kd at *
                  cases q with
                  | true =>
                    go_wp2
                    go_roundw
                    case rel => exact ⟨j + 1, true, by omega, by go_num, rfl, hid (by rw [HST.out]; rfl), HQ, HB⟩
                    case measure => simp [intOf]; omega
                  | false =>
                    by_cases h3 : kd = 3
                    · subst h3
                      go_wp2
                      go_roundw
                      case rel => exact ⟨j + 1, true, by omega, by go_num, rfl, hid (by rw [HST.out]; rfl), HQ, HB⟩
                      case measure => simp [intOf]; omega
                    · have g3 : (kd == 3) = false := by simpa using h3
                      go_wp2
                      go_roundw
                      case rel => exact ⟨j + 1, kd == 4, by omega, by go_num, rfl, hid (by rw [HST.out, g3]; simp), HQ, HB⟩
                      case measure => simp [intOf]; omega
                · obtain rfl : j = y.acts.length := by omega
                  have hq : q = decide (0 < y.n) := by rw [HJ.out, List.take_length]; exact HW1.out
                  clear HJ
                  subst hq
                  by_cases hp : 0 < y.n
                  · have hat := HW2.out hp
                    have g1 : decide (0 < y.n) = true := decide_eq_true hp
                    have g2 : decide (y.at_ ≥ y.n) = false := decide_eq_false (by omega)
                    have g3 : decide (y.n ≤ y.at_) = false := decide_eq_false (by omega)
                    go_wp2_with fail
                    go_quiet (fail)
                    go_wp2
                    go_roundw
                    case rel => exact ⟨k + 1, by omega, by go_num, hid (HQ.out.keep (below_drewN _ _)), hid (HB.out.trans ((below_drewN _ _).mono HB.out.size))⟩
                    case measure => simp [intOf]; omega
                  · have g1 : decide (0 < y.n) = false := decide_eq_false hp
                    go_wp2_with fail
                    go_quiet (fail)
                    go_wp2
                    go_roundw
                    case rel => exact ⟨k + 1, by omega, by go_num, hid (HQ.out.keep (below_drewN _ _)), hid (HB.out.trans ((below_drewN _ _).mono HB.out.size))⟩
                    case measure => simp [intOf]; omega
            · obtain rfl : k = M.length := by omega
              have hge : (M.length : Int) ≤ (M.length : Int) := Int.le_refl _
              have LA9 := hid (fun W (h : Below wr.heap.size wr W) => LA.out W (HB.out.trans (h.mono HB.out.size)))
              have SH9 := hid (fun W (h : Below wr.heap.size wr W) => SH.out W (HB.out.trans (h.mono HB.out.size)))
              have KS := hid (fun W (h : Below wr.heap.size wr W) => (⟨h, HC.out W (HB.out.trans (h.mono HB.out.size))⟩ : Below wr.heap.size wr W ∧ W.cell? ⟨h0, 0, none⟩ = some (.pointer (some ⟨vp, 0, none⟩)) ∧ W.cell? ⟨vp, 0, none⟩ = some (.pointer (some ⟨t, 0, none⟩))))
              clear LA SH HC
              go_upto_region 34 with (fail)
              refine' join2 (fun (b : Nat) W => Below wr.heap.size wr W ∧ Loc W b 63 (vals8 (shF F F.last))) _ (fun HJ => ?_) (fun bn wn hS => ?_)
              rotate_left
              · skip
                -- REGION 34
                refine wp_region_noPanic ?_
                refine wp_region_held_drew (S := (fun W' : World => Below wr.heap.size wr W' ∧ W'.cell? ⟨h0, 0, none⟩ = some (.pointer (some ⟨vp, 0, none⟩)) ∧ W'.cell? ⟨vp, 0, none⟩ = some (.pointer (some ⟨t, 0, none⟩)))) (by kernel_rfl) ?_ (fun hH0 => ?_)
                · (try dsimp only); (first | assumption | exact KS.out _ (Below.refl wr.heap.size wr).drew)
                refine wpAnyH_take (i := 0) (v := ?_) (by simp only [List.getElem?_toArray, List.getElem?_cons_zero]; rfl) (by kernel_rfl) (by kernel_rfl) (by kernel_rfl) (fun _ _ _ h => h) (Or.inl ⟨by rfl, ?_⟩) (by assumption) ?_
                rotate_left
                · intro w hSw; (try dsimp only at hSw); go_simp; (try with_reducible rfl)
                try simp only [Act.put, List.setIfInBounds_toArray, List.set_cons_zero, List.set_cons_succ]
                refine wpAnyH_take (i := 1) (v := ?_) (by simp only [List.getElem?_toArray, List.getElem?_cons_zero, List.getElem?_cons_succ]; rfl) (by kernel_rfl) (by kernel_rfl) (by kernel_rfl) (fun _ _ _ h => h) (Or.inl ⟨by rfl, ?_⟩) (by assumption) ?_
                rotate_left
                · intro w hSw; (try dsimp only at hSw); go_simp; (try with_reducible rfl)
                try simp only [Act.put, List.setIfInBounds_toArray, List.set_cons_zero, List.set_cons_succ]
                refine wpAnyH_take (i := 2) (v := ?_) (by simp only [List.getElem?_toArray, List.getElem?_cons_zero, List.getElem?_cons_succ]; rfl) (by kernel_rfl) (by kernel_rfl) (by kernel_rfl) (fun _ _ _ h => h) (Or.inl ⟨by rfl, ?_⟩) (by assumption) ?_
                rotate_left
                · intro w hSw; (try dsimp only at hSw); go_simp; (try with_reducible rfl)
                try simp only [Act.put, List.setIfInBounds_toArray, List.set_cons_zero, List.set_cons_succ]
                refine wpAnyH_take (i := 3) (v := ?_) (by simp only [List.getElem?_toArray, List.getElem?_cons_zero, List.getElem?_cons_succ]; rfl) (by kernel_rfl) (by kernel_rfl) (by kernel_rfl) (fun _ _ _ h => h) (Or.inl ⟨by rfl, ?_⟩) (by assumption) ?_
                rotate_left
                · intro w hSw; (try dsimp only at hSw); go_simp; (try with_reducible rfl)
                try simp only [Act.put, List.setIfInBounds_toArray, List.set_cons_zero, List.set_cons_succ]
                refine wpAnyH_take (i := 4) (v := ?_) (by simp only [List.getElem?_toArray, List.getElem?_cons_zero, List.getElem?_cons_succ]; rfl) (by kernel_rfl) (by kernel_rfl) (by kernel_rfl) (fun _ _ _ h => h) (Or.inl ⟨by rfl, ?_⟩) (by assumption) ?_
                rotate_left
                · intro w hSw; (try dsimp only at hSw); go_simp; (try with_reducible rfl)
                try simp only [Act.put, List.setIfInBounds_toArray, List.set_cons_zero, List.set_cons_succ]
                refine wpAnyH_take (i := 5) (v := ?_) (by simp only [List.getElem?_toArray, List.getElem?_cons_zero, List.getElem?_cons_succ]; rfl) (by kernel_rfl) (by kernel_rfl) (by kernel_rfl) (fun _ _ _ h => h) (Or.inl ⟨by rfl, ?_⟩) (by assumption) ?_
                rotate_left
                · intro w hSw; (try dsimp only at hSw); go_simp; (try with_reducible rfl)
                try simp only [Act.put, List.setIfInBounds_toArray, List.set_cons_zero, List.set_cons_succ]
                refine wpAnyH_take (i := 6) (v := ?_) (by simp only [List.getElem?_toArray, List.getElem?_cons_zero, List.getElem?_cons_succ]; rfl) (by kernel_rfl) (by kernel_rfl) (by kernel_rfl) (fun _ _ _ h => h) (Or.inl ⟨by rfl, ?_⟩) (by assumption) ?_
                rotate_left
                · intro w hSw; (try dsimp only at hSw); go_simp; (try with_reducible rfl)
                try simp only [Act.put, List.setIfInBounds_toArray, List.set_cons_zero, List.set_cons_succ]
                refine wpAnyH_take (i := 7) (v := ?_) (by simp only [List.getElem?_toArray, List.getElem?_cons_zero, List.getElem?_cons_succ]; rfl) (by kernel_rfl) (by kernel_rfl) (by kernel_rfl) (fun _ _ _ h => h) (Or.inl ⟨by rfl, ?_⟩) (by assumption) ?_
                rotate_left
                · intro w hSw; (try dsimp only at hSw); go_simp; (try with_reducible rfl)
                try simp only [Act.put, List.setIfInBounds_toArray, List.set_cons_zero, List.set_cons_succ]
                refine wpAnyH_take (i := 8) (v := ?_) (by simp only [List.getElem?_toArray, List.getElem?_cons_zero, List.getElem?_cons_succ]; rfl) (by kernel_rfl) (by kernel_rfl) (by kernel_rfl) (fun _ _ _ h => h) (Or.inl ⟨by rfl, ?_⟩) (by assumption) ?_
                rotate_left
                · intro w hSw; (try dsimp only at hSw); go_simp; (try with_reducible rfl)
                try simp only [Act.put, List.setIfInBounds_toArray, List.set_cons_zero, List.set_cons_succ]
                refine wpAnyH_take (i := 9) (v := ?_) (by simp only [List.getElem?_toArray, List.getElem?_cons_zero, List.getElem?_cons_succ]; rfl) (by kernel_rfl) (by kernel_rfl) (by kernel_rfl) (fun _ _ _ h => h) (Or.inl ⟨by rfl, ?_⟩) (by assumption) ?_
                rotate_left
                · intro w hSw; (try dsimp only at hSw); go_simp; (try with_reducible rfl)
                try simp only [Act.put, List.setIfInBounds_toArray, List.set_cons_zero, List.set_cons_succ]
                refine wpAnyH_take (i := 10) (v := ?_) (by simp only [List.getElem?_toArray, List.getElem?_cons_zero, List.getElem?_cons_succ]; rfl) (by kernel_rfl) (by kernel_rfl) (by kernel_rfl) (fun _ _ _ h => h) (Or.inl ⟨by rfl, ?_⟩) (by assumption) ?_
                rotate_left
                · intro w hSw; (try dsimp only at hSw); go_simp; (try with_reducible rfl)
                try simp only [Act.put, List.setIfInBounds_toArray, List.set_cons_zero, List.set_cons_succ]
                refine wpAnyH_take (i := 11) (v := ?_) (by simp only [List.getElem?_toArray, List.getElem?_cons_zero, List.getElem?_cons_succ]; rfl) (by kernel_rfl) (by kernel_rfl) (by kernel_rfl) (fun _ _ _ h => h) (Or.inl ⟨by rfl, ?_⟩) (by assumption) ?_
                rotate_left
                · intro w hSw; (try dsimp only at hSw); go_simp; (try with_reducible rfl)
                try simp only [Act.put, List.setIfInBounds_toArray, List.set_cons_zero, List.set_cons_succ]
                refine wpAnyH_take (i := 12) (v := ?_) (by simp only [List.getElem?_toArray, List.getElem?_cons_zero, List.getElem?_cons_succ]; rfl) (by kernel_rfl) (by kernel_rfl) (by kernel_rfl) (fun _ _ _ h => h) (Or.inl ⟨by rfl, ?_⟩) (by assumption) ?_
                rotate_left
                · intro w hSw; (try dsimp only at hSw); go_simp; (try with_reducible rfl)
                try simp only [Act.put, List.setIfInBounds_toArray, List.set_cons_zero, List.set_cons_succ]
                refine wpAnyH_take (i := 13) (v := ?_) (by simp only [List.getElem?_toArray, List.getElem?_cons_zero, List.getElem?_cons_succ]; rfl) (by kernel_rfl) (by kernel_rfl) (by kernel_rfl) (fun _ _ _ h => h) (Or.inl ⟨by rfl, ?_⟩) (by assumption) ?_
                rotate_left
                · intro w hSw; (try dsimp only at hSw); go_simp; (try with_reducible rfl)
                try simp only [Act.put, List.setIfInBounds_toArray, List.set_cons_zero, List.set_cons_succ]
                refine wpAnyH_ready (rs := [14, 19]) (by kernel_rfl) (by simp) ?_
                refine AllReadyH.cons (by simp only [List.getElem?_toArray, List.getElem?_cons_zero, List.getElem?_cons_succ]; rfl) (fun K hK => ?_) ?_
                · skip
                  go_simp
                  go_at_call 14
                  have hS := (‹Below _ wr _ ∧ _›).1
                  (with_reducible refine (LA9.out _ hS).mono ?_)
                  rintro e w' ⟨rfl, rfl⟩
                  clear hS
                  try go_wp2_with fail
                  refine hK.out _ _ ?_ (fun hH1 => ?_)
                  · (try dsimp only); (first | assumption | exact KS.out _ (Below.refl wr.heap.size wr).drew)
                  clear hK K hH0
                  try simp only [Act.put, List.setIfInBounds_toArray, List.set_cons_zero, List.set_cons_succ]
                  refine wpAnyH_ready (rs := [15, 19]) (by kernel_rfl) (by simp) ?_
                  refine AllReadyH.cons (by simp only [List.getElem?_toArray, List.getElem?_cons_zero, List.getElem?_cons_succ]; rfl) (fun K hK => ?_) ?_
                  · skip
                    go_simp
                    go_at_call 16
                    have hS := (‹Below _ wr _ ∧ _›).1
                    (with_reducible refine (SH9.out _ hS).mono ?_)
                    rintro e w5 ⟨rfl, hb5⟩
                    have hS' := KS.out _ (hS.trans (hb5.mono (by first | exact hS.size | (have h1 := hS.size; have h2 := HB6.out; omega))))
                    try (have hLZ := LZ.out.keep hb5; clear LZ; have LZ := hid hLZ; clear hLZ)
                    clear hb5 hS
                    try go_wp2_with fail
                    refine hK.out _ _ ?_ (fun hH2 => ?_)
                    · (try dsimp only); (first | assumption | exact KS.out _ (Below.refl wr.heap.size wr).drew)
                    clear hK K hH1
                    try simp only [Act.put, List.setIfInBounds_toArray, List.set_cons_zero, List.set_cons_succ]
                    refine wpAnyH_take (i := 16) (v := ?_) (by simp only [List.getElem?_toArray, List.getElem?_cons_zero, List.getElem?_cons_succ]; rfl) (by kernel_rfl) (by kernel_rfl) (by kernel_rfl) (fun _ _ _ h => h) (Or.inl ⟨by rfl, ?_⟩) (by assumption) ?_
                    rotate_left
                    · intro w hSw; (try dsimp only at hSw); go_simp; (try with_reducible rfl)
                    try simp only [Act.put, List.setIfInBounds_toArray, List.set_cons_zero, List.set_cons_succ]
                    refine wpAnyH_take (i := 17) (v := ?_) (by simp only [List.getElem?_toArray, List.getElem?_cons_zero, List.getElem?_cons_succ]; rfl) (by kernel_rfl) (by kernel_rfl) (by kernel_rfl) (fun _ _ _ h => h) (Or.inl ⟨by rfl, ?_⟩) (by assumption) ?_
                    rotate_left
                    · intro w hSw; (try dsimp only at hSw); go_simp; (try with_reducible rfl)
                    try simp only [Act.put, List.setIfInBounds_toArray, List.set_cons_zero, List.set_cons_succ]
                    refine wpAnyH_take (i := 18) (v := ?_) (by simp only [List.getElem?_toArray, List.getElem?_cons_zero, List.getElem?_cons_succ]; rfl) (by kernel_rfl) (by kernel_rfl) (by kernel_rfl) (fun _ _ _ h => h) (Or.inl ⟨by rfl, ?_⟩) (by assumption) ?_
                    rotate_left
                    · intro w hSw; (try dsimp only at hSw); go_simp; (try with_reducible rfl)
                    try simp only [Act.put, List.setIfInBounds_toArray, List.set_cons_zero, List.set_cons_succ]
                    refine wpAnyH_ready (rs := [19]) (by kernel_rfl) (by simp) ?_
                    refine AllReadyH.cons (by simp only [List.getElem?_toArray, List.getElem?_cons_zero, List.getElem?_cons_succ]; rfl) (fun K hK => ?_) AllReadyH.nil
                    go_simp
                    have hS := (‹Below _ wr _ ∧ _›).1
                    first
                      | (have LZ : Hid (Loc (w5.alloc (.cells #[.bool false, .string ⟨#[]⟩, .bool false, .string ⟨#[]⟩, .bool false, .string ⟨#[]⟩, .bool false, .string ⟨#[]⟩, .bool false, .string ⟨#[]⟩, .bool false, .string ⟨#[]⟩, .bool false, .string ⟨#[]⟩, .bool false, .string ⟨#[]⟩] 63)) w5.heap.size 63 (vals8 fun _ => Val.zero)) := hid (Loc.new w5 63 (vals8 fun _ => Val.zero)); have HBN := hid hS.size; have hS' := KS.out (w5.alloc (.cells #[.bool false, .string ⟨#[]⟩, .bool false, .string ⟨#[]⟩, .bool false, .string ⟨#[]⟩, .bool false, .string ⟨#[]⟩, .bool false, .string ⟨#[]⟩, .bool false, .string ⟨#[]⟩, .bool false, .string ⟨#[]⟩, .bool false, .string ⟨#[]⟩] 63)) (hS.alloc hS.size _); clear hS; generalize w5.alloc (.cells #[.bool false, .string ⟨#[]⟩, .bool false, .string ⟨#[]⟩, .bool false, .string ⟨#[]⟩, .bool false, .string ⟨#[]⟩, .bool false, .string ⟨#[]⟩, .bool false, .string ⟨#[]⟩, .bool false, .string ⟨#[]⟩, .bool false, .string ⟨#[]⟩] 63) = w6 at *; generalize w5.heap.size = b6 at *)
                      | (have LZ : Hid (Loc (wr.alloc (.cells #[.bool false, .string ⟨#[]⟩, .bool false, .string ⟨#[]⟩, .bool false, .string ⟨#[]⟩, .bool false, .string ⟨#[]⟩, .bool false, .string ⟨#[]⟩, .bool false, .string ⟨#[]⟩, .bool false, .string ⟨#[]⟩, .bool false, .string ⟨#[]⟩] 63)).drew wr.heap.size 63 (vals8 fun _ => Val.zero)) := hid (Loc.new wr 63 (vals8 fun _ => Val.zero)); have HBN := hid (Nat.le_refl wr.heap.size); have hS' := KS.out (wr.alloc (.cells #[.bool false, .string ⟨#[]⟩, .bool false, .string ⟨#[]⟩, .bool false, .string ⟨#[]⟩, .bool false, .string ⟨#[]⟩, .bool false, .string ⟨#[]⟩, .bool false, .string ⟨#[]⟩, .bool false, .string ⟨#[]⟩, .bool false, .string ⟨#[]⟩] 63)).drew (((Below.refl wr.heap.size wr).alloc (Nat.le_refl _) _).drew); clear hS; generalize (wr.alloc (.cells #[.bool false, .string ⟨#[]⟩, .bool false, .string ⟨#[]⟩, .bool false, .string ⟨#[]⟩, .bool false, .string ⟨#[]⟩, .bool false, .string ⟨#[]⟩, .bool false, .string ⟨#[]⟩, .bool false, .string ⟨#[]⟩, .bool false, .string ⟨#[]⟩] 63)).drew = w6 at *; generalize hb6 : wr.heap.size = b6 at *; have HB6 := hid hb6; clear hb6)
                    try go_wp2_with fail
                    refine hK.out _ _ ?_ (fun hH3 => ?_)
                    · (try dsimp only); (first | assumption | exact KS.out _ (Below.refl wr.heap.size wr).drew)
                    clear hK K hH2
                    try simp only [Act.put, List.setIfInBounds_toArray, List.set_cons_zero, List.set_cons_succ]
                    refine wpAnyH_ready (rs := [20]) (by kernel_rfl) (by simp) ?_
                    refine AllReadyH.cons (by simp only [List.getElem?_toArray, List.getElem?_cons_zero, List.getElem?_cons_succ]; rfl) (fun K hK => ?_) AllReadyH.nil
                    have hS := (‹Below _ wr _ ∧ _›).1
                    refine wp_store_mid 63 _ _ rfl _ 0 (vals8 (shF F F.last)).toArray rfl rfl (LZ.out.there8 (shF F F.last)) Try.infoWorld (vals8_one (shF F F.last)) ?_
                    have hS' := KS.out _ (Below.setCells' HBN.out (vals8 (shF F F.last)) 0 hS)
                    have LN := hid (LZ.out.setAll (vs := vals8 (shF F F.last)) rfl)
                    clear hS
                    first
                      | (generalize w5.setCells b6 0 (vals8 (shF F F.last)) = wz at *; have LN2 : Hid (Loc wz b6 63 (vals8 (shF F F.last))) := by with_reducible exact LN)
                      | (generalize w6.setCells b6 0 (vals8 (shF F F.last)) = wz at *; have LN2 : Hid (Loc wz b6 63 (vals8 (shF F F.last))) := by with_reducible exact LN)
                    refine hK.out _ _ ?_ (fun hH4 => ?_)
                    · (try dsimp only); (first | assumption | exact KS.out _ (Below.refl wr.heap.size wr).drew)
                    clear hK K hH3
                    try simp only [Act.put]
                    refine wpAnyH_take (i := 21) (v := ?_) (by simp only [List.getElem?_toArray, List.getElem?_cons_zero, List.getElem?_cons_succ]; rfl) (by kernel_rfl) (by kernel_rfl) (by kernel_rfl) (fun _ _ _ h => h) (Or.inl ⟨by rfl, ?_⟩) (by assumption) ?_
                    rotate_left
                    · intro w hSw; (try dsimp only at hSw); go_simp; (try with_reducible rfl)
                    try simp only [Act.put, List.setIfInBounds_toArray, List.set_cons_zero, List.set_cons_succ]
                    refine wpAnyH_done (by kernel_rfl) ?_ _
                    refine NoPanic.normal ?_
                    exact HJ b6 wz ⟨(‹Below _ wr wz ∧ _›).1, LN2.out⟩
                  refine AllReadyH.cons (by simp only [List.getElem?_toArray, List.getElem?_cons_zero, List.getElem?_cons_succ]; rfl) (fun K hK => ?_) AllReadyH.nil
                  go_simp
                  have hS := (‹Below _ wr _ ∧ _›).1
                  first
                    | (have LZ : Hid (Loc (w5.alloc (.cells #[.bool false, .string ⟨#[]⟩, .bool false, .string ⟨#[]⟩, .bool false, .string ⟨#[]⟩, .bool false, .string ⟨#[]⟩, .bool false, .string ⟨#[]⟩, .bool false, .string ⟨#[]⟩, .bool false, .string ⟨#[]⟩, .bool false, .string ⟨#[]⟩] 63)) w5.heap.size 63 (vals8 fun _ => Val.zero)) := hid (Loc.new w5 63 (vals8 fun _ => Val.zero)); have HBN := hid hS.size; have hS' := KS.out (w5.alloc (.cells #[.bool false, .string ⟨#[]⟩, .bool false, .string ⟨#[]⟩, .bool false, .string ⟨#[]⟩, .bool false, .string ⟨#[]⟩, .bool false, .string ⟨#[]⟩, .bool false, .string ⟨#[]⟩, .bool false, .string ⟨#[]⟩, .bool false, .string ⟨#[]⟩] 63)) (hS.alloc hS.size _); clear hS; generalize w5.alloc (.cells #[.bool false, .string ⟨#[]⟩, .bool false, .string ⟨#[]⟩, .bool false, .string ⟨#[]⟩, .bool false, .string ⟨#[]⟩, .bool false, .string ⟨#[]⟩, .bool false, .string ⟨#[]⟩, .bool false, .string ⟨#[]⟩, .bool false, .string ⟨#[]⟩] 63) = w6 at *; generalize w5.heap.size = b6 at *)
                    | (have LZ : Hid (Loc (wr.alloc (.cells #[.bool false, .string ⟨#[]⟩, .bool false, .string ⟨#[]⟩, .bool false, .string ⟨#[]⟩, .bool false, .string ⟨#[]⟩, .bool false, .string ⟨#[]⟩, .bool false, .string ⟨#[]⟩, .bool false, .string ⟨#[]⟩, .bool false, .string ⟨#[]⟩] 63)).drew wr.heap.size 63 (vals8 fun _ => Val.zero)) := hid (Loc.new wr 63 (vals8 fun _ => Val.zero)); have HBN := hid (Nat.le_refl wr.heap.size); have hS' := KS.out (wr.alloc (.cells #[.bool false, .string ⟨#[]⟩, .bool false, .string ⟨#[]⟩, .bool false, .string ⟨#[]⟩, .bool false, .string ⟨#[]⟩, .bool false, .string ⟨#[]⟩, .bool false, .string ⟨#[]⟩, .bool false, .string ⟨#[]⟩, .bool false, .string ⟨#[]⟩] 63)).drew (((Below.refl wr.heap.size wr).alloc (Nat.le_refl _) _).drew); clear hS; generalize (wr.alloc (.cells #[.bool false, .string ⟨#[]⟩, .bool false, .string ⟨#[]⟩, .bool false, .string ⟨#[]⟩, .bool false, .string ⟨#[]⟩, .bool false, .string ⟨#[]⟩, .bool false, .string ⟨#[]⟩, .bool false, .string ⟨#[]⟩, .bool false, .string ⟨#[]⟩] 63)).drew = w6 at *; generalize hb6 : wr.heap.size = b6 at *; have HB6 := hid hb6; clear hb6)
                  try go_wp2_with fail
                  refine hK.out _ _ ?_ (fun hH5 => ?_)
                  · (try dsimp only); (first | assumption | exact KS.out _ (Below.refl wr.heap.size wr).drew)
                  clear hK K hH1
                  try simp only [Act.put, List.setIfInBounds_toArray, List.set_cons_zero, List.set_cons_succ]
                  refine wpAnyH_ready (rs := [15]) (by kernel_rfl) (by simp) ?_
                  refine AllReadyH.cons (by simp only [List.getElem?_toArray, List.getElem?_cons_zero, List.getElem?_cons_succ]; rfl) (fun K hK => ?_) AllReadyH.nil
                  go_simp
                  go_at_call 16
                  have hS := (‹Below _ wr _ ∧ _›).1
                  (with_reducible refine (SH9.out _ hS).mono ?_)
                  rintro e w5 ⟨rfl, hb5⟩
                  have hS' := KS.out _ (hS.trans (hb5.mono (by first | exact hS.size | (have h1 := hS.size; have h2 := HB6.out; omega))))
                  try (have hLZ := LZ.out.keep hb5; clear LZ; have LZ := hid hLZ; clear hLZ)
                  clear hb5 hS
                  try go_wp2_with fail
                  refine hK.out _ _ ?_ (fun hH6 => ?_)
                  · (try dsimp only); (first | assumption | exact KS.out _ (Below.refl wr.heap.size wr).drew)
                  clear hK K hH5
                  try simp only [Act.put, List.setIfInBounds_toArray, List.set_cons_zero, List.set_cons_succ]
                  refine wpAnyH_take (i := 16) (v := ?_) (by simp only [List.getElem?_toArray, List.getElem?_cons_zero, List.getElem?_cons_succ]; rfl) (by kernel_rfl) (by kernel_rfl) (by kernel_rfl) (fun _ _ _ h => h) (Or.inl ⟨by rfl, ?_⟩) (by assumption) ?_
                  rotate_left
                  · intro w hSw; (try dsimp only at hSw); go_simp; (try with_reducible rfl)
                  try simp only [Act.put, List.setIfInBounds_toArray, List.set_cons_zero, List.set_cons_succ]
                  refine wpAnyH_take (i := 17) (v := ?_) (by simp only [List.getElem?_toArray, List.getElem?_cons_zero, List.getElem?_cons_succ]; rfl) (by kernel_rfl) (by kernel_rfl) (by kernel_rfl) (fun _ _ _ h => h) (Or.inl ⟨by rfl, ?_⟩) (by assumption) ?_
                  rotate_left
                  · intro w hSw; (try dsimp only at hSw); go_simp; (try with_reducible rfl)
                  try simp only [Act.put, List.setIfInBounds_toArray, List.set_cons_zero, List.set_cons_succ]
                  refine wpAnyH_take (i := 18) (v := ?_) (by simp only [List.getElem?_toArray, List.getElem?_cons_zero, List.getElem?_cons_succ]; rfl) (by kernel_rfl) (by kernel_rfl) (by kernel_rfl) (fun _ _ _ h => h) (Or.inl ⟨by rfl, ?_⟩) (by assumption) ?_
                  rotate_left
                  · intro w hSw; (try dsimp only at hSw); go_simp; (try with_reducible rfl)
                  try simp only [Act.put, List.setIfInBounds_toArray, List.set_cons_zero, List.set_cons_succ]
                  refine wpAnyH_ready (rs := [20]) (by kernel_rfl) (by simp) ?_
                  refine AllReadyH.cons (by simp only [List.getElem?_toArray, List.getElem?_cons_zero, List.getElem?_cons_succ]; rfl) (fun K hK => ?_) AllReadyH.nil
                  have hS := (‹Below _ wr _ ∧ _›).1
                  refine wp_store_mid 63 _ _ rfl _ 0 (vals8 (shF F F.last)).toArray rfl rfl (LZ.out.there8 (shF F F.last)) Try.infoWorld (vals8_one (shF F F.last)) ?_
                  have hS' := KS.out _ (Below.setCells' HBN.out (vals8 (shF F F.last)) 0 hS)
                  have LN := hid (LZ.out.setAll (vs := vals8 (shF F F.last)) rfl)
                  clear hS
                  first
                    | (generalize w5.setCells b6 0 (vals8 (shF F F.last)) = wz at *; have LN2 : Hid (Loc wz b6 63 (vals8 (shF F F.last))) := by with_reducible exact LN)
                    | (generalize w6.setCells b6 0 (vals8 (shF F F.last)) = wz at *; have LN2 : Hid (Loc wz b6 63 (vals8 (shF F F.last))) := by with_reducible exact LN)
                  refine hK.out _ _ ?_ (fun hH7 => ?_)
                  · (try dsimp only); (first | assumption | exact KS.out _ (Below.refl wr.heap.size wr).drew)
                  clear hK K hH6
                  try simp only [Act.put]
                  refine wpAnyH_take (i := 21) (v := ?_) (by simp only [List.getElem?_toArray, List.getElem?_cons_zero, List.getElem?_cons_succ]; rfl) (by kernel_rfl) (by kernel_rfl) (by kernel_rfl) (fun _ _ _ h => h) (Or.inl ⟨by rfl, ?_⟩) (by assumption) ?_
                  rotate_left
                  · intro w hSw; (try dsimp only at hSw); go_simp; (try with_reducible rfl)
                  try simp only [Act.put, List.setIfInBounds_toArray, List.set_cons_zero, List.set_cons_succ]
                  refine wpAnyH_done (by kernel_rfl) ?_ _
                  refine NoPanic.normal ?_
                  exact HJ b6 wz ⟨(‹Below _ wr wz ∧ _›).1, LN2.out⟩
                refine AllReadyH.cons (by simp only [List.getElem?_toArray, List.getElem?_cons_zero, List.getElem?_cons_succ]; rfl) (fun K hK => ?_) AllReadyH.nil
                go_simp
                have hS := (‹Below _ wr _ ∧ _›).1
                first
                  | (have LZ : Hid (Loc (w5.alloc (.cells #[.bool false, .string ⟨#[]⟩, .bool false, .string ⟨#[]⟩, .bool false, .string ⟨#[]⟩, .bool false, .string ⟨#[]⟩, .bool false, .string ⟨#[]⟩, .bool false, .string ⟨#[]⟩, .bool false, .string ⟨#[]⟩, .bool false, .string ⟨#[]⟩] 63)) w5.heap.size 63 (vals8 fun _ => Val.zero)) := hid (Loc.new w5 63 (vals8 fun _ => Val.zero)); have HBN := hid hS.size; have hS' := KS.out (w5.alloc (.cells #[.bool false, .string ⟨#[]⟩, .bool false, .string ⟨#[]⟩, .bool false, .string ⟨#[]⟩, .bool false, .string ⟨#[]⟩, .bool false, .string ⟨#[]⟩, .bool false, .string ⟨#[]⟩, .bool false, .string ⟨#[]⟩, .bool false, .string ⟨#[]⟩] 63)) (hS.alloc hS.size _); clear hS; generalize w5.alloc (.cells #[.bool false, .string ⟨#[]⟩, .bool false, .string ⟨#[]⟩, .bool false, .string ⟨#[]⟩, .bool false, .string ⟨#[]⟩, .bool false, .string ⟨#[]⟩, .bool false, .string ⟨#[]⟩, .bool false, .string ⟨#[]⟩, .bool false, .string ⟨#[]⟩] 63) = w6 at *; generalize w5.heap.size = b6 at *)
                  | (have LZ : Hid (Loc (wr.alloc (.cells #[.bool false, .string ⟨#[]⟩, .bool false, .string ⟨#[]⟩, .bool false, .string ⟨#[]⟩, .bool false, .string ⟨#[]⟩, .bool false, .string ⟨#[]⟩, .bool false, .string ⟨#[]⟩, .bool false, .string ⟨#[]⟩, .bool false, .string ⟨#[]⟩] 63)).drew wr.heap.size 63 (vals8 fun _ => Val.zero)) := hid (Loc.new wr 63 (vals8 fun _ => Val.zero)); have HBN := hid (Nat.le_refl wr.heap.size); have hS' := KS.out (wr.alloc (.cells #[.bool false, .string ⟨#[]⟩, .bool false, .string ⟨#[]⟩, .bool false, .string ⟨#[]⟩, .bool false, .string ⟨#[]⟩, .bool false, .string ⟨#[]⟩, .bool false, .string ⟨#[]⟩, .bool false, .string ⟨#[]⟩, .bool false, .string ⟨#[]⟩] 63)).drew (((Below.refl wr.heap.size wr).alloc (Nat.le_refl _) _).drew); clear hS; generalize (wr.alloc (.cells #[.bool false, .string ⟨#[]⟩, .bool false, .string ⟨#[]⟩, .bool false, .string ⟨#[]⟩, .bool false, .string ⟨#[]⟩, .bool false, .string ⟨#[]⟩, .bool false, .string ⟨#[]⟩, .bool false, .string ⟨#[]⟩, .bool false, .string ⟨#[]⟩] 63)).drew = w6 at *; generalize hb6 : wr.heap.size = b6 at *; have HB6 := hid hb6; clear hb6)
                try go_wp2_with fail
                refine hK.out _ _ ?_ (fun hH8 => ?_)
                · (try dsimp only); (first | assumption | exact KS.out _ (Below.refl wr.heap.size wr).drew)
                clear hK K hH0
                try simp only [Act.put, List.setIfInBounds_toArray, List.set_cons_zero, List.set_cons_succ]
                refine wpAnyH_ready (rs := [14]) (by kernel_rfl) (by simp) ?_
                refine AllReadyH.cons (by simp only [List.getElem?_toArray, List.getElem?_cons_zero, List.getElem?_cons_succ]; rfl) (fun K hK => ?_) AllReadyH.nil
                go_simp
                go_at_call 14
                have hS := (‹Below _ wr _ ∧ _›).1
                (with_reducible refine (LA9.out _ hS).mono ?_)
                rintro e w' ⟨rfl, rfl⟩
                clear hS
                try go_wp2_with fail
                refine hK.out _ _ ?_ (fun hH9 => ?_)
                · (try dsimp only); (first | assumption | exact KS.out _ (Below.refl wr.heap.size wr).drew)
                clear hK K hH8
                try simp only [Act.put, List.setIfInBounds_toArray, List.set_cons_zero, List.set_cons_succ]
                refine wpAnyH_ready (rs := [15]) (by kernel_rfl) (by simp) ?_
                refine AllReadyH.cons (by simp only [List.getElem?_toArray, List.getElem?_cons_zero, List.getElem?_cons_succ]; rfl) (fun K hK => ?_) AllReadyH.nil
                go_simp
                go_at_call 16
                have hS := (‹Below _ wr _ ∧ _›).1
                (with_reducible refine (SH9.out _ hS).mono ?_)
                rintro e w5 ⟨rfl, hb5⟩
                have hS' := KS.out _ (hS.trans (hb5.mono (by first | exact hS.size | (have h1 := hS.size; have h2 := HB6.out; omega))))
                try (have hLZ := LZ.out.keep hb5; clear LZ; have LZ := hid hLZ; clear hLZ)
                clear hb5 hS
                try go_wp2_with fail
                refine hK.out _ _ ?_ (fun hH10 => ?_)
                · (try dsimp only); (first | assumption | exact KS.out _ (Below.refl wr.heap.size wr).drew)
                clear hK K hH9
                try simp only [Act.put, List.setIfInBounds_toArray, List.set_cons_zero, List.set_cons_succ]
                refine wpAnyH_take (i := 16) (v := ?_) (by simp only [List.getElem?_toArray, List.getElem?_cons_zero, List.getElem?_cons_succ]; rfl) (by kernel_rfl) (by kernel_rfl) (by kernel_rfl) (fun _ _ _ h => h) (Or.inl ⟨by rfl, ?_⟩) (by assumption) ?_
                rotate_left
                · intro w hSw; (try dsimp only at hSw); go_simp; (try with_reducible rfl)
                try simp only [Act.put, List.setIfInBounds_toArray, List.set_cons_zero, List.set_cons_succ]
                refine wpAnyH_take (i := 17) (v := ?_) (by simp only [List.getElem?_toArray, List.getElem?_cons_zero, List.getElem?_cons_succ]; rfl) (by kernel_rfl) (by kernel_rfl) (by kernel_rfl) (fun _ _ _ h => h) (Or.inl ⟨by rfl, ?_⟩) (by assumption) ?_
                rotate_left
                · intro w hSw; (try dsimp only at hSw); go_simp; (try with_reducible rfl)
                try simp only [Act.put, List.setIfInBounds_toArray, List.set_cons_zero, List.set_cons_succ]
                refine wpAnyH_take (i := 18) (v := ?_) (by simp only [List.getElem?_toArray, List.getElem?_cons_zero, List.getElem?_cons_succ]; rfl) (by kernel_rfl) (by kernel_rfl) (by kernel_rfl) (fun _ _ _ h => h) (Or.inl ⟨by rfl, ?_⟩) (by assumption) ?_
                rotate_left
                · intro w hSw; (try dsimp only at hSw); go_simp; (try with_reducible rfl)
                try simp only [Act.put, List.setIfInBounds_toArray, List.set_cons_zero, List.set_cons_succ]
                refine wpAnyH_ready (rs := [20]) (by kernel_rfl) (by simp) ?_
                refine AllReadyH.cons (by simp only [List.getElem?_toArray, List.getElem?_cons_zero, List.getElem?_cons_succ]; rfl) (fun K hK => ?_) AllReadyH.nil
                have hS := (‹Below _ wr _ ∧ _›).1
                refine wp_store_mid 63 _ _ rfl _ 0 (vals8 (shF F F.last)).toArray rfl rfl (LZ.out.there8 (shF F F.last)) Try.infoWorld (vals8_one (shF F F.last)) ?_
                have hS' := KS.out _ (Below.setCells' HBN.out (vals8 (shF F F.last)) 0 hS)
                have LN := hid (LZ.out.setAll (vs := vals8 (shF F F.last)) rfl)
                clear hS
                first
                  | (generalize w5.setCells b6 0 (vals8 (shF F F.last)) = wz at *; have LN2 : Hid (Loc wz b6 63 (vals8 (shF F F.last))) := by with_reducible exact LN)
                  | (generalize w6.setCells b6 0 (vals8 (shF F F.last)) = wz at *; have LN2 : Hid (Loc wz b6 63 (vals8 (shF F F.last))) := by with_reducible exact LN)
                refine hK.out _ _ ?_ (fun hH11 => ?_)
                · (try dsimp only); (first | assumption | exact KS.out _ (Below.refl wr.heap.size wr).drew)
                clear hK K hH10
                try simp only [Act.put]
                refine wpAnyH_take (i := 21) (v := ?_) (by simp only [List.getElem?_toArray, List.getElem?_cons_zero, List.getElem?_cons_succ]; rfl) (by kernel_rfl) (by kernel_rfl) (by kernel_rfl) (fun _ _ _ h => h) (Or.inl ⟨by rfl, ?_⟩) (by assumption) ?_
                rotate_left
                · intro w hSw; (try dsimp only at hSw); go_simp; (try with_reducible rfl)
                try simp only [Act.put, List.setIfInBounds_toArray, List.set_cons_zero, List.set_cons_succ]
                refine wpAnyH_done (by kernel_rfl) ?_ _
                refine NoPanic.normal ?_
                exact HJ b6 wz ⟨(‹Below _ wr wz ∧ _›).1, LN2.out⟩
                -- END 34
              · skip
                have MN := hid hS.2
                have LN := hid (HQ.out.keep hS.1)
                have BN := hid (B5.out.below.trans ((HB.out.trans (hS.1.mono HB.out.size)).mono B5.out.below.size))
                clear hS HQ HB KS LA9 SH9
                generalize shF F F.last = f9 at *
                go_wp2_with (first
                  | refine wpList_load_vals rfl (.tmp 13) rfl bn rfl f9 MN.out ?_
                  | refine wpList_load_valsS rfl (.tmp 6) rfl w5.heap.size rfl f9 LN.out ?_
                  | refine wpList_eq_vals rfl (.tmp 164) (.tmp 165) _ rfl f9 rfl rfl ?_)
                go_ret
                exact ⟨rfl, B1.out.trans (BN.out.mono B1.out.size)⟩

end Go.Proofs.Ytoiobhcgpajogad
