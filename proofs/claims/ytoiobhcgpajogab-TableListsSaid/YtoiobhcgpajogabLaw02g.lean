/- The walk of TableLists. -/
import Derived.Test.YtoiobhcgpajogabLaw02a
import Derived.Test.YtoiobhcgpajogabLaw02b
import Derived.Test.YtoiobhcgpajogabShow
import Derived.Test.YtoiobhcgpajogabSameQ
import Derived.Test.YtoiobhcgpajogabAppR
namespace Go.Proofs.Ytoiobhcgpajogab
open Go.RowKit

theorem entsOf_succ (f : Nat → Val) (k : Nat) : entsOf f (List.range (k + 1)) = entsOf f (List.range k) ++ if (f k).there then [⟨k, f k⟩] else [] := by
  rw [List.range_succ, entsOf_append]
  simp [entsOf]

theorem entsOf_len (f : Nat → Val) (ks : List Nat) : (entsOf f ks).length ≤ ks.length := by
  induction ks with
  | nil => simp [entsOf]
  | cons k ks ih =>
    have e : entsOf f (k :: ks) = (if (f k).there then [⟨k, f k⟩] else []) ++ entsOf f ks := by simp [entsOf]
    rw [e, List.length_append, List.length_cons]
    split <;> simp <;> omega

theorem entsOf_at (f : Nat → Val) (k : Nat) (hk : k < 8) (ht : (f k).there = true) : (entsOf f (List.range 8))[(entsOf f (List.range k)).length]? = some ⟨k, f k⟩ := by
  have e : List.range 8 = List.range (k + 1) ++ (List.range 8).drop (k + 1) := by
    rw [← range_take 8 (k + 1) (by omega), List.take_append_drop]
  rw [e, entsOf_append, entsOf_succ, if_pos ht, List.append_assoc, List.getElem?_append_right (Nat.le_refl _)]
  simp

theorem listT_codes (T : Tab) (a : Int) : if codesT T a 8 = true then listT T 0 7 a = (entsOf (sheetT T a) (List.range 8), 0) else (listT T 0 7 a).1 = [] ∧ (listT T 0 7 a).2 ≠ 0 := by
  split
  · rename_i h
    exact listT_all h (f := 0) (t := 7) (by omega) (by omega)
  · rename_i h
    exact listT_none (by simpa using h)

set_option maxHeartbeats 8000000 in
set_option maxRecDepth 100000 in
theorem walk_TableLists (a : Option Addr) (cap : Nat) (l : List TStep) (cut at_ : Int) (w : World) (hl : l.length ≤ 9223372036854775807) (hA : TStepsAt w a l) (_ : (Lit.int .i64 cut).wf = true) (_ : (Lit.int .i64 at_).wf = true) :
    Calls Try.prog 5 #[.slice a l.length cap, .int .i64 cut, .int .i64 at_] w (TruePost w) := by
  have HA := hid hA
  clear hA
  go_enter Try.func5, Try.ntmps5
  go_wp2_with fail
  (with_reducible refine (law_tableBegun w).mono ?_)
  rintro e w1 ⟨rfl, hb⟩
  have B1 := hid hb
  clear hb
  go_wp2_with fail
  (with_reducible refine (law_greatTable a cap l w1 hl (HA.out.below B1.out)).mono ?_)
  rintro e w2 ⟨rfl, hb⟩
  have B2 := hid (B1.out.trans (hb.mono B1.out.size))
  clear hb
  cases hg : greatT l with
  | true =>
    clear hg
    go_wp2
    go_ret
    exact ⟨rfl, B2.out⟩
  | false =>
  obtain ⟨h80, h50⟩ := greatT_false hg
  have H50 := hid h50
  clear hg h50
  go_wp2_with fail
  (with_reducible refine (law_tables a cap l w2 h80 H50.out (HA.out.below B2.out)).mono ?_)
  rintro e w3 ⟨g, t, s, rfl, h3⟩
  have H3 := hid h3
  generalize runT l = T at *
  have HLC := hid (listT_codes T at_)
  have HL2 := hid (fun (h : codesT T at_ 8 = true) (k : Nat) (hk : k < 7) => listT_split h hk)
  have HL3 := hid (fun (h : codesT T at_ 8 = true) (k : Nat) (hk : k < 8) => (listT_all h (f := 0) (t := k) (by omega) hk : listT T 0 k at_ = _))
  have HL4 := hid (fun (h : codesT T at_ 8 = true) (k : Nat) (hk : k < 7) => listT_all h (f := k + 1) (t := 7) (by omega) (by omega))
  have HLS := hid (fun W g' (h : TS w2 g' W t s T T) => law_sheet g' 1 t T W at_ h.tab)
  have HLL := hid (fun W g' f u (h : TS w2 g' W t s T T) => table_List g' 1 t T W f u at_ h.tab)
  clear h3
  go_wp2_with fail
  (with_reducible refine (HLL.out w3 g 0 7 H3.out).mono ?_)
  rintro e w4 ⟨a4, c4, rfl, hs4, hb, hc4⟩
  obtain rfl := hc4 rfl
  have H4 := hid (H3.out.below hb)
  have S4 := hid hs4
  clear hb hs4 H3 hc4
  go_wp2_with fail
  (with_reducible refine (HLS.out w4 g H4.out).mono ?_)
  rintro e w5 ⟨rfl, hb⟩
  have H5 := hid (H4.out.below hb)
  have S5 := hid (sliceAt_below S4.out hb)
  clear hb H4 S4
  cases hco : codesT T at_ 8 with
  | false =>
    have h := HLC.out
    rw [hco, if_neg (by simp)] at h
    obtain ⟨h1, h2⟩ := h
    have z1 : ((listT T 0 7 at_).2 == 0) = false := by simpa using h2
    rw [h1] at S5 ⊢
    clear h2 hco h1 HL2 HL3 HL4
    generalize (listT T 0 7 at_).2 = code at *
    generalize sheetT T at_ = f at *
    go_wp2_with (refine wpList_new_vals w5 rfl (.tmp 12) (.tmp 43) rfl f rfl rfl ?_; intro w6 hL6 hb6; have B6 := hid (H5.out.base.below.trans (hb6.mono H5.out.base.size)); clear hL6 hb6)
    go_ret
    exact ⟨rfl, B2.out.trans (B6.out.mono B2.out.size)⟩
  | true =>
    have h := HLC.out
    rw [hco, if_pos rfl] at h
    rw [h] at S5 ⊢
    have L2 := HL2.out hco
    have L3 := HL3.out hco
    have L4 := HL4.out hco
    rw [h] at L2
    clear h hco HLC HL2 HL3 HL4
    generalize sheetT T at_ = f at *
    have hZn : (entsOf f (List.range 8)).length ≤ 8 := by simpa using entsOf_len f (List.range 8)
    have HAT := hid (entsOf_at f)
    have HSU := hid (entsOf_succ f)
    have E8 := hid (show (entsOf f (List.range 8)).length = (entsOf f (List.range 8)).length from rfl)
    have L2h := hid L2
    have L3h := hid L3
    have L4h := hid L4
    clear L2 L3 L4
    have HEQ : ∃ Z, Z = entsOf f (List.range 8) := ⟨_, rfl⟩
    obtain ⟨Z, hZ⟩ := HEQ
    rw [← hZ] at S5 hZn ⊢
    have HZ := hid hZ
    clear hZ E8
    go_wp2_with (refine wpList_new_vals w5 rfl (.tmp 12) (.tmp 43) rfl f rfl rfl ?_; intro w6 hL6 hb6; have L6 := hid hL6; have H6 := hid (H5.out.fresh (Evo.of_below g 0 hb6)); have S6 := hid (sliceAt_below S5.out hb6); clear hL6 hb6)
    clear H5 S5
    go_loopw [14, 15] (fun n i wr => ∃ k : Nat, k ≤ 8 ∧ i = .int .i64 k ∧ n = .int .i64 ((entsOf f (List.range k)).length : Nat) ∧ Hid (Below w6.heap.size w6 wr)) (fun _ i _ => 8 - (intOf i).toNat)
    case atStart => exact ⟨0, by omega, rfl, rfl, hid (Below.refl _ _)⟩
    case round =>
      obtain ⟨k, hk, rfl, rfl, HB⟩ := hrel
      have Lr := hid (L6.out.keep HB.out)
      have Sr := hid (sliceAt_below S6.out HB.out)
      by_cases hlt : k < 8
      · have hki : (k : Int) < 8 := by omega
        have hk0 : (0 : Int) ≤ (k : Int) := by omega
        have hsu := HSU.out k
        have hat := HAT.out k hlt
        have c1 := (Lr.out.cell (k * 2)).trans (vals8_get _ k hlt).1
        have c2 := (Lr.out.cell (k * 2 + 1)).trans (vals8_get _ k hlt).2
        rw [← HZ.out] at hat
        generalize entsOf f (List.range k) = pre at *
        generalize f k = v at *
        obtain ⟨vt, vs⟩ := v
        cases vt with
        | false =>
          simp only [Bool.false_eq_true, if_false, List.append_nil] at hsu
          have HSU' := hid hsu
          clear hat hsu
          go_wp2
          go_roundw
          case rel => exact ⟨k + 1, by omega, by go_num, by rw [HSU'.out], HB⟩
          case measure => simp [intOf]; omega
        | true =>
          have hz := hat rfl
          have hnl : pre.length < Z.length := (List.getElem?_eq_some_iff.1 hz).1
          have hze := (List.getElem?_eq_some_iff.1 hz).2
          obtain ⟨b1, o1, rfl, v1⟩ := Sr.out.ents (by omega)
          obtain ⟨p1, p2, p3⟩ := v1 pre.length hnl
          rw [hze] at p1 p2 p3
          have hni : (pre.length : Int) < (Z.length : Int) := by omega
          have hn0 : (0 : Int) ≤ (pre.length : Int) := by omega
          have hn9 : (pre.length : Int) < 100 := by omega
          have hsu' : (entsOf f (List.range (k + 1))).length = pre.length + 1 := by rw [hsu]; simp
          have HSU' := hid hsu'
          clear hat hz hze v1 hsu hsu'
          generalize pre.length = n at *
          generalize Z.length = zn at *
          go_wp2_with fail
          go_quiet (fail)
          have HB2 := hid (HB.out.trans ((below_drewN wr nq).mono HB.out.size))
          go_wp2
          go_roundw
          case rel => exact ⟨k + 1, by omega, by go_num, by rw [HSU'.out]; simp, HB2⟩
          case measure => simp [intOf]; omega
      · obtain rfl : k = 8 := by omega
        rw [← HZ.out]
        have Hr := hid (H6.out.below HB.out)
        have hr1 : (IntKind.u64.wrap cut).tmod 7 = (((IntKind.u64.wrap cut).toNat % 7 : Nat) : Int) := umod_nat cut 7
        have hr2 := Nat.mod_lt (IntKind.u64.wrap cut).toNat (show 0 < 7 by omega)
        generalize (IntKind.u64.wrap cut).toNat % 7 = K at *
        have l3 : listT T 0 (K : Int) at_ = (entsOf f ((List.range (K + 1)).drop 0), 0) := L3h.out K (by omega)
        have l4 : listT T ((K + 1 : Nat) : Int) 7 at_ = (entsOf f ((List.range (7 + 1)).drop (K + 1)), 0) := L4h.out K hr2
        have l2 := L2h.out K hr2
        have hln := entsOf_len f ((List.range (K + 1)).drop 0)
        have hln2 := entsOf_len f ((List.range (7 + 1)).drop (K + 1))
        rw [l3, l4, ← HZ.out] at l2
        simp only at l2
        have hl6 : (entsOf f ((List.range (K + 1)).drop 0)).length ≤ 1000000 := by refine Nat.le_trans hln ?_; simp; omega
        have hl7 : (entsOf f ((List.range (7 + 1)).drop (K + 1))).length ≤ 1000000 := by refine Nat.le_trans hln2 ?_; simp; omega
        have LL1 := hid (fun W g' (h : TS w2 g' W t s T T) => HLL.out W g' 0 K h)
        have LL2 := hid (fun W g' (h : TS w2 g' W t s T T) => HLL.out W g' ((K + 1 : Nat) : Int) 7 h)
        rw [l3] at LL1
        rw [l4] at LL2
        generalize entsOf f ((List.range (K + 1)).drop 0) = A at *
        generalize entsOf f ((List.range (7 + 1)).drop (K + 1)) = Bl at *
        have e2 : ((K + 1 : Nat) : Int) = (K : Int) + 1 := by omega
        rw [e2] at LL2
        have HLN := hid l2
        have hK7 : (K : Int) < 7 := by omega
        have hK0 : (0 : Int) ≤ (K : Int) := by omega
        clear l2 l3 l4 hln hln2 e2 L6 Lr H6 S6 HAT HSU L2h L3h L4h HLS
        go_wp2_with fail
        (with_reducible refine (LL1.out wr _ Hr.out).mono ?_)
        rintro e w7 ⟨a7, c7, rfl, hs7, hb, hc7⟩
        obtain rfl := hc7 rfl
        have H7 := hid (Hr.out.below hb)
        have S7 := hid hs7
        have Z7 := hid (sliceAt_below Sr.out hb)
        clear hb hs7 hc7 Hr Sr
        go_wp2_with fail
        (with_reducible refine (LL2.out w7 _ H7.out).mono ?_)
        rintro e w8 ⟨a8, c8, rfl, hs8, hb, hc8⟩
        obtain rfl := hc8 rfl
        have H8 := hid (H7.out.below hb)
        have S8 := hid (sliceAt_below S7.out hb)
        have Z8 := hid (sliceAt_below Z7.out hb)
        clear hc8 S7 Z7 H7
        obtain ⟨a9, c9, w9, hrun, hs9, hb9⟩ := run_append_full w8 23 a7 a8 A Bl Bl.length hl6 hl7 S8.out hs8
        rw [HLN.out] at hs9 hrun
        have B9 := hid (H8.out.base.below.trans (hb9.mono H8.out.base.size))
        have HSP := hid (ref_SamePairs a9 a4 c9 Z.length Z Z w9 (by omega) (by omega) hs9 (sliceAt_below Z8.out hb9))
        have HRUN := hid hrun
        clear hb hs8 hrun hs9 hb9 S8 Z8
        generalize Z.length = zn at *
        go_wp2_with (refine wpList_append_run rfl (.tmp 113) (.tmp 114) 23 rfl _ _ _ w9 rfl rfl HRUN.out ?_)
        (with_reducible refine HSP.out.mono ?_)
        rintro e w10 ⟨bb, rfl, hbb, hb⟩
        obtain rfl : bb = true := hbb.2 rfl
        have B10 := hid (B9.out.trans (hb.mono B9.out.size))
        clear hb hbb
        go_wp2
        go_ret
        exact ⟨rfl, B2.out.trans (B10.out.mono B2.out.size)⟩

end Go.Proofs.Ytoiobhcgpajogab
