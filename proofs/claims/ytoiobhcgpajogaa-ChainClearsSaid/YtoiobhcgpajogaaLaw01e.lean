/- The walk of ChainClears. -/
import Derived.Test.YtoiobhcgpajogaaPlain01
namespace Go.Proofs.Ytoiobhcgpajogaa
open Go.RowKit

theorem clear_read {m : List Ent} (h : Sorted m) (least a : Int) (ha : least ≤ a) : readC (m.drop (clearK least m)) a = readC m a := by
  have hs := h.drop _ (clearK_lt least m h.1)
  by_cases hk : clearK least m = 0
  · rw [hk]; rfl
  · rw [← read_same hs, ← read_same h]
    unfold readR
    by_cases h0 : a < 0
    · simp [h0]
    · simp only [h0, if_false]
      have hf : (m.drop (clearK least m)).reverse.find? (fun e => decide (e.n ≤ a)) ≠ none := by
        intro hn
        have h1 := (find_first hs a).1 hn
        have h2 := (clearK_step least m (clearK least m - 1) (by omega)).1 (by omega)
        obtain ⟨h3, h4⟩ := h2
        have e : clearK least m - 1 + 1 = clearK least m := by omega
        have h5 : firstN (m.drop (clearK least m)) = m[clearK least m - 1 + 1].n := by
          rw [← firstN_get _ (by simp; omega)]
          simp [e]
        omega
      have e : m.reverse = (m.drop (clearK least m)).reverse ++ (m.take (clearK least m)).reverse := by rw [← List.reverse_append, List.take_append_drop]
      rw [e, List.find?_append]
      cases hc : (m.drop (clearK least m)).reverse.find? (fun e => decide (e.n ≤ a)) with
      | none => exact absurd hc hf
      | some x => rfl

theorem clear_last {m : List Ent} (k : Nat) (hk : k < m.length) : lastN (m.drop k) = lastN m := by
  unfold lastN
  rw [List.getLastD_eq_getLast?, List.getLastD_eq_getLast?, List.getLast?_drop, if_neg (by omega)]

theorem clear_first {m : List Ent} (_h : m ≠ []) (least : Int) : firstN (m.drop (clearK least m)) = firstN m ∨ firstN (m.drop (clearK least m)) ≤ least := by
  by_cases hk : clearK least m = 0
  · left; rw [hk]; rfl
  · right
    obtain ⟨h3, h4⟩ := (clearK_step least m (clearK least m - 1) (by omega)).1 (by omega)
    have e : clearK least m - 1 + 1 = clearK least m := by omega
    have h5 : firstN (m.drop (clearK least m)) = m[clearK least m - 1 + 1].n := by
      rw [← firstN_get _ (by simp; omega)]
      simp [e]
    omega

theorem clear_again (least : Int) : ∀ m : List Ent, clearK least (m.drop (clearK least m)) = 0
  | [] => rfl
  | [_] => rfl
  | a :: e :: l => by
    have ih := clear_again least (e :: l)
    by_cases he : e.n ≤ least
    · have e1 : clearK least (a :: e :: l) = clearK least (e :: l) + 1 := by simp [clearK, he]
      rw [e1, List.drop_succ_cons]
      exact ih
    · have e1 : clearK least (a :: e :: l) = 0 := by simp [clearK, he]
      rw [e1]
      exact e1

set_option maxHeartbeats 8000000 in
set_option maxRecDepth 100000 in
theorem walk_ChainClears (a : Option Addr) (cap : Nat) (l : List CStep) (least x : Int) (w : World) (hl : l.length ≤ 9223372036854775807) (hA : CStepsAt w a l) (_ : (Lit.int .i64 least).wf = true) (_ : (Lit.int .i64 x).wf = true) :
    Calls Try.prog 5 #[.slice a l.length cap, .int .i64 least, .int .i64 x] w (TruePost w) := by
  have hbegun := law_chainBegun w
  have hgreat := fun w1 (h : CStepsAt w1 a l) => law_greatChain a cap l w1 hl h
  cases hg : greatC l
  case true =>
    rw [hg] at hgreat
    have HG := hid hgreat
    have HB := hid hbegun
    clear hg hgreat hbegun
    go_enter Try.func5, Try.ntmps5
    go_wp2_with fail
    refine HB.out.mono ?_
    rintro e w1 ⟨rfl, hb1⟩
    go_wp2_with fail
    refine (HG.out _ (hA.below hb1 (Nat.le_refl _))).mono ?_
    rintro e w2 ⟨rfl, hb⟩
    go_wp2_with fail
    go_ret
    exact ⟨rfl, hb1.trans (hb.mono hb1.size)⟩
  case false =>
    rw [hg] at hgreat
    have h80 : l.length ≤ 80 := by
      unfold greatC at hg
      simp at hg
      exact hg.2
    have HG := hid hgreat
    have HB := hid hbegun
    clear hg hgreat hbegun
    by_cases hxl : x < least
    · go_enter Try.func5, Try.ntmps5
      go_wp2_with fail
      refine HB.out.mono ?_
      rintro e w1 ⟨rfl, hb1⟩
      go_wp2_with fail
      refine (HG.out _ (hA.below hb1 (Nat.le_refl _))).mono ?_
      rintro e w2 ⟨rfl, hb⟩
      go_wp2_with fail
      go_ret
      exact ⟨rfl, hb1.trans (hb.mono hb1.size)⟩
    · have hxl' : least ≤ x := by omega
      go_enter Try.func5, Try.ntmps5
      go_wp2_with fail
      refine HB.out.mono ?_
      rintro e w1 ⟨rfl, hb1⟩
      go_wp2_with fail
      refine (HG.out _ (hA.below hb1 (Nat.le_refl _))).mono ?_
      rintro e w2 ⟨rfl, hb⟩
      have hb2 := hb1.trans (hb.mono hb1.size)
      clear hb hb1
      go_wp2_with fail
      refine (law_chains a cap l w2 h80 (hA.below hb2 (Nat.le_refl _))).mono ?_
      rintro e w3 ⟨g, c, ab, v, rfl, H3⟩
      have B2 := hid hb2
      have hlen : (runC l).length ≤ 1000000 := by have := runC_length l; omega
      have hso := runC_sorted l
      have r1 := clear_read hso least x hxl'
      have r2 := clear_last (clearK least (runC l)) (clearK_lt least (runC l) hso.1)
      have r3 := clear_first hso.1 least
      have r4 := clear_again least (runC l)
      have r5 : (runC l).length = clearK least (runC l) + ((runC l).drop (clearK least (runC l))).length := by have := clearK_lt least (runC l) hso.1; simp; omega
      have hC := hid (⟨H3.base, H3.chain⟩ : CB w2 g w3 c _)
      clear H3 hb2 hA hso HG HB hxl
      generalize runC l = m at *
      generalize hK : clearK least m = K at *
      generalize hm' : m.drop K = m' at *
      have hlen' : m'.length ≤ 1000000 := by rw [← hm']; simp; omega
      have e5 : ((K : Int) == (m.length : Int) - (m'.length : Int)) = true := by rw [beq_iff_eq]; omega
      have K1 := hid hK
      have K2 := hid hm'
      have R1 := hid r1
      have R2 := hid r2
      have R4 := hid r4
      clear hK hm' r1 r2 r4 r5
      go_wp2_with fail
      refine (chain_Read _ _ _ _ w3 x hlen hC.out.chain).mono ?_
      rintro e w4 ⟨rfl, hb⟩
      have H4 := hid (hC.out.below hb)
      clear hb
      generalize hy : readC m x = y at *
      have Y := hid hy
      clear hy
      go_wp2_with fail
      have M5 := hid (LocC.new g 0 w4 24 [.bool y.1.there, .string y.1.bytes])
      have H5 := hid (H4.out.alloc (.cells #[.bool y.1.there, .string y.1.bytes] 24))
      refine (chain_First _ _ _ _ _ H5.out.chain).mono ?_
      rintro e w6 ⟨rfl, rfl⟩
      go_wp2_with fail
      refine (chain_Last _ _ _ _ _ H5.out.chain hlen).mono ?_
      rintro e w6 ⟨rfl, hb⟩
      have H6 := hid (H5.out.below hb)
      have M6 := hid (M5.out.below hb)
      clear hb
      go_wp2_with fail
      refine (chain_List _ _ _ _ _ hlen H6.out.chain).mono ?_
      rintro e w7 ⟨v', rfl, hb, ho, -⟩
      obtain ⟨a', cap', rfl, -, -⟩ := ownsRow.sliceAt ho
      have H7 := hid (H6.out.below hb)
      have M7 := hid (M6.out.below hb)
      clear hb ho
      go_wp2_with fail
      have P := chain_Clear _ _ _ _ _ least hlen H7.out.chain
      rw [K1.out, K2.out] at P
      refine P.mono ?_
      clear P
      rintro e w8 ⟨rfl, g8, hC8, hE⟩
      have H8 := hid (H7.out.evo hE hC8)
      have M8 := hid (M7.out.frame hE (by omega))
      clear hC8 hE
      go_wp2_with fail
      have P := chain_Read _ _ _ _ _ x hlen' H8.out.chain
      rw [R1.out] at P
      refine P.mono ?_
      clear P
      rintro e w9 ⟨rfl, hb⟩
      have H9 := hid (H8.out.below hb)
      have M9 := hid (M8.out.below hb)
      clear hb
      obtain ⟨q1, q2, -, -⟩ := M9.out.1.two
      have q3 := M9.out.1.lt
      by_cases hff : firstN m' = firstN m
      all_goals
        have f1 : (firstN m' == firstN m) = decide (firstN m' = firstN m) := rfl
        simp only [hff, decide_true, decide_false] at f1
        have f2 : firstN m' = firstN m ∨ firstN m' ≤ least := r3
        simp only [hff, true_or, false_or] at f2
        have FF := hid hff
        clear r3 hff
        go_wp2_with fail
        have H10 := hid (H9.out.alloc (.cells #[.bool y.1.there, .string y.1.bytes] 24))
        refine (chain_List _ _ _ _ _ hlen' H10.out.chain).mono ?_
        rintro e w11 ⟨v', rfl, hb, ho, -⟩
        obtain ⟨a2, cap2, rfl, -, -⟩ := ownsRow.sliceAt ho
        have H11 := hid (H10.out.below hb)
        clear hb ho
        go_wp2_with fail
        refine (chain_Last _ _ _ _ _ H11.out.chain hlen').mono ?_
        rintro e w12 ⟨rfl, hb⟩
        have H12 := hid (H11.out.below hb)
        clear hb
        rw [R2.out]
        go_wp2_with fail
        refine (chain_First _ _ _ _ _ H12.out.chain).mono ?_
        rintro e w13 ⟨rfl, rfl⟩
        go_wp2_with fail
        try (go_at_call 25; refine (chain_First _ _ _ _ _ H12.out.chain).mono ?_; rintro e w13 ⟨rfl, rfl⟩; go_wp2_with fail)
        have P := chain_Clear _ _ _ _ _ least hlen' H12.out.chain
        rw [R4.out] at P
        refine P.mono ?_
        clear P
        rintro e w14 ⟨rfl, g14, hC14, hE⟩
        have H14 := hid (H12.out.evo hE hC14)
        clear hC14 hE
        go_wp2_with fail
        go_ret
        exact ⟨rfl, B2.out.trans (H14.out.base.below.mono B2.out.size)⟩

end Go.Proofs.Ytoiobhcgpajogaa
