/- The walk of Reads of the document's deed. -/
import Derived.Test.YtoiobhcgpajogacWork4
namespace Go.Proofs.Ytoiobhcgpajogac
open Go.RowKit

set_option maxHeartbeats 2000000 in
set_option maxRecDepth 100000 in
theorem work_Reads (g : Nat → Nat) (p b : Nat) (D : Ded) (N : Nat) (w : World) (hN : N ≤ 1000000) (hW : WorkAt w g p b D N) :
    Calls Try.prog 33 #[.pointer (some ⟨b, 0, none⟩)] w (IntsPost (readsD D) w) := by
  obtain ⟨W, vr, vw, hC⟩ := hW
  obtain ⟨i0, hi, hz0, hz1, hz2⟩ := info_parts Try.infoInt
  have HC := hid hC
  have HW := hid (fun (k : Nat) => readsTo_succ D k)
  have HL := hid (readsTo_length D)
  have N0 := hid (World.ownsRow_nil w w.heap.size 3 1)
  clear hC
  go_enter Try.func33, Try.ntmps33
  go_wp2_with fail
  go_loopw [3, 4] (fun o i wr => ∃ k : Nat, k ≤ 8 ∧ i = .int .i64 k ∧ Hid (wr.ownsRow w.heap.size 3 1 o (readsTo D k).length (encI (readsTo D k))) ∧ Hid (Below w.heap.size w wr)) (fun _ i _ => 8 - (intOf i).toNat)
  case atStart => exact ⟨0, by omega, rfl, N0, hid (Below.refl _ _)⟩
  case round =>
    obtain ⟨k, hk, rfl, HO, HB⟩ := hrel
    clear N0
    by_cases h8 : k < 8
    · have hst := HW.out k
      have hle := HL.out k
      have hki : (k : Int) < 8 := by omega
      have hk0 : (0 : Int) ≤ (k : Int) := by omega
      obtain ⟨ao, co, rfl, -, -⟩ := ownsRow.sliceAt HO.out
      have hRb := HC.out.below HB.out
      obtain ⟨ar, cr, hvr, hrs, -⟩ := ownsRow.sliceAt hRb.rr.1
      have hIn := hid (ref_In_same ar cr W.reads k _ (by have := HC.out.reads; omega) hrs)
      rw [show W.reads.any (fun (y : Nat) => (y : Int) == (k : Int)) = D.read k by rw [← HC.out.abs]; rfl] at hIn
      have k2 := hRb.loc.1.cell 2
      simp only [List.getElem?_cons_succ, List.getElem?_cons_zero] at k2
      rw [hvr] at k2
      clear hRb hrs hvr
      generalize readsTo D k = out at *
      have q1 : out.length + 1 ≤ maxLen := by unfold maxLen; omega
      have q2 : (out.length + 1) * 8 ≤ 140737488355328 := by omega
      cases hw : D.read k with
      | false =>
        rw [hw] at hst hIn
        simp only [Bool.false_eq_true, if_false, List.append_nil] at hst
        have HST := hid hst
        clear hst hw
        go_wp2_with fail
        refine hIn.out.mono ?_
        rintro e w2 ⟨rfl, rfl⟩
        go_wp2
        go_roundw
        case rel => exact ⟨k + 1, by omega, by go_num, hid (by rw [HST.out]; exact HO.out), HB⟩
        case measure => simp [intOf]; omega
      | true =>
        rw [hw] at hst hIn
        rw [if_pos rfl] at hst
        have HST := hid hst
        have hwz := HB.out.size
        clear hst hw
        go_wp2_with fail
        refine hIn.out.mono ?_
        rintro e w2 ⟨rfl, rfl⟩
        go_wp2_with (refine wpList_append_own _ rfl (.tmp 15) (.tmp 17) 34 rfl w.heap.size 3 i0 (.int .i64 0) 1 8 Try.underlying34 hi hz0 hz1 hz2 rfl (by decide) (.slice ao out.length co) out.length (encI out) rfl (HO.out.alloc _) ⟨wr.heap.size, 0, none⟩ 1 1 [.int .i64 k] rfl rfl ?c1 ?c2 q1 q2 ?c5 ?_)
        case c1 => exact cells_new wr [.int .i64 k] 3
        case c2 => intro u hu; simp at hu; subst hu; rfl
        case c5 => simp; omega
        intro v' w2 hown' hgrow _
        have HB2 := hid ((HB.out.alloc HB.out.size (.cells #[.int .i64 k] 3)).grown hgrow (by simp; omega) (fun j hj => (HO.out.lt j hj).1))
        have HO2 := hid (show w2.ownsRow w.heap.size 3 1 v' (out ++ [k]).length (encI (out ++ [k])) by rw [encI_append, List.length_append]; exact hown')
        clear hown' hgrow
        go_wp2
        go_roundw
        case rel => exact ⟨k + 1, by omega, by go_num, hid (by rw [HST.out]; exact HO2.out), HB2⟩
        case measure => simp [intOf]; omega
    · obtain rfl : k = 8 := by omega
      obtain ⟨a, cap, rfl, hs, -⟩ := ownsRow.sliceAt HO.out
      have HS := hid hs
      clear hs
      go_wp2
      go_ret
      exact ⟨a, cap, rfl, HS.out, HB.out⟩

end Go.Proofs.Ytoiobhcgpajogac
