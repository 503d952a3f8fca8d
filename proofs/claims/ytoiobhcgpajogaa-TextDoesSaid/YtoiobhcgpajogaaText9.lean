/- The walk of TextDoes. -/
import Derived.Test.YtoiobhcgpajogaaText8
namespace Go.Proofs.Ytoiobhcgpajogaa
open Go.RowKit

set_option maxHeartbeats 4000000 in
set_option maxRecDepth 100000 in
theorem walk_TextDoes (s t : ByteArray) (b : Bool) (v : ByteArray) (w : World) (hs : s.size ≤ 140737488351232) (ht : t.size ≤ 140737488351232) (hv : v.size ≤ 140737488351232) :
    Calls Try.prog 6 #[.string s, .string t, .agg #[.bool b, .string v]] w (TruePost w) := by
  have hbegun := law_textBegun (w.alloc (.cells #[.bool b, .string v] 24))
  have B0 := LocC.new (fun _ => 0) 0 w 24 [.bool b, .string v]
  have hbox : Below w.heap.size w (w.alloc (.cells #[.bool b, .string v] 24)) := (Below.refl _ _).alloc (Nat.le_refl _) _
  by_cases hg : 2000 < s.size + t.size + v.size
  · have hg' : (2000 : Int) < (s.size : Int) + (t.size : Int) + (v.size : Int) := by omega
    have HB := hid hbegun
    clear hbegun
    go_enter Try.func6, Try.ntmps6
    go_wp2_with fail
    refine HB.out.mono ?_
    rintro e w1 ⟨rfl, hb⟩
    have hb1 := hid (hbox.trans (hb.mono (by simp)))
    obtain ⟨b1, b2, -⟩ := (B0.1.keep hb).two
    clear hb B0 hbox
    go_wp2
    go_ret
    exact ⟨rfl, hb1.out⟩
  · have hg' : (s.size : Int) + (t.size : Int) + (v.size : Int) ≤ 2000 := by omega
    have HB := hid hbegun
    clear hbegun
    go_enter Try.func6, Try.ntmps6
    go_wp2_with fail
    refine HB.out.mono ?_
    rintro e w1 ⟨rfl, hb⟩
    have hb1 := hid (hbox.trans (hb.mono (by simp)))
    have L1 := B0.1.keep hb
    obtain ⟨b1, b2, -⟩ := L1.two
    have L1h := hid L1
    clear hb B0 hbox L1
    go_wp2_with fail
    refine (text_Mean t _ (by omega)).mono ?_
    generalize hm : meanL t.data.toList = m
    have HM := hid hm
    clear hm
    rintro e w2 ⟨rfl, hb⟩
    have hb2 := hid (hb1.out.trans (hb.mono hb1.out.size))
    have L2 := hid (L1h.out.keep hb)
    clear hb L1h hb1 b1 b2
    go_wp2_with fail
    refine (ref_Meant t _ (by omega)).mono ?_
    rw [HM.out]
    rintro e w3 ⟨rfl, hb⟩
    have hb3 := hid (hb2.out.trans (hb.mono hb2.out.size))
    have L3 := hid (L2.out.keep hb)
    clear hb L2 hb2
    have keep : ∀ W', Below w3.heap.size w3 W' → (Below w3.heap.size w3 W' ∧ W'.cell? ⟨w.heap.size, 0, none⟩ = some (.bool b) ∧ W'.cell? ⟨w.heap.size, 1, none⟩ = some (.string v)) := by
      intro W' hW
      obtain ⟨a1, a2, -⟩ := (L3.out.keep hW).two
      exact ⟨hW, a1, a2⟩
    have KS := hid keep
    have S0 := hid (show s.size ≤ 1000000 by omega)
    have V0 := hid (show v.size ≤ 1000000 by omega)
    have q1 : (showL s.data.toList == showL s.data.toList) = true := by simp
    have q2 : (m.getD [] == m.getD []) = true := by simp
    have q3 : (m.isSome == m.isSome) = true := by simp
    have q4 : (valL ⟨b, v⟩ == valL ⟨b, v⟩) = true := by simp
    have K3 := KS.out _ (Below.refl _ _)
    clear keep
    go_wp2_with fail
    go_region_held3 (fun W' : World => Below w3.heap.size w3 W' ∧ W'.cell? ⟨w.heap.size, 0, none⟩ = some (.bool b) ∧ W'.cell? ⟨w.heap.size, 1, none⟩ = some (.string v))
      (first | assumption | exact KS.out _ (Below.refl _ _).drew)
      (first
        | (go_at_call 34; have hS := ‹Below w3.heap.size w3 _ ∧ _›.1; refine (text_Show s _ S0.out).mono ?_; rintro e w' ⟨rfl, hb⟩; have hS' := KS.out _ (hS.trans (hb.mono hS.size)); clear hb hS)
        | (go_at_call 35; have hS := ‹Below w3.heap.size w3 _ ∧ _›.1; refine (ref_Shown s _ S0.out).mono ?_; rintro e w' ⟨rfl, hb⟩; have hS' := KS.out _ (hS.trans (hb.mono hS.size)); clear hb hS)
        | (go_at_call 36; have hS := ‹Below w3.heap.size w3 _ ∧ _›.1; refine (text_Value b v _ V0.out).mono ?_; rintro e w' ⟨rfl, hb⟩; have hS' := KS.out _ (hS.trans (hb.mono hS.size)); clear hb hS)
        | (go_at_call 37; have hS := ‹Below w3.heap.size w3 _ ∧ _›.1; refine (ref_ValueText b v _ V0.out).mono ?_; rintro e w' ⟨rfl, hb⟩; have hS' := KS.out _ (hS.trans (hb.mono hS.size)); clear hb hS))
    have hS := ‹Below w3.heap.size w3 _ ∧ _›.1
    go_wp2
    go_ret
    exact ⟨rfl, hb3.out.trans (hS.mono hb3.out.size)⟩

end Go.Proofs.Ytoiobhcgpajogaa
