/- The walk of SameVersions, where both are the same. -/
import Derived.Test.YtoiobhcgpajogaaLine3
namespace Go.Proofs.Ytoiobhcgpajogaa
open Go.RowKit

theorem below_cell {B : Nat} {w w' : World} (h : Below B w w') {b o : Nat} (hb : b < B) : w'.cell? ⟨b, o, none⟩ = w.cell? ⟨b, o, none⟩ := h.cell (p := ⟨b, o, none⟩) hb

set_option maxHeartbeats 1000000 in
set_option maxRecDepth 100000 in
theorem ref_SameVersions (a1 a2 : Option Addr) (c1 c2 : Nat) (l : List Ent) (w : World) (hn : l.length ≤ 1000000) (h1 : SliceAt w a1 (encEnts l)) (h2 : SliceAt w a2 (encEnts l)) :
    Calls Try.prog 27 #[.slice a1 l.length c1, .slice a2 l.length c2] w fun e w' => e = .returned (.bool true) ∧ Below w.heap.size w w' := by
  have H1 := hid h1
  have H2 := hid h2
  clear h1 h2
  go_enter Try.func27, Try.ntmps27
  go_wp2
  go_loopw [5] (fun i wr => ∃ k : Nat, k ≤ l.length ∧ i = .int .i64 k ∧ Below w.heap.size w wr) (fun i _ => l.length - (intOf i).toNat)
  case atStart => exact ⟨0, Nat.zero_le _, rfl, Below.refl _ _⟩
  case round =>
    obtain ⟨k, hk, rfl, hb⟩ := hrel
    by_cases hlt : k < l.length
    · obtain ⟨b1, o1, rfl, v1⟩ := H1.out.ents (by omega)
      obtain ⟨b2, o2, rfl, v2⟩ := H2.out.ents (by omega)
      obtain ⟨p1, p2, p3⟩ := v1 k hlt
      obtain ⟨q1, q2, q3⟩ := v2 k hlt
      have l1 := World.block_lt_of_cell? w _ p1
      have l2 := World.block_lt_of_cell? w _ q1
      simp only at l1 l2
      have P1 := (below_cell hb l1).trans p1
      have P2 := (below_cell hb l1).trans p2
      have P3 := (below_cell hb l1).trans p3
      have Q1 := (below_cell hb l2).trans q1
      have Q2 := (below_cell hb l2).trans q2
      have Q3 := (below_cell hb l2).trans q3
      have HB := hid hb
      clear v1 v2 p1 p2 p3 q1 q2 q3 hb
      generalize l[k] = e at *
      have hki : (k : Int) < (l.length : Int) := by omega
      have hk0 : (0 : Int) ≤ (k : Int) := by omega
      go_wp2_with fail
      go_quiet (fail)
      go_wp2
      go_roundw
      case rel => exact ⟨k + 1, by omega, by go_num, HB.out.trans ((below_drewN _ _).mono HB.out.size)⟩
      case measure => simp [intOf]; omega
    · obtain rfl : k = l.length := by omega
      have HB := hid hb
      clear hb
      go_wp2
      go_ret
      exact ⟨rfl, HB.out⟩

end Go.Proofs.Ytoiobhcgpajogaa
