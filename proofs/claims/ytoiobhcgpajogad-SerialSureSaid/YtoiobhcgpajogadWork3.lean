/- The walks of the document's deed: Writes, May. -/
import Derived.Test.YtoiobhcgpajogadWork2
namespace Go.Proofs.Ytoiobhcgpajogad
open Go.RowKit
theorem clash_at {D : Ded} {T : Tab} {k : Nat} {v : Val} (hk : k < 8) (h : D.wrote k = some v) (hs : D.beg < lastN (T.l k)) : clashD D T = true := by
  unfold clashD
  rw [List.any_eq_true]
  refine ⟨⟨k, v⟩, mem_writesTo.2 ⟨k, hk, rfl, h⟩, ?_⟩
  simp only [decide_eq_true_eq]
  unfold sinceT; rw [if_neg (by omega)]; exact hs

theorem clash_none {D : Ded} {T : Tab} (h : ∀ (k : Nat) v, k < 8 → D.wrote k = some v → lastN (T.l k) ≤ D.beg) : clashD D T = false := by
  rw [Bool.eq_false_iff]
  intro hc
  unfold clashD at hc
  rw [List.any_eq_true] at hc
  obtain ⟨x, hx, hd⟩ := hc
  obtain ⟨k, hk, h1, h2⟩ := mem_writesTo.1 hx
  have := h k x.v hk h2
  rw [h1] at hd
  simp only [decide_eq_true_eq] at hd
  unfold sinceT at hd
  rw [if_neg (by omega), Int.toNat_natCast] at hd
  omega

theorem stale_at {D : Ded} {T : Tab} {k : Nat} (hk : k < 8) (h : D.read k = true) (hs : D.beg < lastN (T.l k)) : staleD D T = true := by
  unfold staleD
  rw [List.any_eq_true]
  refine ⟨k, mem_readsTo.2 ⟨hk, h⟩, ?_⟩
  simp only [decide_eq_true_eq]
  unfold sinceT; rw [if_neg (by omega)]; exact hs

theorem stale_none {D : Ded} {T : Tab} (h : ∀ (k : Nat), k < 8 → D.read k = true → lastN (T.l k) ≤ D.beg) : staleD D T = false := by
  rw [Bool.eq_false_iff]
  intro hc
  unfold staleD at hc
  rw [List.any_eq_true] at hc
  obtain ⟨k, hx, hd⟩ := hc
  obtain ⟨hk, h1⟩ := mem_readsTo.1 hx
  have := h k hk h1
  simp only [decide_eq_true_eq] at hd
  unfold sinceT at hd
  rw [if_neg (by omega), Int.toNat_natCast] at hd
  omega

theorem below_dN {B : Nat} {w w' : World} (h : Below B w w') (n : Nat) : Below B w (w'.drewN n) := ⟨h.os, h.tape, h.output, h.size, h.block⟩

end Go.Proofs.Ytoiobhcgpajogad
