/- What comes in: slices of steps of a table. -/
import Derived.Test.YtoiobhcgpajogadGreatFrame0
import Derived.Test.YtoiobhcgpajogadGreatTStep
namespace Go.Proofs.YtoiobhcgpajogadGreat
open Go.ChangeShapes Go.WideShapes Go.ChangeAt Go.RowKit Go.Deep
set_option linter.unusedVariables false

/-- A slice of pairs among the cells of a struct. -/
theorem elem_pairs {H : Type} {enc : TypeId × Value → H} {w : World} {spare : Nat → Bool} {held : Bool} {fuel : Nat} {u : Value} {x : DataW H × List MemPlace}
    (h : DataW.trod enc Tryz.prog w 0 spare held fuel 41 [u] = some x) : ∃ (a : Option Addr) (cap : Nat) (l : List Ent), u = .slice a l.length cap ∧ PairsAt w a l ∧ l.length ≤ maxLen := by
  rcases open_slice Tryz.underlying41 h with ⟨hcs, _⟩ | ⟨ad, ln, c, m, n, D, Pl, hcs, _, hl, hm, hmm, _, hel⟩
  · simp at hcs
    subst hcs
    obtain ⟨l, hl, hP, hm⟩ := open_pairs (a := none) (len := 0) (cap := 0) (d := x.1) (p := x.2) ⟨fuel, h⟩
    exact ⟨none, 0, l, by rw [hl], hP, by rw [hl]; exact hm⟩
  · simp at hcs
    subst hcs
    obtain ⟨l, hl', hP, hm'⟩ := open_pairs (a := some ad) (len := ln) (cap := c) (d := x.1) (p := x.2) ⟨fuel, h⟩
    exact ⟨some ad, c, l, by rw [hl'], hP, by rw [hl']; exact hm'⟩

end Go.Proofs.YtoiobhcgpajogadGreat
/- What comes in: slices of steps of a log. -/
namespace Go.Proofs.YtoiobhcgpajogadGreat
open Go.ChangeShapes Go.WideShapes Go.ChangeAt Go.RowKit Go.Deep
end Go.Proofs.YtoiobhcgpajogadGreat
/- What comes in: slices of steps of a deed. -/
namespace Go.Proofs.YtoiobhcgpajogadGreat
open Go.ChangeShapes Go.WideShapes Go.ChangeAt Go.RowKit Go.Deep
set_option linter.unusedVariables false

end Go.Proofs.YtoiobhcgpajogadGreat
