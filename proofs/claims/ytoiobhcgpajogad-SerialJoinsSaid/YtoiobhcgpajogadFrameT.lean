/- What comes in: slices of steps of a table. -/
import Derived.Test.YtoiobhcgpajogadFrame0
import Derived.Test.YtoiobhcgpajogadTStep
namespace Go.Proofs.Ytoiobhcgpajogad
open Go.ChangeShapes Go.WideShapes Go.ChangeAt Go.RowKit Go.Deep
set_option linter.unusedVariables false

/-- A slice of pairs among the cells of a struct. -/
theorem elem_pairs {H : Type} {enc : TypeId × Value → H} {w : World} {spare : Nat → Bool} {held : Bool} {fuel : Nat} {u : Value} {x : DataW H × List MemPlace}
    (h : DataW.trod enc Try.prog w 0 spare held fuel 41 [u] = some x) : ∃ (a : Option Addr) (cap : Nat) (l : List Ent), u = .slice a l.length cap ∧ PairsAt w a l ∧ l.length ≤ maxLen := by
  rcases open_slice Try.underlying41 h with ⟨hcs, _⟩ | ⟨ad, ln, c, m, n, D, Pl, hcs, _, hl, hm, hmm, _, hel⟩
  · simp at hcs
    subst hcs
    obtain ⟨l, hl, hP, hm⟩ := open_pairs (a := none) (len := 0) (cap := 0) (d := x.1) (p := x.2) ⟨fuel, h⟩
    exact ⟨none, 0, l, by rw [hl], hP, by rw [hl]; exact hm⟩
  · simp at hcs
    subst hcs
    obtain ⟨l, hl', hP, hm'⟩ := open_pairs (a := some ad) (len := ln) (cap := c) (d := x.1) (p := x.2) ⟨fuel, h⟩
    exact ⟨some ad, c, l, by rw [hl'], hP, by rw [hl']; exact hm'⟩

end Go.Proofs.Ytoiobhcgpajogad
/- What comes in: slices of steps of a log. -/
namespace Go.Proofs.Ytoiobhcgpajogad
open Go.ChangeShapes Go.WideShapes Go.ChangeAt Go.RowKit Go.Deep
end Go.Proofs.Ytoiobhcgpajogad
/- What comes in: slices of steps of a deed. -/
namespace Go.Proofs.Ytoiobhcgpajogad
open Go.ChangeShapes Go.WideShapes Go.ChangeAt Go.RowKit Go.Deep
set_option linter.unusedVariables false

theorem trod_struct5 {H : Type} {enc : TypeId × Value → H} {P : Program} {w : World} {base : Nat} {spare : Nat → Bool} {held : Bool} {t : TypeId} {f0 f1 f2 f3 f4 : Field} {fuel : Nat} {cs : List Value} {x : DataW H × List MemPlace}
    (ht : P.underlying t = some (.struct #[f0, f1, f2, f3, f4])) (h : DataW.trod enc P w base spare held fuel t cs = some x) :
    ∃ y0 y1 y2 y3 y4 n, cs.length = P.cellsOf t ∧ DataW.trod enc P w base spare held n f0.type ((cs.drop f0.offset).take (P.cellsOf f0.type)) = some y0 ∧
      DataW.trod enc P w base spare held n f1.type ((cs.drop f1.offset).take (P.cellsOf f1.type)) = some y1 ∧ DataW.trod enc P w base spare held n f2.type ((cs.drop f2.offset).take (P.cellsOf f2.type)) = some y2 ∧
      DataW.trod enc P w base spare held n f3.type ((cs.drop f3.offset).take (P.cellsOf f3.type)) = some y3 ∧ DataW.trod enc P w base spare held n f4.type ((cs.drop f4.offset).take (P.cellsOf f4.type)) = some y4 := by
  obtain ⟨xs, n, _, rfl, hl, hlen, hf⟩ := DataW.trod_struct ht h
  match xs, hlen with
  | [y0, y1, y2, y3, y4], _ => exact ⟨y0, y1, y2, y3, y4, n, hl, by simpa using hf 0 f0 rfl, by simpa using hf 1 f1 rfl, by simpa using hf 2 f2 rfl, by simpa using hf 3 f3 rfl, by simpa using hf 4 f4 rfl⟩

end Go.Proofs.Ytoiobhcgpajogad
