/- What comes in: slices of steps of a table. -/
import Derived.Test.YtoiobhcgpajogabFrame3
import Derived.Test.YtoiobhcgpajogabTStep
namespace Go.Proofs.Ytoiobhcgpajogab
open Go.ChangeShapes Go.WideShapes Go.ChangeAt Go.RowKit Go.Deep
set_option linter.unusedVariables false

/-- A slice of pairs among the cells of a struct. -/
theorem elem_pairs {H : Type} {enc : TypeId × Value → H} {w : World} {spare : Nat → Bool} {held : Bool} {fuel : Nat} {u : Value} {x : DataW H × List MemPlace}
    (h : DataW.trod enc Try.prog w 0 spare held fuel 23 [u] = some x) : ∃ (a : Option Addr) (cap : Nat) (l : List Ent), u = .slice a l.length cap ∧ PairsAt w a l ∧ l.length ≤ maxLen := by
  rcases open_slice Try.underlying23 h with ⟨hcs, _⟩ | ⟨ad, ln, c, m, n, D, Pl, hcs, _, hl, hm, hmm, _, hel⟩
  · simp at hcs
    subst hcs
    obtain ⟨l, hl, hP, hm⟩ := open_pairs (a := none) (len := 0) (cap := 0) (d := x.1) (p := x.2) ⟨fuel, h⟩
    exact ⟨none, 0, l, by rw [hl], hP, by rw [hl]; exact hm⟩
  · simp at hcs
    subst hcs
    obtain ⟨l, hl', hP, hm'⟩ := open_pairs (a := some ad) (len := ln) (cap := c) (d := x.1) (p := x.2) ⟨fuel, h⟩
    exact ⟨some ad, c, l, by rw [hl'], hP, by rw [hl']; exact hm'⟩

set_option maxRecDepth 100000 in
theorem elem_tstep {H : Type} {enc : TypeId × Value → H} {w : World} {spare : Nat → Bool} {held : Bool} {fuel : Nat} {cs : List Value} {x : DataW H × List MemPlace}
    (h : DataW.trod enc Try.prog w 0 spare held fuel 44 cs = some x) : ∃ v : TStep, cs = encT v ∧ (PairsAt w v.a v.w ∧ v.w.length ≤ maxLen) := by
  obtain ⟨y0, y1, y2, n, -, hl, h0, h1, h2⟩ := trod_struct3 Try.underlying44 h
  have c3 : Try.prog.cellsOf 44 = 3 := by kernel_rfl
  have ci : Try.prog.cellsOf 3 = 1 := by kernel_rfl
  have cp : Try.prog.cellsOf 23 = 1 := by kernel_rfl
  rw [c3] at hl
  match cs, hl with
  | [a0, a1, a2], _ =>
    obtain ⟨n0, e0, -⟩ := elem_int h0
    obtain ⟨n1, e1, -⟩ := elem_int h1
    simp [ci, cp] at e0 e1 h2
    obtain ⟨a, cap, l, rfl, hP, hm⟩ := elem_pairs h2
    exact ⟨⟨n0, n1, a, cap, l⟩, by rw [e0, e1]; rfl, hP, hm⟩

theorem open_tsteps {H : Type} {enc : TypeId × Value → H} {w : World} {spare : Nat → Bool} {held : Bool} {a : Option Addr} {len cap : Nat} {d : DataW H} {p : List MemPlace}
    (h : DataW.Trod enc Try.prog w 0 spare held 22 (.slice a len cap) d p) :
    ∃ l : List TStep, l.length = len ∧ TStepsAt w a l ∧ len ≤ maxLen := by
  obtain ⟨l, h1, h2, h3, -, h5, -⟩ := open_flat encT 3 (fun _ => rfl) (by omega) (fun v => PairsAt w v.a v.w ∧ v.w.length ≤ maxLen) Try.underlying22 (by kernel_rfl) (fun h => elem_tstep h) h
  exact ⟨l, h1, ⟨h2, h3⟩, h5⟩

end Go.Proofs.Ytoiobhcgpajogab
