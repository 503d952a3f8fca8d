/- What comes in: slices of steps of a table. -/
import Derived.Test.YtoiobhcgpajogacFrame0
import Derived.Test.YtoiobhcgpajogacTStep
namespace Go.Proofs.Ytoiobhcgpajogac
open Go.ChangeShapes Go.WideShapes Go.ChangeAt Go.RowKit Go.Deep
set_option linter.unusedVariables false

/-- A slice of pairs among the cells of a struct. -/
theorem elem_pairs {H : Type} {enc : TypeId × Value → H} {w : World} {spare : Nat → Bool} {held : Bool} {fuel : Nat} {u : Value} {x : DataW H × List MemPlace}
    (h : DataW.trod enc Try.prog w 0 spare held fuel 35 [u] = some x) : ∃ (a : Option Addr) (cap : Nat) (l : List Ent), u = .slice a l.length cap ∧ PairsAt w a l ∧ l.length ≤ maxLen := by
  rcases open_slice Try.underlying35 h with ⟨hcs, _⟩ | ⟨ad, ln, c, m, n, D, Pl, hcs, _, hl, hm, hmm, _, hel⟩
  · simp at hcs
    subst hcs
    obtain ⟨l, hl, hP, hm⟩ := open_pairs (a := none) (len := 0) (cap := 0) (d := x.1) (p := x.2) ⟨fuel, h⟩
    exact ⟨none, 0, l, by rw [hl], hP, by rw [hl]; exact hm⟩
  · simp at hcs
    subst hcs
    obtain ⟨l, hl', hP, hm'⟩ := open_pairs (a := some ad) (len := ln) (cap := c) (d := x.1) (p := x.2) ⟨fuel, h⟩
    exact ⟨some ad, c, l, by rw [hl'], hP, by rw [hl']; exact hm'⟩

set_option maxRecDepth 100000 in
theorem elem_tstep {H : Type} {enc : TypeId × Value → H} {w : World} {spare : Nat → Bool} {held : Bool} {fuel : Nat} {cs : List Value} {x : DataW H × List MemPlace}
    (h : DataW.trod enc Try.prog w 0 spare held fuel 128 cs = some x) : ∃ v : TStep, cs = encT v ∧ (PairsAt w v.a v.w ∧ v.w.length ≤ maxLen) := by
  obtain ⟨y0, y1, y2, n, -, hl, h0, h1, h2⟩ := trod_struct3 Try.underlying128 h
  have c3 : Try.prog.cellsOf 128 = 3 := by kernel_rfl
  have ci : Try.prog.cellsOf 3 = 1 := by kernel_rfl
  have cp : Try.prog.cellsOf 35 = 1 := by kernel_rfl
  rw [c3] at hl
  match cs, hl with
  | [a0, a1, a2], _ =>
    obtain ⟨n0, e0, -⟩ := elem_int h0
    obtain ⟨n1, e1, -⟩ := elem_int h1
    simp [ci, cp] at e0 e1 h2
    obtain ⟨a, cap, l, rfl, hP, hm⟩ := elem_pairs h2
    exact ⟨⟨n0, n1, a, cap, l⟩, by rw [e0, e1]; rfl, hP, hm⟩

theorem open_tsteps {H : Type} {enc : TypeId × Value → H} {w : World} {spare : Nat → Bool} {held : Bool} {a : Option Addr} {len cap : Nat} {d : DataW H} {p : List MemPlace}
    (h : DataW.Trod enc Try.prog w 0 spare held 22 (.slice a len cap) d p) :
    ∃ l : List TStep, l.length = len ∧ TStepsAt w a l ∧ len ≤ maxLen := by
  obtain ⟨l, h1, h2, h3, -, h5, -⟩ := open_flat encT 3 (fun _ => rfl) (by omega) (fun v => PairsAt w v.a v.w ∧ v.w.length ≤ maxLen) Try.underlying22 (by kernel_rfl) (fun h => elem_tstep h) h
  exact ⟨l, h1, ⟨h2, h3⟩, h5⟩

end Go.Proofs.Ytoiobhcgpajogac
/- What comes in: slices of steps of a log. -/
namespace Go.Proofs.Ytoiobhcgpajogac
open Go.ChangeShapes Go.WideShapes Go.ChangeAt Go.RowKit Go.Deep
end Go.Proofs.Ytoiobhcgpajogac
/- What comes in: slices of steps of a deed. -/
namespace Go.Proofs.Ytoiobhcgpajogac
open Go.ChangeShapes Go.WideShapes Go.ChangeAt Go.RowKit Go.Deep
set_option linter.unusedVariables false

theorem trod_struct5 {H : Type} {enc : TypeId × Value → H} {P : Program} {w : World} {base : Nat} {spare : Nat → Bool} {held : Bool} {t : TypeId} {f0 f1 f2 f3 f4 : Field} {fuel : Nat} {cs : List Value} {x : DataW H × List MemPlace}
    (ht : P.underlying t = some (.struct #[f0, f1, f2, f3, f4])) (h : DataW.trod enc P w base spare held fuel t cs = some x) :
    ∃ y0 y1 y2 y3 y4 n, cs.length = P.cellsOf t ∧ DataW.trod enc P w base spare held n f0.type ((cs.drop f0.offset).take (P.cellsOf f0.type)) = some y0 ∧
      DataW.trod enc P w base spare held n f1.type ((cs.drop f1.offset).take (P.cellsOf f1.type)) = some y1 ∧ DataW.trod enc P w base spare held n f2.type ((cs.drop f2.offset).take (P.cellsOf f2.type)) = some y2 ∧
      DataW.trod enc P w base spare held n f3.type ((cs.drop f3.offset).take (P.cellsOf f3.type)) = some y3 ∧ DataW.trod enc P w base spare held n f4.type ((cs.drop f4.offset).take (P.cellsOf f4.type)) = some y4 := by
  obtain ⟨xs, n, _, rfl, hl, hlen, hf⟩ := DataW.trod_struct ht h
  match xs, hlen with
  | [y0, y1, y2, y3, y4], _ => exact ⟨y0, y1, y2, y3, y4, n, hl, by simpa using hf 0 f0 rfl, by simpa using hf 1 f1 rfl, by simpa using hf 2 f2 rfl, by simpa using hf 3 f3 rfl, by simpa using hf 4 f4 rfl⟩

set_option maxRecDepth 100000 in
theorem elem_dstep {H : Type} {enc : TypeId × Value → H} {w : World} {spare : Nat → Bool} {held : Bool} {fuel : Nat} {cs : List Value} {x : DataW H × List MemPlace}
    (h : DataW.trod enc Try.prog w 0 spare held fuel 41 cs = some x) : ∃ v : DStep, cs = encD v ∧ (PairsAt w v.a v.w ∧ v.w.length ≤ maxLen ∧ v.v.bytes.size ≤ maxLen) := by
  obtain ⟨y0, y1, y2, y3, y4, n, hl, h0, h1, h2, h3, h4⟩ := trod_struct5 Try.underlying41 h
  have c6 : Try.prog.cellsOf 41 = 6 := by kernel_rfl
  have ci : Try.prog.cellsOf 3 = 1 := by kernel_rfl
  have cv : Try.prog.cellsOf 39 = 2 := by kernel_rfl
  have cp : Try.prog.cellsOf 35 = 1 := by kernel_rfl
  rw [c6] at hl
  match cs, hl with
  | [a0, a1, a2, a3, a4, a5], _ =>
    obtain ⟨n0, e0, -⟩ := elem_int h0
    obtain ⟨n1, e1, -⟩ := elem_int h1
    obtain ⟨n2, e2, -⟩ := elem_int h2
    obtain ⟨v, e3, hs⟩ := elem_val h3
    simp [ci, cv, cp] at e0 e1 e2 e3 h4
    obtain ⟨a, cap, l, rfl, hP, hm⟩ := elem_pairs h4
    exact ⟨⟨n0, n1, n2, v, a, cap, l⟩, by rw [e0, e1, e2, e3.1, e3.2]; rfl, hP, hm, hs⟩

theorem open_dsteps {H : Type} {enc : TypeId × Value → H} {w : World} {spare : Nat → Bool} {held : Bool} {a : Option Addr} {len cap : Nat} {d : DataW H} {p : List MemPlace}
    (h : DataW.Trod enc Try.prog w 0 spare held 23 (.slice a len cap) d p) :
    ∃ l : List DStep, l.length = len ∧ DStepsAt w a l ∧ len ≤ maxLen := by
  obtain ⟨l, h1, h2, h3, -, h5, -⟩ := open_flat encD 6 (fun _ => rfl) (by omega) (fun v => PairsAt w v.a v.w ∧ v.w.length ≤ maxLen ∧ v.v.bytes.size ≤ maxLen) Try.underlying23 (by kernel_rfl) (fun h => elem_dstep h) h
  exact ⟨l, h1, ⟨h2, h3⟩, h5⟩

end Go.Proofs.Ytoiobhcgpajogac
