/- What comes in: slices of steps of a hall. -/
import Derived.Test.YtoiobhcgpajogadGreatFrame0
import Derived.Test.YtoiobhcgpajogadGreatHall6
namespace Go.Proofs.YtoiobhcgpajogadGreat
open Go.ChangeShapes Go.WideShapes Go.ChangeAt Go.RowKit Go.Deep
open Go.ChangeMaps (open_string shut_string)
set_option linter.unusedVariables false

theorem trod_struct8 {H : Type} {enc : TypeId × Value → H} {P : Program} {w : World} {base : Nat} {spare : Nat → Bool} {held : Bool} {t : TypeId} {f0 f1 f2 f3 f4 f5 f6 f7 : Field} {fuel : Nat} {cs : List Value} {x : DataW H × List MemPlace}
    (ht : P.underlying t = some (.struct #[f0, f1, f2, f3, f4, f5, f6, f7])) (h : DataW.trod enc P w base spare held fuel t cs = some x) :
    ∃ y0 y1 y2 y3 y4 y5 y6 y7 n, cs.length = P.cellsOf t ∧ DataW.trod enc P w base spare held n f0.type ((cs.drop f0.offset).take (P.cellsOf f0.type)) = some y0 ∧
      DataW.trod enc P w base spare held n f1.type ((cs.drop f1.offset).take (P.cellsOf f1.type)) = some y1 ∧ DataW.trod enc P w base spare held n f2.type ((cs.drop f2.offset).take (P.cellsOf f2.type)) = some y2 ∧
      DataW.trod enc P w base spare held n f3.type ((cs.drop f3.offset).take (P.cellsOf f3.type)) = some y3 ∧ DataW.trod enc P w base spare held n f4.type ((cs.drop f4.offset).take (P.cellsOf f4.type)) = some y4 ∧
      DataW.trod enc P w base spare held n f5.type ((cs.drop f5.offset).take (P.cellsOf f5.type)) = some y5 ∧ DataW.trod enc P w base spare held n f6.type ((cs.drop f6.offset).take (P.cellsOf f6.type)) = some y6 ∧
      DataW.trod enc P w base spare held n f7.type ((cs.drop f7.offset).take (P.cellsOf f7.type)) = some y7 := by
  obtain ⟨xs, n, _, rfl, hl, hlen, hf⟩ := DataW.trod_struct ht h
  match xs, hlen with
  | [y0, y1, y2, y3, y4, y5, y6, y7], _ => exact ⟨y0, y1, y2, y3, y4, y5, y6, y7, n, hl, by simpa using hf 0 f0 rfl, by simpa using hf 1 f1 rfl, by simpa using hf 2 f2 rfl, by simpa using hf 3 f3 rfl, by simpa using hf 4 f4 rfl, by simpa using hf 5 f5 rfl, by simpa using hf 6 f6 rfl, by simpa using hf 7 f7 rfl⟩

set_option maxRecDepth 100000 in
theorem elem_hstep {H : Type} {enc : TypeId × Value → H} {w : World} {spare : Nat → Bool} {held : Bool} {fuel : Nat} {cs : List Value} {x : DataW H × List MemPlace}
    (h : DataW.trod enc Tryz.prog w 0 spare held fuel 55 cs = some x) : ∃ v : St, cs = stL v ∧ v.bytes.size ≤ maxLen := by
  obtain ⟨y0, y1, y2, y3, y4, y5, y6, y7, n, hl, h0, h1, h2, h3, h4, h5, h6, h7⟩ := trod_struct8 Tryz.underlying55 h
  have c8 : Tryz.prog.cellsOf 55 = 8 := by kernel_rfl
  have ci : Tryz.prog.cellsOf 3 = 1 := by kernel_rfl
  have cs1 : Tryz.prog.cellsOf 9 = 1 := by kernel_rfl
  rw [c8] at hl
  match cs, hl with
  | [a0, a1, a2, a3, a4, a5, a6, a7], _ =>
    obtain ⟨n0, e0, -⟩ := elem_int h0
    obtain ⟨n1, e1, -⟩ := elem_int h1
    obtain ⟨n2, e2, -⟩ := elem_int h2
    obtain ⟨n3, e3, -⟩ := elem_int h3
    obtain ⟨n4, e4, -⟩ := elem_int h4
    obtain ⟨n5, e5, -⟩ := elem_int h5
    obtain ⟨n6, e6, -⟩ := elem_int h6
    obtain ⟨s, e7, -, hs⟩ := DataW.trod_string Tryz.underlying9 h7
    simp [ci, cs1] at e0 e1 e2 e3 e4 e5 e6 e7
    exact ⟨⟨n0, n1, n2, n3, n4, n5, n6, s⟩, by rw [e0, e1, e2, e3, e4, e5, e6, e7]; rfl, hs⟩

theorem open_steps {H : Type} {enc : TypeId × Value → H} {w : World} {spare : Nat → Bool} {held : Bool} {a : Option Addr} {len cap : Nat} {d : DataW H} {p : List MemPlace}
    (h : DataW.Trod enc Tryz.prog w 0 spare held 22 (.slice a len cap) d p) :
    ∃ l : List St, l.length = len ∧ StepsAt w a l ∧ len ≤ maxLen := by
  obtain ⟨l, h1, h2, h3, -, h5, -⟩ := open_flat stL 8 (fun _ => rfl) (by omega) (fun v => v.bytes.size ≤ maxLen) Tryz.underlying22 (by kernel_rfl) (fun h => elem_hstep h) h
  exact ⟨l, h1, ⟨h2, h3⟩, h5⟩

end Go.Proofs.YtoiobhcgpajogadGreat
