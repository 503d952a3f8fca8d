/- What comes in: slices of acts, of deeds that were done. -/
import Derived.Test.YtoiobhcgpajogadFrameT
import Derived.Test.YtoiobhcgpajogadBook0
namespace Go.Proofs.Ytoiobhcgpajogad
open Go.ChangeShapes Go.WideShapes Go.ChangeAt Go.RowKit Go.Deep
open Go.ChangeMaps (open_string shut_string)
set_option linter.unusedVariables false

theorem trod_struct5s {H : Type} {enc : TypeId × Value → H} {P : Program} {w : World} {base : Nat} {spare : Nat → Bool} {held : Bool} {t : TypeId} {f0 f1 f2 f3 f4 : Field} {fuel : Nat} {cs : List Value} {x : DataW H × List MemPlace}
    (ht : P.underlying t = some (.struct #[f0, f1, f2, f3, f4])) (h : DataW.trod enc P w base spare held fuel t cs = some x) :
    ∃ y0 y1 y2 y3 y4 n, cs.length = P.cellsOf t ∧ DataW.trod enc P w base spare held n f0.type ((cs.drop f0.offset).take (P.cellsOf f0.type)) = some y0 ∧
      DataW.trod enc P w base spare held n f1.type ((cs.drop f1.offset).take (P.cellsOf f1.type)) = some y1 ∧ DataW.trod enc P w base spare held n f2.type ((cs.drop f2.offset).take (P.cellsOf f2.type)) = some y2 ∧
      DataW.trod enc P w base spare held n f3.type ((cs.drop f3.offset).take (P.cellsOf f3.type)) = some y3 ∧ DataW.trod enc P w base spare held n f4.type ((cs.drop f4.offset).take (P.cellsOf f4.type)) = some y4 := by
  obtain ⟨xs, n, _, rfl, hl, hlen, hf⟩ := DataW.trod_struct ht h
  match xs, hlen with
  | [y0, y1, y2, y3, y4], _ => exact ⟨y0, y1, y2, y3, y4, n, hl, by simpa using hf 0 f0 rfl, by simpa using hf 1 f1 rfl, by simpa using hf 2 f2 rfl, by simpa using hf 3 f3 rfl, by simpa using hf 4 f4 rfl⟩

set_option maxRecDepth 100000 in
theorem elem_act {H : Type} {enc : TypeId × Value → H} {w : World} {spare : Nat → Bool} {held : Bool} {fuel : Nat} {cs : List Value} {x : DataW H × List MemPlace}
    (h : DataW.trod enc Try.prog w 0 spare held fuel 62 cs = some x) : ∃ v : Acx, cs = encAcx v ∧ ListAt w v := by
  obtain ⟨y0, y1, y2, y3, y4, n, hl, h0, h1, h2, h3, h4⟩ := trod_struct5s Try.underlying62 h
  have c6 : Try.prog.cellsOf 62 = 6 := by kernel_rfl
  have ci : Try.prog.cellsOf 3 = 1 := by kernel_rfl
  have cv : Try.prog.cellsOf 40 = 2 := by kernel_rfl
  have cp : Try.prog.cellsOf 41 = 1 := by kernel_rfl
  rw [c6] at hl
  match cs, hl with
  | [a0, a1, a2, a3, a4, a5], _ =>
    obtain ⟨n0, e0, -⟩ := elem_int h0
    obtain ⟨n1, e1, -⟩ := elem_int h1
    obtain ⟨n2, e2, -⟩ := elem_int h2
    obtain ⟨v, e3, hs⟩ := elem_val h3
    simp [ci, cv, cp] at e0 e1 e2 e3 h4
    obtain ⟨a, cap, l, rfl, hP, hm⟩ := elem_pairs h4
    exact ⟨⟨⟨n0, n1, n2, v, l⟩, a, cap⟩, by rw [e0, e1, e2, e3.1, e3.2]; rfl, hP, hm, hs⟩

theorem open_acts {H : Type} {enc : TypeId × Value → H} {w : World} {spare : Nat → Bool} {held : Bool} {a : Option Addr} {len cap : Nat} {d : DataW H} {p : List MemPlace}
    (h : DataW.Trod enc Try.prog w 0 spare held 28 (.slice a len cap) d p) :
    ∃ l : List Acx, l.length = len ∧ ActsAt w a l ∧ len ≤ maxLen := by
  obtain ⟨l, h1, h2, h3, -, h5, -⟩ := open_flat encAcx 6 (fun _ => rfl) (by omega) (fun v => ListAt w v) Try.underlying28 (by kernel_rfl) (fun h => elem_act h) h
  exact ⟨l, h1, ⟨h2, h3⟩, h5⟩


end Go.Proofs.Ytoiobhcgpajogad
