/- What comes in: what all keys have, opened off its reading. -/
import Derived.Test.YtoiobhcgpajogadFrameS
import Derived.Test.YtoiobhcgpajogadVals
namespace Go.Proofs.Ytoiobhcgpajogad
open Go.ChangeShapes Go.WideShapes Go.ChangeAt Go.RowKit Go.Deep
set_option linter.unusedVariables false

set_option maxRecDepth 100000 in
theorem open_vals8 {H : Type} {enc : TypeId × Value → H} {w : World} {spare : Nat → Bool} {held : Bool} {cs : Array Value} {d : DataW H} {p : List MemPlace}
    (h : DataW.Trod enc Try.prog w 0 spare held 47 (.agg cs) d p) : ∃ f : Nat → Val, cs = (vals8 f).toArray := by
  obtain ⟨fuel, hf⟩ := h
  obtain ⟨xs, m, -, -, hl, hlen, hat⟩ := DataW.trod_array Try.underlying47 hf
  have c1 : Try.prog.cellsOf 47 = 16 := by kernel_rfl
  have c2 : Try.prog.cellsOf 40 = 2 := by kernel_rfl
  obtain ⟨cs⟩ := cs
  simp only [Value.cells] at hl hat
  rw [c1] at hl
  have hall : ∀ i, i < 8 → ∃ v : Val, (cs.drop (i * 2)).take 2 = [.bool v.there, .string v.bytes] := fun i hi => by
    have q := hat i hi
    rw [c2, List.getElem?_eq_getElem (by omega)] at q
    obtain ⟨v, e, -⟩ := elem_val q
    exact ⟨v, e⟩
  obtain ⟨v0, e0⟩ := hall 0 (by omega)
  obtain ⟨v1, e1⟩ := hall 1 (by omega)
  obtain ⟨v2, e2⟩ := hall 2 (by omega)
  obtain ⟨v3, e3⟩ := hall 3 (by omega)
  obtain ⟨v4, e4⟩ := hall 4 (by omega)
  obtain ⟨v5, e5⟩ := hall 5 (by omega)
  obtain ⟨v6, e6⟩ := hall 6 (by omega)
  obtain ⟨v7, e7⟩ := hall 7 (by omega)
  clear hall hat
  match cs, hl with
  | [a0, a1, a2, a3, a4, a5, a6, a7, a8, a9, a10, a11, a12, a13, a14, a15], _ =>
    simp at e0 e1 e2 e3 e4 e5 e6 e7
    refine ⟨fun k => [v0, v1, v2, v3, v4, v5, v6, v7].getD k Val.zero, ?_⟩
    rw [e0.1, e0.2, e1.1, e1.2, e2.1, e2.2, e3.1, e3.2, e4.1, e4.2, e5.1, e5.2, e6.1, e6.2, e7.1, e7.2]
    rfl

theorem open_acts2 {H : Type} {enc : TypeId × Value → H} {w : World} {spare : Nat → Bool} {held : Bool} {a : Option Addr} {len cap : Nat} {d : DataW H} {p : List MemPlace}
    (h : DataW.Trod enc Try.prog w 0 spare held 28 (.slice a len cap) d p) :
    ∃ l : List Acx, l.length = len ∧ ActsAt w a l ∧ len ≤ maxLen ∧ len ≤ cap := by
  obtain ⟨l, h1, h2, h3, h4, h5, -⟩ := open_flat encAcx 6 (fun _ => rfl) (by omega) (fun v => ListAt w v) Try.underlying28 (by kernel_rfl) (fun h => elem_act h) h
  exact ⟨l, h1, ⟨h2, h3⟩, h5, h4⟩

set_option maxRecDepth 100000 in
theorem agg_vals8 {w : World} {base : Nat} {v : Value} (h : Value.okWide Try.prog w .any base 47 v) : ∃ cs, v = .agg cs := by
  unfold Value.okWide at h
  rw [Try.underlying47] at h
  obtain ⟨cs, e, -⟩ := h
  exact ⟨cs, e⟩

end Go.Proofs.Ytoiobhcgpajogad
