/- What comes in, with the reach: strings and values. -/
import Derived.Test.YtoiobhcgpajogaaFrame
import Derived.SizedLaws
namespace Go.Proofs.Ytoiobhcgpajogaa
open Go.ChangeShapes Go.WideShapes Go.ChangeAt Go.RowKit Go.Deep
set_option linter.unusedVariables false

section
variable {H : Type} {enc : TypeId × Value → H} {w : World} {base : Nat} {spare : Nat → Bool} {held : Bool}

set_option maxRecDepth 100000 in
theorem elem_val_d {fuel : Nat} {cs : List Value} {x : DataW H × List MemPlace} (h : DataW.trod enc Try.prog w base spare held fuel 24 cs = some x) :
    ∃ v : Val, cs = [.bool v.there, .string v.bytes] ∧ v.bytes.size ≤ maxLen ∧ ∃ y, x.1 = .agg [y, .lit (.string v.bytes.data.toList)] := by
  obtain ⟨y0, y1, n, hx, hl, h0, h1⟩ := trod_struct2 Try.underlying24 h
  have c2 : Try.prog.cellsOf 24 = 2 := by kernel_rfl
  have cb : Try.prog.cellsOf 4 = 1 := by kernel_rfl
  have cstr : Try.prog.cellsOf 9 = 1 := by kernel_rfl
  rw [c2] at hl
  match cs, hl with
  | [c0, c1], _ =>
    obtain ⟨b, e0, -⟩ := DataW.trod_bool Try.underlying4 h0
    obtain ⟨s, e1, ey, hs⟩ := DataW.trod_string Try.underlying9 h1
    simp [cb, cstr] at e0 e1
    exact ⟨⟨b, s⟩, by rw [e0, e1], hs, y0.1, by rw [hx, ey]⟩

theorem sized_val {ts : List TypeId} {ds : List (DataW H)} (h : (DataW.weightsEach Try.prog ts ds).all (· ≤ reachBytes) = true) {j : Nat} {y : DataW H} {bytes : List UInt8} (ht : ts[j]? = some 24) (hd : ds[j]? = some (.agg [y, .lit (.string bytes)])) : bytes.length ≤ reachBytes := by
  have := List.all_eq_true.1 h _ (DataW.weights_mem_each ht hd bytes.length (by simp [DataW.weights, DataW.weightsEach, Try.underlying24]))
  simpa using this
end

end Go.Proofs.Ytoiobhcgpajogaa
