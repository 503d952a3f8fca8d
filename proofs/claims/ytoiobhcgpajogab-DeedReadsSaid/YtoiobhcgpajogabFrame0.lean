/- What comes in: values, opened off their reading. -/
import Derived.Test.YtoiobhcgpajogabRows
import Derived.Test.YtoiobhcgpajogabKit
import Derived.ProofKit
import Derived.OpenShut
import Derived.ShutString
import Derived.ChangeOld
import Derived.Deep.Strs
import Derived.Lib.SmallJoins
namespace Go.Proofs.Ytoiobhcgpajogab
open Go.ChangeShapes Go.WideShapes Go.ChangeAt Go.RowKit Go.Deep
open Go.ChangeMaps (open_string shut_string)
set_option linter.unusedVariables false

theorem own : ownKnob Try.prog.godebug = none := by kernel_rfl
theorem laidOut : laidOutB Try.prog = true := by kernel_rfl

section
variable {H : Type} {enc : TypeId × Value → H} {w : World} {base : Nat} {spare : Nat → Bool} {held : Bool}

set_option maxRecDepth 100000 in
theorem elem_val {fuel : Nat} {cs : List Value} {x : DataW H × List MemPlace} (h : DataW.trod enc Try.prog w base spare held fuel 32 cs = some x) :
    ∃ v : Val, cs = [.bool v.there, .string v.bytes] ∧ v.bytes.size ≤ maxLen := by
  obtain ⟨y0, y1, n, -, hl, h0, h1⟩ := trod_struct2 Try.underlying32 h
  have c2 : Try.prog.cellsOf 32 = 2 := by kernel_rfl
  have cb : Try.prog.cellsOf 4 = 1 := by kernel_rfl
  have cstr : Try.prog.cellsOf 9 = 1 := by kernel_rfl
  rw [c2] at hl
  match cs, hl with
  | [c0, c1], _ =>
    obtain ⟨b, e0, -⟩ := DataW.trod_bool Try.underlying4 h0
    obtain ⟨s, e1, -, hs⟩ := DataW.trod_string Try.underlying9 h1
    simp [cb, cstr] at e0 e1
    exact ⟨⟨b, s⟩, by rw [e0, e1], hs⟩

theorem elem_int {fuel : Nat} {cs : List Value} {x : DataW H × List MemPlace} (h : DataW.trod enc Try.prog w base spare held fuel 3 cs = some x) : ∃ n : Int, cs = [.int .i64 n] ∧ (Lit.int .i64 n).wf = true := by
  obtain ⟨n, e, -, hw⟩ := DataW.trod_int Try.underlying3 h
  exact ⟨n, e, hw⟩

end

theorem flat_length {α : Type} (en : α → List Value) (st : Nat) (hst : ∀ x, (en x).length = st) (l : List α) : (l.flatMap en).length = l.length * st := by
  induction l with
  | nil => simp
  | cons y l ih => rw [List.flatMap_cons, List.length_append, hst, ih, List.length_cons, Nat.succ_mul]; omega

theorem build_slice {α : Type} (en : α → List Value) (st : Nat) (hst : ∀ x, (en x).length = st) (hpos : 0 < st) (Pr : α → Prop) (w : World) (a : Addr) (len : Nat)
    (h : ∀ i, i < len → ∃ x, Pr x ∧ ∀ k u, (en x)[k]? = some u → w.cell? (a.add (i * st + k)) = some u) :
    ∃ l : List α, l.length = len ∧ (∀ x ∈ l, Pr x) ∧ ∀ j u, (l.flatMap en)[j]? = some u → w.cell? (a.add j) = some u := by
  induction len with
  | zero => exact ⟨[], rfl, by simp, by simp⟩
  | succ n ih =>
    obtain ⟨l, hl, hp, hc⟩ := ih (fun i hi => h i (by omega))
    obtain ⟨x, hx, hxc⟩ := h n (by omega)
    have hlen : (l.flatMap en).length = n * st := by rw [flat_length en st hst, hl]
    refine ⟨l ++ [x], by simp [hl], ?_, ?_⟩
    · intro y hy
      rcases List.mem_append.1 hy with hy | hy
      · exact hp y hy
      · rw [List.mem_singleton] at hy; subst hy; exact hx
    · intro j u hu
      rw [List.flatMap_append] at hu
      by_cases hj : j < n * st
      · rw [List.getElem?_append_left (by omega)] at hu
        exact hc j u hu
      · rw [List.getElem?_append_right (by omega), hlen] at hu
        have := hxc (j - n * st) u (by simpa using hu)
        rwa [show n * st + (j - n * st) = j by omega] at this

end Go.Proofs.Ytoiobhcgpajogab
