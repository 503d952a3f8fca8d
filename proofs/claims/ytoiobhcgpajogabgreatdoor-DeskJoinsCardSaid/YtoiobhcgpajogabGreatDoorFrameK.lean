/- What comes in: slices of strings; what a card's row gives: the library's variables. -/
import Derived.Test.YtoiobhcgpajogabGreatDoorFrame0
import Derived.Test.YtoiobhcgpajogabGreatDoorFrameC
import Derived.Test.YtoiobhcgpajogabGreatDoorDesk11
import Derived.SizedLaws
namespace Go.Proofs.YtoiobhcgpajogabGreatDoor
open Go.ChangeShapes Go.WideShapes Go.ChangeAt Go.RowKit
set_option linter.unusedVariables false

section
variable {H : Type} {enc : TypeId × Value → H} {w : World} {base : Nat} {spare : Nat → Bool} {held : Bool}
end

theorem open_strsK {H : Type} {enc : TypeId × Value → H} {w : World} {spare : Nat → Bool} {held : Bool} {a : Option Addr} {len cap : Nat} {d : DataW H} {p : List MemPlace}
    (h : DataW.Trod enc Tryz.prog w 0 spare held 22 (.slice a len cap) d p) :
    ∃ l : List ByteArray, l.length = len ∧ LinesAt w (fun _ => 0) a l ∧ len ≤ cap ∧ len ≤ maxLen ∧ (l = [] ∨ ∃ sp, d = .slice (l.map fun s => .lit (.string s.data.toList)) sp) := by
  obtain ⟨fuel, hf⟩ := h
  rcases Go.Deep.open_strs Tryz.underlying22 Tryz.underlying9 (by kernel_rfl) hf with ⟨hcs, hx⟩ | ⟨ad, ln, c, m, Sx, hcs, _, hl, hm, hmm, hx, hcell⟩
  · simp [Value.cells] at hcs
    obtain ⟨rfl, rfl, rfl⟩ := hcs
    exact ⟨[], rfl, .inl rfl, Nat.le_refl _, by simp [maxLen], .inl rfl⟩
  · simp [Value.cells] at hcs
    obtain ⟨rfl, rfl, rfl⟩ := hcs
    have hlm : len ≤ m := by rw [hmm]; split <;> omega
    simp only [Prod.mk.injEq] at hx
    refine ⟨(List.range len).map Sx, by simp, ?_, hl, by omega, .inr ⟨_, by rw [hx.1, List.map_map]; rfl⟩⟩
    by_cases h0 : len = 0
    · subst h0; exact .inl rfl
    · right
      obtain ⟨b, o, spot⟩ := ad
      have hspot : spot = none := by simpa [Addr.add] using World.cell?_spot (hcell 0 (by omega)).1
      subst hspot
      refine ⟨b, o, rfl, ?_, rfl, fun j x hj => ?_⟩
      · exact World.block_lt_of_cell? w ⟨b, o, none⟩ (by have := (hcell 0 (by omega)).1; simpa [Addr.add] using this)
      · rw [List.getElem?_map] at hj
        obtain ⟨i, hi, rfl⟩ := Option.map_eq_some_iff.1 hj
        have hi' := List.getElem?_eq_some_iff.1 hi
        have hj' : j < len := by simpa using hi'.1
        obtain rfl : j = i := by simpa using hi'.2
        have := (hcell j (by omega)).1
        rwa [show (⟨b, o, none⟩ : Addr).add j = ⟨b, o + j, none⟩ by unfold Addr.add; split <;> simp_all] at this

theorem weights_strs {H : Type} {P : Program} {e : TypeId} : ∀ (l : List ByteArray) (x : ByteArray), x ∈ l → x.size ∈ DataW.weightsAll P e (l.map fun s => (DataW.lit (.string s.data.toList) : DataW H))
  | [], _, h => by cases h
  | y :: l, x, h => by
    rw [List.map_cons, DataW.weightsAll]
    rcases List.mem_cons.1 h with rfl | h
    · exact List.mem_append_left _ (by simp [DataW.weights])
    · exact List.mem_append_right _ (weights_strs l x h)

theorem sized_strs {H : Type} {ts : List TypeId} {ds : List (DataW H)} (h : (DataW.weightsEach Tryz.prog ts ds).all (· ≤ reachBytes) = true) {j : Nat} {d : DataW H} {l : List ByteArray} (ht : ts[j]? = some 22) (hd : ds[j]? = some d)
    (hl : l = [] ∨ ∃ sp, d = .slice (l.map fun s => .lit (.string s.data.toList)) sp) : ∀ x ∈ l, x.size ≤ 140737488355328 := by
  intro x hx
  rcases hl with rfl | ⟨sp, rfl⟩
  · cases hx
  · have := List.all_eq_true.1 h _ (DataW.weights_mem_each ht hd x.size (by
      simp only [DataW.weights, Tryz.underlying22]
      exact List.mem_cons_of_mem _ (List.mem_append_left _ (weights_strs l x hx))))
    have := of_decide_eq_true this
    have := reachBytes_lt
    omega

theorem Tryz.starE : "*" ++ "errors.errorString" = "*errors.errorString" := by decide
theorem Tryz.rowE (u : TypeId) (h : Tryz.prog.typeName? 3 u = some "*errors.errorString") : u = 175 :=
  typeName_ptr_named (nm := "errors.errorString") (by rw [Tryz.starE]; kernel_rfl) (by kernel_rfl) (by decide) u (by rw [Tryz.starE]; exact h)
theorem Tryz.cellsE : Tryz.prog.cellsOf 177 = 1 := by kernel_rfl
theorem Tryz.cellsS : Tryz.prog.cellsOf 9 = 1 := by kernel_rfl
theorem Tryz.gRng : Tryz.prog.globalNamed "strconv.ErrRange" = some 2 := by kernel_rfl
theorem Tryz.gSyn : Tryz.prog.globalNamed "strconv.ErrSyntax" = some 1 := by kernel_rfl
theorem Tryz.gRngT : (Tryz.prog.globals[2]?).map (·.type) = some 78 := by kernel_rfl
theorem Tryz.gSynT : (Tryz.prog.globals[1]?).map (·.type) = some 78 := by kernel_rfl

theorem globC_of {W : World} (hL : laidMet Tryz.prog laidL W) (hS : W.ShapedOpen Tryz.prog) : GlobC W (fun _ => 0) := by
  have h3 := hL.tail.tail
  have h5 := h3.tail.tail
  obtain ⟨a1, s1, hv1, -, -, -⟩ := laid_sentinel h5 Tryz.gRng Tryz.gRngT Tryz.underlying78 Tryz.rowE Tryz.underlying175 Tryz.underlying177 rfl rfl Tryz.underlying9 Tryz.cellsE Tryz.cellsS
  obtain ⟨a2, s2, hv2, -, -, -⟩ := laid_sentinel h5.tail Tryz.gSyn Tryz.gSynT Tryz.underlying78 Tryz.rowE Tryz.underlying175 Tryz.underlying177 rfl rfl Tryz.underlying9 Tryz.cellsE Tryz.cellsS
  exact ⟨Lib.tabIs_of_head (n := 20) (t := 179) (e := 146) Tryz.globTab (by kernel_rfl) (by kernel_rfl) (by kernel_rfl) (by kernel_rfl) (by kernel_rfl) h3, Tryz.laysM144.s1_3 W hS,
    ⟨_, World.var?_cell Tryz.gSyn hv2 0, .inr ⟨_, _, rfl⟩⟩, ⟨_, World.var?_cell Tryz.gRng hv1 0, .inr ⟨_, _, rfl⟩⟩, rfl, rfl, rfl, rfl⟩

end Go.Proofs.YtoiobhcgpajogabGreatDoor
