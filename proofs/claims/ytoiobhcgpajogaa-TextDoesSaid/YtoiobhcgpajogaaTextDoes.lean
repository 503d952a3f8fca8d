/- Every Show, Mean and Value is as the document says: for every input TextDoes returns true, and the input stays. No condition. -/
import Derived.Test.YtoiobhcgpajogaaFrame2
import Derived.Test.YtoiobhcgpajogaaText9
namespace Go.Proofs.Ytoiobhcgpajogaa.textDoes
open Go.ChangeShapes Go.WideShapes Go.ChangeAt Go.RowKit
open Go.ChangeMaps (open_string shut_string)
set_option linter.unusedVariables false

set_option maxRecDepth 100000 in
theorem lifted (os : Os) (started : os.Started) (H : Type) (enc : TypeId × Value → H) :
    ReturnsInHanded {} Try.checked os 6 .any (Rows.textDoesSpec.pre6 enc Try.prog Try.f6 Rows.textDoesRow.domain false) (Rows.textDoesSpec.post enc Try.prog Try.f6 false true false false) := by
  refine returnsInHanded_of_change_sized (C := Try.checked) own started (by kernel_rfl) Try.func6
    (ChangeSpec.witness6 (enc := enc) (C := Try.checked) false ⟨#[], #[.string ByteArray.empty, .string ByteArray.empty, .agg #[.bool false, .string ByteArray.empty]], []⟩ 8 (by kernel_rfl) (by kernel_rfl) (by kernel_rfl) (by kernel_rfl)) ?_
  intro W base args ds gs before hval0 hW hcnd hsz0 _
  have hval : ∀ (j : Nat) t v, Try.f6.params[j]? = some t → args[j]? = some v → Value.okWide Try.prog W .any base t v := hval0
  have hW' := hW
  obtain ⟨p, q, hA0, hV, rfl, hfz, hnd⟩ := hW
  have hA : DataW.TrodAll enc Try.prog W 0 (fun _ => true) true Try.f6.params.toList args.toList ds p := hA0
  rw [Try.params6] at hA hval
  have hsz : (DataW.weightsEach Try.prog (Try.f6.params.toList ++ Rows.textDoesSpec.plain.varTypes Try.prog) (ds ++ gs)).all (· ≤ reachBytes) = true := hsz0
  rw [Try.params6] at hsz
  obtain ⟨v0, vs0, d0, ds0, p0, q0, hargs, rfl, rfl, h0, r0⟩ := trodAll_cons hA
  obtain ⟨v1, vs1, d1, ds1, p1, q1, rfl, rfl, rfl, h1, r1⟩ := trodAll_cons r0
  obtain ⟨v2, vs2, d2, ds2, p2, q2, rfl, rfl, rfl, h2, r2⟩ := trodAll_cons r1
  obtain ⟨rfl, rfl, rfl⟩ := trodAll_nil r2
  obtain rfl : args = #[v0, v1, v2] := by cases args; simp_all
  obtain ⟨rfl, rfl⟩ := trodVars_none hV
  have lt : ∀ {t v d p}, DataW.Trod enc Try.prog W 0 (fun _ => true) true t v d p → ∀ x ∈ p, x.block < W.heap.size := fun h => by obtain ⟨m, hm⟩ := h; exact DataW.trod_lt m _ _ _ hm
  have k0 := h0
  have k1 := h1
  have k2 := h2
  obtain ⟨x0, rfl, rfl, rfl, w0⟩ := open_string Try.underlying9 (hval 0 9 v0 rfl rfl) h0
  obtain ⟨x1, rfl, rfl, rfl, w1⟩ := open_string Try.underlying9 (hval 1 9 v1 rfl rfl) h1
  obtain ⟨cs2, rfl, hcs2⟩ := okWide_struct Try.underlying24 (hval 2 24 v2 rfl rfl)
  obtain ⟨x2, ev2, w2, y2, ey2⟩ : ∃ v : Val, cs2 = #[.bool v.there, .string v.bytes] ∧ v.bytes.size ≤ maxLen ∧ ∃ y, d2 = .agg [y, .lit (.string v.bytes.data.toList)] := by
    obtain ⟨fuel, hf⟩ := h2
    obtain ⟨v, e, hv, y, hy⟩ := elem_val_d hf
    exact ⟨v, by cases cs2; simp [Value.cells] at e; rw [e], hv, y, hy⟩
  subst ev2
  subst ey2
  clear hA0 hval0
  refine (walk_TextDoes x0 x1 x2.there x2.bytes W (by have := sized_string hsz (j := 0) (t := 9) rfl rfl; simpa [reachBytes] using this) (by have := sized_string hsz (j := 1) (t := 9) rfl rfl; simpa [reachBytes] using this) (by have := sized_val hsz (j := 2) rfl rfl; simpa [reachBytes] using this)).mono fun e W' ⟨he, bel⟩ => ?_
  subst he
  have bt := fun {t v d p} (hr : Try.prog.readableRec t = true) (hrow : t < Try.prog.types.size) (h : DataW.Trod enc Try.prog W 0 (fun _ => true) true t v d p) => Below.trod laidOut hr hrow h bel (lt h)
  exact ⟨_, rfl, _, _, _, [], _, [], hW', trodAll_mk1 (shut_bool Try.underlying4 _), (trodAll_cons_mk (bt (by kernel_rfl) (of_decide_eq_true (by kernel_rfl)) k0) (trodAll_cons_mk (bt (by kernel_rfl) (of_decide_eq_true (by kernel_rfl)) k1) (trodAll_cons_mk (bt (by kernel_rfl) (of_decide_eq_true (by kernel_rfl)) k2) trodAll_mk0))), rfl, bel.frame _, fun h => by cases h⟩

theorem over : Rows.textDoesRow.holds Try.pinned (OpenSpec.ofChange Rows.textDoesSpec) :=
  OpenClaim.holds_of_wide 6 Try.f6 rfl rfl rfl rfl rfl rfl rfl ⟨rfl, rfl, rfl, rfl, rfl⟩ rfl rfl rfl rfl rfl (by kernel_rfl) Try.func6 (by kernel_rfl)
    (of_decide_eq_true (by kernel_rfl)) (by unfold Func.isWrapper; first | (rw [if_pos (by decide +kernel)]; kernel_rfl) | (rw [if_neg (by decide +kernel)]; exact ⟨rfl, rfl⟩))
    (fun os started H enc _ => lifted os started H enc)

theorem proved : Rows.TextDoesSaid := over

#print axioms proved
end Go.Proofs.Ytoiobhcgpajogaa.textDoes
