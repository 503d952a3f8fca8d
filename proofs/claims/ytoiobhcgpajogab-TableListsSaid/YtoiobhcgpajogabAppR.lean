/- append onto a slice that has no room left, whatever lies behind it; an append that may be guarded. -/
import Derived.Test.YtoiobhcgpajogabApp
import Derived.Test.YtoiobhcgpajogabCodec10
import Derived.ArgAppend
namespace Go.Proofs.Ytoiobhcgpajogab
open Go.RowKit

section
variable {P : Program} {ops : Array Oper} {rest : List Oper} {o : Oper} {a : Act} {w : World} {Q : Exit → Act → World → Prop}

theorem wpList_append_run (hw : Region.wanted o (yielded ops a.tmps) = true) (s x : Operand) (t : TypeId) (hop : o.op = Op.call { callee := Callee.builtin Builtin.append, args := #[s, x], argTypes := #[t, t] })
    (sv xv v' : Value) (w' : World) (hs : a.eval s = sv) (hx : a.eval x = xv) (hrun : (Builtin.append_ #[t, t] o.type #[sv, xv]).run P w = .ok v' w') (hK : wpList P ops Q rest (a.put o.dst v') w') : wpList P ops Q (o :: rest) a w :=
  wpList_step fun K hK' => by
    rw [if_pos hw]
    unfold Oper.wp
    simp [execOp, hop, resolve, invoke, builtin, hs, hx, hrun, Result.andThen]
    exact hK' _ _ hK
end

/-- Nothing is appended. -/
theorem run_append_nil {P : Program} (w : World) (t ty e : TypeId) (i : TypeInfo) (ht : P.underlying t = some (.slice e)) (hi : P.info? e = some i) (base : Option Addr) (n cap : Nat) (hle : n ≤ cap) (ad : Option Addr) (c : Nat) :
    (Builtin.append_ #[t, t] ty #[.slice base n cap, .slice ad 0 c]).run P w = .ok (.slice base n cap) w := by
  cases base <;> cases ad <;> simp [Builtin.append_, run_underlying ht, sizeOf, typeInfo, hi, Builtin.lenOf, hle, storeCells, Builtin.firstCells, loadCells, loadCellsFrom]

/-- Onto a slice of pairs that is full. -/
theorem run_append_full (w : World) (ty : TypeId) (aa ab : Option Addr) (A B : List Ent) (cb : Nat) (hA : A.length ≤ 1000000) (hB : B.length ≤ 1000000) (sa : SliceAt w aa (encEnts A)) (sb : SliceAt w ab (encEnts B)) :
    ∃ a' cap' w', (Builtin.append_ #[23, 23] ty #[.slice aa A.length A.length, .slice ab B.length cb]).run Try.prog w = .ok (.slice a' (A ++ B).length cap') w' ∧ SliceAt w' a' (encEnts (A ++ B)) ∧ Below w.heap.size w w' := by
  obtain ⟨i0, hi, hz0, hz1, hz2⟩ := info_parts Try.infoPair
  by_cases hb0 : B = []
  · subst hb0
    refine ⟨aa, A.length, w, ?_, by simpa using sa, Below.refl _ _⟩
    simp only [List.append_nil]
    exact run_append_nil w _ _ _ _ Try.underlying23 hi aa _ _ (Nat.le_refl _) ab cb
  · have hbp : 0 < B.length := List.length_pos_iff.2 hb0
    obtain ⟨b2, o2, rfl, -⟩ := sb.ents hbp
    have hnews : ∀ j u, (encEnts B)[j]? = some u → w.cell? ((⟨b2, o2, none⟩ : Addr).add j) = some u := by
      intro j u hu
      rcases sb with h | ⟨b', o', e, h⟩
      · rw [h] at hu; cases hu
      · cases e
        rw [Addr.add_lit]
        exact h j u hu
    have fin : ∀ v' w', w'.ownsRow w.heap.size 42 3 v' (A.length + B.length) (encEnts A ++ encEnts B) → w.grownBy w' none → (Builtin.append_ #[23, 23] ty #[.slice aa A.length A.length, .slice (some ⟨b2, o2, none⟩) B.length cb]).run Try.prog w = .ok v' w' →
        ∃ a' cap' w', (Builtin.append_ #[23, 23] ty #[.slice aa A.length A.length, .slice (some ⟨b2, o2, none⟩) B.length cb]).run Try.prog w = .ok (.slice a' (A ++ B).length cap') w' ∧ SliceAt w' a' (encEnts (A ++ B)) ∧ Below w.heap.size w w' := by
      intro v' w' ho hg hr
      obtain ⟨a', cap', rfl, hs, -⟩ := ownsRow.sliceAt ho
      exact ⟨a', cap', w', by rw [List.length_append]; exact hr, by rw [encEnts_append]; exact hs, (Below.refl _ _).grown hg (Nat.le_refl _) (by intro j hj; cases hj)⟩
    have l1 : A.length + B.length ≤ maxLen := by unfold maxLen; omega
    have l2 : (A.length + B.length) * 32 ≤ 140737488355328 := by omega
    cases aa with
    | none =>
      have hA0 : A = [] := by
        have := sliceAt_none sa
        cases A with
        | nil => rfl
        | cons x A => simp [encEnts, encEnt] at this
      subst hA0
      obtain ⟨v', w', hr, h1, h2, -⟩ := run_append_own (P := Try.prog) w w.heap.size 23 ty 42 i0 _ 3 32 Try.underlying23 hi hz0 hz1 hz2 rfl (by decide) (.slice none 0 0) 0 [] (World.ownsRow_nil w _ _ 3) ⟨b2, o2, none⟩ B.length cb (encEnts B) (encEnts_length B) hnews (encEnts_one B) (by simpa using l1) (by simpa using l2) (Nat.le_refl _)
      exact fin v' w' (by simpa [encEnts] using h1) h2 hr
    | some ad =>
      obtain ⟨v', w', hr, h1, h2⟩ := run_append_arg_grows (P := Try.prog) w 23 ty 42 i0 _ 3 32 Try.underlying23 hi hz0 hz1 hz2 rfl (by decide) ad A.length A.length (encEnts A) (encEnts_length A)
        (by
          intro j u hu
          rcases sa with h | ⟨b', o', e, h⟩
          · rw [h] at hu; cases hu
          · cases e
            rw [Addr.add_lit]
            exact h j u hu) ⟨b2, o2, none⟩ B.length cb (encEnts B) (encEnts_length B) hnews (by omega) l1 l2
      exact fin v' w' h1 h2 hr

end Go.Proofs.Ytoiobhcgpajogab
