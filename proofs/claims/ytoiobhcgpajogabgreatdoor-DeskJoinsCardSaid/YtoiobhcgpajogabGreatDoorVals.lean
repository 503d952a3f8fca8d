/- What all keys have, as one value and as cells. -/
import Derived.Test.YtoiobhcgpajogabGreatDoorTab1
import Derived.Deep.Cut
import Derived.Deep.MidRow
import Derived.DeepKeys
import Derived.Laws.StructEq
namespace Go.Proofs.YtoiobhcgpajogabGreatDoor
open Go.RowKit

def vals8 (f : Nat → Val) : List Value := [.bool (f 0).there, .string (f 0).bytes, .bool (f 1).there, .string (f 1).bytes, .bool (f 2).there, .string (f 2).bytes, .bool (f 3).there, .string (f 3).bytes,
  .bool (f 4).there, .string (f 4).bytes, .bool (f 5).there, .string (f 5).bytes, .bool (f 6).there, .string (f 6).bytes, .bool (f 7).there, .string (f 7).bytes]

theorem vals8_length (f : Nat → Val) : (vals8 f).length = 16 := rfl
theorem vals8_one (f : Nat → Val) : (vals8 f).toArray.all (·.oneCell') = true := by simp [vals8, Value.oneCell']

theorem vals8_upd (f : Nat → Val) (n : Nat) (hn : n < 8) (v : Val) : ((vals8 f).set (n * 2) (.bool v.there)).set (n * 2 + 1) (.string v.bytes) = vals8 (upd f n v) := by
  have h : n = 0 ∨ n = 1 ∨ n = 2 ∨ n = 3 ∨ n = 4 ∨ n = 5 ∨ n = 6 ∨ n = 7 := by omega
  rcases h with rfl | rfl | rfl | rfl | rfl | rfl | rfl | rfl <;> rfl

theorem vals8_get (f : Nat → Val) (n : Nat) (hn : n < 8) : (vals8 f)[n * 2]? = some (.bool (f n).there) ∧ (vals8 f)[n * 2 + 1]? = some (.string (f n).bytes) := by
  have h : n = 0 ∨ n = 1 ∨ n = 2 ∨ n = 3 ∨ n = 4 ∨ n = 5 ∨ n = 6 ∨ n = 7 := by omega
  rcases h with rfl | rfl | rfl | rfl | rfl | rfl | rfl | rfl <;> exact ⟨rfl, rfl⟩

theorem vals8_congr {f g : Nat → Val} (h : ∀ k, k < 8 → f k = g k) : vals8 f = vals8 g := by
  unfold vals8
  rw [h 0 (by omega), h 1 (by omega), h 2 (by omega), h 3 (by omega), h 4 (by omega), h 5 (by omega), h 6 (by omega), h 7 (by omega)]

theorem Loc.range {w : World} {b : Nat} {T : TypeId} {cs : List Value} (h : Loc w b T cs) : w.rangeAt b 0 cs := fun j v hv => by rw [Nat.zero_add]; exact (h.cell j).trans hv

theorem Loc.there {w : World} {b : Nat} {T : TypeId} {cs : List Value} (h : Loc w b T cs) : w.there b 0 cs.length := fun j hj => by
  rw [Nat.zero_add]
  exact ⟨by rw [h.cell j, List.getElem?_eq_getElem hj]; rfl, h.free j⟩

theorem Loc.there8 {w : World} {b : Nat} {T : TypeId} {f : Nat → Val} (h : Loc w b T (vals8 f)) (g : Nat → Val) : w.there b 0 (vals8 g).toArray.size := h.there

theorem Loc.setCells {b : Nat} {T : TypeId} : ∀ (vs : List Value) (o : Nat) (w : World) (cs : List Value), Loc w b T cs → o + vs.length ≤ cs.length → Loc (w.setCells b o vs) b T (cs.take o ++ vs ++ cs.drop (o + vs.length))
  | [], o, w, cs, h, _ => by simpa [World.setCells] using h
  | v :: r, o, w, cs, h, hl => by
    have ih := Loc.setCells r (o + 1) (w.setCell ⟨b, o, none⟩ v) (cs.set o v) (h.set o v) (by simp only [List.length_cons, List.length_set] at *; omega)
    simp only [List.length_cons] at hl
    have e : (cs.set o v).take (o + 1) ++ r ++ (cs.set o v).drop (o + 1 + r.length) = cs.take o ++ v :: r ++ cs.drop (o + (v :: r).length) := by
      have h1 : (cs.set o v).take (o + 1) = cs.take o ++ [v] := by
        rw [List.take_succ_eq_append_getElem (by simp; omega), List.take_set_of_le (Nat.le_refl _)]
        simp
      rw [h1, List.drop_set_of_lt (by omega)]
      simp [Nat.add_comm, Nat.add_left_comm]
    rw [e] at ih
    exact ih

theorem Loc.setAll {b : Nat} {T : TypeId} {w : World} {cs vs : List Value} (h : Loc w b T cs) (hl : vs.length = cs.length) : Loc (w.setCells b 0 vs) b T vs := by
  have := Loc.setCells vs 0 w cs h (by omega)
  simpa [hl] using this

theorem Below.setCells' {B b : Nat} (hb : B ≤ b) : ∀ (vs : List Value) (o : Nat) {w w' : World}, Below B w w' → Below B w (w'.setCells b o vs)
  | [], _, _, _, h => h
  | _ :: r, o, _, _, h => Below.setCells' hb r (o + 1) (h.setCell hb _)

theorem Loc.otherAll {b b' : Nat} (hne : b' ≠ b) {T : TypeId} {cs : List Value} : ∀ (vs : List Value) (o : Nat) {w : World}, Loc w b' T cs → Loc (w.setCells b o vs) b' T cs
  | [], _, _, h => h
  | _ :: r, o, _, h => Loc.otherAll hne r (o + 1) (h.other hne _)

/-- A new variable of the type T that got the value vs. -/
theorem new_all (w : World) (T : TypeId) (zs vs : List Value) (hl : vs.length = zs.length) :
    Loc ((w.alloc (.cells zs.toArray T)).setCells w.heap.size 0 vs) w.heap.size T vs ∧ Below w.heap.size w ((w.alloc (.cells zs.toArray T)).setCells w.heap.size 0 vs) :=
  ⟨(Loc.new w T zs).setAll hl, Below.setCells' (Nat.le_refl _) _ _ ((Below.refl _ _).alloc (Nat.le_refl _) _)⟩

section
variable {P : Program} {ops : Array Oper} {rest : List Oper} {o : Oper} {a : Act} {w : World} {Q : Exit → Act → World → Prop}

/-- An operation that yields a value and leaves the world as it was; it may be guarded. -/
theorem wpList_val (hw : Region.wanted o (yielded ops a.tmps) = true) (v : Value) (h : (execOp a.eval o).run P w = .ok (.value v) w) (hK : wpList P ops Q rest (a.put o.dst v) w) : wpList P ops Q (o :: rest) a w :=
  wpList_step fun K hK' => by
    rw [if_pos hw]
    unfold Oper.wp
    rw [h]
    exact hK' _ _ hK

theorem wpList_load_all (hw : Region.wanted o (yielded ops a.tmps) = true) (ty : TypeId) (x : Operand) (ho : o.op = .load ty x) (b off : Nat) (hx : a.eval x = .pointer (some ⟨b, off, none⟩)) (cs : List Value) (d : TypeDesc) (hc : w.rangeAt b off cs)
    (hu : P.underlying ty = some d) (hd : d.isRow = true) (hi : (P.info? ty).map (·.size) = some cs.length) (hK : wpList P ops Q rest (a.put o.dst (.agg cs.toArray)) w) : wpList P ops Q (o :: rest) a w :=
  wpList_step fun K hK' => by
    rw [if_pos hw]
    exact wp_load_mid ty x ho b off hx cs d hc hu hd hi (hK' _ _ hK)
end
theorem eqItems_self {d : Nat} {e : TypeId} {c : Nat} {xs : Array Value} {w : World} : ∀ (is : List Nat), (∀ i ∈ is, ∃ a, (part e xs (i * c)).run Tryz.prog w = .ok a w ∧ (Op.equalIn d e a a).run Tryz.prog w = .ok true w) → (Op.eqItems d e c xs xs is).run Tryz.prog w = .ok true w
  | [], _ => by simp [Op.eqItems]
  | i :: is, h => by
    obtain ⟨a, h1, h2⟩ := h i (List.mem_cons_self ..)
    have := eqItems_self is (fun j hj => h j (List.mem_cons_of_mem _ hj))
    simp only [Op.eqItems, Sem.run_bind, h1, h2, Result.andThen_ok]
    simpa using this

theorem Tryz.infoVal2 : Tryz.prog.info? 84 ≠ none ∧ Tryz.prog.cellsOf 84 = 2 ∧ (Tryz.prog.info? 84).map (·.size) = some 2 := by
  refine ⟨?_, by kernel_rfl, by kernel_rfl⟩
  intro h
  have : (Tryz.prog.info? 84).map (·.size) = some 2 := by kernel_rfl
  rw [h] at this
  cases this

theorem part_val (f : Nat → Val) (w : World) (i : Nat) (hi : i < 8) : (part 84 (vals8 f).toArray (i * 2)).run Tryz.prog w = .ok (.agg #[.bool (f i).there, .string (f i).bytes]) w := by
  obtain ⟨h0, -, h2⟩ := Tryz.infoVal2
  obtain ⟨info, hinfo⟩ := Option.ne_none_iff_exists'.1 h0
  rw [hinfo] at h2
  have hs : info.size = 2 := by simpa using h2
  have h : i = 0 ∨ i = 1 ∨ i = 2 ∨ i = 3 ∨ i = 4 ∨ i = 5 ∨ i = 6 ∨ i = 7 := by omega
  have e : List.take 2 (List.drop (i * 2) (vals8 f)) = [.bool (f i).there, .string (f i).bytes] := by
    rcases h with rfl | rfl | rfl | rfl | rfl | rfl | rfl | rfl <;> rfl
  simp [part, isAgg, run_underlying Tryz.underlying84, e]

theorem eq_val (v : Val) (d : Nat) (w : World) : (Op.equalIn (d + 2) 84 (.agg #[.bool v.there, .string v.bytes]) (.agg #[.bool v.there, .string v.bytes])).run Tryz.prog w = .ok true w := by
  simp [go_sem]

section
variable {ops : Array Oper} {rest : List Oper} {o : Oper} {a : Act} {w : World} {Q : Exit → Act → World → Prop}
end

end Go.Proofs.YtoiobhcgpajogabGreatDoor
/- The walk of sheet: what all keys had behind a commit. -/
namespace Go.Proofs.YtoiobhcgpajogabGreatDoor
open Go.RowKit

/-- Up to n as f says, and nothing from there on. -/
def cutV (f : Nat → Val) (n : Nat) : Nat → Val := fun k => if k < n then f k else Val.zero

theorem cutV_upd (f : Nat → Val) (n : Nat) : upd (cutV f n) n (f n) = cutV f (n + 1) := by
  funext k
  unfold cutV upd
  by_cases e : k = n
  · subst e; simp
  · by_cases h : k < n
    · simp [e, h, show k < n + 1 by omega]
    · simp [e, h, show ¬ k < n + 1 by omega]

theorem sheetT_stop {T : Tab} {a : Int} {k : Nat} (hk : k < 8) (h : codesT T a k = true) (hc : (readT T k a).2 ≠ 0) : sheetT T a = cutV (fun j => (readT T j a).1) k ∧ codesT T a 8 = false := by
  have h1 : ∀ j, k + 1 ≤ j → codesT T a j = false := by
    intro j hj
    induction j with
    | zero => omega
    | succ j ih =>
      rw [codesT_succ]
      by_cases e : j = k
      · subst e; simp [hc]
      · rw [ih (by omega)]; rfl
  have h2 : ∀ j, j ≤ k → codesT T a j = true := by
    intro j hj
    unfold codesT at *
    rw [List.all_eq_true] at *
    intro i hi
    exact h i (by simp at *; omega)
  refine ⟨funext fun j => ?_, h1 8 (by omega)⟩
  unfold sheetT cutV
  by_cases e : j < k
  · rw [if_pos e, if_pos ⟨by omega, h2 _ (by omega)⟩]
  · rw [if_neg e, if_neg]
    rintro ⟨-, h3⟩
    rw [h1 _ (by omega)] at h3
    cases h3

theorem sheetT_end {T : Tab} {a : Int} (h : codesT T a 8 = true) : sheetT T a = cutV (fun j => (readT T j a).1) 8 := by
  funext j
  unfold sheetT cutV
  by_cases e : j < 8
  · rw [if_pos e, if_pos ⟨e, codesT_mono h (by omega)⟩]
  · rw [if_neg e, if_neg (by omega)]

def SheetPost (f : Nat → Val) (ok : Bool) (w : World) (e : Ending) (w' : World) : Prop :=
  e = .returned (.tuple #[.agg (vals8 f).toArray, .bool ok]) ∧ Below w.heap.size w w'

theorem Loc.set2 {w : World} {b : Nat} {T : TypeId} {f : Nat → Val} {n : Nat} (h : Loc w b T (vals8 f)) (hn : n < 8) (v : Val) : Loc ((w.setCell ⟨b, n * 2, none⟩ (.bool v.there)).setCell ⟨b, n * 2 + 1, none⟩ (.string v.bytes)) b T (vals8 (upd f n v)) := by
  have := (h.set (n * 2) (.bool v.there)).set (n * 2 + 1) (.string v.bytes)
  rwa [vals8_upd f n hn v] at this

end Go.Proofs.YtoiobhcgpajogabGreatDoor
