/- What all keys have, as one value and as cells. -/
import Derived.Test.YtoiobhcgpajogadTab1
import Derived.Deep.Cut
import Derived.Deep.MidRow
import Derived.DeepKeys
import Derived.Laws.StructEq
namespace Go.Proofs.Ytoiobhcgpajogad
open Go.RowKit

def vals8 (f : Nat → Val) : List Value := [.bool (f 0).there, .string (f 0).bytes, .bool (f 1).there, .string (f 1).bytes, .bool (f 2).there, .string (f 2).bytes, .bool (f 3).there, .string (f 3).bytes,
  .bool (f 4).there, .string (f 4).bytes, .bool (f 5).there, .string (f 5).bytes, .bool (f 6).there, .string (f 6).bytes, .bool (f 7).there, .string (f 7).bytes]

theorem vals8_length (f : Nat → Val) : (vals8 f).length = 16 := rfl
theorem vals8_one (f : Nat → Val) : (vals8 f).toArray.all (·.oneCell') = true := by simp [vals8, Value.oneCell']

theorem vals8_upd (f : Nat → Val) (n : Nat) (hn : n < 8) (v : Val) : ((vals8 f).set (n * 2) (.bool v.there)).set (n * 2 + 1) (.string v.bytes) = vals8 (upd f n v) := by
  have h : n = 0 ∨ n = 1 ∨ n = 2 ∨ n = 3 ∨ n = 4 ∨ n = 5 ∨ n = 6 ∨ n = 7 := by omega
  rcases h with rfl | rfl | rfl | rfl | rfl | rfl | rfl | rfl <;> rfl

theorem vals8_get (f : Nat → Val) (n : Nat) (hn : n < 8) : (vals8 f)[n * 2]? = some (.bool (f n).there) ∧ (vals8 f)[n * 2 + 1]? = some (.string (f n).bytes) := by
  have h : n = 0 ∨ n = 1 ∨ n = 2 ∨ n = 3 ∨ n = 4 ∨ n = 5 ∨ n = 6 ∨ n = 7 := by omega
  rcases h with rfl | rfl | rfl | rfl | rfl | rfl | rfl | rfl <;> exact ⟨rfl, rfl⟩

theorem vals8_congr {f g : Nat → Val} (h : ∀ k, k < 8 → f k = g k) : vals8 f = vals8 g := by
  unfold vals8
  rw [h 0 (by omega), h 1 (by omega), h 2 (by omega), h 3 (by omega), h 4 (by omega), h 5 (by omega), h 6 (by omega), h 7 (by omega)]

theorem Loc.range {w : World} {b : Nat} {T : TypeId} {cs : List Value} (h : Loc w b T cs) : w.rangeAt b 0 cs := fun j v hv => by rw [Nat.zero_add]; exact (h.cell j).trans hv

theorem Loc.there {w : World} {b : Nat} {T : TypeId} {cs : List Value} (h : Loc w b T cs) : w.there b 0 cs.length := fun j hj => by
  rw [Nat.zero_add]
  exact ⟨by rw [h.cell j, List.getElem?_eq_getElem hj]; rfl, h.free j⟩

theorem Loc.there8 {w : World} {b : Nat} {T : TypeId} {f : Nat → Val} (h : Loc w b T (vals8 f)) (g : Nat → Val) : w.there b 0 (vals8 g).toArray.size := h.there

theorem Loc.setCells {b : Nat} {T : TypeId} : ∀ (vs : List Value) (o : Nat) (w : World) (cs : List Value), Loc w b T cs → o + vs.length ≤ cs.length → Loc (w.setCells b o vs) b T (cs.take o ++ vs ++ cs.drop (o + vs.length))
  | [], o, w, cs, h, _ => by simpa [World.setCells] using h
  | v :: r, o, w, cs, h, hl => by
    have ih := Loc.setCells r (o + 1) (w.setCell ⟨b, o, none⟩ v) (cs.set o v) (h.set o v) (by simp only [List.length_cons, List.length_set] at *; omega)
    simp only [List.length_cons] at hl
    have e : (cs.set o v).take (o + 1) ++ r ++ (cs.set o v).drop (o + 1 + r.length) = cs.take o ++ v :: r ++ cs.drop (o + (v :: r).length) := by
      have h1 : (cs.set o v).take (o + 1) = cs.take o ++ [v] := by
        rw [List.take_succ_eq_append_getElem (by simp; omega), List.take_set_of_le (Nat.le_refl _)]
        simp
      rw [h1, List.drop_set_of_lt (by omega)]
      simp [Nat.add_comm, Nat.add_left_comm]
    rw [e] at ih
    exact ih

theorem Loc.setAll {b : Nat} {T : TypeId} {w : World} {cs vs : List Value} (h : Loc w b T cs) (hl : vs.length = cs.length) : Loc (w.setCells b 0 vs) b T vs := by
  have := Loc.setCells vs 0 w cs h (by omega)
  simpa [hl] using this

theorem Below.setCells' {B b : Nat} (hb : B ≤ b) : ∀ (vs : List Value) (o : Nat) {w w' : World}, Below B w w' → Below B w (w'.setCells b o vs)
  | [], _, _, _, h => h
  | _ :: r, o, _, _, h => Below.setCells' hb r (o + 1) (h.setCell hb _)

theorem Loc.otherAll {b b' : Nat} (hne : b' ≠ b) {T : TypeId} {cs : List Value} : ∀ (vs : List Value) (o : Nat) {w : World}, Loc w b' T cs → Loc (w.setCells b o vs) b' T cs
  | [], _, _, h => h
  | _ :: r, o, _, h => Loc.otherAll hne r (o + 1) (h.other hne _)

/-- A new variable of the type T that got the value vs. -/
theorem new_all (w : World) (T : TypeId) (zs vs : List Value) (hl : vs.length = zs.length) :
    Loc ((w.alloc (.cells zs.toArray T)).setCells w.heap.size 0 vs) w.heap.size T vs ∧ Below w.heap.size w ((w.alloc (.cells zs.toArray T)).setCells w.heap.size 0 vs) :=
  ⟨(Loc.new w T zs).setAll hl, Below.setCells' (Nat.le_refl _) _ _ ((Below.refl _ _).alloc (Nat.le_refl _) _)⟩

section
variable {P : Program} {ops : Array Oper} {rest : List Oper} {o : Oper} {a : Act} {w : World} {Q : Exit → Act → World → Prop}

/-- An operation that yields a value and leaves the world as it was; it may be guarded. -/
theorem wpList_val (hw : Region.wanted o (yielded ops a.tmps) = true) (v : Value) (h : (execOp a.eval o).run P w = .ok (.value v) w) (hK : wpList P ops Q rest (a.put o.dst v) w) : wpList P ops Q (o :: rest) a w :=
  wpList_step fun K hK' => by
    rw [if_pos hw]
    unfold Oper.wp
    rw [h]
    exact hK' _ _ hK

theorem wpList_load_all (hw : Region.wanted o (yielded ops a.tmps) = true) (ty : TypeId) (x : Operand) (ho : o.op = .load ty x) (b off : Nat) (hx : a.eval x = .pointer (some ⟨b, off, none⟩)) (cs : List Value) (d : TypeDesc) (hc : w.rangeAt b off cs)
    (hu : P.underlying ty = some d) (hd : d.isRow = true) (hi : (P.info? ty).map (·.size) = some cs.length) (hK : wpList P ops Q rest (a.put o.dst (.agg cs.toArray)) w) : wpList P ops Q (o :: rest) a w :=
  wpList_step fun K hK' => by
    rw [if_pos hw]
    exact wp_load_mid ty x ho b off hx cs d hc hu hd hi (hK' _ _ hK)
end

theorem Try.infoWorld : (Try.prog.info? 63).map (·.size) = some 16 := by kernel_rfl

theorem eqItems_self {d : Nat} {e : TypeId} {c : Nat} {xs : Array Value} {w : World} : ∀ (is : List Nat), (∀ i ∈ is, ∃ a, (part e xs (i * c)).run Try.prog w = .ok a w ∧ (Op.equalIn d e a a).run Try.prog w = .ok true w) → (Op.eqItems d e c xs xs is).run Try.prog w = .ok true w
  | [], _ => by simp [Op.eqItems]
  | i :: is, h => by
    obtain ⟨a, h1, h2⟩ := h i (List.mem_cons_self ..)
    have := eqItems_self is (fun j hj => h j (List.mem_cons_of_mem _ hj))
    simp only [Op.eqItems, Sem.run_bind, h1, h2, Result.andThen_ok]
    simpa using this

theorem Try.infoVal2 : Try.prog.info? 40 ≠ none ∧ Try.prog.cellsOf 40 = 2 ∧ (Try.prog.info? 40).map (·.size) = some 2 := by
  refine ⟨?_, by kernel_rfl, by kernel_rfl⟩
  intro h
  have : (Try.prog.info? 40).map (·.size) = some 2 := by kernel_rfl
  rw [h] at this
  cases this

theorem part_val (f : Nat → Val) (w : World) (i : Nat) (hi : i < 8) : (part 40 (vals8 f).toArray (i * 2)).run Try.prog w = .ok (.agg #[.bool (f i).there, .string (f i).bytes]) w := by
  obtain ⟨h0, -, h2⟩ := Try.infoVal2
  obtain ⟨info, hinfo⟩ := Option.ne_none_iff_exists'.1 h0
  rw [hinfo] at h2
  have hs : info.size = 2 := by simpa using h2
  have h : i = 0 ∨ i = 1 ∨ i = 2 ∨ i = 3 ∨ i = 4 ∨ i = 5 ∨ i = 6 ∨ i = 7 := by omega
  have e : List.take 2 (List.drop (i * 2) (vals8 f)) = [.bool (f i).there, .string (f i).bytes] := by
    rcases h with rfl | rfl | rfl | rfl | rfl | rfl | rfl | rfl <;> rfl
  simp [part, isAgg, run_underlying Try.underlying40, e]

theorem eq_val (v : Val) (d : Nat) (w : World) : (Op.equalIn (d + 2) 40 (.agg #[.bool v.there, .string v.bytes]) (.agg #[.bool v.there, .string v.bytes])).run Try.prog w = .ok true w := by
  simp [go_sem]

theorem eq_vals (f : Nat → Val) (w : World) : (Op.equalIn 10000 63 (.agg (vals8 f).toArray) (.agg (vals8 f).toArray)).run Try.prog w = .ok true w := by
  obtain ⟨h0, h1, h2⟩ := Try.infoVal2
  obtain ⟨info, hinfo⟩ := Option.ne_none_iff_exists'.1 h0
  rw [run_equalIn_array (P := Try.prog) w 9999 _ _ Try.underlying63 hinfo, h1]
  exact eqItems_self _ (fun i hi => ⟨_, part_val f w i (by simpa using hi), eq_val (f i) 9997 w⟩)

theorem run_eqV (f : Nat → Val) (w : World) : (binOp .eql 63 (.agg (vals8 f).toArray) (.agg (vals8 f).toArray)).run Try.prog w = .ok (.bool true) w := by
  rw [run_eql_struct, eq_vals]; rfl

theorem run_neV (f : Nat → Val) (w : World) : (binOp .neq 63 (.agg (vals8 f).toArray) (.agg (vals8 f).toArray)).run Try.prog w = .ok (.bool false) w := by
  rw [run_neq_struct, eq_vals]; rfl

section
variable {ops : Array Oper} {rest : List Oper} {o : Oper} {a : Act} {w : World} {Q : Exit → Act → World → Prop}

/-- A new variable gets what all keys have. -/
theorem wpList_new_vals (w0 : World) (hgd : o.guard = none) (x y : Operand) (ho : o.op = .store 63 x y) (f : Nat → Val) (hx : a.eval x = .pointer (some ⟨w0.heap.size, 0, none⟩)) (hy : a.eval y = .agg (vals8 f).toArray)
    (hK : ∀ w', Loc w' w0.heap.size 63 (vals8 f) → Below w0.heap.size w0 w' → wpList Try.prog ops Q rest (a.put o.dst undef) w') :
    wpList Try.prog ops Q (o :: rest) a (w0.alloc (.cells (vals8 fun _ => Val.zero).toArray 63)) := by
  obtain ⟨h1, h2⟩ := new_all w0 63 (vals8 fun _ => Val.zero) (vals8 f) rfl
  exact wpList_store_mid hgd _ x y ho w0.heap.size 0 (vals8 f).toArray hx hy ((Loc.new w0 63 (vals8 fun _ => Val.zero)).there8 f) Try.infoWorld (vals8_one f) (hK _ h1 h2)

theorem wpList_load_vals (hw : Region.wanted o (yielded ops a.tmps) = true) (x : Operand) (ho : o.op = .load 63 x) (b : Nat) (hx : a.eval x = .pointer (some ⟨b, 0, none⟩)) (f : Nat → Val) (hL : Loc w b 63 (vals8 f))
    (hK : wpList Try.prog ops Q rest (a.put o.dst (.agg (vals8 f).toArray)) w) : wpList Try.prog ops Q (o :: rest) a w :=
  wpList_load_all hw _ x ho b 0 hx (vals8 f) _ hL.range Try.underlying63 rfl Try.infoWorld hK

theorem wpList_eq_vals (hw : Region.wanted o (yielded ops a.tmps) = true) (x y : Operand) (r : TypeId) (ho : o.op = .binOp .eql 63 x y r) (f : Nat → Val) (hx : a.eval x = .agg (vals8 f).toArray) (hy : a.eval y = .agg (vals8 f).toArray)
    (hK : wpList Try.prog ops Q rest (a.put o.dst (.bool true)) w) : wpList Try.prog ops Q (o :: rest) a w := by
  refine wpList_val hw _ ?_ hK
  unfold execOp
  simp only [ho, hx, hy, Sem.run_bind]
  rw [run_eqGuard_agg w .eql 63 x y _ _ (by kernel_rfl)]
  simp [run_eqV]

theorem wpList_ne_vals (hw : Region.wanted o (yielded ops a.tmps) = true) (x y : Operand) (r : TypeId) (ho : o.op = .binOp .neq 63 x y r) (f : Nat → Val) (hx : a.eval x = .agg (vals8 f).toArray) (hy : a.eval y = .agg (vals8 f).toArray)
    (hK : wpList Try.prog ops Q rest (a.put o.dst (.bool false)) w) : wpList Try.prog ops Q (o :: rest) a w := by
  refine wpList_val hw _ ?_ hK
  unfold execOp
  simp only [ho, hx, hy, Sem.run_bind]
  rw [run_eqGuard_agg w .neq 63 x y _ _ (by kernel_rfl)]
  simp [run_neV]
end

end Go.Proofs.Ytoiobhcgpajogad
/- The walk of sheet: what all keys had behind a commit. -/
namespace Go.Proofs.Ytoiobhcgpajogad
open Go.RowKit

/-- Up to n as f says, and nothing from there on. -/
def cutV (f : Nat → Val) (n : Nat) : Nat → Val := fun k => if k < n then f k else Val.zero

theorem cutV_upd (f : Nat → Val) (n : Nat) : upd (cutV f n) n (f n) = cutV f (n + 1) := by
  funext k
  unfold cutV upd
  by_cases e : k = n
  · subst e; simp
  · by_cases h : k < n
    · simp [e, h, show k < n + 1 by omega]
    · simp [e, h, show ¬ k < n + 1 by omega]

theorem sheetT_stop {T : Tab} {a : Int} {k : Nat} (hk : k < 8) (h : codesT T a k = true) (hc : (readT T k a).2 ≠ 0) : sheetT T a = cutV (fun j => (readT T j a).1) k ∧ codesT T a 8 = false := by
  have h1 : ∀ j, k + 1 ≤ j → codesT T a j = false := by
    intro j hj
    induction j with
    | zero => omega
    | succ j ih =>
      rw [codesT_succ]
      by_cases e : j = k
      · subst e; simp [hc]
      · rw [ih (by omega)]; rfl
  have h2 : ∀ j, j ≤ k → codesT T a j = true := by
    intro j hj
    unfold codesT at *
    rw [List.all_eq_true] at *
    intro i hi
    exact h i (by simp at *; omega)
  refine ⟨funext fun j => ?_, h1 8 (by omega)⟩
  unfold sheetT cutV
  by_cases e : j < k
  · rw [if_pos e, if_pos ⟨by omega, h2 _ (by omega)⟩]
  · rw [if_neg e, if_neg]
    rintro ⟨-, h3⟩
    rw [h1 _ (by omega)] at h3
    cases h3

theorem sheetT_end {T : Tab} {a : Int} (h : codesT T a 8 = true) : sheetT T a = cutV (fun j => (readT T j a).1) 8 := by
  funext j
  unfold sheetT cutV
  by_cases e : j < 8
  · rw [if_pos e, if_pos ⟨e, codesT_mono h (by omega)⟩]
  · rw [if_neg e, if_neg (by omega)]

def SheetPost (f : Nat → Val) (ok : Bool) (w : World) (e : Ending) (w' : World) : Prop :=
  e = .returned (.tuple #[.agg (vals8 f).toArray, .bool ok]) ∧ Below w.heap.size w w'

theorem Loc.set2 {w : World} {b : Nat} {T : TypeId} {f : Nat → Val} {n : Nat} (h : Loc w b T (vals8 f)) (hn : n < 8) (v : Val) : Loc ((w.setCell ⟨b, n * 2, none⟩ (.bool v.there)).setCell ⟨b, n * 2 + 1, none⟩ (.string v.bytes)) b T (vals8 (upd f n v)) := by
  have := (h.set (n * 2) (.bool v.there)).set (n * 2 + 1) (.string v.bytes)
  rwa [vals8_upd f n hn v] at this

set_option maxHeartbeats 4000000 in
set_option maxRecDepth 100000 in
theorem law_sheet (g : Nat → Nat) (p t : Nat) (T : Tab) (w : World) (a : Int) (hT : TableAt w g p t T) :
    Calls Try.prog 16 #[.pointer (some ⟨t, 0, none⟩), .int .i64 a] w (SheetPost (sheetT T a) (codesT T a 8) w) := by
  have HT := hid hT
  clear hT
  have F : ∀ f ok, sheetT T a = f → codesT T a 8 = ok → ∀ w', Below w.heap.size w w' → SheetPost (sheetT T a) (codesT T a 8) w (.returned (.tuple #[.agg (vals8 f).toArray, .bool ok])) w' := by
    rintro f ok rfl rfl w' hb
    exact ⟨rfl, hb⟩
  have HF := hid F
  clear F
  generalize hrt : (fun j : Nat => (readT T j a).1) = rt
  have HRT := hid (fun j : Nat => (congrFun hrt j : (readT T j a).1 = rt j))
  have SST := hid (fun (k : Nat) (hk : k < 8) (h : codesT T a k = true) (hc : (readT T k a).2 ≠ 0) => (hrt ▸ sheetT_stop hk h hc : sheetT T a = cutV rt k ∧ codesT T a 8 = false))
  have SEN := hid (fun (h : codesT T a 8 = true) => (hrt ▸ sheetT_end h : sheetT T a = cutV rt 8))
  clear hrt
  go_enter Try.func16, Try.ntmps16
  go_wp2
  have L0 := hid ((Loc.new w 63 (vals8 (cutV rt 0))).alloc (.cells (vals8 (cutV rt 0)).toArray 63))
  have M0 := hid (Loc.at (n := w.heap.size + 1) (w.alloc (.cells (vals8 (cutV rt 0)).toArray 63)) 63 (vals8 (cutV rt 0)) (by simp))
  have B0 := hid ((((Below.refl w.heap.size w).alloc (Nat.le_refl _) (.cells (vals8 (cutV rt 0)).toArray 63)).alloc (by simp) (.cells (vals8 (cutV rt 0)).toArray 63)))
  go_loopw [7] (fun i wr => ∃ k : Nat, k ≤ 8 ∧ i = .int .i64 k ∧ Hid (codesT T a k = true) ∧ Hid (Loc wr w.heap.size 63 (vals8 (cutV rt 0))) ∧ Hid (Loc wr (w.heap.size + 1) 63 (vals8 (cutV rt k))) ∧ Hid (Below w.heap.size w wr)) (fun i _ => 8 - (intOf i).toNat)
  case atStart => exact ⟨0, by omega, rfl, hid rfl, L0, M0, B0⟩
  case round =>
    obtain ⟨k, hk, rfl, HCo, L, M, B⟩ := hrel
    clear L0 M0 B0
    by_cases hlt : k < 8
    · have hki : (k : Int) < 8 := by omega
      have hk0 : (0 : Int) ≤ (k : Int) := by omega
      go_wp2_with fail
      (with_reducible refine (table_Read g p t T wr k a (HT.out.below B.out)).mono ?_)
      rintro e w1 ⟨rfl, hb⟩
      have L1 := hid (L.out.keep hb)
      have M1 := hid (M.out.keep hb)
      have B1 := hid (B.out.trans (hb.mono B.out.size))
      clear hb L M B
      have hry := HRT.out k
      have hst := SST.out k hlt HCo.out
      have hsu := codesT_succ T a k
      generalize readT T k a = y at *
      have HRY := hid hry
      have HST := hid hst
      have HSU := hid hsu
      clear hry hst hsu
      by_cases hc : y.2 = 0
      · rw [hc]
        have HC2 : Hid (codesT T a (k + 1) = true) := hid (by rw [HSU.out, HCo.out, hc]; rfl)
        clear hc HST
        go_upto_region 8 with (fail)
        have L2 := hid (L1.out.alloc (.cells #[.bool y.1.there, .string y.1.bytes] 40))
        have M2 := hid (M1.out.alloc (.cells #[.bool y.1.there, .string y.1.bytes] 40))
        have N2 := hid (Loc.new w1 40 [.bool y.1.there, .string y.1.bytes])
        have B2 := hid (B1.out.alloc B1.out.size (.cells #[.bool y.1.there, .string y.1.bytes] 40))
        generalize w1.alloc (.cells #[.bool y.1.there, .string y.1.bytes] 40) = w2 at *
        obtain ⟨n1, n2, -⟩ := N2.out.two
        have r1 := M2.out.free (k * 2)
        have r2 := M2.out.free (k * 2 + 1)
        have m1 := (M2.out.cell (k * 2)).trans (vals8_get _ k hlt).1
        have m2 := (M2.out.cell (k * 2 + 1)).trans (vals8_get _ k hlt).2
        go_wp2
        go_roundw
        case rel =>
          refine ⟨k + 1, by omega, by go_num, HC2, hid ((L2.out.other (by simp) _).other (by simp) _), hid ?_, hid ?_⟩
          · have := M2.out.set2 hlt y.1
            rw [HRY.out, cutV_upd] at this
            rw [HRY.out]
            exact this
          · exact (B2.out.setCell (by simp) _).setCell (by simp) _
        case measure => simp [intOf]; omega
      · have hc' : (y.2 != 0) = true := by simpa using hc
        have HS := hid (HST.out hc)
        clear hc HST
        go_upto_region 7 with (fail)
        have L2 := hid (L1.out.alloc (.cells #[.bool y.1.there, .string y.1.bytes] 40))
        have M2 := hid (M1.out.alloc (.cells #[.bool y.1.there, .string y.1.bytes] 40))
        have B2 := hid (B1.out.alloc B1.out.size (.cells #[.bool y.1.there, .string y.1.bytes] 40))
        generalize w1.alloc (.cells #[.bool y.1.there, .string y.1.bytes] 40) = w2 at *
        go_wp2_with (first
          | refine wpList_load_mid rfl 63 (.tmp 6) rfl (w.heap.size + 1) 0 rfl (vals8 (cutV rt k)) _ M2.out.range Try.underlying63 rfl Try.infoWorld ?_
          | (refine wpList_store_mid rfl 63 (.tmp 4) (.tmp 23) rfl w.heap.size 0 (vals8 (cutV rt k)).toArray rfl rfl (L2.out.there8 _) Try.infoWorld (vals8_one _) ?_
             have L3 := hid (L2.out.setAll (vs := (vals8 (cutV rt k)).toArray.toList) rfl)
             have B3 := hid (Below.setCells' (Nat.le_refl _) (vals8 (cutV rt k)).toArray.toList 0 B2.out)
             generalize w2.setCells w.heap.size 0 (vals8 (cutV rt k)).toArray.toList = w3 at *))
        have hr := run_loadVar_mid (P := Try.prog) w3 w.heap.size 0 63 (vals8 (cutV rt k)) _ L3.out.range Try.underlying63 rfl Try.infoWorld
        refine bodyPost_ret (v := .tuple #[.agg (vals8 (cutV rt k)).toArray, .bool false]) (by simp [results, Try.results16, asAddr, hr]) rfl ?_
        exact HF.out _ _ HS.out.1 HS.out.2 _ B3.out
    · obtain rfl : k = 8 := by omega
      have S1 := hid (SEN.out HCo.out)
      go_wp2_with (first
        | refine wpList_load_mid rfl 63 (.tmp 6) rfl (w.heap.size + 1) 0 rfl (vals8 (cutV rt 8)) _ M.out.range Try.underlying63 rfl Try.infoWorld ?_
        | (refine wpList_store_mid rfl 63 (.tmp 4) (.tmp 27) rfl w.heap.size 0 (vals8 (cutV rt 8)).toArray rfl rfl (L.out.there8 _) Try.infoWorld (vals8_one _) ?_
           have L3 := hid (L.out.setAll (vs := (vals8 (cutV rt 8)).toArray.toList) rfl)
           have B3 := hid (Below.setCells' (Nat.le_refl _) (vals8 (cutV rt 8)).toArray.toList 0 B.out)
           generalize wr.setCells w.heap.size 0 (vals8 (cutV rt 8)).toArray.toList = w3 at *))
      have hr := run_loadVar_mid (P := Try.prog) w3 w.heap.size 0 63 (vals8 (cutV rt 8)) _ L3.out.range Try.underlying63 rfl Try.infoWorld
      refine bodyPost_ret (v := .tuple #[.agg (vals8 (cutV rt 8)).toArray, .bool true]) (by simp [results, Try.results16, asAddr, hr]) rfl ?_
      exact HF.out _ _ S1.out HCo.out _ B3.out

end Go.Proofs.Ytoiobhcgpajogad
