/- What comes in: slices of acts, of deeds that were done. -/
import Derived.Test.YtoiobhcgpajogadGreatFrameT
import Derived.Lib.SmallJoins
import Derived.Test.YtoiobhcgpajogadGreatBook1
import Derived.Test.YtoiobhcgpajogadGreatVals
namespace Go.Proofs.YtoiobhcgpajogadGreat
open Go.ChangeShapes Go.WideShapes Go.ChangeAt Go.RowKit Go.Deep
open Go.ChangeMaps (open_string shut_string)
set_option linter.unusedVariables false

theorem trod_struct5s {H : Type} {enc : TypeId × Value → H} {P : Program} {w : World} {base : Nat} {spare : Nat → Bool} {held : Bool} {t : TypeId} {f0 f1 f2 f3 f4 : Field} {fuel : Nat} {cs : List Value} {x : DataW H × List MemPlace}
    (ht : P.underlying t = some (.struct #[f0, f1, f2, f3, f4])) (h : DataW.trod enc P w base spare held fuel t cs = some x) :
    ∃ y0 y1 y2 y3 y4 n, cs.length = P.cellsOf t ∧ DataW.trod enc P w base spare held n f0.type ((cs.drop f0.offset).take (P.cellsOf f0.type)) = some y0 ∧
      DataW.trod enc P w base spare held n f1.type ((cs.drop f1.offset).take (P.cellsOf f1.type)) = some y1 ∧ DataW.trod enc P w base spare held n f2.type ((cs.drop f2.offset).take (P.cellsOf f2.type)) = some y2 ∧
      DataW.trod enc P w base spare held n f3.type ((cs.drop f3.offset).take (P.cellsOf f3.type)) = some y3 ∧ DataW.trod enc P w base spare held n f4.type ((cs.drop f4.offset).take (P.cellsOf f4.type)) = some y4 := by
  obtain ⟨xs, n, _, rfl, hl, hlen, hf⟩ := DataW.trod_struct ht h
  match xs, hlen with
  | [y0, y1, y2, y3, y4], _ => exact ⟨y0, y1, y2, y3, y4, n, hl, by simpa using hf 0 f0 rfl, by simpa using hf 1 f1 rfl, by simpa using hf 2 f2 rfl, by simpa using hf 3 f3 rfl, by simpa using hf 4 f4 rfl⟩

set_option maxRecDepth 100000 in
theorem elem_act {H : Type} {enc : TypeId × Value → H} {w : World} {spare : Nat → Bool} {held : Bool} {fuel : Nat} {cs : List Value} {x : DataW H × List MemPlace}
    (h : DataW.trod enc Tryz.prog w 0 spare held fuel 43 cs = some x) : ∃ v : Acx, cs = encAcx v ∧ ListAt w v := by
  obtain ⟨y0, y1, y2, y3, y4, n, hl, h0, h1, h2, h3, h4⟩ := trod_struct5s Tryz.underlying43 h
  have c6 : Tryz.prog.cellsOf 43 = 6 := by kernel_rfl
  have ci : Tryz.prog.cellsOf 3 = 1 := by kernel_rfl
  have cv : Tryz.prog.cellsOf 24 = 2 := by kernel_rfl
  have cp : Tryz.prog.cellsOf 41 = 1 := by kernel_rfl
  rw [c6] at hl
  match cs, hl with
  | [a0, a1, a2, a3, a4, a5], _ =>
    obtain ⟨n0, e0, -⟩ := elem_int h0
    obtain ⟨n1, e1, -⟩ := elem_int h1
    obtain ⟨n2, e2, -⟩ := elem_int h2
    obtain ⟨v, e3, hs⟩ := elem_val h3
    simp [ci, cv, cp] at e0 e1 e2 e3 h4
    obtain ⟨a, cap, l, rfl, hP, hm⟩ := elem_pairs h4
    exact ⟨⟨⟨n0, n1, n2, v, l⟩, a, cap⟩, by rw [e0, e1, e2, e3.1, e3.2]; rfl, hP, hm, hs⟩

theorem open_acts {H : Type} {enc : TypeId × Value → H} {w : World} {spare : Nat → Bool} {held : Bool} {a : Option Addr} {len cap : Nat} {d : DataW H} {p : List MemPlace}
    (h : DataW.Trod enc Tryz.prog w 0 spare held 26 (.slice a len cap) d p) :
    ∃ l : List Acx, l.length = len ∧ ActsAt w a l ∧ len ≤ maxLen := by
  obtain ⟨l, h1, h2, h3, -, h5, -⟩ := open_flat encAcx 6 (fun _ => rfl) (by omega) (fun v => ListAt w v) Tryz.underlying26 (by kernel_rfl) (fun h => elem_act h) h
  exact ⟨l, h1, ⟨h2, h3⟩, h5⟩

/-- A slice of acts among the cells of a struct. -/
theorem elem_acts {H : Type} {enc : TypeId × Value → H} {w : World} {spare : Nat → Bool} {held : Bool} {fuel : Nat} {u : Value} {x : DataW H × List MemPlace}
    (h : DataW.trod enc Tryz.prog w 0 spare held fuel 26 [u] = some x) : ∃ (a : Option Addr) (cap : Nat) (l : List Acx), u = .slice a l.length cap ∧ ActsAt w a l ∧ l.length ≤ maxLen := by
  rcases open_slice Tryz.underlying26 h with ⟨hcs, _⟩ | ⟨ad, ln, c, m, n, D, Pl, hcs, _, hl, hm, hmm, _, hel⟩
  · simp at hcs
    subst hcs
    obtain ⟨l, hl, hP, hm⟩ := open_acts (a := none) (len := 0) (cap := 0) (d := x.1) (p := x.2) ⟨fuel, h⟩
    exact ⟨none, 0, l, by rw [hl], hP, by rw [hl]; exact hm⟩
  · simp at hcs
    subst hcs
    obtain ⟨l, hl', hP, hm'⟩ := open_acts (a := some ad) (len := ln) (cap := c) (d := x.1) (p := x.2) ⟨fuel, h⟩
    exact ⟨some ad, c, l, by rw [hl'], hP, by rw [hl']; exact hm'⟩

set_option maxRecDepth 100000 in
theorem elem_done {H : Type} {enc : TypeId × Value → H} {w : World} {spare : Nat → Bool} {held : Bool} {fuel : Nat} {cs : List Value} {x : DataW H × List MemPlace}
    (h : DataW.trod enc Tryz.prog w 0 spare held fuel 36 cs = some x) : ∃ v : Dnx, cs = encDnx v ∧ (ActsAt w v.ad v.acts ∧ v.acts.length ≤ maxLen) := by
  obtain ⟨y0, y1, y2, y3, n, -, hl, h0, h1, h2, h3⟩ := Joins.trod_struct4 Tryz.underlying36 h
  have c4 : Tryz.prog.cellsOf 36 = 4 := by kernel_rfl
  have ci : Tryz.prog.cellsOf 3 = 1 := by kernel_rfl
  have cp : Tryz.prog.cellsOf 26 = 1 := by kernel_rfl
  rw [c4] at hl
  match cs, hl with
  | [a0, a1, a2, a3], _ =>
    obtain ⟨n0, e0, -⟩ := elem_int h0
    obtain ⟨n1, e1, -⟩ := elem_int h1
    obtain ⟨n2, e2, -⟩ := elem_int h2
    simp [ci, cp] at e0 e1 e2 h3
    obtain ⟨a, cap, l, rfl, hP, hm⟩ := elem_acts h3
    exact ⟨⟨n0, n1, n2, l, a, cap, 0⟩, by rw [e0, e1, e2]; rfl, hP, hm⟩

theorem open_dones {H : Type} {enc : TypeId × Value → H} {w : World} {spare : Nat → Bool} {held : Bool} {a : Option Addr} {len cap : Nat} {d : DataW H} {p : List MemPlace}
    (h : DataW.Trod enc Tryz.prog w 0 spare held 27 (.slice a len cap) d p) :
    ∃ l : List Dnx, l.length = len ∧ DonesAt w a l ∧ len ≤ maxLen := by
  obtain ⟨l, h1, h2, h3, -, h5, -⟩ := open_flat encDnx 4 (fun _ => rfl) (by omega) (fun v => ActsAt w v.ad v.acts ∧ v.acts.length ≤ maxLen) Tryz.underlying27 (by kernel_rfl) (fun h => elem_done h) h
  exact ⟨l, h1, ⟨h2, h3⟩, h5⟩

end Go.Proofs.YtoiobhcgpajogadGreat

/- What comes in: what all keys have, opened off its reading. -/
namespace Go.Proofs.YtoiobhcgpajogadGreat
open Go.ChangeShapes Go.WideShapes Go.ChangeAt Go.RowKit Go.Deep
set_option linter.unusedVariables false

set_option maxRecDepth 100000 in
theorem open_vals8 {H : Type} {enc : TypeId × Value → H} {w : World} {spare : Nat → Bool} {held : Bool} {cs : Array Value} {d : DataW H} {p : List MemPlace}
    (h : DataW.Trod enc Tryz.prog w 0 spare held 25 (.agg cs) d p) : ∃ f : Nat → Val, cs = (vals8 f).toArray := by
  obtain ⟨fuel, hf⟩ := h
  obtain ⟨xs, m, -, -, hl, hlen, hat⟩ := DataW.trod_array Tryz.underlying25 hf
  have c1 : Tryz.prog.cellsOf 25 = 16 := by kernel_rfl
  have c2 : Tryz.prog.cellsOf 24 = 2 := by kernel_rfl
  obtain ⟨cs⟩ := cs
  simp only [Value.cells] at hl hat
  rw [c1] at hl
  have hall : ∀ i, i < 8 → ∃ v : Val, (cs.drop (i * 2)).take 2 = [.bool v.there, .string v.bytes] := fun i hi => by
    have q := hat i hi
    rw [c2, List.getElem?_eq_getElem (by omega)] at q
    obtain ⟨v, e, -⟩ := elem_val q
    exact ⟨v, e⟩
  obtain ⟨v0, e0⟩ := hall 0 (by omega)
  obtain ⟨v1, e1⟩ := hall 1 (by omega)
  obtain ⟨v2, e2⟩ := hall 2 (by omega)
  obtain ⟨v3, e3⟩ := hall 3 (by omega)
  obtain ⟨v4, e4⟩ := hall 4 (by omega)
  obtain ⟨v5, e5⟩ := hall 5 (by omega)
  obtain ⟨v6, e6⟩ := hall 6 (by omega)
  obtain ⟨v7, e7⟩ := hall 7 (by omega)
  clear hall hat
  match cs, hl with
  | [a0, a1, a2, a3, a4, a5, a6, a7, a8, a9, a10, a11, a12, a13, a14, a15], _ =>
    simp at e0 e1 e2 e3 e4 e5 e6 e7
    refine ⟨fun k => [v0, v1, v2, v3, v4, v5, v6, v7].getD k Val.zero, ?_⟩
    rw [e0.1, e0.2, e1.1, e1.2, e2.1, e2.2, e3.1, e3.2, e4.1, e4.2, e5.1, e5.2, e6.1, e6.2, e7.1, e7.2]
    rfl

set_option maxRecDepth 100000 in
theorem agg_vals8 {w : World} {base : Nat} {v : Value} (h : Value.okWide Tryz.prog w .any base 25 v) : ∃ cs, v = .agg cs := by
  unfold Value.okWide at h
  rw [Tryz.underlying25] at h
  obtain ⟨cs, e, -⟩ := h
  exact ⟨cs, e⟩

end Go.Proofs.YtoiobhcgpajogadGreat
