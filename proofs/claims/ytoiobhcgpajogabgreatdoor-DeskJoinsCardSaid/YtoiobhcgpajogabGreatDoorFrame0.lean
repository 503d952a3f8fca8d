/- What comes in: values, opened off their reading. -/
import Derived.Test.YtoiobhcgpajogabGreatDoorRows
import Derived.Test.YtoiobhcgpajogabGreatDoorKit
import Derived.ProofKit
import Derived.OpenShut
import Derived.ShutString
import Derived.ChangeOld
import Derived.Deep.Strs
import Derived.Lib.SmallJoins
import Derived.Test.YtoiobhcgpajogabGreatDoorCodec1
namespace Go.Proofs.YtoiobhcgpajogabGreatDoor
open Go.ChangeShapes Go.WideShapes Go.ChangeAt Go.RowKit Go.Deep
open Go.ChangeMaps (open_string shut_string)
set_option linter.unusedVariables false

theorem own : ownKnob Tryz.prog.godebug = none := by kernel_rfl
theorem laidOut : laidOutB Tryz.prog = true := by kernel_rfl

section
variable {H : Type} {enc : TypeId × Value → H} {w : World} {base : Nat} {spare : Nat → Bool} {held : Bool}

set_option maxRecDepth 100000 in
theorem elem_val {fuel : Nat} {cs : List Value} {x : DataW H × List MemPlace} (h : DataW.trod enc Tryz.prog w base spare held fuel 84 cs = some x) :
    ∃ v : Val, cs = [.bool v.there, .string v.bytes] ∧ v.bytes.size ≤ maxLen := by
  obtain ⟨y0, y1, n, -, hl, h0, h1⟩ := trod_struct2 Tryz.underlying84 h
  have c2 : Tryz.prog.cellsOf 84 = 2 := by kernel_rfl
  have cb : Tryz.prog.cellsOf 4 = 1 := by kernel_rfl
  have cstr : Tryz.prog.cellsOf 9 = 1 := by kernel_rfl
  rw [c2] at hl
  match cs, hl with
  | [c0, c1], _ =>
    obtain ⟨b, e0, -⟩ := DataW.trod_bool Tryz.underlying4 h0
    obtain ⟨s, e1, -, hs⟩ := DataW.trod_string Tryz.underlying9 h1
    simp [cb, cstr] at e0 e1
    exact ⟨⟨b, s⟩, by rw [e0, e1], hs⟩

theorem elem_int {fuel : Nat} {cs : List Value} {x : DataW H × List MemPlace} (h : DataW.trod enc Tryz.prog w base spare held fuel 3 cs = some x) : ∃ n : Int, cs = [.int .i64 n] ∧ (Lit.int .i64 n).wf = true := by
  obtain ⟨n, e, -, hw⟩ := DataW.trod_int Tryz.underlying3 h
  exact ⟨n, e, hw⟩

end

theorem flat_length {α : Type} (en : α → List Value) (st : Nat) (hst : ∀ x, (en x).length = st) (l : List α) : (l.flatMap en).length = l.length * st := by
  induction l with
  | nil => simp
  | cons y l ih => rw [List.flatMap_cons, List.length_append, hst, ih, List.length_cons, Nat.succ_mul]; omega

theorem build_slice {α : Type} (en : α → List Value) (st : Nat) (hst : ∀ x, (en x).length = st) (hpos : 0 < st) (Pr : α → Prop) (w : World) (a : Addr) (len : Nat)
    (h : ∀ i, i < len → ∃ x, Pr x ∧ ∀ k u, (en x)[k]? = some u → w.cell? (a.add (i * st + k)) = some u) :
    ∃ l : List α, l.length = len ∧ (∀ x ∈ l, Pr x) ∧ ∀ j u, (l.flatMap en)[j]? = some u → w.cell? (a.add j) = some u := by
  induction len with
  | zero => exact ⟨[], rfl, by simp, by simp⟩
  | succ n ih =>
    obtain ⟨l, hl, hp, hc⟩ := ih (fun i hi => h i (by omega))
    obtain ⟨x, hx, hxc⟩ := h n (by omega)
    have hlen : (l.flatMap en).length = n * st := by rw [flat_length en st hst, hl]
    refine ⟨l ++ [x], by simp [hl], ?_, ?_⟩
    · intro y hy
      rcases List.mem_append.1 hy with hy | hy
      · exact hp y hy
      · rw [List.mem_singleton] at hy; subst hy; exact hx
    · intro j u hu
      rw [List.flatMap_append] at hu
      by_cases hj : j < n * st
      · rw [List.getElem?_append_left (by omega)] at hu
        exact hc j u hu
      · rw [List.getElem?_append_right (by omega), hlen] at hu
        have := hxc (j - n * st) u (by simpa using hu)
        rwa [show n * st + (j - n * st) = j by omega] at this

end Go.Proofs.YtoiobhcgpajogabGreatDoor
/- What comes in: slices of pairs, of bytes. -/
namespace Go.Proofs.YtoiobhcgpajogabGreatDoor
open Go.ChangeShapes Go.WideShapes Go.ChangeAt Go.RowKit Go.Deep
set_option linter.unusedVariables false

/-- A slice whose elements are told by en, of st cells each. -/
theorem open_flat {α : Type} (en : α → List Value) (st : Nat) (hst : ∀ x, (en x).length = st) (hpos : 0 < st) (Pr : α → Prop) {t e : TypeId} (ht : Tryz.prog.underlying t = some (.slice e)) (hce : Tryz.prog.cellsOf e = st)
    {H : Type} {enc : TypeId × Value → H} {w : World} {spare : Nat → Bool} {held : Bool} {a : Option Addr} {len cap : Nat} {d : DataW H} {p : List MemPlace}
    (hel' : ∀ {fuel : Nat} {cs : List Value} {x : DataW H × List MemPlace}, DataW.trod enc Tryz.prog w 0 spare held fuel e cs = some x → ∃ v, cs = en v ∧ Pr v)
    (h : DataW.Trod enc Tryz.prog w 0 spare held t (.slice a len cap) d p) :
    ∃ l : List α, l.length = len ∧ SliceAt w a (l.flatMap en) ∧ (∀ x ∈ l, Pr x) ∧ len ≤ cap ∧ len ≤ maxLen ∧ (a = none → cap = 0) := by
  obtain ⟨fuel, hf⟩ := h
  rcases open_slice ht hf with ⟨hcs, _⟩ | ⟨ad, ln, c, m, n, D, Pl, hcs, _, hl, hm, hmm, _, hel⟩
  · simp [Value.cells] at hcs
    obtain ⟨rfl, rfl, rfl⟩ := hcs
    exact ⟨[], rfl, .inl rfl, by simp, Nat.le_refl _, by simp [maxLen], fun _ => rfl⟩
  · simp [Value.cells] at hcs
    obtain ⟨rfl, rfl, rfl⟩ := hcs
    have hlm : len ≤ m := by rw [hmm]; split <;> omega
    obtain ⟨l, hll, hp, hc⟩ := build_slice en st hst hpos Pr w ad len (by
      intro i hi
      obtain ⟨cs', h1, h2⟩ := hel i (by omega)
      obtain ⟨v, rfl, hv⟩ := hel' h2
      refine ⟨v, hv, fun k u hu => ?_⟩
      rw [hce] at h1
      have hk := (List.getElem?_eq_some_iff.1 hu).1
      have := (World.cells?_some h1).2.2 k (by rw [← hst v]; exact hk)
      rwa [hu, add_add] at this)
    refine ⟨l, hll, ?_, hp, hl, by omega, (fun h => by cases h)⟩
    by_cases hne : l.flatMap en = []
    · exact .inl hne
    · right
      obtain ⟨b, off, spot⟩ := ad
      have hpos' : 0 < (l.flatMap en).length := List.length_pos_iff.2 hne
      have h0 := hc 0 _ (List.getElem?_eq_getElem hpos')
      have hspot : spot = none := by simpa [Addr.add] using World.cell?_spot h0
      subst hspot
      refine ⟨b, off, rfl, fun j u hu => ?_⟩
      have := hc j u hu
      rwa [show (⟨b, off, none⟩ : Addr).add j = ⟨b, off + j, none⟩ by unfold Addr.add; split <;> simp_all] at this

theorem encEnts_flat (l : List Ent) : encEnts l = l.flatMap encEnt := by
  induction l with
  | nil => rfl
  | cons x l ih => simp [encEnts, ih]

section
variable {H : Type} {enc : TypeId × Value → H} {w : World} {base : Nat} {spare : Nat → Bool} {held : Bool}

set_option maxRecDepth 100000 in
theorem elem_pair {fuel : Nat} {cs : List Value} {x : DataW H × List MemPlace} (h : DataW.trod enc Tryz.prog w base spare held fuel 107 cs = some x) :
    ∃ v : Ent, cs = encEnt v ∧ v.v.bytes.size ≤ maxLen := by
  obtain ⟨y0, y1, n, -, hl, h0, h1⟩ := trod_struct2 Tryz.underlying107 h
  have c3 : Tryz.prog.cellsOf 107 = 3 := by kernel_rfl
  have ci : Tryz.prog.cellsOf 3 = 1 := by kernel_rfl
  have cv : Tryz.prog.cellsOf 84 = 2 := by kernel_rfl
  rw [c3] at hl
  match cs, hl with
  | [a0, a1, a2], _ =>
    obtain ⟨n0, e0, -⟩ := elem_int h0
    obtain ⟨v, e2, hs⟩ := elem_val h1
    simp [ci, cv] at e0 e2
    exact ⟨⟨n0, v⟩, by rw [e0, e2.1, e2.2]; rfl, hs⟩

theorem elem_byte {fuel : Nat} {cs : List Value} {x : DataW H × List MemPlace} (h : DataW.trod enc Tryz.prog w base spare held fuel 5 cs = some x) : ∃ n : UInt8, cs = [.int .u8 n.toNat] ∧ True := by
  obtain ⟨n, e, -, hw⟩ := DataW.trod_int Tryz.underlying5 h
  have hb : 0 ≤ n ∧ n < 256 := by
    have := hw
    simp [Lit.wf, IntKind.min, IntKind.max, IntKind.signed, IntKind.bits] at this
    omega
  refine ⟨UInt8.ofNat n.toNat, ?_, trivial⟩
  rw [e]
  have : ((UInt8.ofNat n.toNat).toNat : Int) = n := by simp; omega
  rw [this]
end

theorem open_pairs {H : Type} {enc : TypeId × Value → H} {w : World} {spare : Nat → Bool} {held : Bool} {a : Option Addr} {len cap : Nat} {d : DataW H} {p : List MemPlace}
    (h : DataW.Trod enc Tryz.prog w 0 spare held 85 (.slice a len cap) d p) :
    ∃ l : List Ent, l.length = len ∧ PairsAt w a l ∧ len ≤ maxLen := by
  obtain ⟨l, h1, h2, h3, h4, h5, -⟩ := open_flat encEnt 3 (fun _ => rfl) (by omega) (fun v => v.v.bytes.size ≤ maxLen) Tryz.underlying85 (by kernel_rfl) (fun h => elem_pair h) h
  exact ⟨l, h1, ⟨by rw [encEnts_flat]; exact h2, h3⟩, h5⟩

theorem open_bytes {H : Type} {enc : TypeId × Value → H} {w : World} {spare : Nat → Bool} {held : Bool} {a : Option Addr} {len cap : Nat} {d : DataW H} {p : List MemPlace}
    (h : DataW.Trod enc Tryz.prog w 0 spare held 36 (.slice a len cap) d p) :
    ∃ l : List UInt8, l.length = len ∧ (BytesIn w a cap l ∧ (a = none → cap = 0)) ∧ len ≤ maxLen := by
  obtain ⟨l, h1, h2, h3, h4, h5, h6⟩ := open_flat (fun n : UInt8 => [Value.int .u8 n.toNat]) 1 (fun _ => rfl) (by omega) (fun _ => True) Tryz.underlying36 (by kernel_rfl) (fun h => elem_byte h) h
  refine ⟨l, h1, ⟨⟨by omega, ?_⟩, h6⟩, h5⟩
  have : ∀ l : List UInt8, Lib.byteCells l = l.flatMap (fun n : UInt8 => [Value.int .u8 n.toNat]) := by
    intro l
    induction l with
    | nil => rfl
    | cons x l ih => rw [List.flatMap_cons, ← ih]; rfl
  rw [this]
  exact h2

end Go.Proofs.YtoiobhcgpajogabGreatDoor
