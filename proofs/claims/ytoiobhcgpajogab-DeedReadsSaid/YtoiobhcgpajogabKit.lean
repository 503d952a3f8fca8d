/- Small things that all walks use. -/
import Derived.Test.YtoiobhcgpajogabLine3
import Derived.Test.YtoiobhcgpajogabChain2
namespace Go.Proofs.Ytoiobhcgpajogab
open Go.RowKit

theorem below_cell {B : Nat} {w w' : World} (h : Below B w w') {b o : Nat} (hb : b < B) : w'.cell? ⟨b, o, none⟩ = w.cell? ⟨b, o, none⟩ := h.cell (p := ⟨b, o, none⟩) hb

def AggPost (v : Val) (w : World) (e : Ending) (w' : World) : Prop := e = .returned (.agg #[.bool v.there, .string v.bytes]) ∧ Below w.heap.size w w'

def TruePost (w : World) (e : Ending) (w' : World) : Prop := e = .returned (.bool true) ∧ Below w.heap.size w w'

def BoolPost (b : Bool) (w : World) (e : Ending) (w' : World) : Prop := e = .returned (.bool b) ∧ Below w.heap.size w w'

theorem Try.infoU8 : (Try.prog.info? 5).map (fun i => (i.zero, i.size, i.bytes)) = some (some (.int .u8 0), 1, 1) := by kernel_rfl

theorem ba_data (s : ByteArray) : (⟨s.data.toList.toArray⟩ : ByteArray) = s := by simp

theorem toList_data (s : ByteArray) : s.toList = s.data.toList := ByteArray.toList_eq s

theorem toList_beq (a b : ByteArray) : (a.toList == b.toList) = decide (a = b) := by
  rw [toList_data, toList_data]
  by_cases h : a = b
  · subst h; simp
  · have : a.data.toList ≠ b.data.toList := fun e => h (Go.WideShapes.bytes_inj e)
    rw [beq_eq_false_iff_ne.2 this]
    simp [h]

theorem ba_eq_iff (l : List UInt8) (t : ByteArray) : (⟨l.toArray⟩ : ByteArray) = t ↔ l = t.data.toList := by
  constructor
  · rintro rfl
    rfl
  · rintro rfl
    exact ba_data t

/-- A list is built by its end. -/
theorem snoc_ind {α : Type} {P : List α → Prop} (nil : P []) (snoc : ∀ l x, P l → P (l ++ [x])) (l : List α) : P l := by
  have h : ∀ r : List α, P r.reverse := by
    intro r
    induction r with
    | nil => exact nil
    | cons x r ih => rw [List.reverse_cons]; exact snoc _ _ ih
  have := h l.reverse
  rwa [List.reverse_reverse] at this

theorem beq_same {α : Type} [BEq α] [LawfulBEq α] (a : α) : (a == a) = true := by simp

/-- A store into a block of the colour q. -/
theorem evo_store {g : Nat → Nat} {w : World} {b i q : Nat} (v : Value) (hq : g b = q) : Evo q (q + 1) g g w (w.setCell ⟨b, i, none⟩ v) :=
  ⟨rfl, rfl, rfl, by simp, fun _ _ => rfl, fun k _ hn => Below.heap_setCell _ _ _ _ (by rintro rfl; exact hn ⟨by simp [hq], by simp [hq]⟩)⟩

theorem LocC.set {w : World} {g : Nat → Nat} {q b : Nat} {T : TypeId} {cs : List Value} (h : LocC w g q b T cs) (i : Nat) (v : Value) : LocC (w.setCell ⟨b, i, none⟩ v) g q b T (cs.set i v) := ⟨h.1.set i v, h.2⟩

theorem evo_drewN {lo hi : Nat} {g g' : Nat → Nat} {w w' : World} (h : Evo lo hi g g' w w') (n : Nat) : Evo lo hi g g' w (w'.drewN n) := ⟨h.os, h.tape, h.output, h.size, h.col, h.same⟩

theorem LocC.drewN {w : World} {g : Nat → Nat} {q b : Nat} {T : TypeId} {cs : List Value} (h : LocC w g q b T cs) (n : Nat) : LocC (w.drewN n) g q b T cs := h

end Go.Proofs.Ytoiobhcgpajogab
