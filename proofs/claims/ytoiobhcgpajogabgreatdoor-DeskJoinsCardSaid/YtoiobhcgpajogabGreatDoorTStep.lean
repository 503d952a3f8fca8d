/- Steps of a table, as they come in; greatTable. -/
import Derived.Test.YtoiobhcgpajogabGreatDoorTab1
import Derived.Test.YtoiobhcgpajogabGreatDoorKit
import Derived.Test.YtoiobhcgpajogabGreatDoorCodec1
namespace Go.Proofs.YtoiobhcgpajogabGreatDoor
open Go.RowKit

theorem flat_get {α : Type} (en : α → List Value) (st : Nat) (hst : ∀ x, (en x).length = st) : ∀ (l : List α) (i j : Nat) (hi : i < l.length), j < st → (l.flatMap en)[i * st + j]? = (en l[i])[j]? := by
  intro l
  induction l with
  | nil => intro i j hi; cases hi
  | cons x l ih =>
    intro i j hi hj
    rw [List.flatMap_cons]
    cases i with
    | zero =>
      rw [List.getElem?_append_left (by rw [hst]; omega)]
      simp
    | succ i =>
      rw [List.getElem?_append_right (by rw [hst, Nat.succ_mul]; omega), hst, show (i + 1) * st + j - st = i * st + j by rw [Nat.succ_mul]; omega, ih i j (by simpa using hi) hj]
      simp

structure TStep where
  do_ : Int
  least : Int
  a : Option Addr
  cap : Nat
  w : List Ent

def encT (x : TStep) : List Value := [.int .i64 x.do_, .int .i64 x.least, .slice x.a x.w.length x.cap]
def encTs (l : List TStep) : List Value := l.flatMap encT
def TStepsAt (w : World) (a : Option Addr) (l : List TStep) : Prop := SliceAt w a (encTs l) ∧ ∀ x ∈ l, PairsAt w x.a x.w ∧ x.w.length ≤ maxLen

theorem TStepsAt.below {w w' : World} {a : Option Addr} {l : List TStep} (h : TStepsAt w a l) (k : Below w.heap.size w w') : TStepsAt w' a l := ⟨sliceAt_below h.1 k, fun x hx => ⟨(h.2 x hx).1.below k, (h.2 x hx).2⟩⟩

theorem TStepsAt.facts {w : World} {a : Option Addr} {l : List TStep} (h : TStepsAt w a l) (h0 : 0 < l.length) :
    ∃ b off, a = some ⟨b, off, none⟩ ∧ b < w.heap.size ∧ ∀ i (hi : i < l.length), w.cell? ⟨b, off + i * 3, none⟩ = some (.int .i64 l[i].do_) ∧ w.cell? ⟨b, off + i * 3 + 1, none⟩ = some (.int .i64 l[i].least) ∧
      w.cell? ⟨b, off + i * 3 + 2, none⟩ = some (.slice l[i].a l[i].w.length l[i].cap) ∧ PairsAt w l[i].a l[i].w ∧ l[i].w.length ≤ maxLen := by
  have hne : encTs l ≠ [] := by
    cases l with
    | nil => cases h0
    | cons x l => simp [encTs, encT]
  obtain ⟨b, off, rfl, hb⟩ := h.1.lt hne
  rcases h.1 with h1 | ⟨b', off', e, hc⟩
  · exact absurd h1 hne
  · cases e
    refine ⟨b, off, rfl, hb, fun i hi => ?_⟩
    have q := fun j hj => flat_get encT 3 (fun _ => rfl) l i j hi hj
    have p0 := hc (i * 3 + 0) _ (q 0 (by omega))
    have p1 := hc (i * 3 + 1) _ (q 1 (by omega))
    have p2 := hc (i * 3 + 2) _ (q 2 (by omega))
    exact ⟨p0, p1, p2, h.2 _ (List.getElem_mem _)⟩

end Go.Proofs.YtoiobhcgpajogabGreatDoor
/- Steps of a log, as they come in; greatLog. -/
namespace Go.Proofs.YtoiobhcgpajogabGreatDoor
open Go.RowKit
end Go.Proofs.YtoiobhcgpajogabGreatDoor
/- Steps of a deed, as they come in; greatDeeds. -/
namespace Go.Proofs.YtoiobhcgpajogabGreatDoor
open Go.RowKit

structure DStep where
  do_ : Int
  k : Int
  to_ : Int
  v : Val
  a : Option Addr
  cap : Nat
  w : List Ent

def encD (x : DStep) : List Value := [.int .i64 x.do_, .int .i64 x.k, .int .i64 x.to_, .bool x.v.there, .string x.v.bytes, .slice x.a x.w.length x.cap]
def encDs (l : List DStep) : List Value := l.flatMap encD
def DStepsAt (w : World) (a : Option Addr) (l : List DStep) : Prop := SliceAt w a (encDs l) ∧ ∀ x ∈ l, PairsAt w x.a x.w ∧ x.w.length ≤ maxLen ∧ x.v.bytes.size ≤ maxLen

theorem DStepsAt.below {w w' : World} {a : Option Addr} {l : List DStep} (h : DStepsAt w a l) (k : Below w.heap.size w w') : DStepsAt w' a l := ⟨sliceAt_below h.1 k, fun x hx => ⟨(h.2 x hx).1.below k, (h.2 x hx).2⟩⟩

theorem DStepsAt.facts {w : World} {a : Option Addr} {l : List DStep} (h : DStepsAt w a l) (h0 : 0 < l.length) :
    ∃ b off, a = some ⟨b, off, none⟩ ∧ b < w.heap.size ∧ ∀ i (hi : i < l.length), w.cell? ⟨b, off + i * 6, none⟩ = some (.int .i64 l[i].do_) ∧ w.cell? ⟨b, off + i * 6 + 1, none⟩ = some (.int .i64 l[i].k) ∧ w.cell? ⟨b, off + i * 6 + 2, none⟩ = some (.int .i64 l[i].to_) ∧
      w.cell? ⟨b, off + i * 6 + 3, none⟩ = some (.bool l[i].v.there) ∧ w.cell? ⟨b, off + i * 6 + 4, none⟩ = some (.string l[i].v.bytes) ∧ w.cell? ⟨b, off + i * 6 + 5, none⟩ = some (.slice l[i].a l[i].w.length l[i].cap) ∧ PairsAt w l[i].a l[i].w ∧ l[i].w.length ≤ maxLen ∧ l[i].v.bytes.size ≤ maxLen := by
  have hne : encDs l ≠ [] := by
    cases l with
    | nil => cases h0
    | cons x l => simp [encDs, encD]
  obtain ⟨b, off, rfl, hb⟩ := h.1.lt hne
  rcases h.1 with h1 | ⟨b', off', e, hc⟩
  · exact absurd h1 hne
  · cases e
    refine ⟨b, off, rfl, hb, fun i hi => ?_⟩
    have q := fun j hj => flat_get encD 6 (fun _ => rfl) l i j hi hj
    have p0 := hc (i * 6 + 0) _ (q 0 (by omega))
    have p1 := hc (i * 6 + 1) _ (q 1 (by omega))
    have p2 := hc (i * 6 + 2) _ (q 2 (by omega))
    have p3 := hc (i * 6 + 3) _ (q 3 (by omega))
    have p4 := hc (i * 6 + 4) _ (q 4 (by omega))
    have p5 := hc (i * 6 + 5) _ (q 5 (by omega))
    exact ⟨p0, p1, p2, p3, p4, p5, h.2 _ (List.getElem_mem _)⟩

end Go.Proofs.YtoiobhcgpajogabGreatDoor
