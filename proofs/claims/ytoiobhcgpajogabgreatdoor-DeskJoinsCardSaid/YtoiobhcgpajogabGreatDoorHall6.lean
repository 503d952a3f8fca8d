/- Steps of a hall; the walks of greatSteps and hallBegun. -/
import Derived.Test.YtoiobhcgpajogabGreatDoorHall5
import Derived.Test.YtoiobhcgpajogabGreatDoorLaw03a
import Derived.Test.YtoiobhcgpajogabGreatDoorTStep
namespace Go.Proofs.YtoiobhcgpajogabGreatDoor
open Go.RowKit

def encSts (l : List St) : List Value := l.flatMap stL
def StepsAt (w : World) (a : Option Addr) (l : List St) : Prop := SliceAt w a (encSts l) ∧ ∀ x ∈ l, x.bytes.size ≤ maxLen

theorem StepsAt.below {w w' : World} {a : Option Addr} {l : List St} (h : StepsAt w a l) (k : Below w.heap.size w w') : StepsAt w' a l := ⟨sliceAt_below h.1 k, h.2⟩

theorem StepsAt.facts {w : World} {a : Option Addr} {l : List St} (h : StepsAt w a l) (h0 : 0 < l.length) :
    ∃ b off, a = some ⟨b, off, none⟩ ∧ b < w.heap.size ∧ ∀ i (hi : i < l.length), w.cell? ⟨b, off + i * 8, none⟩ = some (.int .i64 l[i].kind) ∧ w.cell? ⟨b, off + i * 8 + 1, none⟩ = some (.int .i64 l[i].s) ∧ w.cell? ⟨b, off + i * 8 + 2, none⟩ = some (.int .i64 l[i].mode) ∧
      w.cell? ⟨b, off + i * 8 + 3, none⟩ = some (.int .i64 l[i].at_) ∧ w.cell? ⟨b, off + i * 8 + 4, none⟩ = some (.int .i64 l[i].key) ∧ w.cell? ⟨b, off + i * 8 + 5, none⟩ = some (.int .i64 l[i].to_) ∧ w.cell? ⟨b, off + i * 8 + 6, none⟩ = some (.int .i64 l[i].keep) ∧
      w.cell? ⟨b, off + i * 8 + 7, none⟩ = some (.string l[i].bytes) ∧ l[i].bytes.size ≤ maxLen := by
  have hne : encSts l ≠ [] := by
    cases l with
    | nil => cases h0
    | cons x l => simp [encSts, stL]
  obtain ⟨b, off, rfl, hb⟩ := h.1.lt hne
  rcases h.1 with h1 | ⟨b', off', e, hc⟩
  · exact absurd h1 hne
  · cases e
    refine ⟨b, off, rfl, hb, fun i hi => ?_⟩
    have q := fun j hj => flat_get stL 8 (fun _ => rfl) l i j hi hj
    have p0 := hc (i * 8 + 0) _ (q 0 (by omega))
    have p1 := hc (i * 8 + 1) _ (q 1 (by omega))
    have p2 := hc (i * 8 + 2) _ (q 2 (by omega))
    have p3 := hc (i * 8 + 3) _ (q 3 (by omega))
    have p4 := hc (i * 8 + 4) _ (q 4 (by omega))
    have p5 := hc (i * 8 + 5) _ (q 5 (by omega))
    have p6 := hc (i * 8 + 6) _ (q 6 (by omega))
    have p7 := hc (i * 8 + 7) _ (q 7 (by omega))
    exact ⟨p0, p1, p2, p3, p4, p5, p6, p7, h.2 _ (List.getElem_mem _)⟩

end Go.Proofs.YtoiobhcgpajogabGreatDoor

/- The walk of hallBegun. -/
namespace Go.Proofs.YtoiobhcgpajogabGreatDoor
open Go.RowKit

def hb0 : Ht := Ht.new
def hb1 : Ht := (doH hb0 ⟨1, 0, 1, 0, 0, 0, 0, ⟨#[]⟩⟩).2
def hb2 : Ht := (doH hb1 ⟨1, 1, 2, 0, 0, 0, 0, ⟨#[]⟩⟩).2
def hb3 : Ht := (doH hb2 ⟨3, 0, 0, 0, 1, 0, 0, ⟨#[120]⟩⟩).2
def hb4 : Ht := (doH hb3 ⟨2, 1, 0, 0, 1, 0, 0, ⟨#[]⟩⟩).2
def hb5 : Ht := (doH hb4 ⟨6, 0, 0, 0, 0, 0, 0, ⟨#[]⟩⟩).2
def hb6 : Ht := (doH hb5 ⟨3, 1, 0, 0, 2, 0, 0, ⟨#[121]⟩⟩).2
def hb7 : Ht := (doH hb6 ⟨6, 1, 0, 0, 0, 0, 0, ⟨#[]⟩⟩).2
end Go.Proofs.YtoiobhcgpajogabGreatDoor
