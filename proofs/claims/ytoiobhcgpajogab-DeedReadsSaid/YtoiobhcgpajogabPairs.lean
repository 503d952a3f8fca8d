/- What comes in: a slice of pairs, of bytes. -/
import Derived.Test.YtoiobhcgpajogabCodec6
namespace Go.Proofs.Ytoiobhcgpajogab
open Go.RowKit

def PairsAt (w : World) (a : Option Addr) (l : List Ent) : Prop := SliceAt w a (encEnts l) ∧ ∀ x ∈ l, x.v.bytes.size ≤ maxLen

theorem PairsAt.below {w w' : World} {a : Option Addr} {l : List Ent} (h : PairsAt w a l) (k : Below w.heap.size w w') : PairsAt w' a l := ⟨sliceAt_below h.1 k, h.2⟩

theorem PairsAt.sl {w : World} {a : Option Addr} {l : List Ent} (h : PairsAt w a l) : SliceAt w a (encEnts l) := And.left h

def BytesIn (w : World) (a : Option Addr) (cap : Nat) (l : List UInt8) : Prop := l.length ≤ cap ∧ SliceAt w a (Lib.byteCells l)

theorem BytesIn.of_row {w : World} {B e n : Nat} {v : Value} {l : List UInt8} (h : w.ownsRow B e 1 v n (Lib.byteCells l)) : ∃ a cap, v = .slice a l.length cap ∧ BytesIn w a cap l ∧ (a = none → cap = 0) ∧ (∀ ad, a = some ad → B ≤ ad.block ∧ ad.off = 0) := by
  have hn : n = l.length := by have := h.1; simp [Lib.byteCells] at this; omega
  subst hn
  rcases h.2 with ⟨rfl, h0⟩ | ⟨g, cap, cur, rfl, hb, hgg, hnc, hm, hz, ht⟩
  · have : l = [] := List.eq_nil_of_length_eq_zero h0
    subst this
    exact ⟨none, 0, rfl, ⟨Nat.le_refl _, .inl rfl⟩, fun _ => rfl, by intro ad h; cases h⟩
  · obtain ⟨a, c, e, hs, -⟩ := ownsRow.sliceAt h
    cases e
    exact ⟨_, cap, rfl, ⟨hnc, hs⟩, (fun h => by cases h), by intro ad h; cases h; exact ⟨hb, rfl⟩⟩

theorem BytesIn.below {w w' : World} {a : Option Addr} {cap : Nat} {l : List UInt8} (h : BytesIn w a cap l) (k : Below w.heap.size w w') : BytesIn w' a cap l := ⟨h.1, sliceAt_below h.2 k⟩

end Go.Proofs.Ytoiobhcgpajogab
