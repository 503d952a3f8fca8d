/- The document's deed (Work), in plain words and in memory. -/
import Derived.Test.YtoiobhcgpajogabGreatDoorDeed3
import Derived.Test.YtoiobhcgpajogabGreatDoorTab1
import Derived.Test.YtoiobhcgpajogabGreatDoorKit
namespace Go.Proofs.YtoiobhcgpajogabGreatDoor
open Go.RowKit

theorem RowC.below {w w' : World} {g : Nat → Nat} {q e size : Nat} {v : Value} {n : Nat} {cells : List Value} (h : RowC w g q e size v n cells) (k : Below w.heap.size w w') : RowC w' g q e size v n cells :=
  ⟨ownsRow.lift h.1 (fun r hr => k.block r (h.1.lt r hr).2), h.2⟩

/-- A row of a colour that grew. -/
theorem RowC.grown {w w' : World} {g : Nat → Nat} {q e size : Nat} {v v' : Value} {n n' : Nat} {cells cells' : List Value} (h : RowC w g q e size v n cells)
    (ho : w'.ownsRow 0 e size v' n' cells') (hg : w.grownBy w' v.ownBlock) (hf : v'.ownBlock = v.ownBlock ∨ ∀ k, v'.ownBlock = some k → w.heap.size ≤ k) :
    RowC w' (extc g w q) q e size v' n' cells' ∧ Evo q (q + 1) g (extc g w q) w w' := by
  refine ⟨⟨ho, fun r hr => ?_⟩, evo_grown hg h.2⟩
  rcases hf with hf | hf
  · have hr' : v.ownBlock = some r := hf ▸ hr
    rw [extc_old (h.1.lt r hr').2]
    exact h.2 r hr'
  · exact extc_new (hf r hr)

theorem RowC.store {w : World} {g : Nat → Nat} {q e size : Nat} {v : Value} {n : Nat} {cells : List Value} (h : RowC w g q e size v n cells) {b i : Nat} (hb : g b ≠ q) (u : Value) : RowC (w.setCell ⟨b, i, none⟩ u) g q e size v n cells := by
  refine ⟨ownsRow_setCell_other h.1 (a := ⟨b, i, none⟩) (by intro e; exact hb (h.2 b (by simpa using e))) u, h.2⟩

end Go.Proofs.YtoiobhcgpajogabGreatDoor

/- The walks of the document's deed: last, Get, Put. -/
namespace Go.Proofs.YtoiobhcgpajogabGreatDoor
open Go.RowKit

end Go.Proofs.YtoiobhcgpajogabGreatDoor

/- The walks of the document's deed: Writes, May. -/
namespace Go.Proofs.YtoiobhcgpajogabGreatDoor
open Go.RowKit
end Go.Proofs.YtoiobhcgpajogabGreatDoor
