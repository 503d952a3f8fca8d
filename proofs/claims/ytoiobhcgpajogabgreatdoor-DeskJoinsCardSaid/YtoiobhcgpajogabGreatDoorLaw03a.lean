/- The walk of deedBegun. -/
import Derived.Test.YtoiobhcgpajogabGreatDoorLaw02a
import Derived.Test.YtoiobhcgpajogabGreatDoorDeed3
namespace Go.Proofs.YtoiobhcgpajogabGreatDoor
open Go.RowKit

theorem DeedAt.alloc {w : World} {g : Nat → Nat} {p d : Nat} {D : Ded} (h : DeedAt w g p d D) (q : Nat) (o : Obj) : DeedAt (w.alloc o) (extc g w q) p d D := h.frame (Evo.alloc g q w o) (by omega)

/-- A table of the colours 1 to 9; a deed of the colour 12. -/
structure TD (w0 : World) (g : Nat → Nat) (w : World) (t d : Nat) (T : Tab) (D : Ded) : Prop where
  base : Base w0.heap.size w0 g w
  tab : TableAt w g 1 t T
  ded : DeedAt w g 12 d D

section
variable {w0 w w' : World} {g g' : Nat → Nat} {t d : Nat} {T T' : Tab} {D D' : Ded}
theorem TD.below (h : TD w0 g w t d T D) (k : Below w.heap.size w w') : TD w0 g w' t d T D := ⟨h.base.below' k, h.tab.below k, h.ded.below k⟩
theorem TD.alloc (h : TD w0 g w t d T D) (o : Obj) : TD w0 (extc g w 0) (w.alloc o) t d T D := ⟨h.base.alloc 0 o, h.tab.alloc 0 o, h.ded.alloc 0 o⟩
theorem TD.slice (h : TD w0 g w t d T D) {a : Option Addr} {cells : List Value} (k : SliceAt w0 a cells) : SliceC w g 1 (1 + 9) a cells := SliceC.of_base k rfl h.base (Nat.le_refl _)
end

end Go.Proofs.YtoiobhcgpajogabGreatDoor
