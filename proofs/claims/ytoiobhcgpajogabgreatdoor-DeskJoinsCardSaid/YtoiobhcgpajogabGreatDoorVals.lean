/- What all keys have, as one value and as cells. -/
import Derived.Test.YtoiobhcgpajogabGreatDoorTab1
import Derived.Deep.Cut
import Derived.Deep.MidRow
import Derived.DeepKeys
import Derived.Laws.StructEq
namespace Go.Proofs.YtoiobhcgpajogabGreatDoor
open Go.RowKit

theorem Loc.range {w : World} {b : Nat} {T : TypeId} {cs : List Value} (h : Loc w b T cs) : w.rangeAt b 0 cs := fun j v hv => by rw [Nat.zero_add]; exact (h.cell j).trans hv

theorem Loc.there {w : World} {b : Nat} {T : TypeId} {cs : List Value} (h : Loc w b T cs) : w.there b 0 cs.length := fun j hj => by
  rw [Nat.zero_add]
  exact ⟨by rw [h.cell j, List.getElem?_eq_getElem hj]; rfl, h.free j⟩

section
variable {P : Program} {ops : Array Oper} {rest : List Oper} {o : Oper} {a : Act} {w : World} {Q : Exit → Act → World → Prop}

end
section
variable {ops : Array Oper} {rest : List Oper} {o : Oper} {a : Act} {w : World} {Q : Exit → Act → World → Prop}
end

end Go.Proofs.YtoiobhcgpajogabGreatDoor
/- The walk of sheet: what all keys had behind a commit. -/
namespace Go.Proofs.YtoiobhcgpajogabGreatDoor
open Go.RowKit

end Go.Proofs.YtoiobhcgpajogabGreatDoor
