/- The walk of tableBegun. -/
import Derived.Test.YtoiobhcgpajogabGreatDoorTab1
import Derived.Test.YtoiobhcgpajogabGreatDoorKit
import Derived.Test.YtoiobhcgpajogabGreatDoorTStep
namespace Go.Proofs.YtoiobhcgpajogabGreatDoor
open Go.RowKit

theorem SliceC.lit (g : Nat → Nat) (w : World) (lo hi q : Nat) (cells : List Value) (T : TypeId) (hq : q < lo) : SliceC (w.alloc (.cells cells.toArray T)) (extc g w q) lo hi (some ⟨w.heap.size, 0, none⟩) cells :=
  .inr ⟨_, 0, rfl, by simp, .inl (by rw [extc_new (Nat.le_refl _)]; exact hq), fun j u hu => by rw [Nat.zero_add, World.cell?_alloc_new]; simpa using hu⟩

theorem TableAt.alloc {w : World} {g : Nat → Nat} {p t : Nat} {T : Tab} (h : TableAt w g p t T) (q : Nat) (o : Obj) : TableAt (w.alloc o) (extc g w q) p t T := h.frame (Evo.alloc g q w o) (by omega)

end Go.Proofs.YtoiobhcgpajogabGreatDoor
/- The walk of tables: a table and a sheet behind the same steps hold the same. -/
namespace Go.Proofs.YtoiobhcgpajogabGreatDoor
open Go.RowKit

section
variable {w0 w w' : World} {g g' : Nat → Nat} {t s : Nat} {T S T' : Tab}
end
end Go.Proofs.YtoiobhcgpajogabGreatDoor
