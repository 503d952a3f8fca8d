/- The walk of tableBegun. -/
import Derived.Test.YtoiobhcgpajogaaGreatDoorTab6
import Derived.Test.YtoiobhcgpajogaaGreatDoorTab1
import Derived.Test.YtoiobhcgpajogaaGreatDoorKit
import Derived.Test.YtoiobhcgpajogaaGreatDoorTStep
namespace Go.Proofs.YtoiobhcgpajogaaGreatDoor
open Go.RowKit

theorem SliceC.lit (g : Nat → Nat) (w : World) (lo hi q : Nat) (cells : List Value) (T : TypeId) (hq : q < lo) : SliceC (w.alloc (.cells cells.toArray T)) (extc g w q) lo hi (some ⟨w.heap.size, 0, none⟩) cells :=
  .inr ⟨_, 0, rfl, by simp, .inl (by rw [extc_new (Nat.le_refl _)]; exact hq), fun j u hu => by rw [Nat.zero_add, World.cell?_alloc_new]; simpa using hu⟩

theorem TableAt.alloc {w : World} {g : Nat → Nat} {p t : Nat} {T : Tab} (h : TableAt w g p t T) (q : Nat) (o : Obj) : TableAt (w.alloc o) (extc g w q) p t T := h.frame (Evo.alloc g q w o) (by omega)

end Go.Proofs.YtoiobhcgpajogaaGreatDoor
/- The walk of tables: a table and a sheet behind the same steps hold the same. -/
namespace Go.Proofs.YtoiobhcgpajogaaGreatDoor
open Go.RowKit

/-- A table of the colours 1 to 9; a sheet of the colours 10 and 11. -/
structure TS (w0 : World) (g : Nat → Nat) (w : World) (t s : Nat) (T S : Tab) : Prop where
  base : Base w0.heap.size w0 g w
  tab : TableAt w g 1 t T
  sh : SheetAt w g 10 s S

section
variable {w0 w w' : World} {g g' : Nat → Nat} {t s : Nat} {T S T' : Tab}
theorem TS.below (h : TS w0 g w t s T S) (k : Below w.heap.size w w') : TS w0 g w' t s T S := ⟨h.base.below' k, h.tab.below k, h.sh.below k⟩
theorem TS.fresh (h : TS w0 g w t s T S) (k : Evo 0 0 g g' w w') : TS w0 g' w' t s T S := ⟨h.base.step k (by omega), h.tab.frame k (by omega), h.sh.fresh k⟩
theorem TS.drew (h : TS w0 g w t s T S) : TS w0 g w.drew t s T S := h.below (Below.refl _ _).drew
theorem TS.slice (h : TS w0 g w t s T S) {a : Option Addr} {cells : List Value} (k : SliceAt w0 a cells) (lo hi : Nat) (hl : 1 ≤ lo) : SliceC w g lo hi a cells := SliceC.of_base k rfl h.base hl
end

end Go.Proofs.YtoiobhcgpajogaaGreatDoor
