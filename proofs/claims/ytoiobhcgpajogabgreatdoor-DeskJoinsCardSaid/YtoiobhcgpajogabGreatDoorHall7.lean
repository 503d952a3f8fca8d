/- The walk of hallBegun. -/
import Derived.Test.YtoiobhcgpajogabGreatDoorHall6
namespace Go.Proofs.YtoiobhcgpajogabGreatDoor
open Go.RowKit

def hb0 : Ht := Ht.new
def hb1 : Ht := (doH hb0 ⟨1, 0, 1, 0, 0, 0, 0, ⟨#[]⟩⟩).2
def hb2 : Ht := (doH hb1 ⟨1, 1, 2, 0, 0, 0, 0, ⟨#[]⟩⟩).2
def hb3 : Ht := (doH hb2 ⟨3, 0, 0, 0, 1, 0, 0, ⟨#[120]⟩⟩).2
def hb4 : Ht := (doH hb3 ⟨2, 1, 0, 0, 1, 0, 0, ⟨#[]⟩⟩).2
def hb5 : Ht := (doH hb4 ⟨6, 0, 0, 0, 0, 0, 0, ⟨#[]⟩⟩).2
def hb6 : Ht := (doH hb5 ⟨3, 1, 0, 0, 2, 0, 0, ⟨#[121]⟩⟩).2
def hb7 : Ht := (doH hb6 ⟨6, 1, 0, 0, 0, 0, 0, ⟨#[]⟩⟩).2
theorem hbr1 : doH hb0 ⟨1, 0, 1, 0, 0, 0, 0, ⟨#[]⟩⟩ = (⟨0, 0, Val.zero, []⟩, hb1) := by kernel_rfl
theorem hbr2 : doH hb1 ⟨1, 1, 2, 0, 0, 0, 0, ⟨#[]⟩⟩ = (⟨0, 0, Val.zero, []⟩, hb2) := by kernel_rfl
theorem hbr3 : doH hb2 ⟨3, 0, 0, 0, 1, 0, 0, ⟨#[120]⟩⟩ = (⟨0, 0, Val.zero, []⟩, hb3) := by kernel_rfl
theorem hbr4 : doH hb3 ⟨2, 1, 0, 0, 1, 0, 0, ⟨#[]⟩⟩ = (⟨0, 0, Val.zero, []⟩, hb4) := by kernel_rfl
theorem hbr5 : doH hb4 ⟨6, 0, 0, 0, 0, 0, 0, ⟨#[]⟩⟩ = (⟨0, 1, Val.zero, []⟩, hb5) := by kernel_rfl
theorem hbr6 : doH hb5 ⟨3, 1, 0, 0, 2, 0, 0, ⟨#[121]⟩⟩ = (⟨0, 0, Val.zero, []⟩, hb6) := by kernel_rfl
theorem hbr7 : doH hb6 ⟨6, 1, 0, 0, 0, 0, 0, ⟨#[]⟩⟩ = (⟨11, 0, Val.zero, []⟩, hb7) := by kernel_rfl
theorem hbseat : hb7.seats 1 = none := by kernel_rfl
theorem hblast : hb7.v.tab.last = 1 := by kernel_rfl

end Go.Proofs.YtoiobhcgpajogabGreatDoor
