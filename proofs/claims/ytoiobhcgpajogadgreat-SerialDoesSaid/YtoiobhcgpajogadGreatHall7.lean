/- The walk of hallBegun. -/
import Derived.Test.YtoiobhcgpajogadGreatHall6
namespace Go.Proofs.YtoiobhcgpajogadGreat
open Go.RowKit

def hb0 : Ht := Ht.new
def hb1 : Ht := (doH hb0 ⟨1, 0, 1, 0, 0, 0, 0, ⟨#[]⟩⟩).2
def hb2 : Ht := (doH hb1 ⟨1, 1, 2, 0, 0, 0, 0, ⟨#[]⟩⟩).2
def hb3 : Ht := (doH hb2 ⟨3, 0, 0, 0, 1, 0, 0, ⟨#[120]⟩⟩).2
def hb4 : Ht := (doH hb3 ⟨2, 1, 0, 0, 1, 0, 0, ⟨#[]⟩⟩).2
def hb5 : Ht := (doH hb4 ⟨6, 0, 0, 0, 0, 0, 0, ⟨#[]⟩⟩).2
def hb6 : Ht := (doH hb5 ⟨3, 1, 0, 0, 2, 0, 0, ⟨#[121]⟩⟩).2
def hb7 : Ht := (doH hb6 ⟨6, 1, 0, 0, 0, 0, 0, ⟨#[]⟩⟩).2
end Go.Proofs.YtoiobhcgpajogadGreat
