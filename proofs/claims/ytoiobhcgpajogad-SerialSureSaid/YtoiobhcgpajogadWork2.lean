/- The walks of the document's deed: last, Get, Put. -/
import Derived.Test.YtoiobhcgpajogadWork1
namespace Go.Proofs.Ytoiobhcgpajogad
open Go.RowKit

def LastPost (o : Option Val) (w : World) (e : Ending) (w' : World) : Prop :=
  e = .returned (.tuple #[.agg #[.bool (o.getD Val.zero).there, .string (o.getD Val.zero).bytes], .bool o.isSome]) ∧ Below w.heap.size w w'

end Go.Proofs.Ytoiobhcgpajogad
