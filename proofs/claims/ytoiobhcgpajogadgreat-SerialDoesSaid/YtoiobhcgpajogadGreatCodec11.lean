/- The walk of PairsOf. -/
import Derived.Test.YtoiobhcgpajogadGreatCodec7
namespace Go.Proofs.YtoiobhcgpajogadGreat
open Go.RowKit

def sub (l : List UInt8) (m c : Nat) : List UInt8 := (l.take c).drop m

end Go.Proofs.YtoiobhcgpajogadGreat
