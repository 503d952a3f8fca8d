/- What comes in: values, opened off their reading. -/
import Derived.Test.YtoiobhcgpajogabGreatDoorRows
import Derived.Test.YtoiobhcgpajogabGreatDoorKit
import Derived.ProofKit
import Derived.OpenShut
import Derived.ShutString
import Derived.ChangeOld
import Derived.Deep.Strs
import Derived.Lib.SmallJoins
import Derived.Test.YtoiobhcgpajogabGreatDoorCodec1
namespace Go.Proofs.YtoiobhcgpajogabGreatDoor
open Go.ChangeShapes Go.WideShapes Go.ChangeAt Go.RowKit Go.Deep
open Go.ChangeMaps (open_string shut_string)
set_option linter.unusedVariables false

theorem own : ownKnob Tryz.prog.godebug = none := by kernel_rfl
theorem laidOut : laidOutB Tryz.prog = true := by kernel_rfl

section
variable {H : Type} {enc : TypeId × Value → H} {w : World} {base : Nat} {spare : Nat → Bool} {held : Bool}

end

end Go.Proofs.YtoiobhcgpajogabGreatDoor
/- What comes in: slices of pairs, of bytes. -/
namespace Go.Proofs.YtoiobhcgpajogabGreatDoor
open Go.ChangeShapes Go.WideShapes Go.ChangeAt Go.RowKit Go.Deep
set_option linter.unusedVariables false

section
variable {H : Type} {enc : TypeId × Value → H} {w : World} {base : Nat} {spare : Nat → Bool} {held : Bool}

end

end Go.Proofs.YtoiobhcgpajogabGreatDoor
