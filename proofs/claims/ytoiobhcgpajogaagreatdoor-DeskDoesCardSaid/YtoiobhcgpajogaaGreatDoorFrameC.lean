/- The world at which a card's row has an input that fits: the listed variables hold what the program's text lays. -/
import Derived.Test.YtoiobhcgpajogaaGreatDoorRows
import Derived.WalkKit
import Derived.ProofKit
import Derived.OpenShut
import Derived.Deep.DeepHandedRow
import Derived.Lib.LaidTab
import Derived.Stop.LaidErr
namespace Go.Proofs.YtoiobhcgpajogaaGreatDoor
open Go.ChangeShapes Go.WideShapes Go.ChangeAt Go.RowKit

def lit1 : DataW Unit → Value
  | .lit (.int k z) => .int k z
  | _ => .nilIface
def flat1 : DataW Unit → List Value
  | .agg l => l.map lit1
  | _ => []
def flat2 : DataW Unit → List Value
  | .agg l => l.flatMap flat1
  | _ => []

def holdC (cs : List Value) : Obj → Obj
  | .cells _ t frozen => .cells cs.toArray t frozen
  | o => o

noncomputable def lowC : Nat := (World.holding Tryz.prog default ⟨#[], #[], []⟩).heap.size

/-- The settled world, the listed variables holding what their initialisers lay. -/
noncomputable def laidWorld (os : Os) : World :=
  { World.holding Tryz.prog os ⟨#[.cells #[.string ⟨#[118, 97, 108, 117, 101, 32, 111, 117, 116, 32, 111, 102, 32, 114, 97, 110, 103, 101]⟩] 207, .cells #[.string ⟨#[105, 110, 118, 97, 108, 105, 100, 32, 115, 121, 110, 116, 97, 120]⟩] 207], #[], []⟩ with
    heap := (((((((World.holding Tryz.prog os ⟨#[.cells #[.string ⟨#[118, 97, 108, 117, 101, 32, 111, 117, 116, 32, 111, 102, 32, 114, 97, 110, 103, 101]⟩] 207, .cells #[.string ⟨#[105, 110, 118, 97, 108, 105, 100, 32, 115, 121, 110, 116, 97, 120]⟩] 207], #[], []⟩).heap.modify 6 (holdC (flat1 Rows.laid_math_bits_deBruijn32tab))).modify
      7 (holdC (flat1 Rows.laid_math_bits_deBruijn64tab))).modify
      5 (holdC (flat1 Rows.laid_internal_strconv_uint64pow10))).modify
      4 (holdC (flat2 Rows.laid_unicode_utf8_acceptRanges))).modify
      2 (holdC [.iface 205 (.pointer (some ⟨lowC, 0, none⟩))])).modify
      1 (holdC [.iface 205 (.pointer (some ⟨lowC + 1, 0, none⟩))])).modify
      3 (holdC (flat1 Rows.laid_unicode_utf8_first)) }

theorem Tryz.own : ownKnob Tryz.prog.godebug = none := by kernel_rfl

abbrev laidL : List (String × DataW Unit) := [("math/bits.deBruijn32tab", Rows.laid_math_bits_deBruijn32tab), ("math/bits.deBruijn64tab", Rows.laid_math_bits_deBruijn64tab), ("internal/strconv.uint64pow10", Rows.laid_internal_strconv_uint64pow10), ("unicode/utf8.acceptRanges", Rows.laid_unicode_utf8_acceptRanges), ("strconv.ErrRange", Rows.laid_strconv_ErrRange), ("strconv.ErrSyntax", Rows.laid_strconv_ErrSyntax), ("unicode/utf8.first", Rows.laid_unicode_utf8_first)]

set_option maxRecDepth 100000 in
theorem laid_met (os : Os) (args : Array Value) : laidMet Tryz.prog laidL ((laidWorld os).forCall (fun _ _ => 0) ⟨#[], args, []⟩).memory :=
  laidMet_of_run' 8 (by kernel_rfl) (by kernel_rfl)

end Go.Proofs.YtoiobhcgpajogaaGreatDoor
