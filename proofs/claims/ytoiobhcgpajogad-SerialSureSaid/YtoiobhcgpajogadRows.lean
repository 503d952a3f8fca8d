/-
  No cell of these rows narrows 'for every input' (looked for: loops, veiled, ifaces, maps, wideKeys, modest, calm, conditions, laid).
  DERIVED. THE GIVEN ROWS OF THIS SEAT. 3 by the template 'for every input the law returns true; each argument reads behind the call as it read before'; 0 by the template 'total and deterministic' (their statements: YtoiobhcgpajogadTotals.lean).
  GIVEN WITH THE SEED: the statements are not yours to turn. If you find one false, say at which input.
  Laid BY PROGRAM, IN A SANDBOX (cutbox-rows.mjs): the forced cells as the released guide's own fill.sh prints them over the translation 127a29a96a61e6c1… (all of the seat's roots in one cut). By AI agents, Wed Nov 11 2026. No macro, syntax, notation, axiom, sorry.
-/
import Derived.Test.YtoiobhcgpajogadChecked
import GoSem.Claim
import GoSem.ClaimJoined
import GoSem.ClaimMapViews
import Derived.JoinedTies
import Derived.KernelRfl
namespace Go.Proofs.Ytoiobhcgpajogad
/- THE CELL 'sum', in the pinned program and in every row, IS THE sha256 OF THE DUMP (.gsa) THAT YtoiobhcgpajogadProg.lean LOADS. Nothing in Lean hashes anything: it is a label: what it is worth is what the hold of that sum in a sandbox is worth. -/
noncomputable def Try.pinned : Pinned := { name := "ytoiobhcgpajogad", sum := "127a29a96a61e6c15cc45f27164595e06962b35839f059b60ac048e80ead8824", checked := Try.checked }
namespace Rows
def none {H : Type} : Left H := { results := [], args := [] }

/-- 'vaultagelaw.SerialSure': WHATEVER THE INPUT: true; the input reads as it did. -/
def serialSureSpec : ChangeSpec := { name := "serialSure", fn := fun _ => fun
  | [d] => { results := [.lit (.bool true)], args := [d] }
  | _ => none }
def serialSureRow : OpenClaim := { program := "ytoiobhcgpajogad", sum := "127a29a96a61e6c15cc45f27164595e06962b35839f059b60ac048e80ead8824", func := "vaultage/vaultagelaw.SerialSure", spec := "serialSure", unfollowed := true, recurses := true, apart := false }
def SerialSureSaid : Prop := serialSureRow.holds Try.pinned (OpenSpec.ofChange serialSureSpec)

/-- ITS FALSE NEIGHBOUR: 'it returns false'. Refute it at one input. -/
def serialSureWrong : ChangeSpec := { name := "serialSure", fn := fun _ => fun
  | [d] => { results := [.lit (.bool false)], args := [d] }
  | _ => none }
def SerialSureWrongFalsely : Prop := serialSureRow.holds Try.pinned (OpenSpec.ofChange serialSureWrong)

/-- 'vaultagelaw.SerialWorld': WHATEVER THE INPUT: true; the input reads as it did. -/
def serialWorldSpec : ChangeSpec := { name := "serialWorld", fn := fun _ => fun
  | [d] => { results := [.lit (.bool true)], args := [d] }
  | _ => none }
def serialWorldRow : OpenClaim := { program := "ytoiobhcgpajogad", sum := "127a29a96a61e6c15cc45f27164595e06962b35839f059b60ac048e80ead8824", func := "vaultage/vaultagelaw.SerialWorld", spec := "serialWorld", unfollowed := true, recurses := true, apart := false }
def SerialWorldSaid : Prop := serialWorldRow.holds Try.pinned (OpenSpec.ofChange serialWorldSpec)

/-- ITS FALSE NEIGHBOUR: 'it returns false'. Refute it at one input. -/
def serialWorldWrong : ChangeSpec := { name := "serialWorld", fn := fun _ => fun
  | [d] => { results := [.lit (.bool false)], args := [d] }
  | _ => none }
def SerialWorldWrongFalsely : Prop := serialWorldRow.holds Try.pinned (OpenSpec.ofChange serialWorldWrong)

/-- 'vaultagelaw.SerialJoins': WHATEVER THE INPUT: true; the input reads as it did. -/
def serialJoinsSpec : ChangeSpec := { name := "serialJoins", fn := fun _ => fun
  | [d1, d2, d3] => { results := [.lit (.bool true)], args := [d1, d2, d3] }
  | _ => none }
def serialJoinsRow : OpenClaim := { program := "ytoiobhcgpajogad", sum := "127a29a96a61e6c15cc45f27164595e06962b35839f059b60ac048e80ead8824", func := "vaultage/vaultagelaw.SerialJoins", spec := "serialJoins", unfollowed := true, recurses := true, apart := false }
def SerialJoinsSaid : Prop := serialJoinsRow.holds Try.pinned (OpenSpec.ofChange serialJoinsSpec)

/-- ITS FALSE NEIGHBOUR: 'it returns false'. Refute it at one input. -/
def serialJoinsWrong : ChangeSpec := { name := "serialJoins", fn := fun _ => fun
  | [d1, d2, d3] => { results := [.lit (.bool false)], args := [d1, d2, d3] }
  | _ => none }
def SerialJoinsWrongFalsely : Prop := serialJoinsRow.holds Try.pinned (OpenSpec.ofChange serialJoinsWrong)

/- THE SECOND FORM. 'bulk': how many values and letters a reading holds, each counted each time it is reached (what is shared counts as often as it is met; a slice's spare places count too). A statement '..UptoSaid' is the law's where the arguments, and the package variables that the reading takes, are together of bulk at most 1048576: NARROWER than '..Said'. Prove '..Said' where nothing that the law and all that it calls make is longer than what came in: it says more and counts as full. Else prove '..UptoSaid'. A law counts once. -/
mutual
def uptoBulk {H : Type} : DataW H → Nat
  | .lit (.string bytes) => bytes.length + 1
  | .lit _ => 1
  | .nil => 1
  | .ptr d => uptoBulk d + 1
  | .slice elems spare => uptoBulkAll elems + uptoBulkAll spare + 1
  | .agg parts => uptoBulkAll parts + 1
  | .iface _ d => uptoBulk d + 1
  | .map entries => uptoBulkEntries entries + 1
  | .held _ => 1
def uptoBulkAll {H : Type} : List (DataW H) → Nat
  | [] => 0
  | d :: r => uptoBulk d + uptoBulkAll r
def uptoBulkEntries {H : Type} : List (Lit × DataW H) → Nat
  | [] => 0
  | x :: r => uptoBulkEntry x + uptoBulkEntries r
def uptoBulkEntry {H : Type} : Lit × DataW H → Nat
  | (.string bytes, d) => bytes.length + uptoBulk d + 1
  | (_, d) => uptoBulk d + 1
 end
def uptoSmall : (H : Type) → List (DataW H) → Bool := fun _ ds => decide (uptoBulkAll ds ≤ 1048576)
def OpenSpec.upto (s : _root_.Go.ChangeSpec) : _root_.Go.OpenSpec := { _root_.Go.OpenSpec.ofChange s with cond := some uptoSmall }

/-- 'vaultagelaw.SerialSure', WHERE WHAT IT READS IS OF BULK AT MOST 1048576: true; the input reads as it did. -/
def serialSureUptoRow : OpenClaim := { program := "ytoiobhcgpajogad", sum := "127a29a96a61e6c15cc45f27164595e06962b35839f059b60ac048e80ead8824", func := "vaultage/vaultagelaw.SerialSure", spec := "serialSure", unfollowed := true, recurses := true, apart := false, narrowed := true }
def SerialSureUptoSaid : Prop := serialSureUptoRow.holds Try.pinned (OpenSpec.upto serialSureSpec)

/-- 'vaultagelaw.SerialWorld', WHERE WHAT IT READS IS OF BULK AT MOST 1048576: true; the input reads as it did. -/
def serialWorldUptoRow : OpenClaim := { program := "ytoiobhcgpajogad", sum := "127a29a96a61e6c15cc45f27164595e06962b35839f059b60ac048e80ead8824", func := "vaultage/vaultagelaw.SerialWorld", spec := "serialWorld", unfollowed := true, recurses := true, apart := false, narrowed := true }
def SerialWorldUptoSaid : Prop := serialWorldUptoRow.holds Try.pinned (OpenSpec.upto serialWorldSpec)

/-- 'vaultagelaw.SerialJoins', WHERE WHAT IT READS IS OF BULK AT MOST 1048576: true; the input reads as it did. -/
def serialJoinsUptoRow : OpenClaim := { program := "ytoiobhcgpajogad", sum := "127a29a96a61e6c15cc45f27164595e06962b35839f059b60ac048e80ead8824", func := "vaultage/vaultagelaw.SerialJoins", spec := "serialJoins", unfollowed := true, recurses := true, apart := false, narrowed := true }
def SerialJoinsUptoSaid : Prop := serialJoinsUptoRow.holds Try.pinned (OpenSpec.upto serialJoinsSpec)

end Rows
end Go.Proofs.Ytoiobhcgpajogad
