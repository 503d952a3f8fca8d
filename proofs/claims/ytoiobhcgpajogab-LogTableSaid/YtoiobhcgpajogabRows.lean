/-
  No cell of these rows narrows 'for every input' (looked for: loops, veiled, ifaces, maps, wideKeys, modest, calm, conditions, laid).
  DERIVED. THE GIVEN ROWS OF THIS SEAT. 11 by the template 'for every input the law returns true; each argument reads behind the call as it read before'; 0 by the template 'total and deterministic' (their statements: YtoiobhcgpajogabTotals.lean).
  GIVEN WITH THE SEED: the statements are not yours to turn. If you find one false, say at which input.
  Laid BY PROGRAM, IN A SANDBOX (cutbox-rows.mjs): the forced cells as the released guide's own fill.sh prints them over the translation 1e9dfa30c17db700… (all of the seat's roots in one cut). By AI agents, Wed Nov 11 2026. No macro, syntax, notation, axiom, sorry.
-/
import Derived.Test.YtoiobhcgpajogabChecked
import GoSem.Claim
import GoSem.ClaimJoined
import GoSem.ClaimMapViews
import Derived.JoinedTies
import Derived.KernelRfl
namespace Go.Proofs.Ytoiobhcgpajogab
/- THE CELL 'sum', in the pinned program and in every row, IS THE sha256 OF THE DUMP (.gsa) THAT YtoiobhcgpajogabProg.lean LOADS. Nothing in Lean hashes anything: it is a label: what it is worth is what the hold of that sum in a sandbox is worth. -/
noncomputable def Try.pinned : Pinned := { name := "ytoiobhcgpajogab", sum := "1e9dfa30c17db70069f91d54e03fe3f652261eb2d3960ddbb1f92c6503479970", checked := Try.checked }
namespace Rows
def none {H : Type} : Left H := { results := [], args := [] }

/-- 'vaultagelaw.TableShots': WHATEVER THE INPUT: true; the input reads as it did. -/
def tableShotsSpec : ChangeSpec := { name := "tableShots", fn := fun _ => fun
  | [d1, d2, d3] => { results := [.lit (.bool true)], args := [d1, d2, d3] }
  | _ => none }
def tableShotsRow : OpenClaim := { program := "ytoiobhcgpajogab", sum := "1e9dfa30c17db70069f91d54e03fe3f652261eb2d3960ddbb1f92c6503479970", func := "vaultage/vaultagelaw.TableShots", spec := "tableShots", apart := false }
def TableShotsSaid : Prop := tableShotsRow.holds Try.pinned (OpenSpec.ofChange tableShotsSpec)

/-- ITS FALSE NEIGHBOUR: 'it returns false'. Refute it at one input. -/
def tableShotsWrong : ChangeSpec := { name := "tableShots", fn := fun _ => fun
  | [d1, d2, d3] => { results := [.lit (.bool false)], args := [d1, d2, d3] }
  | _ => none }
def TableShotsWrongFalsely : Prop := tableShotsRow.holds Try.pinned (OpenSpec.ofChange tableShotsWrong)

/-- 'vaultagelaw.TableClears': WHATEVER THE INPUT: true; the input reads as it did. -/
def tableClearsSpec : ChangeSpec := { name := "tableClears", fn := fun _ => fun
  | [d1, d2, d3] => { results := [.lit (.bool true)], args := [d1, d2, d3] }
  | _ => none }
def tableClearsRow : OpenClaim := { program := "ytoiobhcgpajogab", sum := "1e9dfa30c17db70069f91d54e03fe3f652261eb2d3960ddbb1f92c6503479970", func := "vaultage/vaultagelaw.TableClears", spec := "tableClears", apart := false }
def TableClearsSaid : Prop := tableClearsRow.holds Try.pinned (OpenSpec.ofChange tableClearsSpec)

/-- ITS FALSE NEIGHBOUR: 'it returns false'. Refute it at one input. -/
def tableClearsWrong : ChangeSpec := { name := "tableClears", fn := fun _ => fun
  | [d1, d2, d3] => { results := [.lit (.bool false)], args := [d1, d2, d3] }
  | _ => none }
def TableClearsWrongFalsely : Prop := tableClearsRow.holds Try.pinned (OpenSpec.ofChange tableClearsWrong)

/-- 'vaultagelaw.TableLists': WHATEVER THE INPUT: true; the input reads as it did. -/
def tableListsSpec : ChangeSpec := { name := "tableLists", fn := fun _ => fun
  | [d1, d2, d3] => { results := [.lit (.bool true)], args := [d1, d2, d3] }
  | _ => none }
def tableListsRow : OpenClaim := { program := "ytoiobhcgpajogab", sum := "1e9dfa30c17db70069f91d54e03fe3f652261eb2d3960ddbb1f92c6503479970", func := "vaultage/vaultagelaw.TableLists", spec := "tableLists", apart := false }
def TableListsSaid : Prop := tableListsRow.holds Try.pinned (OpenSpec.ofChange tableListsSpec)

/-- ITS FALSE NEIGHBOUR: 'it returns false'. Refute it at one input. -/
def tableListsWrong : ChangeSpec := { name := "tableLists", fn := fun _ => fun
  | [d1, d2, d3] => { results := [.lit (.bool false)], args := [d1, d2, d3] }
  | _ => none }
def TableListsWrongFalsely : Prop := tableListsRow.holds Try.pinned (OpenSpec.ofChange tableListsWrong)

/-- 'vaultagelaw.TableSince': WHATEVER THE INPUT: true; the input reads as it did. -/
def tableSinceSpec : ChangeSpec := { name := "tableSince", fn := fun _ => fun
  | [d1, d2] => { results := [.lit (.bool true)], args := [d1, d2] }
  | _ => none }
def tableSinceRow : OpenClaim := { program := "ytoiobhcgpajogab", sum := "1e9dfa30c17db70069f91d54e03fe3f652261eb2d3960ddbb1f92c6503479970", func := "vaultage/vaultagelaw.TableSince", spec := "tableSince", apart := false }
def TableSinceSaid : Prop := tableSinceRow.holds Try.pinned (OpenSpec.ofChange tableSinceSpec)

/-- ITS FALSE NEIGHBOUR: 'it returns false'. Refute it at one input. -/
def tableSinceWrong : ChangeSpec := { name := "tableSince", fn := fun _ => fun
  | [d1, d2] => { results := [.lit (.bool false)], args := [d1, d2] }
  | _ => none }
def TableSinceWrongFalsely : Prop := tableSinceRow.holds Try.pinned (OpenSpec.ofChange tableSinceWrong)

/-- 'vaultagelaw.LogTorn': WHATEVER THE INPUT: true; the input reads as it did. -/
def logTornSpec : ChangeSpec := { name := "logTorn", fn := fun _ => fun
  | [d1, d2, d3] => { results := [.lit (.bool true)], args := [d1, d2, d3] }
  | _ => none }
def logTornRow : OpenClaim := { program := "ytoiobhcgpajogab", sum := "1e9dfa30c17db70069f91d54e03fe3f652261eb2d3960ddbb1f92c6503479970", func := "vaultage/vaultagelaw.LogTorn", spec := "logTorn", apart := false }
def LogTornSaid : Prop := logTornRow.holds Try.pinned (OpenSpec.ofChange logTornSpec)

/-- ITS FALSE NEIGHBOUR: 'it returns false'. Refute it at one input. -/
def logTornWrong : ChangeSpec := { name := "logTorn", fn := fun _ => fun
  | [d1, d2, d3] => { results := [.lit (.bool false)], args := [d1, d2, d3] }
  | _ => none }
def LogTornWrongFalsely : Prop := logTornRow.holds Try.pinned (OpenSpec.ofChange logTornWrong)

/-- 'vaultagelaw.LogRefuses': WHATEVER THE INPUT: true; the input reads as it did. -/
def logRefusesSpec : ChangeSpec := { name := "logRefuses", fn := fun _ => fun
  | [d1, d2, d3] => { results := [.lit (.bool true)], args := [d1, d2, d3] }
  | _ => none }
def logRefusesRow : OpenClaim := { program := "ytoiobhcgpajogab", sum := "1e9dfa30c17db70069f91d54e03fe3f652261eb2d3960ddbb1f92c6503479970", func := "vaultage/vaultagelaw.LogRefuses", spec := "logRefuses", apart := false }
def LogRefusesSaid : Prop := logRefusesRow.holds Try.pinned (OpenSpec.ofChange logRefusesSpec)

/-- ITS FALSE NEIGHBOUR: 'it returns false'. Refute it at one input. -/
def logRefusesWrong : ChangeSpec := { name := "logRefuses", fn := fun _ => fun
  | [d1, d2, d3] => { results := [.lit (.bool false)], args := [d1, d2, d3] }
  | _ => none }
def LogRefusesWrongFalsely : Prop := logRefusesRow.holds Try.pinned (OpenSpec.ofChange logRefusesWrong)

/-- 'vaultagelaw.DeedSees': WHATEVER THE INPUT: true; the input reads as it did. -/
def deedSeesSpec : ChangeSpec := { name := "deedSees", fn := fun _ => fun
  | [d1, d2, d3] => { results := [.lit (.bool true)], args := [d1, d2, d3] }
  | _ => none }
def deedSeesRow : OpenClaim := { program := "ytoiobhcgpajogab", sum := "1e9dfa30c17db70069f91d54e03fe3f652261eb2d3960ddbb1f92c6503479970", func := "vaultage/vaultagelaw.DeedSees", spec := "deedSees", apart := false }
def DeedSeesSaid : Prop := deedSeesRow.holds Try.pinned (OpenSpec.ofChange deedSeesSpec)

/-- ITS FALSE NEIGHBOUR: 'it returns false'. Refute it at one input. -/
def deedSeesWrong : ChangeSpec := { name := "deedSees", fn := fun _ => fun
  | [d1, d2, d3] => { results := [.lit (.bool false)], args := [d1, d2, d3] }
  | _ => none }
def DeedSeesWrongFalsely : Prop := deedSeesRow.holds Try.pinned (OpenSpec.ofChange deedSeesWrong)

/-- 'vaultagelaw.DeedMay': WHATEVER THE INPUT: true; the input reads as it did. -/
def deedMaySpec : ChangeSpec := { name := "deedMay", fn := fun _ => fun
  | [d1, d2, d3, d4] => { results := [.lit (.bool true)], args := [d1, d2, d3, d4] }
  | _ => none }
def deedMayRow : OpenClaim := { program := "ytoiobhcgpajogab", sum := "1e9dfa30c17db70069f91d54e03fe3f652261eb2d3960ddbb1f92c6503479970", func := "vaultage/vaultagelaw.DeedMay", spec := "deedMay", apart := false }
def DeedMaySaid : Prop := deedMayRow.holds Try.pinned (OpenSpec.ofChange deedMaySpec)

/-- ITS FALSE NEIGHBOUR: 'it returns false'. Refute it at one input. -/
def deedMayWrong : ChangeSpec := { name := "deedMay", fn := fun _ => fun
  | [d1, d2, d3, d4] => { results := [.lit (.bool false)], args := [d1, d2, d3, d4] }
  | _ => none }
def DeedMayWrongFalsely : Prop := deedMayRow.holds Try.pinned (OpenSpec.ofChange deedMayWrong)

/-- 'vaultagelaw.DeedReads': WHATEVER THE INPUT: true; the input reads as it did. -/
def deedReadsSpec : ChangeSpec := { name := "deedReads", fn := fun _ => fun
  | [d1, d2, d3] => { results := [.lit (.bool true)], args := [d1, d2, d3] }
  | _ => none }
def deedReadsRow : OpenClaim := { program := "ytoiobhcgpajogab", sum := "1e9dfa30c17db70069f91d54e03fe3f652261eb2d3960ddbb1f92c6503479970", func := "vaultage/vaultagelaw.DeedReads", spec := "deedReads", apart := false }
def DeedReadsSaid : Prop := deedReadsRow.holds Try.pinned (OpenSpec.ofChange deedReadsSpec)

/-- ITS FALSE NEIGHBOUR: 'it returns false'. Refute it at one input. -/
def deedReadsWrong : ChangeSpec := { name := "deedReads", fn := fun _ => fun
  | [d1, d2, d3] => { results := [.lit (.bool false)], args := [d1, d2, d3] }
  | _ => none }
def DeedReadsWrongFalsely : Prop := deedReadsRow.holds Try.pinned (OpenSpec.ofChange deedReadsWrong)

/-- 'vaultagelaw.LogDoes': WHATEVER THE INPUT: true; the input reads as it did. -/
def logDoesSpec : ChangeSpec := { name := "logDoes", fn := fun _ => fun
  | [d1, d2, d3, d4] => { results := [.lit (.bool true)], args := [d1, d2, d3, d4] }
  | _ => none }
def logDoesRow : OpenClaim := { program := "ytoiobhcgpajogab", sum := "1e9dfa30c17db70069f91d54e03fe3f652261eb2d3960ddbb1f92c6503479970", func := "vaultage/vaultagelaw.LogDoes", spec := "logDoes", apart := false }
def LogDoesSaid : Prop := logDoesRow.holds Try.pinned (OpenSpec.ofChange logDoesSpec)

/-- ITS FALSE NEIGHBOUR: 'it returns false'. Refute it at one input. -/
def logDoesWrong : ChangeSpec := { name := "logDoes", fn := fun _ => fun
  | [d1, d2, d3, d4] => { results := [.lit (.bool false)], args := [d1, d2, d3, d4] }
  | _ => none }
def LogDoesWrongFalsely : Prop := logDoesRow.holds Try.pinned (OpenSpec.ofChange logDoesWrong)

/-- 'vaultagelaw.LogTable': WHATEVER THE INPUT: true; the input reads as it did. -/
def logTableSpec : ChangeSpec := { name := "logTable", fn := fun _ => fun
  | [d1, d2] => { results := [.lit (.bool true)], args := [d1, d2] }
  | _ => none }
def logTableRow : OpenClaim := { program := "ytoiobhcgpajogab", sum := "1e9dfa30c17db70069f91d54e03fe3f652261eb2d3960ddbb1f92c6503479970", func := "vaultage/vaultagelaw.LogTable", spec := "logTable", apart := false }
def LogTableSaid : Prop := logTableRow.holds Try.pinned (OpenSpec.ofChange logTableSpec)

/-- ITS FALSE NEIGHBOUR: 'it returns false'. Refute it at one input. -/
def logTableWrong : ChangeSpec := { name := "logTable", fn := fun _ => fun
  | [d1, d2] => { results := [.lit (.bool false)], args := [d1, d2] }
  | _ => none }
def LogTableWrongFalsely : Prop := logTableRow.holds Try.pinned (OpenSpec.ofChange logTableWrong)

/- THE SECOND FORM. 'bulk': how many values and letters a reading holds, each counted each time it is reached (what is shared counts as often as it is met; a slice's spare places count too). A statement '..UptoSaid' is the law's where the arguments, and the package variables that the reading takes, are together of bulk at most 1048576: NARROWER than '..Said'. Prove '..Said' where nothing that the law and all that it calls make is longer than what came in: it says more and counts as full. Else prove '..UptoSaid'. A law counts once. -/
mutual
def uptoBulk {H : Type} : DataW H → Nat
  | .lit (.string bytes) => bytes.length + 1
  | .lit _ => 1
  | .nil => 1
  | .ptr d => uptoBulk d + 1
  | .slice elems spare => uptoBulkAll elems + uptoBulkAll spare + 1
  | .agg parts => uptoBulkAll parts + 1
  | .iface _ d => uptoBulk d + 1
  | .map entries => uptoBulkEntries entries + 1
  | .held _ => 1
def uptoBulkAll {H : Type} : List (DataW H) → Nat
  | [] => 0
  | d :: r => uptoBulk d + uptoBulkAll r
def uptoBulkEntries {H : Type} : List (Lit × DataW H) → Nat
  | [] => 0
  | x :: r => uptoBulkEntry x + uptoBulkEntries r
def uptoBulkEntry {H : Type} : Lit × DataW H → Nat
  | (.string bytes, d) => bytes.length + uptoBulk d + 1
  | (_, d) => uptoBulk d + 1
 end
def uptoSmall : (H : Type) → List (DataW H) → Bool := fun _ ds => decide (uptoBulkAll ds ≤ 1048576)
def OpenSpec.upto (s : _root_.Go.ChangeSpec) : _root_.Go.OpenSpec := { _root_.Go.OpenSpec.ofChange s with cond := some uptoSmall }

/-- 'vaultagelaw.TableShots', WHERE WHAT IT READS IS OF BULK AT MOST 1048576: true; the input reads as it did. -/
def tableShotsUptoRow : OpenClaim := { program := "ytoiobhcgpajogab", sum := "1e9dfa30c17db70069f91d54e03fe3f652261eb2d3960ddbb1f92c6503479970", func := "vaultage/vaultagelaw.TableShots", spec := "tableShots", apart := false, narrowed := true }
def TableShotsUptoSaid : Prop := tableShotsUptoRow.holds Try.pinned (OpenSpec.upto tableShotsSpec)

/-- 'vaultagelaw.TableClears', WHERE WHAT IT READS IS OF BULK AT MOST 1048576: true; the input reads as it did. -/
def tableClearsUptoRow : OpenClaim := { program := "ytoiobhcgpajogab", sum := "1e9dfa30c17db70069f91d54e03fe3f652261eb2d3960ddbb1f92c6503479970", func := "vaultage/vaultagelaw.TableClears", spec := "tableClears", apart := false, narrowed := true }
def TableClearsUptoSaid : Prop := tableClearsUptoRow.holds Try.pinned (OpenSpec.upto tableClearsSpec)

/-- 'vaultagelaw.TableLists', WHERE WHAT IT READS IS OF BULK AT MOST 1048576: true; the input reads as it did. -/
def tableListsUptoRow : OpenClaim := { program := "ytoiobhcgpajogab", sum := "1e9dfa30c17db70069f91d54e03fe3f652261eb2d3960ddbb1f92c6503479970", func := "vaultage/vaultagelaw.TableLists", spec := "tableLists", apart := false, narrowed := true }
def TableListsUptoSaid : Prop := tableListsUptoRow.holds Try.pinned (OpenSpec.upto tableListsSpec)

/-- 'vaultagelaw.TableSince', WHERE WHAT IT READS IS OF BULK AT MOST 1048576: true; the input reads as it did. -/
def tableSinceUptoRow : OpenClaim := { program := "ytoiobhcgpajogab", sum := "1e9dfa30c17db70069f91d54e03fe3f652261eb2d3960ddbb1f92c6503479970", func := "vaultage/vaultagelaw.TableSince", spec := "tableSince", apart := false, narrowed := true }
def TableSinceUptoSaid : Prop := tableSinceUptoRow.holds Try.pinned (OpenSpec.upto tableSinceSpec)

/-- 'vaultagelaw.LogTorn', WHERE WHAT IT READS IS OF BULK AT MOST 1048576: true; the input reads as it did. -/
def logTornUptoRow : OpenClaim := { program := "ytoiobhcgpajogab", sum := "1e9dfa30c17db70069f91d54e03fe3f652261eb2d3960ddbb1f92c6503479970", func := "vaultage/vaultagelaw.LogTorn", spec := "logTorn", apart := false, narrowed := true }
def LogTornUptoSaid : Prop := logTornUptoRow.holds Try.pinned (OpenSpec.upto logTornSpec)

/-- 'vaultagelaw.LogRefuses', WHERE WHAT IT READS IS OF BULK AT MOST 1048576: true; the input reads as it did. -/
def logRefusesUptoRow : OpenClaim := { program := "ytoiobhcgpajogab", sum := "1e9dfa30c17db70069f91d54e03fe3f652261eb2d3960ddbb1f92c6503479970", func := "vaultage/vaultagelaw.LogRefuses", spec := "logRefuses", apart := false, narrowed := true }
def LogRefusesUptoSaid : Prop := logRefusesUptoRow.holds Try.pinned (OpenSpec.upto logRefusesSpec)

/-- 'vaultagelaw.DeedSees', WHERE WHAT IT READS IS OF BULK AT MOST 1048576: true; the input reads as it did. -/
def deedSeesUptoRow : OpenClaim := { program := "ytoiobhcgpajogab", sum := "1e9dfa30c17db70069f91d54e03fe3f652261eb2d3960ddbb1f92c6503479970", func := "vaultage/vaultagelaw.DeedSees", spec := "deedSees", apart := false, narrowed := true }
def DeedSeesUptoSaid : Prop := deedSeesUptoRow.holds Try.pinned (OpenSpec.upto deedSeesSpec)

/-- 'vaultagelaw.DeedMay', WHERE WHAT IT READS IS OF BULK AT MOST 1048576: true; the input reads as it did. -/
def deedMayUptoRow : OpenClaim := { program := "ytoiobhcgpajogab", sum := "1e9dfa30c17db70069f91d54e03fe3f652261eb2d3960ddbb1f92c6503479970", func := "vaultage/vaultagelaw.DeedMay", spec := "deedMay", apart := false, narrowed := true }
def DeedMayUptoSaid : Prop := deedMayUptoRow.holds Try.pinned (OpenSpec.upto deedMaySpec)

/-- 'vaultagelaw.DeedReads', WHERE WHAT IT READS IS OF BULK AT MOST 1048576: true; the input reads as it did. -/
def deedReadsUptoRow : OpenClaim := { program := "ytoiobhcgpajogab", sum := "1e9dfa30c17db70069f91d54e03fe3f652261eb2d3960ddbb1f92c6503479970", func := "vaultage/vaultagelaw.DeedReads", spec := "deedReads", apart := false, narrowed := true }
def DeedReadsUptoSaid : Prop := deedReadsUptoRow.holds Try.pinned (OpenSpec.upto deedReadsSpec)

/-- 'vaultagelaw.LogDoes', WHERE WHAT IT READS IS OF BULK AT MOST 1048576: true; the input reads as it did. -/
def logDoesUptoRow : OpenClaim := { program := "ytoiobhcgpajogab", sum := "1e9dfa30c17db70069f91d54e03fe3f652261eb2d3960ddbb1f92c6503479970", func := "vaultage/vaultagelaw.LogDoes", spec := "logDoes", apart := false, narrowed := true }
def LogDoesUptoSaid : Prop := logDoesUptoRow.holds Try.pinned (OpenSpec.upto logDoesSpec)

/-- 'vaultagelaw.LogTable', WHERE WHAT IT READS IS OF BULK AT MOST 1048576: true; the input reads as it did. -/
def logTableUptoRow : OpenClaim := { program := "ytoiobhcgpajogab", sum := "1e9dfa30c17db70069f91d54e03fe3f652261eb2d3960ddbb1f92c6503479970", func := "vaultage/vaultagelaw.LogTable", spec := "logTable", apart := false, narrowed := true }
def LogTableUptoSaid : Prop := logTableUptoRow.holds Try.pinned (OpenSpec.upto logTableSpec)

end Rows
end Go.Proofs.Ytoiobhcgpajogab
