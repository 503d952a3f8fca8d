/-
  No cell of these rows narrows 'for every input' (looked for: loops, veiled, ifaces, maps, wideKeys, modest, calm, conditions, laid).
  DERIVED. THE GIVEN ROWS OF THIS SEAT. 12 by the template 'for every input the law returns true; each argument reads behind the call as it read before'; 0 by the template 'total and deterministic' (their statements: YtoiobhcgpajogacTotals.lean).
  GIVEN WITH THE SEED: the statements are not yours to turn. If you find one false, say at which input.
  Laid BY PROGRAM, IN A SANDBOX (cutbox-rows.mjs): the forced cells as the released guide's own fill.sh prints them over the translation db1722c2897306da… (all of the seat's roots in one cut). By AI agents, Wed Nov 11 2026. No macro, syntax, notation, axiom, sorry.
-/
import Derived.Test.YtoiobhcgpajogacChecked
import GoSem.Claim
import GoSem.ClaimJoined
import GoSem.ClaimMapViews
import Derived.JoinedTies
import Derived.KernelRfl
namespace Go.Proofs.Ytoiobhcgpajogac
/- THE CELL 'sum', in the pinned program and in every row, IS THE sha256 OF THE DUMP (.gsa) THAT YtoiobhcgpajogacProg.lean LOADS. Nothing in Lean hashes anything: it is a label: what it is worth is what the hold of that sum in a sandbox is worth. -/
noncomputable def Try.pinned : Pinned := { name := "ytoiobhcgpajogac", sum := "db1722c2897306da8b18f751f0c8ef625ae8b09478ff1c3b076800af165669b1", checked := Try.checked }
namespace Rows
def none {H : Type} : Left H := { results := [], args := [] }

/-- 'vaultagelaw.DeedDoes': WHATEVER THE INPUT: true; the input reads as it did. -/
def deedDoesSpec : ChangeSpec := { name := "deedDoes", fn := fun _ => fun
  | [d1, d2, d3, d4] => { results := [.lit (.bool true)], args := [d1, d2, d3, d4] }
  | _ => none }
def deedDoesRow : OpenClaim := { program := "ytoiobhcgpajogac", sum := "db1722c2897306da8b18f751f0c8ef625ae8b09478ff1c3b076800af165669b1", func := "vaultage/vaultagelaw.DeedDoes", spec := "deedDoes", apart := false }
def DeedDoesSaid : Prop := deedDoesRow.holds Try.pinned (OpenSpec.ofChange deedDoesSpec)

/-- ITS FALSE NEIGHBOUR: 'it returns false'. Refute it at one input. -/
def deedDoesWrong : ChangeSpec := { name := "deedDoes", fn := fun _ => fun
  | [d1, d2, d3, d4] => { results := [.lit (.bool false)], args := [d1, d2, d3, d4] }
  | _ => none }
def DeedDoesWrongFalsely : Prop := deedDoesRow.holds Try.pinned (OpenSpec.ofChange deedDoesWrong)

/-- 'vaultagelaw.VaultDoes': WHATEVER THE INPUT: true; the input reads as it did. -/
def vaultDoesSpec : ChangeSpec := { name := "vaultDoes", fn := fun _ => fun
  | [d] => { results := [.lit (.bool true)], args := [d] }
  | _ => none }
def vaultDoesRow : OpenClaim := { program := "ytoiobhcgpajogac", sum := "db1722c2897306da8b18f751f0c8ef625ae8b09478ff1c3b076800af165669b1", func := "vaultage/vaultagelaw.VaultDoes", spec := "vaultDoes", apart := false }
def VaultDoesSaid : Prop := vaultDoesRow.holds Try.pinned (OpenSpec.ofChange vaultDoesSpec)

/-- ITS FALSE NEIGHBOUR: 'it returns false'. Refute it at one input. -/
def vaultDoesWrong : ChangeSpec := { name := "vaultDoes", fn := fun _ => fun
  | [d] => { results := [.lit (.bool false)], args := [d] }
  | _ => none }
def VaultDoesWrongFalsely : Prop := vaultDoesRow.holds Try.pinned (OpenSpec.ofChange vaultDoesWrong)

/-- 'vaultagelaw.VaultAgain': WHATEVER THE INPUT: true; the input reads as it did. -/
def vaultAgainSpec : ChangeSpec := { name := "vaultAgain", fn := fun _ => fun
  | [d] => { results := [.lit (.bool true)], args := [d] }
  | _ => none }
def vaultAgainRow : OpenClaim := { program := "ytoiobhcgpajogac", sum := "db1722c2897306da8b18f751f0c8ef625ae8b09478ff1c3b076800af165669b1", func := "vaultage/vaultagelaw.VaultAgain", spec := "vaultAgain", apart := false }
def VaultAgainSaid : Prop := vaultAgainRow.holds Try.pinned (OpenSpec.ofChange vaultAgainSpec)

/-- ITS FALSE NEIGHBOUR: 'it returns false'. Refute it at one input. -/
def vaultAgainWrong : ChangeSpec := { name := "vaultAgain", fn := fun _ => fun
  | [d] => { results := [.lit (.bool false)], args := [d] }
  | _ => none }
def VaultAgainWrongFalsely : Prop := vaultAgainRow.holds Try.pinned (OpenSpec.ofChange vaultAgainWrong)

/-- 'vaultagelaw.VaultTears': WHATEVER THE INPUT: true; the input reads as it did. -/
def vaultTearsSpec : ChangeSpec := { name := "vaultTears", fn := fun _ => fun
  | [d1, d2, d3] => { results := [.lit (.bool true)], args := [d1, d2, d3] }
  | _ => none }
def vaultTearsRow : OpenClaim := { program := "ytoiobhcgpajogac", sum := "db1722c2897306da8b18f751f0c8ef625ae8b09478ff1c3b076800af165669b1", func := "vaultage/vaultagelaw.VaultTears", spec := "vaultTears", apart := false }
def VaultTearsSaid : Prop := vaultTearsRow.holds Try.pinned (OpenSpec.ofChange vaultTearsSpec)

/-- ITS FALSE NEIGHBOUR: 'it returns false'. Refute it at one input. -/
def vaultTearsWrong : ChangeSpec := { name := "vaultTears", fn := fun _ => fun
  | [d1, d2, d3] => { results := [.lit (.bool false)], args := [d1, d2, d3] }
  | _ => none }
def VaultTearsWrongFalsely : Prop := vaultTearsRow.holds Try.pinned (OpenSpec.ofChange vaultTearsWrong)

/-- 'vaultagelaw.VaultLooks': WHATEVER THE INPUT: true; the input reads as it did. -/
def vaultLooksSpec : ChangeSpec := { name := "vaultLooks", fn := fun _ => fun
  | [d1, d2, d3] => { results := [.lit (.bool true)], args := [d1, d2, d3] }
  | _ => none }
def vaultLooksRow : OpenClaim := { program := "ytoiobhcgpajogac", sum := "db1722c2897306da8b18f751f0c8ef625ae8b09478ff1c3b076800af165669b1", func := "vaultage/vaultagelaw.VaultLooks", spec := "vaultLooks", apart := false }
def VaultLooksSaid : Prop := vaultLooksRow.holds Try.pinned (OpenSpec.ofChange vaultLooksSpec)

/-- ITS FALSE NEIGHBOUR: 'it returns false'. Refute it at one input. -/
def vaultLooksWrong : ChangeSpec := { name := "vaultLooks", fn := fun _ => fun
  | [d1, d2, d3] => { results := [.lit (.bool false)], args := [d1, d2, d3] }
  | _ => none }
def VaultLooksWrongFalsely : Prop := vaultLooksRow.holds Try.pinned (OpenSpec.ofChange vaultLooksWrong)

/-- 'vaultagelaw.HallShots': WHATEVER THE INPUT: true; the input reads as it did. -/
def hallShotsSpec : ChangeSpec := { name := "hallShots", fn := fun _ => fun
  | [d] => { results := [.lit (.bool true)], args := [d] }
  | _ => none }
def hallShotsRow : OpenClaim := { program := "ytoiobhcgpajogac", sum := "db1722c2897306da8b18f751f0c8ef625ae8b09478ff1c3b076800af165669b1", func := "vaultage/vaultagelaw.HallShots", spec := "hallShots", apart := false }
def HallShotsSaid : Prop := hallShotsRow.holds Try.pinned (OpenSpec.ofChange hallShotsSpec)

/-- ITS FALSE NEIGHBOUR: 'it returns false'. Refute it at one input. -/
def hallShotsWrong : ChangeSpec := { name := "hallShots", fn := fun _ => fun
  | [d] => { results := [.lit (.bool false)], args := [d] }
  | _ => none }
def HallShotsWrongFalsely : Prop := hallShotsRow.holds Try.pinned (OpenSpec.ofChange hallShotsWrong)

/-- 'vaultagelaw.HallFirst': WHATEVER THE INPUT: true; the input reads as it did. -/
def hallFirstSpec : ChangeSpec := { name := "hallFirst", fn := fun _ => fun
  | [d] => { results := [.lit (.bool true)], args := [d] }
  | _ => none }
def hallFirstRow : OpenClaim := { program := "ytoiobhcgpajogac", sum := "db1722c2897306da8b18f751f0c8ef625ae8b09478ff1c3b076800af165669b1", func := "vaultage/vaultagelaw.HallFirst", spec := "hallFirst", apart := false }
def HallFirstSaid : Prop := hallFirstRow.holds Try.pinned (OpenSpec.ofChange hallFirstSpec)

/-- ITS FALSE NEIGHBOUR: 'it returns false'. Refute it at one input. -/
def hallFirstWrong : ChangeSpec := { name := "hallFirst", fn := fun _ => fun
  | [d] => { results := [.lit (.bool false)], args := [d] }
  | _ => none }
def HallFirstWrongFalsely : Prop := hallFirstRow.holds Try.pinned (OpenSpec.ofChange hallFirstWrong)

/-- 'vaultagelaw.HallCrash': WHATEVER THE INPUT: true; the input reads as it did. -/
def hallCrashSpec : ChangeSpec := { name := "hallCrash", fn := fun _ => fun
  | [d] => { results := [.lit (.bool true)], args := [d] }
  | _ => none }
def hallCrashRow : OpenClaim := { program := "ytoiobhcgpajogac", sum := "db1722c2897306da8b18f751f0c8ef625ae8b09478ff1c3b076800af165669b1", func := "vaultage/vaultagelaw.HallCrash", spec := "hallCrash", apart := false }
def HallCrashSaid : Prop := hallCrashRow.holds Try.pinned (OpenSpec.ofChange hallCrashSpec)

/-- ITS FALSE NEIGHBOUR: 'it returns false'. Refute it at one input. -/
def hallCrashWrong : ChangeSpec := { name := "hallCrash", fn := fun _ => fun
  | [d] => { results := [.lit (.bool false)], args := [d] }
  | _ => none }
def HallCrashWrongFalsely : Prop := hallCrashRow.holds Try.pinned (OpenSpec.ofChange hallCrashWrong)

/-- 'vaultagelaw.HallAlone': WHATEVER THE INPUT: true; the input reads as it did. -/
def hallAloneSpec : ChangeSpec := { name := "hallAlone", fn := fun _ => fun
  | [d] => { results := [.lit (.bool true)], args := [d] }
  | _ => none }
def hallAloneRow : OpenClaim := { program := "ytoiobhcgpajogac", sum := "db1722c2897306da8b18f751f0c8ef625ae8b09478ff1c3b076800af165669b1", func := "vaultage/vaultagelaw.HallAlone", spec := "hallAlone", apart := false }
def HallAloneSaid : Prop := hallAloneRow.holds Try.pinned (OpenSpec.ofChange hallAloneSpec)

/-- ITS FALSE NEIGHBOUR: 'it returns false'. Refute it at one input. -/
def hallAloneWrong : ChangeSpec := { name := "hallAlone", fn := fun _ => fun
  | [d] => { results := [.lit (.bool false)], args := [d] }
  | _ => none }
def HallAloneWrongFalsely : Prop := hallAloneRow.holds Try.pinned (OpenSpec.ofChange hallAloneWrong)

/-- 'vaultagelaw.HallClears': WHATEVER THE INPUT: true; the input reads as it did. -/
def hallClearsSpec : ChangeSpec := { name := "hallClears", fn := fun _ => fun
  | [d] => { results := [.lit (.bool true)], args := [d] }
  | _ => none }
def hallClearsRow : OpenClaim := { program := "ytoiobhcgpajogac", sum := "db1722c2897306da8b18f751f0c8ef625ae8b09478ff1c3b076800af165669b1", func := "vaultage/vaultagelaw.HallClears", spec := "hallClears", apart := false }
def HallClearsSaid : Prop := hallClearsRow.holds Try.pinned (OpenSpec.ofChange hallClearsSpec)

/-- ITS FALSE NEIGHBOUR: 'it returns false'. Refute it at one input. -/
def hallClearsWrong : ChangeSpec := { name := "hallClears", fn := fun _ => fun
  | [d] => { results := [.lit (.bool false)], args := [d] }
  | _ => none }
def HallClearsWrongFalsely : Prop := hallClearsRow.holds Try.pinned (OpenSpec.ofChange hallClearsWrong)

/-- 'vaultagelaw.HallRefuses': WHATEVER THE INPUT: true; the input reads as it did. -/
def hallRefusesSpec : ChangeSpec := { name := "hallRefuses", fn := fun _ => fun
  | [d] => { results := [.lit (.bool true)], args := [d] }
  | _ => none }
def hallRefusesRow : OpenClaim := { program := "ytoiobhcgpajogac", sum := "db1722c2897306da8b18f751f0c8ef625ae8b09478ff1c3b076800af165669b1", func := "vaultage/vaultagelaw.HallRefuses", spec := "hallRefuses", apart := false }
def HallRefusesSaid : Prop := hallRefusesRow.holds Try.pinned (OpenSpec.ofChange hallRefusesSpec)

/-- ITS FALSE NEIGHBOUR: 'it returns false'. Refute it at one input. -/
def hallRefusesWrong : ChangeSpec := { name := "hallRefuses", fn := fun _ => fun
  | [d] => { results := [.lit (.bool false)], args := [d] }
  | _ => none }
def HallRefusesWrongFalsely : Prop := hallRefusesRow.holds Try.pinned (OpenSpec.ofChange hallRefusesWrong)

/-- 'vaultagelaw.HallDoes': WHATEVER THE INPUT: true; the input reads as it did. -/
def hallDoesSpec : ChangeSpec := { name := "hallDoes", fn := fun _ => fun
  | [d] => { results := [.lit (.bool true)], args := [d] }
  | _ => none }
def hallDoesRow : OpenClaim := { program := "ytoiobhcgpajogac", sum := "db1722c2897306da8b18f751f0c8ef625ae8b09478ff1c3b076800af165669b1", func := "vaultage/vaultagelaw.HallDoes", spec := "hallDoes", apart := false }
def HallDoesSaid : Prop := hallDoesRow.holds Try.pinned (OpenSpec.ofChange hallDoesSpec)

/-- ITS FALSE NEIGHBOUR: 'it returns false'. Refute it at one input. -/
def hallDoesWrong : ChangeSpec := { name := "hallDoes", fn := fun _ => fun
  | [d] => { results := [.lit (.bool false)], args := [d] }
  | _ => none }
def HallDoesWrongFalsely : Prop := hallDoesRow.holds Try.pinned (OpenSpec.ofChange hallDoesWrong)

/- THE SECOND FORM. 'bulk': how many values and letters a reading holds, each counted each time it is reached (what is shared counts as often as it is met; a slice's spare places count too). A statement '..UptoSaid' is the law's where the arguments, and the package variables that the reading takes, are together of bulk at most 1048576: NARROWER than '..Said'. Prove '..Said' where nothing that the law and all that it calls make is longer than what came in: it says more and counts as full. Else prove '..UptoSaid'. A law counts once. -/
mutual
def uptoBulk {H : Type} : DataW H → Nat
  | .lit (.string bytes) => bytes.length + 1
  | .lit _ => 1
  | .nil => 1
  | .ptr d => uptoBulk d + 1
  | .slice elems spare => uptoBulkAll elems + uptoBulkAll spare + 1
  | .agg parts => uptoBulkAll parts + 1
  | .iface _ d => uptoBulk d + 1
  | .map entries => uptoBulkEntries entries + 1
  | .held _ => 1
def uptoBulkAll {H : Type} : List (DataW H) → Nat
  | [] => 0
  | d :: r => uptoBulk d + uptoBulkAll r
def uptoBulkEntries {H : Type} : List (Lit × DataW H) → Nat
  | [] => 0
  | x :: r => uptoBulkEntry x + uptoBulkEntries r
def uptoBulkEntry {H : Type} : Lit × DataW H → Nat
  | (.string bytes, d) => bytes.length + uptoBulk d + 1
  | (_, d) => uptoBulk d + 1
 end
def uptoSmall : (H : Type) → List (DataW H) → Bool := fun _ ds => decide (uptoBulkAll ds ≤ 1048576)
def OpenSpec.upto (s : _root_.Go.ChangeSpec) : _root_.Go.OpenSpec := { _root_.Go.OpenSpec.ofChange s with cond := some uptoSmall }

/-- 'vaultagelaw.DeedDoes', WHERE WHAT IT READS IS OF BULK AT MOST 1048576: true; the input reads as it did. -/
def deedDoesUptoRow : OpenClaim := { program := "ytoiobhcgpajogac", sum := "db1722c2897306da8b18f751f0c8ef625ae8b09478ff1c3b076800af165669b1", func := "vaultage/vaultagelaw.DeedDoes", spec := "deedDoes", apart := false, narrowed := true }
def DeedDoesUptoSaid : Prop := deedDoesUptoRow.holds Try.pinned (OpenSpec.upto deedDoesSpec)

/-- 'vaultagelaw.VaultDoes', WHERE WHAT IT READS IS OF BULK AT MOST 1048576: true; the input reads as it did. -/
def vaultDoesUptoRow : OpenClaim := { program := "ytoiobhcgpajogac", sum := "db1722c2897306da8b18f751f0c8ef625ae8b09478ff1c3b076800af165669b1", func := "vaultage/vaultagelaw.VaultDoes", spec := "vaultDoes", apart := false, narrowed := true }
def VaultDoesUptoSaid : Prop := vaultDoesUptoRow.holds Try.pinned (OpenSpec.upto vaultDoesSpec)

/-- 'vaultagelaw.VaultAgain', WHERE WHAT IT READS IS OF BULK AT MOST 1048576: true; the input reads as it did. -/
def vaultAgainUptoRow : OpenClaim := { program := "ytoiobhcgpajogac", sum := "db1722c2897306da8b18f751f0c8ef625ae8b09478ff1c3b076800af165669b1", func := "vaultage/vaultagelaw.VaultAgain", spec := "vaultAgain", apart := false, narrowed := true }
def VaultAgainUptoSaid : Prop := vaultAgainUptoRow.holds Try.pinned (OpenSpec.upto vaultAgainSpec)

/-- 'vaultagelaw.VaultTears', WHERE WHAT IT READS IS OF BULK AT MOST 1048576: true; the input reads as it did. -/
def vaultTearsUptoRow : OpenClaim := { program := "ytoiobhcgpajogac", sum := "db1722c2897306da8b18f751f0c8ef625ae8b09478ff1c3b076800af165669b1", func := "vaultage/vaultagelaw.VaultTears", spec := "vaultTears", apart := false, narrowed := true }
def VaultTearsUptoSaid : Prop := vaultTearsUptoRow.holds Try.pinned (OpenSpec.upto vaultTearsSpec)

/-- 'vaultagelaw.VaultLooks', WHERE WHAT IT READS IS OF BULK AT MOST 1048576: true; the input reads as it did. -/
def vaultLooksUptoRow : OpenClaim := { program := "ytoiobhcgpajogac", sum := "db1722c2897306da8b18f751f0c8ef625ae8b09478ff1c3b076800af165669b1", func := "vaultage/vaultagelaw.VaultLooks", spec := "vaultLooks", apart := false, narrowed := true }
def VaultLooksUptoSaid : Prop := vaultLooksUptoRow.holds Try.pinned (OpenSpec.upto vaultLooksSpec)

/-- 'vaultagelaw.HallShots', WHERE WHAT IT READS IS OF BULK AT MOST 1048576: true; the input reads as it did. -/
def hallShotsUptoRow : OpenClaim := { program := "ytoiobhcgpajogac", sum := "db1722c2897306da8b18f751f0c8ef625ae8b09478ff1c3b076800af165669b1", func := "vaultage/vaultagelaw.HallShots", spec := "hallShots", apart := false, narrowed := true }
def HallShotsUptoSaid : Prop := hallShotsUptoRow.holds Try.pinned (OpenSpec.upto hallShotsSpec)

/-- 'vaultagelaw.HallFirst', WHERE WHAT IT READS IS OF BULK AT MOST 1048576: true; the input reads as it did. -/
def hallFirstUptoRow : OpenClaim := { program := "ytoiobhcgpajogac", sum := "db1722c2897306da8b18f751f0c8ef625ae8b09478ff1c3b076800af165669b1", func := "vaultage/vaultagelaw.HallFirst", spec := "hallFirst", apart := false, narrowed := true }
def HallFirstUptoSaid : Prop := hallFirstUptoRow.holds Try.pinned (OpenSpec.upto hallFirstSpec)

/-- 'vaultagelaw.HallCrash', WHERE WHAT IT READS IS OF BULK AT MOST 1048576: true; the input reads as it did. -/
def hallCrashUptoRow : OpenClaim := { program := "ytoiobhcgpajogac", sum := "db1722c2897306da8b18f751f0c8ef625ae8b09478ff1c3b076800af165669b1", func := "vaultage/vaultagelaw.HallCrash", spec := "hallCrash", apart := false, narrowed := true }
def HallCrashUptoSaid : Prop := hallCrashUptoRow.holds Try.pinned (OpenSpec.upto hallCrashSpec)

/-- 'vaultagelaw.HallAlone', WHERE WHAT IT READS IS OF BULK AT MOST 1048576: true; the input reads as it did. -/
def hallAloneUptoRow : OpenClaim := { program := "ytoiobhcgpajogac", sum := "db1722c2897306da8b18f751f0c8ef625ae8b09478ff1c3b076800af165669b1", func := "vaultage/vaultagelaw.HallAlone", spec := "hallAlone", apart := false, narrowed := true }
def HallAloneUptoSaid : Prop := hallAloneUptoRow.holds Try.pinned (OpenSpec.upto hallAloneSpec)

/-- 'vaultagelaw.HallClears', WHERE WHAT IT READS IS OF BULK AT MOST 1048576: true; the input reads as it did. -/
def hallClearsUptoRow : OpenClaim := { program := "ytoiobhcgpajogac", sum := "db1722c2897306da8b18f751f0c8ef625ae8b09478ff1c3b076800af165669b1", func := "vaultage/vaultagelaw.HallClears", spec := "hallClears", apart := false, narrowed := true }
def HallClearsUptoSaid : Prop := hallClearsUptoRow.holds Try.pinned (OpenSpec.upto hallClearsSpec)

/-- 'vaultagelaw.HallRefuses', WHERE WHAT IT READS IS OF BULK AT MOST 1048576: true; the input reads as it did. -/
def hallRefusesUptoRow : OpenClaim := { program := "ytoiobhcgpajogac", sum := "db1722c2897306da8b18f751f0c8ef625ae8b09478ff1c3b076800af165669b1", func := "vaultage/vaultagelaw.HallRefuses", spec := "hallRefuses", apart := false, narrowed := true }
def HallRefusesUptoSaid : Prop := hallRefusesUptoRow.holds Try.pinned (OpenSpec.upto hallRefusesSpec)

/-- 'vaultagelaw.HallDoes', WHERE WHAT IT READS IS OF BULK AT MOST 1048576: true; the input reads as it did. -/
def hallDoesUptoRow : OpenClaim := { program := "ytoiobhcgpajogac", sum := "db1722c2897306da8b18f751f0c8ef625ae8b09478ff1c3b076800af165669b1", func := "vaultage/vaultagelaw.HallDoes", spec := "hallDoes", apart := false, narrowed := true }
def HallDoesUptoSaid : Prop := hallDoesUptoRow.holds Try.pinned (OpenSpec.upto hallDoesSpec)

end Rows
end Go.Proofs.Ytoiobhcgpajogac
