/-
  No cell of these rows narrows 'for every input' (looked for: loops, veiled, ifaces, maps, wideKeys, modest, calm, conditions, laid).
  DERIVED. THE GIVEN ROWS OF THIS SEAT. 11 by the template 'for every input the law returns true; each argument reads behind the call as it read before'; 0 by the template 'total and deterministic' (their statements: YtoiobhcgpajogaaTotals.lean).
  GIVEN WITH THE SEED: the statements are not yours to turn. If you find one false, say at which input.
  Laid BY PROGRAM, IN A SANDBOX (cutbox-rows.mjs): the forced cells as the released guide's own fill.sh prints them over the translation 64dd6563523d6a9c… (all of the seat's roots in one cut). By AI agents, Wed Nov 11 2026. No macro, syntax, notation, axiom, sorry.
-/
import Derived.Test.YtoiobhcgpajogaaChecked
import GoSem.Claim
import GoSem.ClaimJoined
import GoSem.ClaimMapViews
import Derived.JoinedTies
import Derived.KernelRfl
namespace Go.Proofs.Ytoiobhcgpajogaa
/- THE CELL 'sum', in the pinned program and in every row, IS THE sha256 OF THE DUMP (.gsa) THAT YtoiobhcgpajogaaProg.lean LOADS. Nothing in Lean hashes anything: it is a label: what it is worth is what the hold of that sum in a sandbox is worth. -/
noncomputable def Try.pinned : Pinned := { name := "ytoiobhcgpajogaa", sum := "64dd6563523d6a9c2e565dd5379623349b23776625e4902dd87ef91206a3224f", checked := Try.checked }
namespace Rows
def none {H : Type} : Left H := { results := [], args := [] }

/-- 'vaultagelaw.ChainDoes': WHATEVER THE INPUT: true; the input reads as it did. -/
def chainDoesSpec : ChangeSpec := { name := "chainDoes", fn := fun _ => fun
  | [d1, d2, d3, d4] => { results := [.lit (.bool true)], args := [d1, d2, d3, d4] }
  | _ => none }
def chainDoesRow : OpenClaim := { program := "ytoiobhcgpajogaa", sum := "64dd6563523d6a9c2e565dd5379623349b23776625e4902dd87ef91206a3224f", func := "vaultage/vaultagelaw.ChainDoes", spec := "chainDoes", apart := false }
def ChainDoesSaid : Prop := chainDoesRow.holds Try.pinned (OpenSpec.ofChange chainDoesSpec)

/-- ITS FALSE NEIGHBOUR: 'it returns false'. Refute it at one input. -/
def chainDoesWrong : ChangeSpec := { name := "chainDoes", fn := fun _ => fun
  | [d1, d2, d3, d4] => { results := [.lit (.bool false)], args := [d1, d2, d3, d4] }
  | _ => none }
def ChainDoesWrongFalsely : Prop := chainDoesRow.holds Try.pinned (OpenSpec.ofChange chainDoesWrong)

/-- 'vaultagelaw.ChainReads': WHATEVER THE INPUT: true; the input reads as it did. -/
def chainReadsSpec : ChangeSpec := { name := "chainReads", fn := fun _ => fun
  | [d1, d2, d3] => { results := [.lit (.bool true)], args := [d1, d2, d3] }
  | _ => none }
def chainReadsRow : OpenClaim := { program := "ytoiobhcgpajogaa", sum := "64dd6563523d6a9c2e565dd5379623349b23776625e4902dd87ef91206a3224f", func := "vaultage/vaultagelaw.ChainReads", spec := "chainReads", apart := false }
def ChainReadsSaid : Prop := chainReadsRow.holds Try.pinned (OpenSpec.ofChange chainReadsSpec)

/-- ITS FALSE NEIGHBOUR: 'it returns false'. Refute it at one input. -/
def chainReadsWrong : ChangeSpec := { name := "chainReads", fn := fun _ => fun
  | [d1, d2, d3] => { results := [.lit (.bool false)], args := [d1, d2, d3] }
  | _ => none }
def ChainReadsWrongFalsely : Prop := chainReadsRow.holds Try.pinned (OpenSpec.ofChange chainReadsWrong)

/-- 'vaultagelaw.ChainClears': WHATEVER THE INPUT: true; the input reads as it did. -/
def chainClearsSpec : ChangeSpec := { name := "chainClears", fn := fun _ => fun
  | [d1, d2, d3] => { results := [.lit (.bool true)], args := [d1, d2, d3] }
  | _ => none }
def chainClearsRow : OpenClaim := { program := "ytoiobhcgpajogaa", sum := "64dd6563523d6a9c2e565dd5379623349b23776625e4902dd87ef91206a3224f", func := "vaultage/vaultagelaw.ChainClears", spec := "chainClears", apart := false }
def ChainClearsSaid : Prop := chainClearsRow.holds Try.pinned (OpenSpec.ofChange chainClearsSpec)

/-- ITS FALSE NEIGHBOUR: 'it returns false'. Refute it at one input. -/
def chainClearsWrong : ChangeSpec := { name := "chainClears", fn := fun _ => fun
  | [d1, d2, d3] => { results := [.lit (.bool false)], args := [d1, d2, d3] }
  | _ => none }
def ChainClearsWrongFalsely : Prop := chainClearsRow.holds Try.pinned (OpenSpec.ofChange chainClearsWrong)

/-- 'vaultagelaw.TextDoes': WHATEVER THE INPUT: true; the input reads as it did. -/
def textDoesSpec : ChangeSpec := { name := "textDoes", fn := fun _ => fun
  | [d1, d2, d3] => { results := [.lit (.bool true)], args := [d1, d2, d3] }
  | _ => none }
def textDoesRow : OpenClaim := { program := "ytoiobhcgpajogaa", sum := "64dd6563523d6a9c2e565dd5379623349b23776625e4902dd87ef91206a3224f", func := "vaultage/vaultagelaw.TextDoes", spec := "textDoes", inPlace := ["internal/abi.NoEscape", "internal/bytealg.IndexByteString"], apart := false }
def TextDoesSaid : Prop := textDoesRow.holds Try.pinned (OpenSpec.ofChange textDoesSpec)

/-- ITS FALSE NEIGHBOUR: 'it returns false'. Refute it at one input. -/
def textDoesWrong : ChangeSpec := { name := "textDoes", fn := fun _ => fun
  | [d1, d2, d3] => { results := [.lit (.bool false)], args := [d1, d2, d3] }
  | _ => none }
def TextDoesWrongFalsely : Prop := textDoesRow.holds Try.pinned (OpenSpec.ofChange textDoesWrong)

/-- 'vaultagelaw.TextBack': WHATEVER THE INPUT: true; the input reads as it did. -/
def textBackSpec : ChangeSpec := { name := "textBack", fn := fun _ => fun
  | [d1, d2] => { results := [.lit (.bool true)], args := [d1, d2] }
  | _ => none }
def textBackRow : OpenClaim := { program := "ytoiobhcgpajogaa", sum := "64dd6563523d6a9c2e565dd5379623349b23776625e4902dd87ef91206a3224f", func := "vaultage/vaultagelaw.TextBack", spec := "textBack", inPlace := ["internal/abi.NoEscape", "internal/bytealg.IndexByteString"], apart := false }
def TextBackSaid : Prop := textBackRow.holds Try.pinned (OpenSpec.ofChange textBackSpec)

/-- ITS FALSE NEIGHBOUR: 'it returns false'. Refute it at one input. -/
def textBackWrong : ChangeSpec := { name := "textBack", fn := fun _ => fun
  | [d1, d2] => { results := [.lit (.bool false)], args := [d1, d2] }
  | _ => none }
def TextBackWrongFalsely : Prop := textBackRow.holds Try.pinned (OpenSpec.ofChange textBackWrong)

/-- 'vaultagelaw.TextJoins': WHATEVER THE INPUT: true; the input reads as it did. -/
def textJoinsSpec : ChangeSpec := { name := "textJoins", fn := fun _ => fun
  | [d1, d2] => { results := [.lit (.bool true)], args := [d1, d2] }
  | _ => none }
def textJoinsRow : OpenClaim := { program := "ytoiobhcgpajogaa", sum := "64dd6563523d6a9c2e565dd5379623349b23776625e4902dd87ef91206a3224f", func := "vaultage/vaultagelaw.TextJoins", spec := "textJoins", inPlace := ["internal/abi.NoEscape", "internal/bytealg.IndexByteString"], apart := false }
def TextJoinsSaid : Prop := textJoinsRow.holds Try.pinned (OpenSpec.ofChange textJoinsSpec)

/-- ITS FALSE NEIGHBOUR: 'it returns false'. Refute it at one input. -/
def textJoinsWrong : ChangeSpec := { name := "textJoins", fn := fun _ => fun
  | [d1, d2] => { results := [.lit (.bool false)], args := [d1, d2] }
  | _ => none }
def TextJoinsWrongFalsely : Prop := textJoinsRow.holds Try.pinned (OpenSpec.ofChange textJoinsWrong)

/-- 'vaultagelaw.CodecDoes': WHATEVER THE INPUT: true; the input reads as it did. -/
def codecDoesSpec : ChangeSpec := { name := "codecDoes", fn := fun _ => fun
  | [d1, d2] => { results := [.lit (.bool true)], args := [d1, d2] }
  | _ => none }
def codecDoesRow : OpenClaim := { program := "ytoiobhcgpajogaa", sum := "64dd6563523d6a9c2e565dd5379623349b23776625e4902dd87ef91206a3224f", func := "vaultage/vaultagelaw.CodecDoes", spec := "codecDoes", apart := false }
def CodecDoesSaid : Prop := codecDoesRow.holds Try.pinned (OpenSpec.ofChange codecDoesSpec)

/-- ITS FALSE NEIGHBOUR: 'it returns false'. Refute it at one input. -/
def codecDoesWrong : ChangeSpec := { name := "codecDoes", fn := fun _ => fun
  | [d1, d2] => { results := [.lit (.bool false)], args := [d1, d2] }
  | _ => none }
def CodecDoesWrongFalsely : Prop := codecDoesRow.holds Try.pinned (OpenSpec.ofChange codecDoesWrong)

/-- 'vaultagelaw.CodecBack': WHATEVER THE INPUT: true; the input reads as it did. -/
def codecBackSpec : ChangeSpec := { name := "codecBack", fn := fun _ => fun
  | [d1, d2, d3] => { results := [.lit (.bool true)], args := [d1, d2, d3] }
  | _ => none }
def codecBackRow : OpenClaim := { program := "ytoiobhcgpajogaa", sum := "64dd6563523d6a9c2e565dd5379623349b23776625e4902dd87ef91206a3224f", func := "vaultage/vaultagelaw.CodecBack", spec := "codecBack", apart := false }
def CodecBackSaid : Prop := codecBackRow.holds Try.pinned (OpenSpec.ofChange codecBackSpec)

/-- ITS FALSE NEIGHBOUR: 'it returns false'. Refute it at one input. -/
def codecBackWrong : ChangeSpec := { name := "codecBack", fn := fun _ => fun
  | [d1, d2, d3] => { results := [.lit (.bool false)], args := [d1, d2, d3] }
  | _ => none }
def CodecBackWrongFalsely : Prop := codecBackRow.holds Try.pinned (OpenSpec.ofChange codecBackWrong)

/-- 'vaultagelaw.CodecCut': WHATEVER THE INPUT: true; the input reads as it did. -/
def codecCutSpec : ChangeSpec := { name := "codecCut", fn := fun _ => fun
  | [d1, d2, d3] => { results := [.lit (.bool true)], args := [d1, d2, d3] }
  | _ => none }
def codecCutRow : OpenClaim := { program := "ytoiobhcgpajogaa", sum := "64dd6563523d6a9c2e565dd5379623349b23776625e4902dd87ef91206a3224f", func := "vaultage/vaultagelaw.CodecCut", spec := "codecCut", apart := false }
def CodecCutSaid : Prop := codecCutRow.holds Try.pinned (OpenSpec.ofChange codecCutSpec)

/-- ITS FALSE NEIGHBOUR: 'it returns false'. Refute it at one input. -/
def codecCutWrong : ChangeSpec := { name := "codecCut", fn := fun _ => fun
  | [d1, d2, d3] => { results := [.lit (.bool false)], args := [d1, d2, d3] }
  | _ => none }
def CodecCutWrongFalsely : Prop := codecCutRow.holds Try.pinned (OpenSpec.ofChange codecCutWrong)

/-- 'vaultagelaw.CodecSize': WHATEVER THE INPUT: true; the input reads as it did. -/
def codecSizeSpec : ChangeSpec := { name := "codecSize", fn := fun _ => fun
  | [d] => { results := [.lit (.bool true)], args := [d] }
  | _ => none }
def codecSizeRow : OpenClaim := { program := "ytoiobhcgpajogaa", sum := "64dd6563523d6a9c2e565dd5379623349b23776625e4902dd87ef91206a3224f", func := "vaultage/vaultagelaw.CodecSize", spec := "codecSize", apart := false }
def CodecSizeSaid : Prop := codecSizeRow.holds Try.pinned (OpenSpec.ofChange codecSizeSpec)

/-- ITS FALSE NEIGHBOUR: 'it returns false'. Refute it at one input. -/
def codecSizeWrong : ChangeSpec := { name := "codecSize", fn := fun _ => fun
  | [d] => { results := [.lit (.bool false)], args := [d] }
  | _ => none }
def CodecSizeWrongFalsely : Prop := codecSizeRow.holds Try.pinned (OpenSpec.ofChange codecSizeWrong)

/-- 'vaultagelaw.TableDoes': WHATEVER THE INPUT: true; the input reads as it did. -/
def tableDoesSpec : ChangeSpec := { name := "tableDoes", fn := fun _ => fun
  | [d1, d2, d3, d4, d5] => { results := [.lit (.bool true)], args := [d1, d2, d3, d4, d5] }
  | _ => none }
def tableDoesRow : OpenClaim := { program := "ytoiobhcgpajogaa", sum := "64dd6563523d6a9c2e565dd5379623349b23776625e4902dd87ef91206a3224f", func := "vaultage/vaultagelaw.TableDoes", spec := "tableDoes", apart := false }
def TableDoesSaid : Prop := tableDoesRow.holds Try.pinned (OpenSpec.ofChange tableDoesSpec)

/-- ITS FALSE NEIGHBOUR: 'it returns false'. Refute it at one input. -/
def tableDoesWrong : ChangeSpec := { name := "tableDoes", fn := fun _ => fun
  | [d1, d2, d3, d4, d5] => { results := [.lit (.bool false)], args := [d1, d2, d3, d4, d5] }
  | _ => none }
def TableDoesWrongFalsely : Prop := tableDoesRow.holds Try.pinned (OpenSpec.ofChange tableDoesWrong)

/- THE SECOND FORM. 'bulk': how many values and letters a reading holds, each counted each time it is reached (what is shared counts as often as it is met; a slice's spare places count too). A statement '..UptoSaid' is the law's where the arguments, and the package variables that the reading takes, are together of bulk at most 1048576: NARROWER than '..Said'. Prove '..Said' where nothing that the law and all that it calls make is longer than what came in: it says more and counts as full. Else prove '..UptoSaid'. A law counts once. -/
mutual
def uptoBulk {H : Type} : DataW H → Nat
  | .lit (.string bytes) => bytes.length + 1
  | .lit _ => 1
  | .nil => 1
  | .ptr d => uptoBulk d + 1
  | .slice elems spare => uptoBulkAll elems + uptoBulkAll spare + 1
  | .agg parts => uptoBulkAll parts + 1
  | .iface _ d => uptoBulk d + 1
  | .map entries => uptoBulkEntries entries + 1
  | .held _ => 1
def uptoBulkAll {H : Type} : List (DataW H) → Nat
  | [] => 0
  | d :: r => uptoBulk d + uptoBulkAll r
def uptoBulkEntries {H : Type} : List (Lit × DataW H) → Nat
  | [] => 0
  | x :: r => uptoBulkEntry x + uptoBulkEntries r
def uptoBulkEntry {H : Type} : Lit × DataW H → Nat
  | (.string bytes, d) => bytes.length + uptoBulk d + 1
  | (_, d) => uptoBulk d + 1
 end
def uptoSmall : (H : Type) → List (DataW H) → Bool := fun _ ds => decide (uptoBulkAll ds ≤ 1048576)
def OpenSpec.upto (s : _root_.Go.ChangeSpec) : _root_.Go.OpenSpec := { _root_.Go.OpenSpec.ofChange s with cond := some uptoSmall }

/-- 'vaultagelaw.ChainDoes', WHERE WHAT IT READS IS OF BULK AT MOST 1048576: true; the input reads as it did. -/
def chainDoesUptoRow : OpenClaim := { program := "ytoiobhcgpajogaa", sum := "64dd6563523d6a9c2e565dd5379623349b23776625e4902dd87ef91206a3224f", func := "vaultage/vaultagelaw.ChainDoes", spec := "chainDoes", apart := false, narrowed := true }
def ChainDoesUptoSaid : Prop := chainDoesUptoRow.holds Try.pinned (OpenSpec.upto chainDoesSpec)

/-- 'vaultagelaw.ChainReads', WHERE WHAT IT READS IS OF BULK AT MOST 1048576: true; the input reads as it did. -/
def chainReadsUptoRow : OpenClaim := { program := "ytoiobhcgpajogaa", sum := "64dd6563523d6a9c2e565dd5379623349b23776625e4902dd87ef91206a3224f", func := "vaultage/vaultagelaw.ChainReads", spec := "chainReads", apart := false, narrowed := true }
def ChainReadsUptoSaid : Prop := chainReadsUptoRow.holds Try.pinned (OpenSpec.upto chainReadsSpec)

/-- 'vaultagelaw.ChainClears', WHERE WHAT IT READS IS OF BULK AT MOST 1048576: true; the input reads as it did. -/
def chainClearsUptoRow : OpenClaim := { program := "ytoiobhcgpajogaa", sum := "64dd6563523d6a9c2e565dd5379623349b23776625e4902dd87ef91206a3224f", func := "vaultage/vaultagelaw.ChainClears", spec := "chainClears", apart := false, narrowed := true }
def ChainClearsUptoSaid : Prop := chainClearsUptoRow.holds Try.pinned (OpenSpec.upto chainClearsSpec)

/-- 'vaultagelaw.TextDoes', WHERE WHAT IT READS IS OF BULK AT MOST 1048576: true; the input reads as it did. -/
def textDoesUptoRow : OpenClaim := { program := "ytoiobhcgpajogaa", sum := "64dd6563523d6a9c2e565dd5379623349b23776625e4902dd87ef91206a3224f", func := "vaultage/vaultagelaw.TextDoes", spec := "textDoes", inPlace := ["internal/abi.NoEscape", "internal/bytealg.IndexByteString"], apart := false, narrowed := true }
def TextDoesUptoSaid : Prop := textDoesUptoRow.holds Try.pinned (OpenSpec.upto textDoesSpec)

/-- 'vaultagelaw.TextBack', WHERE WHAT IT READS IS OF BULK AT MOST 1048576: true; the input reads as it did. -/
def textBackUptoRow : OpenClaim := { program := "ytoiobhcgpajogaa", sum := "64dd6563523d6a9c2e565dd5379623349b23776625e4902dd87ef91206a3224f", func := "vaultage/vaultagelaw.TextBack", spec := "textBack", inPlace := ["internal/abi.NoEscape", "internal/bytealg.IndexByteString"], apart := false, narrowed := true }
def TextBackUptoSaid : Prop := textBackUptoRow.holds Try.pinned (OpenSpec.upto textBackSpec)

/-- 'vaultagelaw.TextJoins', WHERE WHAT IT READS IS OF BULK AT MOST 1048576: true; the input reads as it did. -/
def textJoinsUptoRow : OpenClaim := { program := "ytoiobhcgpajogaa", sum := "64dd6563523d6a9c2e565dd5379623349b23776625e4902dd87ef91206a3224f", func := "vaultage/vaultagelaw.TextJoins", spec := "textJoins", inPlace := ["internal/abi.NoEscape", "internal/bytealg.IndexByteString"], apart := false, narrowed := true }
def TextJoinsUptoSaid : Prop := textJoinsUptoRow.holds Try.pinned (OpenSpec.upto textJoinsSpec)

/-- 'vaultagelaw.CodecDoes', WHERE WHAT IT READS IS OF BULK AT MOST 1048576: true; the input reads as it did. -/
def codecDoesUptoRow : OpenClaim := { program := "ytoiobhcgpajogaa", sum := "64dd6563523d6a9c2e565dd5379623349b23776625e4902dd87ef91206a3224f", func := "vaultage/vaultagelaw.CodecDoes", spec := "codecDoes", apart := false, narrowed := true }
def CodecDoesUptoSaid : Prop := codecDoesUptoRow.holds Try.pinned (OpenSpec.upto codecDoesSpec)

/-- 'vaultagelaw.CodecBack', WHERE WHAT IT READS IS OF BULK AT MOST 1048576: true; the input reads as it did. -/
def codecBackUptoRow : OpenClaim := { program := "ytoiobhcgpajogaa", sum := "64dd6563523d6a9c2e565dd5379623349b23776625e4902dd87ef91206a3224f", func := "vaultage/vaultagelaw.CodecBack", spec := "codecBack", apart := false, narrowed := true }
def CodecBackUptoSaid : Prop := codecBackUptoRow.holds Try.pinned (OpenSpec.upto codecBackSpec)

/-- 'vaultagelaw.CodecCut', WHERE WHAT IT READS IS OF BULK AT MOST 1048576: true; the input reads as it did. -/
def codecCutUptoRow : OpenClaim := { program := "ytoiobhcgpajogaa", sum := "64dd6563523d6a9c2e565dd5379623349b23776625e4902dd87ef91206a3224f", func := "vaultage/vaultagelaw.CodecCut", spec := "codecCut", apart := false, narrowed := true }
def CodecCutUptoSaid : Prop := codecCutUptoRow.holds Try.pinned (OpenSpec.upto codecCutSpec)

/-- 'vaultagelaw.CodecSize', WHERE WHAT IT READS IS OF BULK AT MOST 1048576: true; the input reads as it did. -/
def codecSizeUptoRow : OpenClaim := { program := "ytoiobhcgpajogaa", sum := "64dd6563523d6a9c2e565dd5379623349b23776625e4902dd87ef91206a3224f", func := "vaultage/vaultagelaw.CodecSize", spec := "codecSize", apart := false, narrowed := true }
def CodecSizeUptoSaid : Prop := codecSizeUptoRow.holds Try.pinned (OpenSpec.upto codecSizeSpec)

/-- 'vaultagelaw.TableDoes', WHERE WHAT IT READS IS OF BULK AT MOST 1048576: true; the input reads as it did. -/
def tableDoesUptoRow : OpenClaim := { program := "ytoiobhcgpajogaa", sum := "64dd6563523d6a9c2e565dd5379623349b23776625e4902dd87ef91206a3224f", func := "vaultage/vaultagelaw.TableDoes", spec := "tableDoes", apart := false, narrowed := true }
def TableDoesUptoSaid : Prop := tableDoesUptoRow.holds Try.pinned (OpenSpec.upto tableDoesSpec)

end Rows
end Go.Proofs.Ytoiobhcgpajogaa
