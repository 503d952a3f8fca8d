/- The walks of has, chainBegun. -/
import Derived.Test.YtoiobhcgpajogaaLine3
import Derived.Test.YtoiobhcgpajogaaChain2
import Derived.Deep.RegionHeld3
namespace Go.Proofs.Ytoiobhcgpajogaa
open Go.RowKit

def AggPost (v : Val) (w : World) (e : Ending) (w' : World) : Prop := e = .returned (.agg #[.bool v.there, .string v.bytes]) ∧ Below w.heap.size w w'

theorem law_has (s : ByteArray) (w : World) : Calls Try.prog 38 #[.string s] w (AggPost ⟨true, s⟩ w) := by
  go_enter Try.func38, Try.ntmps38
  go_wp2
  exact bodyPost_ret (v := .agg #[.bool true, .string s]) (by simp [results, Try.results38, go_sem]) rfl ⟨rfl, (Below.refl _ _).alloc (Nat.le_refl _) _⟩

def TruePost (w : World) (e : Ending) (w' : World) : Prop := e = .returned (.bool true) ∧ Below w.heap.size w w'

theorem cb1 : putC [⟨0, Val.zero⟩] 3 ⟨true, ⟨#[120]⟩⟩ = (0, [⟨0, Val.zero⟩, ⟨3, ⟨true, ⟨#[120]⟩⟩⟩]) := by rfl
theorem cb2 : putC [⟨0, Val.zero⟩, ⟨3, ⟨true, ⟨#[120]⟩⟩⟩] 3 ⟨true, ⟨#[121]⟩⟩ = (5, [⟨0, Val.zero⟩, ⟨3, ⟨true, ⟨#[120]⟩⟩⟩]) := by rfl
theorem cb3 : readC [⟨0, Val.zero⟩, ⟨3, ⟨true, ⟨#[120]⟩⟩⟩] 2 = (Val.zero, 0) := by rfl
theorem cb4 : readC [⟨0, Val.zero⟩, ⟨3, ⟨true, ⟨#[120]⟩⟩⟩] 9 = (⟨true, ⟨#[120]⟩⟩, 0) := by rfl
theorem cb5 : clearK 3 [⟨0, Val.zero⟩, ⟨3, ⟨true, ⟨#[120]⟩⟩⟩] = 1 := by rfl
theorem cb6 : readC [⟨3, ⟨true, ⟨#[120]⟩⟩⟩] 2 = (Val.zero, 12) := by rfl

/-- A law's own state: nothing that was there has turned, and a chain of the colour 1 lies at c. -/
structure CB (w0 : World) (g : Nat → Nat) (w : World) (c : Nat) (l : List Ent) : Prop where
  base : Base w0.heap.size w0 g w
  chain : ChainAt w g 1 c l

theorem CB.below {w0 w w' : World} {g : Nat → Nat} {c : Nat} {l : List Ent} (h : CB w0 g w c l) (k : Below w.heap.size w w') : CB w0 g w' c l := ⟨h.base.below' k, h.chain.below k⟩
theorem CB.alloc {w0 w : World} {g : Nat → Nat} {c : Nat} {l : List Ent} (h : CB w0 g w c l) (o : Obj) : CB w0 (extc g w 0) (w.alloc o) c l := ⟨h.base.alloc 0 o, h.chain.frame (Evo.alloc g 0 w o) (by omega)⟩
theorem CB.evo {w0 w w' : World} {g g' : Nat → Nat} {c : Nat} {l l' : List Ent} (h : CB w0 g w c l) (hE : Evo 1 2 g g' w w') (hC : ChainAt w' g' 1 c l') : CB w0 g' w' c l' := ⟨h.base.step hE (by omega), hC⟩
theorem CB.drew {w0 w : World} {g : Nat → Nat} {c : Nat} {l : List Ent} (h : CB w0 g w c l) : CB w0 g w.drew c l := h.below (Below.refl _ _).drew

set_option maxHeartbeats 4000000 in
set_option maxRecDepth 100000 in
theorem law_chainBegun (w : World) : Calls Try.prog 14 #[] w (TruePost w) := by
  go_enter Try.func14, Try.ntmps14
  go_wp2_with fail
  refine (chain_New (fun _ => 0) 1 w).mono ?_
  rintro e w1 ⟨c, rfl, hb1, -, -, hC1⟩
  have H1 : CB w _ w1 c _ := ⟨(Base.start w).step (Evo.of_below (lo := 0) (hi := 0) (fun _ => 0) 1 hb1) (by omega), hC1⟩
  clear hb1 hC1
  go_wp2_with fail
  refine (law_has _ _).mono ?_
  rintro e w2 ⟨rfl, hb⟩
  have H2 := H1.below hb
  clear H1 hb
  go_wp2_with fail
  have P := chain_Put _ _ _ _ w2 3 true ⟨#[120]⟩ (by decide) (by decide) H2.chain
  rw [cb1] at P
  refine P.mono ?_
  clear P
  rintro e w3 ⟨rfl, g3, hC, hE⟩
  have H3 := H2.evo hE hC
  clear H2 hE hC
  go_wp2_with fail
  refine (law_has _ _).mono ?_
  rintro e w4 ⟨rfl, hb⟩
  have H4 := H3.below hb
  clear H3 hb
  go_wp2_with fail
  have P := chain_Put _ _ _ _ w4 3 true ⟨#[121]⟩ (by decide) (by decide) H4.chain
  rw [cb2] at P
  refine P.mono ?_
  clear P
  rintro e w5 ⟨rfl, g5, hC, hE⟩
  have H5 := H4.evo hE hC
  clear H4 hE hC
  go_wp2_with fail
  have P := chain_Read _ _ _ _ w5 2 (by decide) H5.chain
  rw [cb3] at P
  refine P.mono ?_
  clear P
  rintro e w6 ⟨rfl, hb⟩
  have H6 := H5.below hb
  clear H5 hb
  go_wp2_with fail
  have L7 := LocC.new g5 0 w6 24 [.bool false, .string ByteArray.empty]
  have H7 := H6.alloc (.cells #[.bool false, .string ByteArray.empty] 24)
  clear H6
  have P := chain_Read _ _ _ _ _ 9 (by decide) H7.chain
  rw [cb4] at P
  refine P.mono ?_
  clear P
  rintro e w8 ⟨rfl, hb⟩
  have H8 := H7.below hb
  have L8 := L7.below hb
  clear H7 L7 hb
  go_wp2_with fail
  have L9 := L8.alloc 0 (.cells #[.bool true, .string ⟨#[120]⟩] 24)
  have M9 := LocC.new (extc g5 w6 0) 0 w8 24 [.bool true, .string ⟨#[120]⟩]
  have H9 := H8.alloc (.cells #[.bool true, .string ⟨#[120]⟩] 24)
  clear H8 L8
  have P := chain_Clear _ _ _ _ _ 3 (by decide) H9.chain
  rw [cb5] at P
  refine P.mono ?_
  clear P
  rintro e w10 ⟨rfl, g10, hC, hE⟩
  have H10 := H9.evo hE hC
  have L10 := L9.frame hE (by omega)
  have M10 := M9.frame hE (by omega)
  clear H9 L9 M9 hE hC
  go_wp2_with fail
  have P := chain_Read _ _ _ _ _ 2 (by decide) H10.chain
  rw [show List.drop 1 [⟨0, Val.zero⟩, ⟨3, ⟨true, ⟨#[120]⟩⟩⟩] = [(⟨3, ⟨true, ⟨#[120]⟩⟩⟩ : Ent)] from rfl, cb6] at P
  refine P.mono ?_
  clear P
  rintro e w11 ⟨rfl, hb⟩
  have H11 := H10.below hb
  have L11 := L10.below hb
  have M11 := M10.below hb
  clear H10 L10 M10 hb
  have H11 : CB w g10 w11 c [⟨3, ⟨true, ⟨#[120]⟩⟩⟩] := H11
  go_wp2_with fail
  have L12 := L11.alloc 0 (.cells #[.bool Val.zero.there, .string Val.zero.bytes] 24)
  have M12 := M11.alloc 0 (.cells #[.bool Val.zero.there, .string Val.zero.bytes] 24)
  have H12 := H11.alloc (.cells #[.bool Val.zero.there, .string Val.zero.bytes] 24)
  clear L11 M11 H11
  generalize w11.alloc (.cells #[.bool Val.zero.there, .string Val.zero.bytes] 24) = W at *
  generalize extc g10 w11 0 = gW at *
  have keep : ∀ W', Below W.heap.size W W' → (Below W.heap.size W W' ∧ W'.cell? ⟨w6.heap.size, 0, none⟩ = some (.bool false) ∧ W'.cell? ⟨w8.heap.size, 0, none⟩ = some (.bool true) ∧ W'.cell? ⟨w8.heap.size, 1, none⟩ = some (.string ⟨#[120]⟩)) := by
    intro W' hW
    obtain ⟨a1, -⟩ := (L12.below hW).1.two
    obtain ⟨b1, b2, -⟩ := (M12.below hW).1.two
    exact ⟨hW, a1, b1, b2⟩
  have KS := hid keep
  have HC := hid H12
  clear keep H12 L12 M12
  go_region_held3 (fun W' : World => Below W.heap.size W W' ∧ W'.cell? ⟨w6.heap.size, 0, none⟩ = some (.bool false) ∧ W'.cell? ⟨w8.heap.size, 0, none⟩ = some (.bool true) ∧ W'.cell? ⟨w8.heap.size, 1, none⟩ = some (.string ⟨#[120]⟩))
    (first | assumption | exact KS.out _ (Below.refl _ _).drew)
    (first
      | (go_at_call 38; have hS := ‹Below W.heap.size W _ ∧ _›.1; refine (law_has _ _).mono ?_; rintro e w' ⟨rfl, hb⟩; have hS' := KS.out _ (hS.trans (hb.mono hS.size)); clear hb hS)
      | (go_at_call 19; refine (chain_Key _ _).mono ?_; rintro e w' ⟨rfl, rfl⟩)
      | (go_at_call 25; have hS := ‹Below W.heap.size W _ ∧ _›.1; refine (chain_First _ _ _ _ _ (HC.out.below hS).chain).mono ?_; rintro e w' ⟨rfl, rfl⟩; clear hS)
      | (go_at_call 23; have hS := ‹Below W.heap.size W _ ∧ _›.1; refine (chain_Last _ _ _ _ _ (HC.out.below hS).chain (by decide)).mono ?_; rintro e w' ⟨rfl, hb⟩; have hS' := KS.out _ (hS.trans (hb.mono hS.size)); clear hb hS)
      | (go_at_call 21; have hS := ‹Below W.heap.size W _ ∧ _›.1; refine (chain_Check _ _ _ (by decide)).mono ?_; rintro e w' ⟨rfl, hb⟩; have hS' := KS.out _ (hS.trans (hb.mono hS.size)); clear hb hS)
      | (go_at_call 28; have hS := ‹Below W.heap.size W _ ∧ _›.1; refine (chain_List _ _ _ _ _ (by decide) (HC.out.below hS).chain).mono ?_; rintro e w' ⟨v, rfl, hb, ho, -⟩; obtain ⟨a, cap, rfl, -⟩ := ownsRow.sliceAt ho; have hS' := KS.out _ (hS.trans (hb.mono hS.size)); clear hb hS ho))
  have hS := ‹Below W.heap.size W _ ∧ _›.1
  go_wp2
  go_ret
  exact ⟨congrArg (fun b => Ending.returned (.bool b)) (show (ckV ⟨false, ⟨#[97]⟩⟩ == 4) = true by rw [ckV_form (by decide) (by decide)]; rfl), (HC.out.below hS).base.below⟩

end Go.Proofs.Ytoiobhcgpajogaa
