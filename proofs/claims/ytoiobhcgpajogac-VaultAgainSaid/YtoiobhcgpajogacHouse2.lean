/- The walk of vaultBegun. -/
import Derived.Test.YtoiobhcgpajogacHouse1
import Derived.Test.YtoiobhcgpajogacVault2
import Derived.Test.YtoiobhcgpajogacReg
namespace Go.Proofs.Ytoiobhcgpajogac
open Go.RowKit

def vbd1 : Ded := (putD (Ded.new 1 0) 1 ⟨true, ⟨#[120]⟩⟩).2
def vbd2 : Ded := (putD (Ded.new 2 0) 1 ⟨true, ⟨#[121]⟩⟩).2
def vbv1 : Vt := (commitV Vt.new vbd1).2
def vbv2 : Vt := crashV vbv1.log
theorem vbb1 : beginV Vt.new.tab 1 9 = (some (Ded.new 1 0), 0) := by kernel_rfl
theorem vbb2 : beginV Vt.new.tab 2 0 = (some (Ded.new 2 0), 0) := by kernel_rfl
theorem vbp1 : putD (Ded.new 1 0) 1 ⟨true, ⟨#[120]⟩⟩ = (0, vbd1) := by kernel_rfl
theorem vbp2 : putD (Ded.new 2 0) 1 ⟨true, ⟨#[121]⟩⟩ = (0, vbd2) := by kernel_rfl
theorem vbc1 : commitV Vt.new vbd1 = ((1, 0), vbv1) := by kernel_rfl
theorem vbc2 : commitV vbv1 vbd2 = ((0, 10), vbv1) := by kernel_rfl
theorem vbb3 : beginV vbv1.tab 3 2 = (none, 1) := by kernel_rfl
theorem vbr : readT vbv2.tab 1 1 = (⟨true, ⟨#[120]⟩⟩, 0) := by kernel_rfl
theorem vbl : vbv2.log.bytes.length = 5 := by kernel_rfl

set_option maxHeartbeats 4000000 in
set_option maxRecDepth 100000 in
theorem law_vaultBegun (w : World) : Calls Try.prog 40 #[] w (TruePost w) := by
  go_enter Try.func40, Try.ntmps40
  go_wp2_with fail
  refine (vault_New (fun _ => 0) 1 w).mono ?_
  rintro e w0 ⟨v, g0, rfl, hE, -, hV⟩
  have B0 := hid ((Base.start w).step hE (by omega))
  have V0 := hid hV
  clear hE hV
  go_wp2_with fail
  have P := vault_Begin g0 1 v Vt.new 21 1 9 w0 V0.out
  rw [vbb1] at P
  refine P.mono ?_
  clear P
  rintro e w1 ⟨hb, d, rfl, hd, hD⟩
  have E1 := Evo.of_below (lo := 0) (hi := 0) g0 21 hb
  have B1 := hid (B0.out.step E1 (by omega))
  have V1 := hid (V0.out.frame E1 (by omega))
  have D1 := hid hD
  clear hb hd hD E1 V0 B0
  generalize extc g0 w0 21 = g1 at *
  go_wp2_with fail
  have P := vault_Begin g1 1 v Vt.new 22 2 0 w1 V1.out
  rw [vbb2] at P
  refine P.mono ?_
  clear P
  rintro e w2 ⟨hb, d2, rfl, hd, hD⟩
  have E1 := Evo.of_below (lo := 0) (hi := 0) g1 22 hb
  have B2 := hid (B1.out.step E1 (by omega))
  have V2 := hid (V1.out.frame E1 (by omega))
  have D2 := hid (D1.out.frame E1 (by omega))
  have F2 := hid hD
  clear hb hd hD E1 V1 B1 D1
  generalize extc g1 w1 22 = g2 at *
  go_wp2_with fail
  refine (law_has ⟨#[120]⟩ w2).mono ?_
  rintro e w3 ⟨rfl, hb⟩
  have B3 := hid (B2.out.below' hb)
  have V3 := hid (V2.out.below hb)
  have D3 := hid (D2.out.below hb)
  have F3 := hid (F2.out.below hb)
  clear hb V2 B2 D2 F2
  go_wp2_with fail
  have P := deed_Put g2 21 d (Ded.new 1 0) 1 ⟨true, ⟨#[120]⟩⟩ w3 (by decide) D3.out
  rw [vbp1] at P
  refine P.mono ?_
  clear P
  rintro e w4 ⟨rfl, g4, hD, hE⟩
  have B4 := hid (B3.out.step hE (by omega))
  have V4 := hid (V3.out.frame hE (by omega))
  have D4 := hid hD
  have F4 := hid (F3.out.frame hE (by omega))
  clear hE hD V3 B3 D3 F3
  go_wp2_with fail
  refine (law_has ⟨#[121]⟩ w4).mono ?_
  rintro e w5 ⟨rfl, hb⟩
  have B5 := hid (B4.out.below' hb)
  have V5 := hid (V4.out.below hb)
  have D5 := hid (D4.out.below hb)
  have F5 := hid (F4.out.below hb)
  clear hb V4 B4 D4 F4
  go_wp2_with fail
  have P := deed_Put g4 22 d2 (Ded.new 2 0) 1 ⟨true, ⟨#[121]⟩⟩ w5 (by decide) F5.out
  rw [vbp2] at P
  refine P.mono ?_
  clear P
  rintro e w6 ⟨rfl, g6, hD, hE⟩
  have B6 := hid (B5.out.step hE (by omega))
  have V6 := hid (V5.out.frame hE (by omega))
  have D6 := hid (D5.out.frame hE (by omega))
  have F6 := hid hD
  clear hE hD V5 B5 D5 F5
  go_wp2_with fail
  have P := vault_Commit g6 1 v Vt.new 21 d vbd1 w6 V6.out D6.out
  rw [vbc1] at P
  refine P.mono ?_
  clear P
  rintro e w7 ⟨rfl, g7, hV, hE⟩
  have B7 := hid (B6.out.step hE (by omega))
  have V7 := hid hV
  have F7 := hid (F6.out.frame hE (by omega))
  clear hE hV V6 B6 D6 F6
  go_wp2_with fail
  have P := vault_Commit g7 1 v vbv1 22 d2 vbd2 w7 V7.out F7.out
  rw [vbc2] at P
  refine P.mono ?_
  clear P
  rintro e w8 ⟨rfl, g8, hV, hE⟩
  have B8 := hid (B7.out.step hE (by omega))
  have V8 := hid hV
  clear hE hV V7 B7 F7
  go_wp2_with fail
  have P := vault_Begin g8 1 v vbv1 23 3 2 w8 V8.out
  rw [vbb3] at P
  refine P.mono ?_
  clear P
  rintro e w9 ⟨hb, rfl⟩
  have B9 := hid (B8.out.below' hb)
  have V9 := hid (V8.out.below hb)
  clear hb V8 B8
  obtain ⟨t9, b9, hC⟩ := V9.out
  have CR := hid (vault_Crash g8 1 v t9 b9 vbv1.tab vbv1.log w9 hC.l)
  clear hC
  go_wp2_with fail
  refine CR.out.mono ?_
  rintro e wa ⟨rfl, ga, hV, hE⟩
  have Ba := hid (B9.out.step hE (by omega))
  have Va : Hid (VaultAt wa ga 1 v vbv2) := hid hV
  clear hE hV V9 B9 CR
  obtain ⟨ta, ba, hC⟩ := Va.out
  have k0 := hC.cells.1
  have P := table_Read ga (1 + 1) ta vbv2.tab wa 1 1 hC.2.2.1
  rw [vbr] at P
  have RD := hid P
  clear hC P
  go_wp2_with fail
  refine RD.out.mono ?_
  rintro e wb ⟨rfl, hb⟩
  have Bb := hid (Ba.out.below' hb)
  have Vb := hid (Va.out.below hb)
  clear hb k0 Ba Va RD
  go_wp2_with fail
  have hba := (Below.refl wb.heap.size wb).alloc (Nat.le_refl _) (.cells #[.bool true, .string ⟨#[120]⟩] 39)
  have Bc := hid (Bb.out.below' hba)
  have VB := hid (Vb.out.below hba)
  have MB : Hid (Loc (wb.alloc (.cells #[.bool true, .string ⟨#[120]⟩] 39)) wb.heap.size 39 [.bool true, .string ⟨#[120]⟩]) := hid (Loc.new wb 39 [.bool true, .string ⟨#[120]⟩])
  clear hba Bb Vb
  generalize wb.alloc (.cells #[.bool true, .string ⟨#[120]⟩] 39) = wn14 at *
  generalize wb.heap.size = bn14 at *
  have LG := hid (fun W (hb : Below wn14.heap.size wn14 W) => (by
    have P := vault_Log ga 1 v vbv2 W (VB.out.below hb)
    unfold BytesPost at P
    rw [vbl] at P
    exact P : Calls Try.prog 47 #[.pointer (some ⟨v, 0, none⟩)] W (fun e w' => ∃ a cap, e = .returned (.slice a 5 cap) ∧ BytesIn w' a cap vbv2.log.bytes ∧ Below W.heap.size W w' ∧ (∀ ad, a = some ad → W.heap.size ≤ ad.block ∧ ad.off = 0))))
  have KS15 := hid (fun W (hb : Below wn14.heap.size wn14 W) => (⟨hb, (MB.out.keep hb).cell 0, (MB.out.keep hb).cell 1⟩ : Below wn14.heap.size wn14 W ∧ W.cell? ⟨bn14, 0, none⟩ = some (.bool true) ∧ W.cell? ⟨bn14, 1, none⟩ = some (.string ⟨#[120]⟩)))
  -- REGION 15
  refine wp_region_noPanic ?_
  refine wp_region_held_drew (S := (fun W' : World => Below wn14.heap.size wn14 W' ∧ W'.cell? ⟨bn14, 0, none⟩ = some (.bool true) ∧ W'.cell? ⟨bn14, 1, none⟩ = some (.string ⟨#[120]⟩))) (by kernel_rfl) ?_ (fun hH0 => ?_)
  · (try dsimp only); (first | assumption | exact KS15.out _ (Below.refl wn14.heap.size wn14).drew)
  refine wpAnyH_take (i := 0) (v := ?_) (by simp only [List.getElem?_toArray, List.getElem?_cons_zero]; rfl) (by kernel_rfl) (by kernel_rfl) (by kernel_rfl) (fun _ _ _ h => h) (Or.inl ⟨by rfl, ?_⟩) (by assumption) ?_
  rotate_left
  · intro w hSw; (try dsimp only at hSw); go_simp; (try with_reducible rfl)
  try simp only [Act.put, List.setIfInBounds_toArray, List.set_cons_zero, List.set_cons_succ]
  refine wpAnyH_take (i := 1) (v := ?_) (by simp only [List.getElem?_toArray, List.getElem?_cons_zero, List.getElem?_cons_succ]; rfl) (by kernel_rfl) (by kernel_rfl) (by kernel_rfl) (fun _ _ _ h => h) (Or.inl ⟨by rfl, ?_⟩) (by assumption) ?_
  rotate_left
  · intro w hSw; (try dsimp only at hSw); go_simp; (try with_reducible rfl)
  try simp only [Act.put, List.setIfInBounds_toArray, List.set_cons_zero, List.set_cons_succ]
  refine wpAnyH_take (i := 2) (v := ?_) (by simp only [List.getElem?_toArray, List.getElem?_cons_zero, List.getElem?_cons_succ]; rfl) (by kernel_rfl) (by kernel_rfl) (by kernel_rfl) (fun _ _ _ h => h) (Or.inl ⟨by rfl, ?_⟩) (by assumption) ?_
  rotate_left
  · intro w hSw; (try dsimp only at hSw); go_simp; (try with_reducible rfl)
  try simp only [Act.put, List.setIfInBounds_toArray, List.set_cons_zero, List.set_cons_succ]
  refine wpAnyH_take (i := 3) (v := ?_) (by simp only [List.getElem?_toArray, List.getElem?_cons_zero, List.getElem?_cons_succ]; rfl) (by kernel_rfl) (by kernel_rfl) (by kernel_rfl) (fun _ _ _ h => h) (Or.inl ⟨by rfl, ?_⟩) (by assumption) ?_
  rotate_left
  · intro w hSw; (try dsimp only at hSw); go_simp; (try with_reducible rfl)
  try simp only [Act.put, List.setIfInBounds_toArray, List.set_cons_zero, List.set_cons_succ]
  refine wpAnyH_take (i := 4) (v := ?_) (by simp only [List.getElem?_toArray, List.getElem?_cons_zero, List.getElem?_cons_succ]; rfl) (by kernel_rfl) (by kernel_rfl) (by kernel_rfl) (fun _ _ _ h => h) (Or.inl ⟨by rfl, ?_⟩) (by assumption) ?_
  rotate_left
  · intro w hSw; (try dsimp only at hSw); go_simp; (try with_reducible rfl)
  try simp only [Act.put, List.setIfInBounds_toArray, List.set_cons_zero, List.set_cons_succ]
  refine wpAnyH_take (i := 5) (v := ?_) (by simp only [List.getElem?_toArray, List.getElem?_cons_zero, List.getElem?_cons_succ]; rfl) (by kernel_rfl) (by kernel_rfl) (by kernel_rfl) (fun _ _ _ h => h) (Or.inl ⟨by rfl, ?_⟩) (by assumption) ?_
  rotate_left
  · intro w hSw; (try dsimp only at hSw); go_simp; (try with_reducible rfl)
  try simp only [Act.put, List.setIfInBounds_toArray, List.set_cons_zero, List.set_cons_succ]
  refine wpAnyH_take (i := 6) (v := ?_) (by simp only [List.getElem?_toArray, List.getElem?_cons_zero, List.getElem?_cons_succ]; rfl) (by kernel_rfl) (by kernel_rfl) (by kernel_rfl) (fun _ _ _ h => h) (Or.inl ⟨by rfl, ?_⟩) (by assumption) ?_
  rotate_left
  · intro w hSw; (try dsimp only at hSw); go_simp; (try with_reducible rfl)
  try simp only [Act.put, List.setIfInBounds_toArray, List.set_cons_zero, List.set_cons_succ]
  refine wpAnyH_take (i := 7) (v := ?_) (by simp only [List.getElem?_toArray, List.getElem?_cons_zero, List.getElem?_cons_succ]; rfl) (by kernel_rfl) (by kernel_rfl) (by kernel_rfl) (fun _ _ _ h => h) (Or.inl ⟨by rfl, ?_⟩) (by assumption) ?_
  rotate_left
  · intro w hSw; (try dsimp only at hSw); go_simp; (try with_reducible rfl)
  try simp only [Act.put, List.setIfInBounds_toArray, List.set_cons_zero, List.set_cons_succ]
  refine wpAnyH_take (i := 8) (v := ?_) (by simp only [List.getElem?_toArray, List.getElem?_cons_zero, List.getElem?_cons_succ]; rfl) (by kernel_rfl) (by kernel_rfl) (by kernel_rfl) (fun _ _ _ h => h) (Or.inl ⟨by rfl, ?_⟩) (by assumption) ?_
  rotate_left
  · intro w hSw; (try dsimp only at hSw); go_simp; (try with_reducible rfl)
  try simp only [Act.put, List.setIfInBounds_toArray, List.set_cons_zero, List.set_cons_succ]
  refine wpAnyH_take (i := 9) (v := ?_) (by simp only [List.getElem?_toArray, List.getElem?_cons_zero, List.getElem?_cons_succ]; rfl) (by kernel_rfl) (by kernel_rfl) (by kernel_rfl) (fun _ _ _ h => h) (Or.inl ⟨by rfl, ?_⟩) (by assumption) ?_
  rotate_left
  · intro w hSw; (try dsimp only at hSw); go_simp; (try with_reducible rfl)
  try simp only [Act.put, List.setIfInBounds_toArray, List.set_cons_zero, List.set_cons_succ]
  refine wpAnyH_take (i := 10) (v := ?_) (by simp only [List.getElem?_toArray, List.getElem?_cons_zero, List.getElem?_cons_succ]; rfl) (by kernel_rfl) (by kernel_rfl) (by kernel_rfl) (fun _ _ _ h => h) (Or.inl ⟨by rfl, ?_⟩) (by assumption) ?_
  rotate_left
  · intro w hSw; (try dsimp only at hSw); go_simp; (try with_reducible rfl)
  try simp only [Act.put, List.setIfInBounds_toArray, List.set_cons_zero, List.set_cons_succ]
  refine wpAnyH_take (i := 11) (v := ?_) (by simp only [List.getElem?_toArray, List.getElem?_cons_zero, List.getElem?_cons_succ]; rfl) (by kernel_rfl) (by kernel_rfl) (by kernel_rfl) (fun _ _ _ h => h) (Or.inl ⟨by rfl, ?_⟩) (by assumption) ?_
  rotate_left
  · intro w hSw; (try dsimp only at hSw); go_simp; (try with_reducible rfl)
  try simp only [Act.put, List.setIfInBounds_toArray, List.set_cons_zero, List.set_cons_succ]
  refine wpAnyH_take (i := 12) (v := ?_) (by simp only [List.getElem?_toArray, List.getElem?_cons_zero, List.getElem?_cons_succ]; rfl) (by kernel_rfl) (by kernel_rfl) (by kernel_rfl) (fun _ _ _ h => h) (Or.inl ⟨by rfl, ?_⟩) (by assumption) ?_
  rotate_left
  · intro w hSw; (try dsimp only at hSw); go_simp; (try with_reducible rfl)
  try simp only [Act.put, List.setIfInBounds_toArray, List.set_cons_zero, List.set_cons_succ]
  refine wpAnyH_take (i := 13) (v := ?_) (by simp only [List.getElem?_toArray, List.getElem?_cons_zero, List.getElem?_cons_succ]; rfl) (by kernel_rfl) (by kernel_rfl) (by kernel_rfl) (fun _ _ _ h => h) (Or.inl ⟨by rfl, ?_⟩) (by assumption) ?_
  rotate_left
  · intro w hSw; (try dsimp only at hSw); go_simp; (try with_reducible rfl)
  try simp only [Act.put, List.setIfInBounds_toArray, List.set_cons_zero, List.set_cons_succ]
  refine wpAnyH_take (i := 14) (v := ?_) (by simp only [List.getElem?_toArray, List.getElem?_cons_zero, List.getElem?_cons_succ]; rfl) (by kernel_rfl) (by kernel_rfl) (by kernel_rfl) (fun _ _ _ h => h) (Or.inl ⟨by rfl, ?_⟩) (by assumption) ?_
  rotate_left
  · intro w hSw; (try dsimp only at hSw); go_simp; (try with_reducible rfl)
  try simp only [Act.put, List.setIfInBounds_toArray, List.set_cons_zero, List.set_cons_succ]
  refine wpAnyH_take (i := 15) (v := ?_) (by simp only [List.getElem?_toArray, List.getElem?_cons_zero, List.getElem?_cons_succ]; rfl) (by kernel_rfl) (by kernel_rfl) (by kernel_rfl) (fun _ _ _ h => h) (Or.inl ⟨by rfl, ?_⟩) (by assumption) ?_
  rotate_left
  · intro w hSw; (try dsimp only at hSw); go_simp; (try with_reducible rfl)
  try simp only [Act.put, List.setIfInBounds_toArray, List.set_cons_zero, List.set_cons_succ]
  refine wpAnyH_take (i := 16) (v := ?_) (by simp only [List.getElem?_toArray, List.getElem?_cons_zero, List.getElem?_cons_succ]; rfl) (by kernel_rfl) (by kernel_rfl) (by kernel_rfl) (fun _ _ _ h => h) (Or.inl ⟨by rfl, ?_⟩) (by assumption) ?_
  rotate_left
  · intro w hSw; (try dsimp only at hSw); go_simp; (try with_reducible rfl)
  try simp only [Act.put, List.setIfInBounds_toArray, List.set_cons_zero, List.set_cons_succ]
  refine wpAnyH_take (i := 17) (v := ?_) (by simp only [List.getElem?_toArray, List.getElem?_cons_zero, List.getElem?_cons_succ]; rfl) (by kernel_rfl) (by kernel_rfl) (by kernel_rfl) (fun _ _ _ h => h) (Or.inl ⟨by rfl, ?_⟩) (by assumption) ?_
  rotate_left
  · intro w hSw; (try dsimp only at hSw); go_simp; (try with_reducible rfl)
  try simp only [Act.put, List.setIfInBounds_toArray, List.set_cons_zero, List.set_cons_succ]
  refine wpAnyH_take (i := 18) (v := ?_) (by simp only [List.getElem?_toArray, List.getElem?_cons_zero, List.getElem?_cons_succ]; rfl) (by kernel_rfl) (by kernel_rfl) (by kernel_rfl) (fun _ _ _ h => h) (Or.inl ⟨by rfl, ?_⟩) (by assumption) ?_
  rotate_left
  · intro w hSw; (try dsimp only at hSw); go_simp; (try with_reducible rfl)
  try simp only [Act.put, List.setIfInBounds_toArray, List.set_cons_zero, List.set_cons_succ]
  refine wpAnyH_take (i := 19) (v := ?_) (by simp only [List.getElem?_toArray, List.getElem?_cons_zero, List.getElem?_cons_succ]; rfl) (by kernel_rfl) (by kernel_rfl) (by kernel_rfl) (fun _ _ _ h => h) (Or.inl ⟨by rfl, ?_⟩) (by assumption) ?_
  rotate_left
  · intro w hSw; (try dsimp only at hSw); go_simp; (try with_reducible rfl)
  try simp only [Act.put, List.setIfInBounds_toArray, List.set_cons_zero, List.set_cons_succ]
  refine wpAnyH_take (i := 20) (v := ?_) (by simp only [List.getElem?_toArray, List.getElem?_cons_zero, List.getElem?_cons_succ]; rfl) (by kernel_rfl) (by kernel_rfl) (by kernel_rfl) (fun _ _ _ h => h) (Or.inl ⟨by rfl, ?_⟩) (by assumption) ?_
  rotate_left
  · intro w hSw; (try dsimp only at hSw); go_simp; (try with_reducible rfl)
  try simp only [Act.put, List.setIfInBounds_toArray, List.set_cons_zero, List.set_cons_succ]
  refine wpAnyH_take (i := 21) (v := ?_) (by simp only [List.getElem?_toArray, List.getElem?_cons_zero, List.getElem?_cons_succ]; rfl) (by kernel_rfl) (by kernel_rfl) (by kernel_rfl) (fun _ _ _ h => h) (Or.inl ⟨by rfl, ?_⟩) (by assumption) ?_
  rotate_left
  · intro w hSw; (try dsimp only at hSw); go_simp; (try with_reducible rfl)
  try simp only [Act.put, List.setIfInBounds_toArray, List.set_cons_zero, List.set_cons_succ]
  refine wpAnyH_take (i := 22) (v := ?_) (by simp only [List.getElem?_toArray, List.getElem?_cons_zero, List.getElem?_cons_succ]; rfl) (by kernel_rfl) (by kernel_rfl) (by kernel_rfl) (fun _ _ _ h => h) (Or.inl ⟨by rfl, ?_⟩) (by assumption) ?_
  rotate_left
  · intro w hSw; (try dsimp only at hSw); go_simp; (try with_reducible rfl)
  try simp only [Act.put, List.setIfInBounds_toArray, List.set_cons_zero, List.set_cons_succ]
  refine wpAnyH_take (i := 23) (v := ?_) (by simp only [List.getElem?_toArray, List.getElem?_cons_zero, List.getElem?_cons_succ]; rfl) (by kernel_rfl) (by kernel_rfl) (by kernel_rfl) (fun _ _ _ h => h) (Or.inl ⟨by rfl, ?_⟩) (by assumption) ?_
  rotate_left
  · intro w hSw; (try dsimp only at hSw); go_simp; (try with_reducible rfl)
  try simp only [Act.put, List.setIfInBounds_toArray, List.set_cons_zero, List.set_cons_succ]
  refine wpAnyH_take (i := 24) (v := ?_) (by simp only [List.getElem?_toArray, List.getElem?_cons_zero, List.getElem?_cons_succ]; rfl) (by kernel_rfl) (by kernel_rfl) (by kernel_rfl) (fun _ _ _ h => h) (Or.inl ⟨by rfl, ?_⟩) (by assumption) ?_
  rotate_left
  · intro w hSw; (try dsimp only at hSw); go_simp; (try with_reducible rfl)
  try simp only [Act.put, List.setIfInBounds_toArray, List.set_cons_zero, List.set_cons_succ]
  refine wpAnyH_take (i := 25) (v := ?_) (by simp only [List.getElem?_toArray, List.getElem?_cons_zero, List.getElem?_cons_succ]; rfl) (by kernel_rfl) (by kernel_rfl) (by kernel_rfl) (fun _ _ _ h => h) (Or.inl ⟨by rfl, ?_⟩) (by assumption) ?_
  rotate_left
  · intro w hSw; (try dsimp only at hSw); go_simp; (try with_reducible rfl)
  try simp only [Act.put, List.setIfInBounds_toArray, List.set_cons_zero, List.set_cons_succ]
  refine wpAnyH_take (i := 26) (v := ?_) (by simp only [List.getElem?_toArray, List.getElem?_cons_zero, List.getElem?_cons_succ]; rfl) (by kernel_rfl) (by kernel_rfl) (by kernel_rfl) (fun _ _ _ h => h) (Or.inl ⟨by rfl, ?_⟩) (by assumption) ?_
  rotate_left
  · intro w hSw; (try dsimp only at hSw); go_simp; (try with_reducible rfl)
  try simp only [Act.put, List.setIfInBounds_toArray, List.set_cons_zero, List.set_cons_succ]
  refine wpAnyH_take (i := 27) (v := ?_) (by simp only [List.getElem?_toArray, List.getElem?_cons_zero, List.getElem?_cons_succ]; rfl) (by kernel_rfl) (by kernel_rfl) (by kernel_rfl) (fun _ _ _ h => h) (Or.inl ⟨by rfl, ?_⟩) (by assumption) ?_
  rotate_left
  · intro w hSw; (try dsimp only at hSw); go_simp; (try with_reducible rfl)
  try simp only [Act.put, List.setIfInBounds_toArray, List.set_cons_zero, List.set_cons_succ]
  refine wpAnyH_ready (rs := [28]) (by kernel_rfl) (by simp) ?_
  refine AllReadyH.cons (by simp only [List.getElem?_toArray, List.getElem?_cons_zero, List.getElem?_cons_succ]; rfl) (fun K hK => ?_) AllReadyH.nil
  go_simp
  go_at_call 56
  have hS := (‹Below _ wn14 _ ∧ _›).1
  (with_reducible refine (law_has ⟨#[120]⟩ _).mono ?_)
  rintro e w5 ⟨rfl, hb5⟩
  have hS' := KS15.out _ (hS.trans (hb5.mono hS.size))
  clear hb5 hS
  try go_wp2_with fail
  refine hK.out _ _ ?_ (fun hH1 => ?_)
  · (try dsimp only); (first | assumption | exact KS15.out _ (Below.refl wn14.heap.size wn14).drew)
  clear hK K hH0
  try simp only [Act.put, List.setIfInBounds_toArray, List.set_cons_zero, List.set_cons_succ]
  refine wpAnyH_take (i := 29) (v := ?_) (by simp only [List.getElem?_toArray, List.getElem?_cons_zero, List.getElem?_cons_succ]; rfl) (by kernel_rfl) (by kernel_rfl) (by kernel_rfl) (fun _ _ _ h => h) (Or.inl ⟨by rfl, ?_⟩) (by assumption) ?_
  rotate_left
  · intro w hSw; (try dsimp only at hSw); go_simp; (try with_reducible rfl)
  try simp only [Act.put, List.setIfInBounds_toArray, List.set_cons_zero, List.set_cons_succ]
  refine wpAnyH_take (i := 30) (v := ?_) (by simp only [List.getElem?_toArray, List.getElem?_cons_zero, List.getElem?_cons_succ]; rfl) (by kernel_rfl) (by kernel_rfl) (by kernel_rfl) (fun _ _ _ h => h) (Or.inl ⟨by rfl, ?_⟩) (by assumption) ?_
  rotate_left
  · intro w hSw; (try dsimp only at hSw); go_simp; (try with_reducible rfl)
  try simp only [Act.put, List.setIfInBounds_toArray, List.set_cons_zero, List.set_cons_succ]
  refine wpAnyH_take (i := 31) (v := ?_) (by simp only [List.getElem?_toArray, List.getElem?_cons_zero, List.getElem?_cons_succ]; rfl) (by kernel_rfl) (by kernel_rfl) (by kernel_rfl) (fun _ _ _ h => h) (Or.inl ⟨by rfl, ?_⟩) (by assumption) ?_
  rotate_left
  · intro w hSw; (try dsimp only at hSw); go_simp; (try with_reducible rfl)
  try simp only [Act.put, List.setIfInBounds_toArray, List.set_cons_zero, List.set_cons_succ]
  refine wpAnyH_take (i := 32) (v := ?_) (by simp only [List.getElem?_toArray, List.getElem?_cons_zero, List.getElem?_cons_succ]; rfl) (by kernel_rfl) (by kernel_rfl) (by kernel_rfl) (fun _ _ _ h => h) (Or.inl ⟨by rfl, ?_⟩) (by assumption) ?_
  rotate_left
  · intro w hSw; (try dsimp only at hSw); go_simp; (try with_reducible rfl)
  try simp only [Act.put, List.setIfInBounds_toArray, List.set_cons_zero, List.set_cons_succ]
  refine wpAnyH_ready (rs := [33]) (by kernel_rfl) (by simp) ?_
  refine AllReadyH.cons (by simp only [List.getElem?_toArray, List.getElem?_cons_zero, List.getElem?_cons_succ]; rfl) (fun K hK => ?_) AllReadyH.nil
  go_simp
  go_at_call 47
  have hS := (‹Below _ wn14 _ ∧ _›).1
  (with_reducible refine (LG.out _ hS).mono ?_)
  rintro e wz ⟨az, cz, rfl, -, hb5, -⟩
  have hSz := KS15.out _ (hS.trans (hb5.mono hS.size))
  clear hb5 hS
  try go_wp2_with fail
  refine hK.out _ _ ?_ (fun hH2 => ?_)
  · (try dsimp only); (first | assumption | exact KS15.out _ (Below.refl wn14.heap.size wn14).drew)
  clear hK K hH1
  try simp only [Act.put, List.setIfInBounds_toArray, List.set_cons_zero, List.set_cons_succ]
  refine wpAnyH_take (i := 34) (v := ?_) (by simp only [List.getElem?_toArray, List.getElem?_cons_zero, List.getElem?_cons_succ]; rfl) (by kernel_rfl) (by kernel_rfl) (by kernel_rfl) (fun _ _ _ h => h) (Or.inl ⟨by rfl, ?_⟩) (by assumption) ?_
  rotate_left
  · intro w hSw; (try dsimp only at hSw); go_simp; (try with_reducible rfl)
  try simp only [Act.put, List.setIfInBounds_toArray, List.set_cons_zero, List.set_cons_succ]
  refine wpAnyH_take (i := 35) (v := ?_) (by simp only [List.getElem?_toArray, List.getElem?_cons_zero, List.getElem?_cons_succ]; rfl) (by kernel_rfl) (by kernel_rfl) (by kernel_rfl) (fun _ _ _ h => h) (Or.inl ⟨by rfl, ?_⟩) (by assumption) ?_
  rotate_left
  · intro w hSw; (try dsimp only at hSw); go_simp; (try with_reducible rfl)
  try simp only [Act.put, List.setIfInBounds_toArray, List.set_cons_zero, List.set_cons_succ]
  refine wpAnyH_take (i := 36) (v := ?_) (by simp only [List.getElem?_toArray, List.getElem?_cons_zero, List.getElem?_cons_succ]; rfl) (by kernel_rfl) (by kernel_rfl) (by kernel_rfl) (fun _ _ _ h => h) (Or.inl ⟨by rfl, ?_⟩) (by assumption) ?_
  rotate_left
  · intro w hSw; (try dsimp only at hSw); go_simp; (try with_reducible rfl)
  try simp only [Act.put, List.setIfInBounds_toArray, List.set_cons_zero, List.set_cons_succ]
  refine wpAnyH_take (i := 37) (v := ?_) (by simp only [List.getElem?_toArray, List.getElem?_cons_zero, List.getElem?_cons_succ]; rfl) (by kernel_rfl) (by kernel_rfl) (by kernel_rfl) (fun _ _ _ h => h) (Or.inl ⟨by rfl, ?_⟩) (by assumption) ?_
  rotate_left
  · intro w hSw; (try dsimp only at hSw); go_simp; (try with_reducible rfl)
  try simp only [Act.put, List.setIfInBounds_toArray, List.set_cons_zero]
  refine wpAnyH_done (by kernel_rfl) ?_ _
  refine NoPanic.normal ?_
  rotate_left
  -- END 15
  go_wp2_with fail
  go_ret
  exact ⟨rfl, Bc.out.below.trans ((‹Below wn14.heap.size wn14 wz ∧ _›).1.mono Bc.out.below.size)⟩

end Go.Proofs.Ytoiobhcgpajogac
