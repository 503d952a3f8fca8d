/- The walk of tableBegun. -/
import Derived.Test.YtoiobhcgpajogabTab8
import Derived.Test.YtoiobhcgpajogabTabP
import Derived.Test.YtoiobhcgpajogabHas
namespace Go.Proofs.Ytoiobhcgpajogab
open Go.RowKit

def tbX : Val := ⟨true, ⟨#[120]⟩⟩
def tbW1 : List Ent := [⟨2, tbX⟩]
def tbW2 : List Ent := [⟨2, Val.zero⟩]
def tb1 : Tab := (writeT Tab.new tbW1).2
def tb2 : Tab := (writeT tb1 tbW2).2

theorem tbc1 : ckPs (-1) tbW1 = 0 := by
  rw [tbW1, ckPs, if_neg (by decide), if_neg (by decide), show ckV tbX = 0 from ckV_there (by decide), if_neg (by decide)]; rfl
theorem tbc2 : ckPs (-1) tbW2 = 0 := by
  rw [tbW2, ckPs, if_neg (by decide), if_neg (by decide), show ckV (Ent.v ⟨2, Val.zero⟩) = 0 from ckV_none (by decide), if_neg (by decide)]; rfl
theorem tbw1 : writeT Tab.new tbW1 = ((1, 0), tb1) := by
  have e : tb1 = (writeT Tab.new tbW1).2 := rfl
  rw [e]; unfold writeT; rw [if_neg (by rw [tbc1]; decide), if_neg (by decide)]; rfl
theorem tbw2 : writeT tb1 tbW2 = ((2, 0), tb2) := by
  have e : tb2 = (writeT tb1 tbW2).2 := rfl
  have e1 : tb1.last = 1 := by have := congrArg (fun x => x.2.last) tbw1; rw [← this]; unfold writeT; rw [if_neg (by rw [tbc1]; decide), if_neg (by decide)]; rfl
  rw [e]; unfold writeT; rw [if_neg (by rw [tbc2]; decide), if_neg (by rw [e1]; decide), e1]; rfl
theorem tb1_eq : tb1 = ⟨putsT 1 Tab.new.l tbW1, 1⟩ := by
  unfold tb1 writeT; rw [if_neg (by rw [tbc1]; decide), if_neg (by decide)]; rfl
theorem tb2_eq : tb2 = ⟨putsT 2 tb1.l tbW2, 2⟩ := by
  have e1 : tb1.last = 1 := by rw [tb1_eq]
  unfold tb2 writeT; rw [if_neg (by rw [tbc2]; decide), if_neg (by rw [e1]; decide), e1]; rfl
theorem tb1_l2 : tb1.l 2 = [⟨0, Val.zero⟩, ⟨1, tbX⟩] := by
  rw [tb1_eq]
  show upd Tab.new.l 2 (putC [⟨0, Val.zero⟩] 1 tbX).2 2 = _
  rw [upd_same, putC_new (show ckV tbX = 0 from ckV_there (by decide)) (by decide)]; rfl
theorem tb2_l2 : tb2.l 2 = [⟨0, Val.zero⟩, ⟨1, tbX⟩, ⟨2, Val.zero⟩] := by
  rw [tb2_eq]
  show upd tb1.l 2 (putC (tb1.l 2) 2 Val.zero).2 2 = _
  rw [upd_same, tb1_l2, putC_new (show ckV Val.zero = 0 from ckV_none (by decide)) (by decide)]; rfl
theorem tb2_l (k : Nat) (h : k ≠ 2) : tb2.l k = [⟨0, Val.zero⟩] := by
  rw [tb2_eq]
  show upd tb1.l 2 _ k = _
  rw [upd_other _ _ h, tb1_eq]
  show upd Tab.new.l 2 _ k = _
  rw [upd_other _ _ h]; rfl
theorem tb2_last : tb2.last = 2 := by rw [tb2_eq]
theorem tbr (k : Nat) (hk : k < 8) : readT tb2 k 1 = if k = 2 then (tbX, 0) else (Val.zero, 0) := by
  unfold readT
  rw [if_neg (by rw [tb2_last]; omega)]
  by_cases e : k = 2
  · subst e; rw [if_pos rfl]; show readC (tb2.l 2) 1 = _; rw [tb2_l2]; rfl
  · rw [if_neg e]; show readC (tb2.l k) 1 = _; rw [tb2_l k e]; rfl
theorem tbl : listT tb2 0 7 1 = (tbW1, 0) := by
  unfold listT
  rw [if_neg (by decide)]
  show listGo tb2 1 [0, 1, 2, 3, 4, 5, 6, 7] [] = _
  simp only [listGo, tbr 0 (by omega), tbr 1 (by omega), tbr 2 (by omega), tbr 3 (by omega), tbr 4 (by omega), tbr 5 (by omega), tbr 6 (by omega), tbr 7 (by omega)]
  rfl
theorem tbs2 : sinceT tb2 2 = 2 := by
  unfold sinceT; rw [if_neg (by decide)]; show lastN (tb2.l 2) = 2; rw [tb2_l2]; rfl
theorem tbs8 : sinceT tb2 8 = -1 := by
  unfold sinceT; rw [if_pos (by decide)]
theorem tbf : firstT tb2 = 0 := by
  have h : ∀ k, firstN (tb2.l k) = 0 := by
    intro k
    by_cases e : k = 2
    · subst e; rw [tb2_l2]; rfl
    · rw [tb2_l k e]; rfl
  have : ∀ k, firstGo tb2 k = 0 := by
    intro k
    induction k with
    | zero => rfl
    | succ k ih => rw [firstGo, ih, h]; rfl
  exact this 8

theorem tbk9 : ckPs (-1) [⟨9, Val.zero⟩] = 1 := by rw [ckPs, if_pos (by decide)]

theorem sliceAt_lit (w : World) (l : List Ent) : SliceAt (w.alloc (.cells (encEnts l).toArray 42)) (some ⟨w.heap.size, 0, none⟩) (encEnts l) :=
  .inr ⟨_, 0, rfl, fun j u hu => by rw [Nat.zero_add, World.cell?_alloc_new]; simpa using hu⟩

theorem SliceC.lit (g : Nat → Nat) (w : World) (lo hi q : Nat) (cells : List Value) (T : TypeId) (hq : q < lo) : SliceC (w.alloc (.cells cells.toArray T)) (extc g w q) lo hi (some ⟨w.heap.size, 0, none⟩) cells :=
  .inr ⟨_, 0, rfl, by simp, .inl (by rw [extc_new (Nat.le_refl _)]; exact hq), fun j u hu => by rw [Nat.zero_add, World.cell?_alloc_new]; simpa using hu⟩

theorem TableAt.alloc {w : World} {g : Nat → Nat} {p t : Nat} {T : Tab} (h : TableAt w g p t T) (q : Nat) (o : Obj) : TableAt (w.alloc o) (extc g w q) p t T := h.frame (Evo.alloc g q w o) (by omega)

set_option maxHeartbeats 4000000 in
set_option maxRecDepth 100000 in
theorem law_tableBegun (w : World) : Calls Try.prog 14 #[] w (TruePost w) := by
  go_enter Try.func14, Try.ntmps14
  go_wp2_with fail
  refine (table_New (fun _ => 0) 1 w).mono ?_
  rintro e w1 ⟨t, g1, rfl, hE1, -, hT1⟩
  have B1 := hid ((Base.start w).step hE1 (by omega))
  have HT1 := hid hT1
  clear hE1 hT1
  go_wp2_with fail
  (with_reducible refine (law_has _ _).mono ?_)
  rintro e w2 ⟨rfl, hb⟩
  have B2 := hid (B1.out.below' hb)
  have HT2 := hid (HT1.out.below hb)
  clear hb B1 HT1
  go_wp2_with fail
  have B3 := hid (B2.out.alloc 0 (.cells (encEnts tbW1).toArray 42))
  have P := table_Write (extc g1 w2 0) 1 t Tab.new (some ⟨w2.heap.size, 0, none⟩) 1 tbW1 (w2.alloc (.cells (encEnts tbW1).toArray 42)) (by decide) (by intro x hx; simp [tbW1] at hx; subst hx; decide) (HT2.out.alloc 0 _) (SliceC.lit g1 w2 1 (1 + 9) 0 _ _ (by omega))
  rw [tbw1] at P
  refine P.mono ?_
  clear P
  rintro e w4 ⟨rfl, g4, hT4, hE4⟩
  have B4 := hid (B3.out.step hE4 (by omega))
  have HT4 := hid hT4
  clear hT4 hE4 B2 HT2 B3
  go_wp2_with fail
  have B5 := hid (B4.out.alloc 0 (.cells (encEnts tbW2).toArray 42))
  have P := table_Write (extc g4 w4 0) 1 t tb1 (some ⟨w4.heap.size, 0, none⟩) 1 tbW2 (w4.alloc (.cells (encEnts tbW2).toArray 42)) (by decide) (by intro x hx; simp [tbW2] at hx; subst hx; decide) (HT4.out.alloc 0 _) (SliceC.lit g4 w4 1 (1 + 9) 0 _ _ (by omega))
  rw [tbw2] at P
  refine P.mono ?_
  clear P
  rintro e w6 ⟨rfl, g6, hT6, hE6⟩
  have B6 := hid (B5.out.step hE6 (by omega))
  have HT6 := hid hT6
  clear hT6 hE6 B4 HT4 B5
  go_wp2_with fail
  have P := table_Read g6 1 t tb2 w6 2 1 HT6.out
  rw [show readT tb2 2 1 = (tbX, 0) from tbr 2 (by omega)] at P
  refine P.mono ?_
  clear P
  rintro e w7 ⟨rfl, hb⟩
  have B7 := hid (B6.out.below' hb)
  have HT7 := hid (HT6.out.below hb)
  clear hb B6 HT6
  go_wp2_with fail
  have L8 := LocC.new g6 0 w7 32 [.bool tbX.there, .string tbX.bytes]
  have B8 := hid (B7.out.alloc 0 (.cells #[.bool tbX.there, .string tbX.bytes] 32))
  have HT8 := hid (HT7.out.alloc 0 (.cells #[.bool tbX.there, .string tbX.bytes] 32))
  have P := table_List (extc g6 w7 0) 1 t tb2 (w7.alloc (.cells #[.bool tbX.there, .string tbX.bytes] 32)) 0 7 1 HT8.out
  rw [tbl] at P
  refine P.mono ?_
  clear P
  rintro e w9 ⟨a9, cap9, rfl, -, hb, hc9⟩
  obtain rfl : cap9 = 1 := hc9 rfl
  have L9 := L8.below hb
  have B9 := hid (B8.out.below' hb)
  have HT9 := hid (HT8.out.below hb)
  generalize extc g6 w7 0 = gW at *
  clear hb hc9 L8 B8 HT8 B7 HT7
  have keep : ∀ W', Below w9.heap.size w9 W' → (Below w9.heap.size w9 W' ∧ W'.cell? ⟨w7.heap.size, 0, none⟩ = some (.bool true) ∧ W'.cell? ⟨w7.heap.size, 1, none⟩ = some (.string ⟨#[120]⟩)) := by
    intro W' hW
    obtain ⟨b1, b2, -⟩ := (L9.below hW).1.two
    exact ⟨hW, b1, b2⟩
  have KS := hid keep
  have e1 : tbW1.length = 1 := rfl
  clear keep L9
  go_wp2_with fail
  go_region_held3 (fun W' : World => Below w9.heap.size w9 W' ∧ W'.cell? ⟨w7.heap.size, 0, none⟩ = some (.bool true) ∧ W'.cell? ⟨w7.heap.size, 1, none⟩ = some (.string ⟨#[120]⟩))
    (first | assumption | exact KS.out _ (Below.refl _ _).drew | exact KS.out _ (Below.alloc (‹Below w9.heap.size w9 _ ∧ _›.1) (‹Below w9.heap.size w9 _ ∧ _›.1).size _))
    (first
      | (go_at_call 52; have hS := ‹Below w9.heap.size w9 _ ∧ _›.1; (with_reducible refine (law_has _ _).mono ?_); rintro e w' ⟨rfl, hb⟩; have hS' := KS.out _ (hS.trans (hb.mono hS.size)); clear hb hS)
      | (go_at_call 26; have hS := ‹Below w9.heap.size w9 _ ∧ _›.1; have P := table_Since _ _ _ _ _ 2 (HT9.out.below hS); rw [tbs2] at P; (with_reducible refine P.mono ?_); clear P; rintro e w' ⟨rfl, hb⟩; have hS' := KS.out _ (hS.trans (hb.mono hS.size)); clear hb hS)
      | (go_at_call 26; have hS := ‹Below w9.heap.size w9 _ ∧ _›.1; have P := table_Since _ _ _ _ _ 8 (HT9.out.below hS); rw [tbs8] at P; (with_reducible refine P.mono ?_); clear P; rintro e w' ⟨rfl, hb⟩; have hS' := KS.out _ (hS.trans (hb.mono hS.size)); clear hb hS)
      | (go_at_call 19; have hS := ‹Below w9.heap.size w9 _ ∧ _›.1; have P := table_Last _ _ _ _ _ (HT9.out.below hS); rw [tb2_last] at P; (with_reducible refine P.mono ?_); clear P; rintro e w' ⟨rfl, rfl⟩; clear hS)
      | (go_at_call 53; have hS := ‹Below w9.heap.size w9 _ ∧ _›.1; have P := table_First _ _ _ _ _ (HT9.out.below hS); rw [tbf] at P; (with_reducible refine P.mono ?_); clear P; rintro e w' ⟨rfl, hb⟩; have hS' := KS.out _ (hS.trans (hb.mono hS.size)); clear hb hS)
      | (go_at_call 54; have hS := ‹Below w9.heap.size w9 _ ∧ _›.1; have P := table_Check (some ⟨_, 0, none⟩) 1 [⟨9, Val.zero⟩] _ (by decide) (by intro x hx; simp at hx; subst hx; decide) (sliceAt_lit ‹World› [⟨9, Val.zero⟩]); rw [tbk9] at P; refine P.mono ?_; clear P; rintro e w' ⟨rfl, hb⟩; have hS' := KS.out _ (hS.trans (hb.mono hS.size)); clear hb hS))
  have hS := ‹Below w9.heap.size w9 _ ∧ _›.1
  go_wp2
  go_ret
  exact ⟨rfl, (B9.out.below' hS).below⟩

end Go.Proofs.Ytoiobhcgpajogab
