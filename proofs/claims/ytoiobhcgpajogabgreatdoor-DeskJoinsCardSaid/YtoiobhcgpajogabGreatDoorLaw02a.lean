/- The walk of tableBegun. -/
import Derived.Test.YtoiobhcgpajogabGreatDoorTab6
import Derived.Test.YtoiobhcgpajogabGreatDoorTab1
import Derived.Test.YtoiobhcgpajogabGreatDoorKit
import Derived.Test.YtoiobhcgpajogabGreatDoorTStep
namespace Go.Proofs.YtoiobhcgpajogabGreatDoor
open Go.RowKit

def tbX : Val := ⟨true, ⟨#[120]⟩⟩
def tbW1 : List Ent := [⟨2, tbX⟩]
def tbW2 : List Ent := [⟨2, Val.zero⟩]
def tb1 : Tab := (writeT Tab.new tbW1).2
def tb2 : Tab := (writeT tb1 tbW2).2

theorem tbc1 : ckPs (-1) tbW1 = 0 := by
  rw [tbW1, ckPs, if_neg (by decide), if_neg (by decide), show ckV tbX = 0 from ckV_there (by decide), if_neg (by decide)]; rfl
theorem tbc2 : ckPs (-1) tbW2 = 0 := by
  rw [tbW2, ckPs, if_neg (by decide), if_neg (by decide), show ckV (Ent.v ⟨2, Val.zero⟩) = 0 from ckV_none (by decide), if_neg (by decide)]; rfl
theorem tbw1 : writeT Tab.new tbW1 = ((1, 0), tb1) := by
  have e : tb1 = (writeT Tab.new tbW1).2 := rfl
  rw [e]; unfold writeT; rw [if_neg (by rw [tbc1]; decide), if_neg (by decide)]; rfl
theorem tbw2 : writeT tb1 tbW2 = ((2, 0), tb2) := by
  have e : tb2 = (writeT tb1 tbW2).2 := rfl
  have e1 : tb1.last = 1 := by have := congrArg (fun x => x.2.last) tbw1; rw [← this]; unfold writeT; rw [if_neg (by rw [tbc1]; decide), if_neg (by decide)]; rfl
  rw [e]; unfold writeT; rw [if_neg (by rw [tbc2]; decide), if_neg (by rw [e1]; decide), e1]; rfl
theorem tb1_eq : tb1 = ⟨putsT 1 Tab.new.l tbW1, 1⟩ := by
  unfold tb1 writeT; rw [if_neg (by rw [tbc1]; decide), if_neg (by decide)]; rfl
theorem tb2_eq : tb2 = ⟨putsT 2 tb1.l tbW2, 2⟩ := by
  have e1 : tb1.last = 1 := by rw [tb1_eq]
  unfold tb2 writeT; rw [if_neg (by rw [tbc2]; decide), if_neg (by rw [e1]; decide), e1]; rfl
theorem tb1_l2 : tb1.l 2 = [⟨0, Val.zero⟩, ⟨1, tbX⟩] := by
  rw [tb1_eq]
  show upd Tab.new.l 2 (putC [⟨0, Val.zero⟩] 1 tbX).2 2 = _
  rw [upd_same, putC_new (show ckV tbX = 0 from ckV_there (by decide)) (by decide)]; rfl
theorem tb2_l2 : tb2.l 2 = [⟨0, Val.zero⟩, ⟨1, tbX⟩, ⟨2, Val.zero⟩] := by
  rw [tb2_eq]
  show upd tb1.l 2 (putC (tb1.l 2) 2 Val.zero).2 2 = _
  rw [upd_same, tb1_l2, putC_new (show ckV Val.zero = 0 from ckV_none (by decide)) (by decide)]; rfl
theorem tb2_l (k : Nat) (h : k ≠ 2) : tb2.l k = [⟨0, Val.zero⟩] := by
  rw [tb2_eq]
  show upd tb1.l 2 _ k = _
  rw [upd_other _ _ h, tb1_eq]
  show upd Tab.new.l 2 _ k = _
  rw [upd_other _ _ h]; rfl
theorem tb2_last : tb2.last = 2 := by rw [tb2_eq]
theorem tbr (k : Nat) (hk : k < 8) : readT tb2 k 1 = if k = 2 then (tbX, 0) else (Val.zero, 0) := by
  unfold readT
  rw [if_neg (by rw [tb2_last]; omega)]
  by_cases e : k = 2
  · subst e; rw [if_pos rfl]; show readC (tb2.l 2) 1 = _; rw [tb2_l2]; rfl
  · rw [if_neg e]; show readC (tb2.l k) 1 = _; rw [tb2_l k e]; rfl
theorem tbl : listT tb2 0 7 1 = (tbW1, 0) := by
  unfold listT
  rw [if_neg (by decide)]
  show listGo tb2 1 [0, 1, 2, 3, 4, 5, 6, 7] [] = _
  simp only [listGo, tbr 0 (by omega), tbr 1 (by omega), tbr 2 (by omega), tbr 3 (by omega), tbr 4 (by omega), tbr 5 (by omega), tbr 6 (by omega), tbr 7 (by omega)]
  rfl
theorem tbs2 : sinceT tb2 2 = 2 := by
  unfold sinceT; rw [if_neg (by decide)]; show lastN (tb2.l 2) = 2; rw [tb2_l2]; rfl
theorem tbs8 : sinceT tb2 8 = -1 := by
  unfold sinceT; rw [if_pos (by decide)]
theorem tbf : firstT tb2 = 0 := by
  have h : ∀ k, firstN (tb2.l k) = 0 := by
    intro k
    by_cases e : k = 2
    · subst e; rw [tb2_l2]; rfl
    · rw [tb2_l k e]; rfl
  have : ∀ k, firstGo tb2 k = 0 := by
    intro k
    induction k with
    | zero => rfl
    | succ k ih => rw [firstGo, ih, h]; rfl
  exact this 8

theorem tbk9 : ckPs (-1) [⟨9, Val.zero⟩] = 1 := by rw [ckPs, if_pos (by decide)]

theorem sliceAt_lit (w : World) (l : List Ent) : SliceAt (w.alloc (.cells (encEnts l).toArray 107)) (some ⟨w.heap.size, 0, none⟩) (encEnts l) :=
  .inr ⟨_, 0, rfl, fun j u hu => by rw [Nat.zero_add, World.cell?_alloc_new]; simpa using hu⟩

theorem SliceC.lit (g : Nat → Nat) (w : World) (lo hi q : Nat) (cells : List Value) (T : TypeId) (hq : q < lo) : SliceC (w.alloc (.cells cells.toArray T)) (extc g w q) lo hi (some ⟨w.heap.size, 0, none⟩) cells :=
  .inr ⟨_, 0, rfl, by simp, .inl (by rw [extc_new (Nat.le_refl _)]; exact hq), fun j u hu => by rw [Nat.zero_add, World.cell?_alloc_new]; simpa using hu⟩

theorem TableAt.alloc {w : World} {g : Nat → Nat} {p t : Nat} {T : Tab} (h : TableAt w g p t T) (q : Nat) (o : Obj) : TableAt (w.alloc o) (extc g w q) p t T := h.frame (Evo.alloc g q w o) (by omega)

end Go.Proofs.YtoiobhcgpajogabGreatDoor
/- The walk of tables: a table and a sheet behind the same steps hold the same. -/
namespace Go.Proofs.YtoiobhcgpajogabGreatDoor
open Go.RowKit

def stepT (T : Tab) (x : TStep) : Tab := if x.do_ = 0 then (writeT T x.w).2 else if x.do_ = 1 then (clearT T x.least).2 else T
def runT (l : List TStep) : Tab := l.foldl stepT Tab.new

theorem stepT_ok {T : Tab} (h : T.Ok) (x : TStep) : (stepT T x).Ok := by
  unfold stepT
  split
  · exact write_ok h _
  · split
    · exact clear_ok h _
    · exact h

theorem runT_snoc (l : List TStep) (k : Nat) (h : k < l.length) : runT (l.take (k + 1)) = stepT (runT (l.take k)) l[k] := by
  unfold runT
  rw [List.take_succ_eq_append_getElem h, List.foldl_append]; rfl

section
variable {w0 w w' : World} {g g' : Nat → Nat} {t s : Nat} {T S T' : Tab}
end
end Go.Proofs.YtoiobhcgpajogabGreatDoor
