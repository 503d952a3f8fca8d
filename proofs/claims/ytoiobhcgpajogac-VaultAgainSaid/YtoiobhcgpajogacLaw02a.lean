/- The walk of tableBegun. -/
import Derived.Test.YtoiobhcgpajogacTab6
import Derived.Test.YtoiobhcgpajogacTab1
import Derived.Test.YtoiobhcgpajogacKit
import Derived.Test.YtoiobhcgpajogacTStep
namespace Go.Proofs.Ytoiobhcgpajogac
open Go.RowKit

def tbX : Val := ⟨true, ⟨#[120]⟩⟩
def tbW1 : List Ent := [⟨2, tbX⟩]
def tbW2 : List Ent := [⟨2, Val.zero⟩]
def tb1 : Tab := (writeT Tab.new tbW1).2
def tb2 : Tab := (writeT tb1 tbW2).2

theorem tbc1 : ckPs (-1) tbW1 = 0 := by
  rw [tbW1, ckPs, if_neg (by decide), if_neg (by decide), show ckV tbX = 0 from ckV_there (by decide), if_neg (by decide)]; rfl
theorem tbc2 : ckPs (-1) tbW2 = 0 := by
  rw [tbW2, ckPs, if_neg (by decide), if_neg (by decide), show ckV (Ent.v ⟨2, Val.zero⟩) = 0 from ckV_none (by decide), if_neg (by decide)]; rfl
theorem tbw1 : writeT Tab.new tbW1 = ((1, 0), tb1) := by
  have e : tb1 = (writeT Tab.new tbW1).2 := rfl
  rw [e]; unfold writeT; rw [if_neg (by rw [tbc1]; decide), if_neg (by decide)]; rfl
theorem tbw2 : writeT tb1 tbW2 = ((2, 0), tb2) := by
  have e : tb2 = (writeT tb1 tbW2).2 := rfl
  have e1 : tb1.last = 1 := by have := congrArg (fun x => x.2.last) tbw1; rw [← this]; unfold writeT; rw [if_neg (by rw [tbc1]; decide), if_neg (by decide)]; rfl
  rw [e]; unfold writeT; rw [if_neg (by rw [tbc2]; decide), if_neg (by rw [e1]; decide), e1]; rfl
theorem tb1_eq : tb1 = ⟨putsT 1 Tab.new.l tbW1, 1⟩ := by
  unfold tb1 writeT; rw [if_neg (by rw [tbc1]; decide), if_neg (by decide)]; rfl
theorem tb2_eq : tb2 = ⟨putsT 2 tb1.l tbW2, 2⟩ := by
  have e1 : tb1.last = 1 := by rw [tb1_eq]
  unfold tb2 writeT; rw [if_neg (by rw [tbc2]; decide), if_neg (by rw [e1]; decide), e1]; rfl
theorem tb1_l2 : tb1.l 2 = [⟨0, Val.zero⟩, ⟨1, tbX⟩] := by
  rw [tb1_eq]
  show upd Tab.new.l 2 (putC [⟨0, Val.zero⟩] 1 tbX).2 2 = _
  rw [upd_same, putC_new (show ckV tbX = 0 from ckV_there (by decide)) (by decide)]; rfl
theorem tb2_l2 : tb2.l 2 = [⟨0, Val.zero⟩, ⟨1, tbX⟩, ⟨2, Val.zero⟩] := by
  rw [tb2_eq]
  show upd tb1.l 2 (putC (tb1.l 2) 2 Val.zero).2 2 = _
  rw [upd_same, tb1_l2, putC_new (show ckV Val.zero = 0 from ckV_none (by decide)) (by decide)]; rfl
theorem tb2_l (k : Nat) (h : k ≠ 2) : tb2.l k = [⟨0, Val.zero⟩] := by
  rw [tb2_eq]
  show upd tb1.l 2 _ k = _
  rw [upd_other _ _ h, tb1_eq]
  show upd Tab.new.l 2 _ k = _
  rw [upd_other _ _ h]; rfl
theorem tb2_last : tb2.last = 2 := by rw [tb2_eq]
theorem tbr (k : Nat) (hk : k < 8) : readT tb2 k 1 = if k = 2 then (tbX, 0) else (Val.zero, 0) := by
  unfold readT
  rw [if_neg (by rw [tb2_last]; omega)]
  by_cases e : k = 2
  · subst e; rw [if_pos rfl]; show readC (tb2.l 2) 1 = _; rw [tb2_l2]; rfl
  · rw [if_neg e]; show readC (tb2.l k) 1 = _; rw [tb2_l k e]; rfl
theorem tbl : listT tb2 0 7 1 = (tbW1, 0) := by
  unfold listT
  rw [if_neg (by decide)]
  show listGo tb2 1 [0, 1, 2, 3, 4, 5, 6, 7] [] = _
  simp only [listGo, tbr 0 (by omega), tbr 1 (by omega), tbr 2 (by omega), tbr 3 (by omega), tbr 4 (by omega), tbr 5 (by omega), tbr 6 (by omega), tbr 7 (by omega)]
  rfl
theorem tbs2 : sinceT tb2 2 = 2 := by
  unfold sinceT; rw [if_neg (by decide)]; show lastN (tb2.l 2) = 2; rw [tb2_l2]; rfl
theorem tbs8 : sinceT tb2 8 = -1 := by
  unfold sinceT; rw [if_pos (by decide)]
theorem tbf : firstT tb2 = 0 := by
  have h : ∀ k, firstN (tb2.l k) = 0 := by
    intro k
    by_cases e : k = 2
    · subst e; rw [tb2_l2]; rfl
    · rw [tb2_l k e]; rfl
  have : ∀ k, firstGo tb2 k = 0 := by
    intro k
    induction k with
    | zero => rfl
    | succ k ih => rw [firstGo, ih, h]; rfl
  exact this 8

theorem tbk9 : ckPs (-1) [⟨9, Val.zero⟩] = 1 := by rw [ckPs, if_pos (by decide)]

theorem sliceAt_lit (w : World) (l : List Ent) : SliceAt (w.alloc (.cells (encEnts l).toArray 87)) (some ⟨w.heap.size, 0, none⟩) (encEnts l) :=
  .inr ⟨_, 0, rfl, fun j u hu => by rw [Nat.zero_add, World.cell?_alloc_new]; simpa using hu⟩

theorem SliceC.lit (g : Nat → Nat) (w : World) (lo hi q : Nat) (cells : List Value) (T : TypeId) (hq : q < lo) : SliceC (w.alloc (.cells cells.toArray T)) (extc g w q) lo hi (some ⟨w.heap.size, 0, none⟩) cells :=
  .inr ⟨_, 0, rfl, by simp, .inl (by rw [extc_new (Nat.le_refl _)]; exact hq), fun j u hu => by rw [Nat.zero_add, World.cell?_alloc_new]; simpa using hu⟩

theorem TableAt.alloc {w : World} {g : Nat → Nat} {p t : Nat} {T : Tab} (h : TableAt w g p t T) (q : Nat) (o : Obj) : TableAt (w.alloc o) (extc g w q) p t T := h.frame (Evo.alloc g q w o) (by omega)

end Go.Proofs.Ytoiobhcgpajogac
/- The walk of tables: a table and a sheet behind the same steps hold the same. -/
namespace Go.Proofs.Ytoiobhcgpajogac
open Go.RowKit

def stepT (T : Tab) (x : TStep) : Tab := if x.do_ = 0 then (writeT T x.w).2 else if x.do_ = 1 then (clearT T x.least).2 else T
def runT (l : List TStep) : Tab := l.foldl stepT Tab.new

theorem stepT_ok {T : Tab} (h : T.Ok) (x : TStep) : (stepT T x).Ok := by
  unfold stepT
  split
  · exact write_ok h _
  · split
    · exact clear_ok h _
    · exact h

theorem runT_snoc (l : List TStep) (k : Nat) (h : k < l.length) : runT (l.take (k + 1)) = stepT (runT (l.take k)) l[k] := by
  unfold runT
  rw [List.take_succ_eq_append_getElem h, List.foldl_append]; rfl

/-- A table of the colours 1 to 9; a sheet of the colours 10 and 11. -/
structure TS (w0 : World) (g : Nat → Nat) (w : World) (t s : Nat) (T S : Tab) : Prop where
  base : Base w0.heap.size w0 g w
  tab : TableAt w g 1 t T
  sh : SheetAt w g 10 s S

section
variable {w0 w w' : World} {g g' : Nat → Nat} {t s : Nat} {T S T' : Tab}
theorem TS.below (h : TS w0 g w t s T S) (k : Below w.heap.size w w') : TS w0 g w' t s T S := ⟨h.base.below' k, h.tab.below k, h.sh.below k⟩
theorem TS.fresh (h : TS w0 g w t s T S) (k : Evo 0 0 g g' w w') : TS w0 g' w' t s T S := ⟨h.base.step k (by omega), h.tab.frame k (by omega), h.sh.fresh k⟩
theorem TS.drew (h : TS w0 g w t s T S) : TS w0 g w.drew t s T S := h.below (Below.refl _ _).drew
theorem TS.evoT (h : TS w0 g w t s T S) (hE : Evo 1 (1 + 9) g g' w w') (hT : TableAt w' g' 1 t T') : TS w0 g' w' t s T' S := ⟨h.base.step hE (by omega), hT, h.sh.frame hE (by omega)⟩
theorem TS.evoS (h : TS w0 g w t s T S) (hE : Evo 10 (10 + 2) g g' w w') (hS : SheetAt w' g' 10 s T') : TS w0 g' w' t s T T' := ⟨h.base.step hE (by omega), h.tab.frame hE (by omega), hS⟩
theorem TS.slice (h : TS w0 g w t s T S) {a : Option Addr} {cells : List Value} (k : SliceAt w0 a cells) (lo hi : Nat) (hl : 1 ≤ lo) : SliceC w g lo hi a cells := SliceC.of_base k rfl h.base hl
end

def TablesPost (l : List TStep) (w : World) (e : Ending) (w' : World) : Prop :=
  ∃ g t s, e = .returned (.tuple #[.pointer (some ⟨t, 0, none⟩), .pointer (some ⟨s, 0, none⟩), .bool true]) ∧ TS w g w' t s (runT l) (runT l)

set_option maxHeartbeats 4000000 in
set_option maxRecDepth 100000 in
theorem law_tables (a : Option Addr) (cap : Nat) (l : List TStep) (w : World) (hn : l.length ≤ 80) (hw : ∀ x ∈ l, x.w.length ≤ 50) (hA : TStepsAt w a l) :
    Calls Try.prog 18 #[.slice a l.length cap] w (TablesPost l w) := by
  have HW := hid hw
  have HA := hid hA
  clear hw hA
  go_enter Try.func18, Try.ntmps18
  go_wp2_with fail
  refine (table_New (fun _ => 0) 1 w).mono ?_
  rintro e w1 ⟨t, g1, rfl, hE1, -, hT1⟩
  have B1 := hid ((Base.start w).step hE1 (by omega))
  have HT1 := hid hT1
  clear hE1 hT1
  go_wp2_with fail
  refine (sheet_New g1 10 w1).mono ?_
  rintro e w2 ⟨s, g2, rfl, hE2, -, hS2⟩
  have H0 : Hid (TS w g2 w2 t s Tab.new Tab.new) := hid ⟨B1.out.step hE2 (by omega), HT1.out.frame hE2 (by omega), hS2⟩
  clear hE2 hS2 B1 HT1
  go_wp2_with fail
  go_loopw [7, 8] (fun o i wr => o = .bool true ∧ ∃ (k : Nat) (g : Nat → Nat), k ≤ l.length ∧ i = .int .i64 k ∧ TS w g wr t s (runT (l.take k)) (runT (l.take k))) (fun _ i _ => l.length - (intOf i).toNat)
  case atStart => exact ⟨rfl, 0, _, Nat.zero_le _, rfl, H0.out⟩
  case round =>
    obtain ⟨rfl, k, g, hk, rfl, H⟩ := hrel
    clear H0
    by_cases hlt : k < l.length
    · obtain ⟨b, off, rfl, hb, hv⟩ := HA.out.facts (by omega)
      obtain ⟨g1, g2, g3, g4, g5⟩ := hv k hlt
      clear hv
      have keep : ∀ W', Below w.heap.size w W' → (Below w.heap.size w W' ∧ W'.cell? ⟨b, off + k * 3, none⟩ = some (.int .i64 l[k].do_) ∧ W'.cell? ⟨b, off + k * 3 + 1, none⟩ = some (.int .i64 l[k].least) ∧
          W'.cell? ⟨b, off + k * 3 + 2, none⟩ = some (.slice l[k].a l[k].w.length l[k].cap)) := by
        intro W' hW
        exact ⟨hW, (hW.cell (p := ⟨b, _, none⟩) hb).trans g1, (hW.cell (p := ⟨b, _, none⟩) hb).trans g2, (hW.cell (p := ⟨b, _, none⟩) hb).trans g3⟩
      obtain ⟨-, q1, q2, q3⟩ := keep wr H.base.below
      have HR := hid (runT_snoc l k hlt)
      have hw50 := HW.out l[k] (List.getElem_mem _)
      clear g1 g2 g3 HA HW
      have KS := hid keep
      have HH := hid H
      have G4 := hid g4
      clear keep H g4 g5
      have hki : (k : Int) < (l.length : Int) := by omega
      have hk0 : (0 : Int) ≤ (k : Int) := by omega
      generalize l[k] = x at *
      generalize runT (l.take k) = T at *
      have hw6 : x.w.length ≤ 1000000 := by omega
      clear hw50
      have HQ := hid q1
      by_cases hd : x.do_ = 0
      · rw [hd] at q1
        have hst := HR.out
        have HR2 := hid (show runT (l.take (k + 1)) = (writeT T x.w).2 by rw [hst]; simp [stepT, hd])
        clear hst hd
        generalize hy : writeT T x.w = y at *
        have HY := hid hy
        clear hy
        go_wp2_with fail
        (with_reducible refine (table_Write g 1 t T x.a x.cap x.w _ hw6 G4.out.sz HH.out.tab (HH.out.slice G4.out.sl 1 (1 + 9) (by omega))).mono ?_)
        rintro e w3 ⟨he, g3, hT3, hE3⟩
        rw [HY.out] at he hT3
        subst he
        have HH3 := hid (HH.out.evoT hE3 hT3)
        obtain ⟨-, r1, r2, r3⟩ := KS.out _ HH3.out.base.below
        clear hE3 hT3 q1 q2 q3
        go_wp2_with fail
        (with_reducible refine (sheet_Write g3 10 s T x.a x.cap x.w _ hw6 G4.out.sz HH3.out.sh (HH3.out.slice G4.out.sl 10 (10 + 2) (by omega))).mono ?_)
        rintro e w4 ⟨he, g4, hS4, hE4⟩
        rw [HY.out] at he hS4
        subst he
        have HH4 := hid (HH3.out.evoS hE4 hS4)
        clear hE4 hS4 r1 r2 r3
        go_wp2
        go_roundw
        case rel => exact ⟨by simp, k + 1, _, by omega, by go_num, by rw [HR2.out]; exact HH4.out⟩
        case measure => simp [intOf]; omega
      · by_cases hd1 : x.do_ = 1
        · rw [hd1] at q1
          have hst := HR.out
          have HR2 := hid (show runT (l.take (k + 1)) = (clearT T x.least).2 by rw [hst]; simp [stepT, hd1])
          clear hst hd
          have HD := hid hd1
          clear hd1
          go_wp2_with fail
          go_region_held3 (fun W' : World => Below w.heap.size w W' ∧ W'.cell? ⟨b, off + k * 3, none⟩ = some (.int .i64 x.do_) ∧ W'.cell? ⟨b, off + k * 3 + 1, none⟩ = some (.int .i64 x.least) ∧ W'.cell? ⟨b, off + k * 3 + 2, none⟩ = some (.slice x.a x.w.length x.cap))
            (first | assumption | exact KS.out _ HH.out.drew.base.below)
            (first
              | (go_at_call 29; refine (table_Clear _ _ _ _ _ x.least HH.out.drew.tab).mono ?_; rintro e w3 ⟨rfl, g3, hC, hE⟩; have HH3 := hid (HH.out.drew.evoT hE hC); have hS' := KS.out _ HH3.out.base.below; clear hC hE)
              | (go_at_call 30; refine (sheet_Clear _ _ _ _ _ x.least HH3.out.sh).mono ?_; rintro e w4 ⟨rfl, g4, hC, hE⟩; have HH4 := hid (HH3.out.evoS hE hC); have hS' := KS.out _ HH4.out.base.below; clear hC hE))
          go_wp2
          go_roundw
          case rel => exact ⟨by simp, k + 1, _, by omega, by go_num, by rw [HR2.out]; exact HH4.out⟩
          case measure => simp [intOf]; omega
        · have hst := HR.out
          have HR2 := hid (show runT (l.take (k + 1)) = T by rw [hst]; simp [stepT, hd, hd1])
          clear hst
          have e0 : (x.do_ == 0) = false := by simpa using hd
          have e1 : (x.do_ == 1) = false := by simpa using hd1
          clear hd hd1
          go_wp2
          go_roundw
          case rel => exact ⟨rfl, k + 1, _, by omega, by go_num, by rw [HR2.out]; exact HH.out⟩
          case measure => simp [intOf]; omega
    · obtain rfl : k = l.length := by omega
      rw [List.take_length] at H
      have HH := hid H
      clear H HA HW
      go_wp2
      go_ret3
      exact ⟨g, t, s, rfl, HH.out⟩

end Go.Proofs.Ytoiobhcgpajogac
