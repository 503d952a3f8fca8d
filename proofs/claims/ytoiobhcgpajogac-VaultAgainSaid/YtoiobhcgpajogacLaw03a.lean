/- The walk of deedBegun. -/
import Derived.Test.YtoiobhcgpajogacLaw02a
import Derived.Test.YtoiobhcgpajogacDeed3
namespace Go.Proofs.Ytoiobhcgpajogac
open Go.RowKit

theorem DeedAt.alloc {w : World} {g : Nat → Nat} {p d : Nat} {D : Ded} (h : DeedAt w g p d D) (q : Nat) (o : Obj) : DeedAt (w.alloc o) (extc g w q) p d D := h.frame (Evo.alloc g q w o) (by omega)

/-- A table of the colours 1 to 9; a deed of the colour 12. -/
structure TD (w0 : World) (g : Nat → Nat) (w : World) (t d : Nat) (T : Tab) (D : Ded) : Prop where
  base : Base w0.heap.size w0 g w
  tab : TableAt w g 1 t T
  ded : DeedAt w g 12 d D

section
variable {w0 w w' : World} {g g' : Nat → Nat} {t d : Nat} {T T' : Tab} {D D' : Ded}
theorem TD.below (h : TD w0 g w t d T D) (k : Below w.heap.size w w') : TD w0 g w' t d T D := ⟨h.base.below' k, h.tab.below k, h.ded.below k⟩
theorem TD.alloc (h : TD w0 g w t d T D) (o : Obj) : TD w0 (extc g w 0) (w.alloc o) t d T D := ⟨h.base.alloc 0 o, h.tab.alloc 0 o, h.ded.alloc 0 o⟩
theorem TD.evoT (h : TD w0 g w t d T D) (hE : Evo 1 (1 + 9) g g' w w') (hT : TableAt w' g' 1 t T') : TD w0 g' w' t d T' D := ⟨h.base.step hE (by omega), hT, h.ded.frame hE (by omega)⟩
theorem TD.evoD (h : TD w0 g w t d T D) (hE : Evo 12 (12 + 1) g g' w w') (hD : DeedAt w' g' 12 d D') : TD w0 g' w' t d T D' := ⟨h.base.step hE (by omega), h.tab.frame hE (by omega), hD⟩
theorem TD.slice (h : TD w0 g w t d T D) {a : Option Addr} {cells : List Value} (k : SliceAt w0 a cells) : SliceC w g 1 (1 + 9) a cells := SliceC.of_base k rfl h.base (Nat.le_refl _)
end

theorem sliceAt_litI (w : World) (l : List Nat) (T : TypeId) : SliceAt (w.alloc (.cells (encI l).toArray T)) (some ⟨w.heap.size, 0, none⟩) (encI l) :=
  .inr ⟨_, 0, rfl, fun j u hu => by rw [Nat.zero_add, World.cell?_alloc_new]; simpa using hu⟩

theorem ref_SameInts_eq (a1 a2 : Option Addr) (c1 c2 : Nat) (l : List Nat) (w : World) (hn : l.length ≤ 1000000) (h1 : SliceAt w a1 (encI l)) (h2 : SliceAt w a2 (encI l)) :
    Calls Try.prog 31 #[.slice a1 l.length c1, .slice a2 l.length c2] w (BoolPost true w) := by
  have := ref_SameInts a1 a2 c1 c2 l l w hn hn h1 h2
  rwa [decide_eq_true rfl] at this

def dbY : Val := ⟨true, ⟨#[121]⟩⟩
def dbW1 : List Ent := [⟨1, tbX⟩]
def dbW2 : List Ent := [⟨1, Val.zero⟩]
def db1 : Tab := (writeT Tab.new dbW1).2
def db2 : Tab := (writeT db1 dbW2).2
def dd1 : Ded := ⟨2, 1, upd (fun _ => false) 1 true, fun _ => none⟩
def dd2 : Ded := ⟨2, 1, upd (fun _ => false) 1 true, upd (fun _ => none) 2 (some dbY)⟩

theorem dbc1 : ckPs (-1) dbW1 = 0 := by
  rw [dbW1, ckPs, if_neg (by decide), if_neg (by decide), show ckV (Ent.v ⟨1, tbX⟩) = 0 from ckV_there (by decide), if_neg (by decide)]; rfl
theorem dbc2 : ckPs (-1) dbW2 = 0 := by
  rw [dbW2, ckPs, if_neg (by decide), if_neg (by decide), show ckV (Ent.v ⟨1, Val.zero⟩) = 0 from ckV_none (by decide), if_neg (by decide)]; rfl
theorem db1_eq : db1 = ⟨putsT 1 Tab.new.l dbW1, 1⟩ := by
  unfold db1 writeT; rw [if_neg (by rw [dbc1]; decide), if_neg (by decide)]; rfl
theorem dbw1 : writeT Tab.new dbW1 = ((1, 0), db1) := by
  have e : db1 = (writeT Tab.new dbW1).2 := rfl
  rw [e]; unfold writeT; rw [if_neg (by rw [dbc1]; decide), if_neg (by decide)]; rfl
theorem dbw2 : writeT db1 dbW2 = ((2, 0), db2) := by
  have e : db2 = (writeT db1 dbW2).2 := rfl
  have e1 : db1.last = 1 := by rw [db1_eq]
  rw [e]; unfold writeT; rw [if_neg (by rw [dbc2]; decide), if_neg (by rw [e1]; decide), e1]; rfl
theorem db2_eq : db2 = ⟨putsT 2 db1.l dbW2, 2⟩ := by
  have e1 : db1.last = 1 := by rw [db1_eq]
  unfold db2 writeT; rw [if_neg (by rw [dbc2]; decide), if_neg (by rw [e1]; decide), e1]; rfl
theorem db1_l1 : db1.l 1 = [⟨0, Val.zero⟩, ⟨1, tbX⟩] := by
  rw [db1_eq]
  show upd Tab.new.l 1 (putC [⟨0, Val.zero⟩] 1 tbX).2 1 = _
  rw [upd_same, putC_new (show ckV tbX = 0 from ckV_there (by decide)) (by decide)]; rfl
theorem db2_l1 : db2.l 1 = [⟨0, Val.zero⟩, ⟨1, tbX⟩, ⟨2, Val.zero⟩] := by
  rw [db2_eq]
  show upd db1.l 1 (putC (db1.l 1) 2 Val.zero).2 1 = _
  rw [upd_same, db1_l1, putC_new (show ckV Val.zero = 0 from ckV_none (by decide)) (by decide)]; rfl
theorem db2_l2 : db2.l 2 = [⟨0, Val.zero⟩] := by
  rw [db2_eq]
  show upd db1.l 1 (putC (db1.l 1) 2 Val.zero).2 2 = _
  rw [upd_other _ _ (by decide), db1_eq]
  show upd Tab.new.l 1 (putC [⟨0, Val.zero⟩] 1 tbX).2 2 = _
  rw [upd_other _ _ (by decide)]; rfl
theorem dbr1 : readT db1 1 1 = (tbX, 0) := by
  unfold readT
  rw [if_neg (by rw [db1_eq]; decide)]
  show readC (db1.l 1) 1 = _
  rw [db1_l1]; rfl
theorem dbs1 : sinceT db2 1 = 2 := by
  unfold sinceT; rw [if_neg (by decide)]; show lastN (db2.l 1) = 2; rw [db2_l1]; rfl
theorem dbs2 : sinceT db2 2 = 0 := by
  unfold sinceT; rw [if_neg (by decide)]; show lastN (db2.l 2) = 0; rw [db2_l2]; rfl
theorem dbg1 : getD (Ded.new 2 1) db1 1 = ((tbX, 0), dd1) := by
  unfold getD; rw [if_neg (by decide)]
  show (readT db1 1 1, if (readT db1 1 1).2 = 0 then _ else _) = _
  rw [dbr1]; rfl
theorem dbp : putD dd1 2 dbY = (0, dd2) := by
  unfold putD; rw [if_neg (by decide), if_neg (by decide), if_neg (by rw [show ckV dbY = 0 from ckV_there (by decide)]; decide)]; rfl
theorem dbg2 : getD dd2 db1 2 = ((dbY, 0), dd2) := by
  unfold getD; rw [if_neg (by decide)]; rfl
theorem dbR : readsD dd2 = [1] := by rfl
theorem dbWr : writesD dd2 = [⟨2, dbY⟩] := by rfl
theorem dbM : mayD dd2 db2 = 11 := by
  have h1 : clashD dd2 db2 = false := by
    unfold clashD; rw [dbWr]
    show (decide ((1 : Int) < sinceT db2 2) || false) = false
    rw [dbs2]; rfl
  have h2 : staleD dd2 db2 = true := by
    unfold staleD; rw [dbR]
    show (decide ((1 : Int) < sinceT db2 1) || false) = true
    rw [dbs1]; rfl
  unfold mayD; rw [if_neg (by rw [h1]; simp), if_pos ⟨rfl, h2⟩]

set_option maxHeartbeats 4000000 in
set_option maxRecDepth 100000 in
theorem law_deedBegun (w : World) : Calls Try.prog 15 #[] w (TruePost w) := by
  have ND := hid (fun W => deed_New_out 4 1 W (Or.inr (by decide)))
  go_enter Try.func15, Try.ntmps15
  go_wp2_with fail
  refine (table_New (fun _ => 0) 1 w).mono ?_
  rintro e w1 ⟨t, g1, rfl, hE1, -, hT1⟩
  have B1 := hid ((Base.start w).step hE1 (by omega))
  have HT1 := hid hT1
  clear hE1 hT1
  go_wp2_with fail
  (with_reducible refine (law_has _ _).mono ?_)
  rintro e w2 ⟨rfl, hb⟩
  have B2 := hid (B1.out.below' hb)
  have HT2 := hid (HT1.out.below hb)
  clear hb B1 HT1
  go_wp2_with fail
  have B3 := hid (B2.out.alloc 0 (.cells (encEnts dbW1).toArray 87))
  have P := table_Write (extc g1 w2 0) 1 t Tab.new (some ⟨w2.heap.size, 0, none⟩) 1 dbW1 (w2.alloc (.cells (encEnts dbW1).toArray 87)) (by decide) (by intro x hx; simp [dbW1] at hx; subst hx; decide) (HT2.out.alloc 0 _) (SliceC.lit g1 w2 1 (1 + 9) 0 _ _ (by omega))
  rw [dbw1] at P
  refine P.mono ?_
  clear P
  rintro e w4 ⟨rfl, g4, hT4, hE4⟩
  have B4 := hid (B3.out.step hE4 (by omega))
  have HT4 := hid hT4
  clear hT4 hE4 B2 HT2 B3
  go_wp2_with fail
  refine (deed_New_in g4 12 2 1 w4 (by decide)).mono ?_
  rintro e w5 ⟨d, rfl, hb, hd, hD⟩
  have H5 : Hid (TD w (extc g4 w4 12) w5 t d db1 (Ded.new 2 1)) := hid ⟨B4.out.step (Evo.of_below (lo := 0) (hi := 0) g4 12 hb) (by omega), HT4.out.frame (Evo.of_below (lo := 0) (hi := 0) g4 12 hb) (by omega), hD⟩
  generalize extc g4 w4 12 = g5 at *
  clear hb hd hD B4 HT4
  go_wp2_with fail
  refine (ND.out _).mono ?_
  rintro e W ⟨rfl, rfl⟩
  go_wp2_with fail
  have P := deed_Get g5 12 d (Ded.new 2 1) g5 1 t db1 1 w5 H5.out.ded H5.out.tab
  rw [dbg1] at P
  refine P.mono ?_
  clear P
  rintro e w6 ⟨rfl, g6, hD, hE⟩
  have H6 := hid (H5.out.evoD hE hD)
  clear hD hE H5
  go_wp2_with fail
  have L7 := LocC.new g6 0 w6 39 [.bool tbX.there, .string tbX.bytes]
  have H7 := hid (H6.out.alloc (.cells #[.bool tbX.there, .string tbX.bytes] 39))
  (with_reducible refine (law_has _ _).mono ?_)
  rintro e w8 ⟨rfl, hb⟩
  have H8 := hid (H7.out.below hb)
  have L8 := hid (L7.below hb)
  generalize extc g6 w6 0 = g7 at *
  clear hb L7 H7 H6
  go_wp2_with fail
  have P := deed_Put g7 12 d dd1 2 dbY w8 (by decide) H8.out.ded
  rw [dbp] at P
  refine P.mono ?_
  clear P
  rintro e w9 ⟨rfl, g9, hD, hE⟩
  have H9 := hid (H8.out.evoD hE hD)
  have L9 := hid (L8.out.frame hE (by omega))
  clear hD hE L8 H8
  go_wp2_with fail
  have P := deed_Get g9 12 d dd2 g9 1 t db1 2 w9 H9.out.ded H9.out.tab
  rw [dbg2] at P
  refine P.mono ?_
  clear P
  rintro e w10 ⟨rfl, g10, hD, hE⟩
  have H10 := hid (H9.out.evoD hE hD)
  have L10 := hid (L9.out.frame hE (by omega))
  clear hD hE L9 H9
  go_wp2_with fail
  have M11 := LocC.new g10 0 w10 39 [.bool dbY.there, .string dbY.bytes]
  have H11 := hid (H10.out.alloc (.cells #[.bool dbY.there, .string dbY.bytes] 39))
  have L11 := L10.out.frame (Evo.alloc g10 0 w10 (.cells #[.bool dbY.there, .string dbY.bytes] 39)) (Or.inr (Nat.zero_le _))
  generalize extc g10 w10 0 = g11 at *
  clear L10 H10
  generalize Obj.cells #[Value.bool dbY.there, Value.string dbY.bytes] 39 = o at *
  have hsz : (w10.alloc o).heap.size = w10.heap.size + 1 := by simp
  have H12 := hid (H11.out.alloc (.cells (encEnts dbW2).toArray 87))
  have L12 := hid (L11.frame (Evo.alloc g11 0 (w10.alloc o) (.cells (encEnts dbW2).toArray 87)) (Or.inr (Nat.zero_le _)))
  have M12 := hid (M11.frame (Evo.alloc g11 0 (w10.alloc o) (.cells (encEnts dbW2).toArray 87)) (Or.inr (Nat.zero_le _)))
  have P := table_Write (extc g11 (w10.alloc o) 0) 1 t db1 (some ⟨(w10.heap.size + 1), 0, none⟩) 1 dbW2 ((w10.alloc o).alloc (.cells (encEnts dbW2).toArray 87)) (by decide) (by intro x hx; simp [dbW2] at hx; subst hx; decide) H12.out.tab (by rw [← hsz]; exact SliceC.lit g11 (w10.alloc o) 1 (1 + 9) 0 _ _ (by omega))
  rw [dbw2] at P
  clear hsz
  refine P.mono ?_
  clear P L11 M11 H11
  rintro e w13 ⟨rfl, g13, hT, hE⟩
  have H13 := hid (H12.out.evoT hE hT)
  have L13 := hid (L12.out.frame hE (by omega))
  have M13 := hid (M12.out.frame hE (by omega))
  have KS := hid (fun W' (hW : Below w13.heap.size w13 W') => (⟨hW, ((L13.out.below hW).1.two).1, ((L13.out.below hW).1.two).2.1, ((M13.out.below hW).1.two).1, ((M13.out.below hW).1.two).2.1⟩ :
    Below w13.heap.size w13 W' ∧ W'.cell? ⟨w6.heap.size, 0, none⟩ = some (.bool true) ∧ W'.cell? ⟨w6.heap.size, 1, none⟩ = some (.string ⟨#[120]⟩) ∧ W'.cell? ⟨w10.heap.size, 0, none⟩ = some (.bool true) ∧ W'.cell? ⟨w10.heap.size, 1, none⟩ = some (.string ⟨#[121]⟩)))
  clear hE hT L12 M12 H12 L13 M13
  go_wp2_with fail
  go_region_held3 (fun W' : World => Below w13.heap.size w13 W' ∧ W'.cell? ⟨w6.heap.size, 0, none⟩ = some (.bool true) ∧ W'.cell? ⟨w6.heap.size, 1, none⟩ = some (.string ⟨#[120]⟩) ∧ W'.cell? ⟨w10.heap.size, 0, none⟩ = some (.bool true) ∧ W'.cell? ⟨w10.heap.size, 1, none⟩ = some (.string ⟨#[121]⟩))
    (first | assumption | exact KS.out _ (Below.refl _ _).drew | exact KS.out _ (Below.alloc (‹Below w13.heap.size w13 _ ∧ _›.1) (‹Below w13.heap.size w13 _ ∧ _›.1).size _))
    (first
      | (go_at_call 56; have hS := ‹Below w13.heap.size w13 _ ∧ _›.1; (with_reducible refine (law_has _ _).mono ?_); rintro e w' ⟨rfl, hb⟩; have hS' := KS.out _ (hS.trans (hb.mono hS.size)); clear hb hS)
      | (go_at_call 32; have hS := ‹Below w13.heap.size w13 _ ∧ _›.1; have P := deed_Reads _ _ _ _ _ (H13.out.ded.below hS); rw [dbR] at P; (with_reducible refine P.mono ?_); clear P; rintro e w' ⟨a5, c5, rfl, hs5, hb5⟩; have hS' := KS.out _ (hS.trans (hb5.mono hS.size)); clear hS)
      | (go_at_call 31; have hS := ‹Below w13.heap.size w13 _ ∧ _›.1; refine Calls.mono (ref_SameInts_eq _ _ _ _ [1] _ (by decide) (by first | exact sliceAt_below hs5 ((Below.refl _ _).alloc (Nat.le_refl _) _) | exact hs5) (by first | exact sliceAt_litI _ [1] _ | exact sliceAt_below (sliceAt_litI _ [1] _) hb5)) ?_; rintro e w' ⟨rfl, hb⟩; have hS' := KS.out _ (hS.trans (hb.mono hS.size)); clear hb hS hs5 hb5)
      | (go_at_call 34; have hS := ‹Below w13.heap.size w13 _ ∧ _›.1; have P := deed_Writes _ _ _ _ _ (H13.out.ded.below hS); rw [dbWr] at P; (with_reducible refine P.mono ?_); clear P; rintro e w' ⟨a6, c6, rfl, -, hb, -, -⟩; have hS' := KS.out _ (hS.trans (hb.mono hS.size)); clear hb hS)
      | (go_at_call 36; have hS := ‹Below w13.heap.size w13 _ ∧ _›.1; have P := deed_May _ _ _ _ _ _ _ _ _ (H13.out.ded.below hS) (H13.out.tab.below hS); rw [dbM] at P; (with_reducible refine P.mono ?_); clear P; rintro e w' ⟨rfl, hb⟩; have hS' := KS.out _ (hS.trans (hb.mono hS.size)); clear hb hS)
      | (go_at_call 38; have hS := ‹Below w13.heap.size w13 _ ∧ _›.1; have P := deed_Mode _ _ _ _ _ (H13.out.ded.below hS); (with_reducible refine P.mono ?_); clear P; rintro e w' ⟨rfl, rfl⟩; clear hS)
      | (go_at_call 39; have hS := ‹Below w13.heap.size w13 _ ∧ _›.1; have P := deed_At _ _ _ _ _ (H13.out.ded.below hS); (with_reducible refine P.mono ?_); clear P; rintro e w' ⟨rfl, rfl⟩; clear hS))
  all_goals
    have hS := ‹Below w13.heap.size w13 _ ∧ _›.1
    go_wp2
    go_ret
    exact ⟨rfl, (H13.out.base.below' hS).below⟩

end Go.Proofs.Ytoiobhcgpajogac
