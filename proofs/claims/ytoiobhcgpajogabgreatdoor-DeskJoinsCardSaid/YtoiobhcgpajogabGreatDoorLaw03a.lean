/- The walk of deedBegun. -/
import Derived.Test.YtoiobhcgpajogabGreatDoorLaw02a
import Derived.Test.YtoiobhcgpajogabGreatDoorDeed3
namespace Go.Proofs.YtoiobhcgpajogabGreatDoor
open Go.RowKit

theorem DeedAt.alloc {w : World} {g : Nat → Nat} {p d : Nat} {D : Ded} (h : DeedAt w g p d D) (q : Nat) (o : Obj) : DeedAt (w.alloc o) (extc g w q) p d D := h.frame (Evo.alloc g q w o) (by omega)

/-- A table of the colours 1 to 9; a deed of the colour 12. -/
structure TD (w0 : World) (g : Nat → Nat) (w : World) (t d : Nat) (T : Tab) (D : Ded) : Prop where
  base : Base w0.heap.size w0 g w
  tab : TableAt w g 1 t T
  ded : DeedAt w g 12 d D

section
variable {w0 w w' : World} {g g' : Nat → Nat} {t d : Nat} {T T' : Tab} {D D' : Ded}
theorem TD.below (h : TD w0 g w t d T D) (k : Below w.heap.size w w') : TD w0 g w' t d T D := ⟨h.base.below' k, h.tab.below k, h.ded.below k⟩
theorem TD.alloc (h : TD w0 g w t d T D) (o : Obj) : TD w0 (extc g w 0) (w.alloc o) t d T D := ⟨h.base.alloc 0 o, h.tab.alloc 0 o, h.ded.alloc 0 o⟩
theorem TD.evoT (h : TD w0 g w t d T D) (hE : Evo 1 (1 + 9) g g' w w') (hT : TableAt w' g' 1 t T') : TD w0 g' w' t d T' D := ⟨h.base.step hE (by omega), hT, h.ded.frame hE (by omega)⟩
theorem TD.evoD (h : TD w0 g w t d T D) (hE : Evo 12 (12 + 1) g g' w w') (hD : DeedAt w' g' 12 d D') : TD w0 g' w' t d T D' := ⟨h.base.step hE (by omega), h.tab.frame hE (by omega), hD⟩
theorem TD.slice (h : TD w0 g w t d T D) {a : Option Addr} {cells : List Value} (k : SliceAt w0 a cells) : SliceC w g 1 (1 + 9) a cells := SliceC.of_base k rfl h.base (Nat.le_refl _)
end

theorem sliceAt_litI (w : World) (l : List Nat) (T : TypeId) : SliceAt (w.alloc (.cells (encI l).toArray T)) (some ⟨w.heap.size, 0, none⟩) (encI l) :=
  .inr ⟨_, 0, rfl, fun j u hu => by rw [Nat.zero_add, World.cell?_alloc_new]; simpa using hu⟩

def dbY : Val := ⟨true, ⟨#[121]⟩⟩
def dbW1 : List Ent := [⟨1, tbX⟩]
def dbW2 : List Ent := [⟨1, Val.zero⟩]
def db1 : Tab := (writeT Tab.new dbW1).2
def db2 : Tab := (writeT db1 dbW2).2
def dd1 : Ded := ⟨2, 1, upd (fun _ => false) 1 true, fun _ => none⟩
def dd2 : Ded := ⟨2, 1, upd (fun _ => false) 1 true, upd (fun _ => none) 2 (some dbY)⟩

theorem dbc1 : ckPs (-1) dbW1 = 0 := by
  rw [dbW1, ckPs, if_neg (by decide), if_neg (by decide), show ckV (Ent.v ⟨1, tbX⟩) = 0 from ckV_there (by decide), if_neg (by decide)]; rfl
theorem dbc2 : ckPs (-1) dbW2 = 0 := by
  rw [dbW2, ckPs, if_neg (by decide), if_neg (by decide), show ckV (Ent.v ⟨1, Val.zero⟩) = 0 from ckV_none (by decide), if_neg (by decide)]; rfl
theorem db1_eq : db1 = ⟨putsT 1 Tab.new.l dbW1, 1⟩ := by
  unfold db1 writeT; rw [if_neg (by rw [dbc1]; decide), if_neg (by decide)]; rfl
theorem dbw1 : writeT Tab.new dbW1 = ((1, 0), db1) := by
  have e : db1 = (writeT Tab.new dbW1).2 := rfl
  rw [e]; unfold writeT; rw [if_neg (by rw [dbc1]; decide), if_neg (by decide)]; rfl
theorem dbw2 : writeT db1 dbW2 = ((2, 0), db2) := by
  have e : db2 = (writeT db1 dbW2).2 := rfl
  have e1 : db1.last = 1 := by rw [db1_eq]
  rw [e]; unfold writeT; rw [if_neg (by rw [dbc2]; decide), if_neg (by rw [e1]; decide), e1]; rfl
theorem db2_eq : db2 = ⟨putsT 2 db1.l dbW2, 2⟩ := by
  have e1 : db1.last = 1 := by rw [db1_eq]
  unfold db2 writeT; rw [if_neg (by rw [dbc2]; decide), if_neg (by rw [e1]; decide), e1]; rfl
theorem db1_l1 : db1.l 1 = [⟨0, Val.zero⟩, ⟨1, tbX⟩] := by
  rw [db1_eq]
  show upd Tab.new.l 1 (putC [⟨0, Val.zero⟩] 1 tbX).2 1 = _
  rw [upd_same, putC_new (show ckV tbX = 0 from ckV_there (by decide)) (by decide)]; rfl
theorem db2_l1 : db2.l 1 = [⟨0, Val.zero⟩, ⟨1, tbX⟩, ⟨2, Val.zero⟩] := by
  rw [db2_eq]
  show upd db1.l 1 (putC (db1.l 1) 2 Val.zero).2 1 = _
  rw [upd_same, db1_l1, putC_new (show ckV Val.zero = 0 from ckV_none (by decide)) (by decide)]; rfl
theorem db2_l2 : db2.l 2 = [⟨0, Val.zero⟩] := by
  rw [db2_eq]
  show upd db1.l 1 (putC (db1.l 1) 2 Val.zero).2 2 = _
  rw [upd_other _ _ (by decide), db1_eq]
  show upd Tab.new.l 1 (putC [⟨0, Val.zero⟩] 1 tbX).2 2 = _
  rw [upd_other _ _ (by decide)]; rfl
theorem dbr1 : readT db1 1 1 = (tbX, 0) := by
  unfold readT
  rw [if_neg (by rw [db1_eq]; decide)]
  show readC (db1.l 1) 1 = _
  rw [db1_l1]; rfl
theorem dbs1 : sinceT db2 1 = 2 := by
  unfold sinceT; rw [if_neg (by decide)]; show lastN (db2.l 1) = 2; rw [db2_l1]; rfl
theorem dbs2 : sinceT db2 2 = 0 := by
  unfold sinceT; rw [if_neg (by decide)]; show lastN (db2.l 2) = 0; rw [db2_l2]; rfl
theorem dbg1 : getD (Ded.new 2 1) db1 1 = ((tbX, 0), dd1) := by
  unfold getD; rw [if_neg (by decide)]
  show (readT db1 1 1, if (readT db1 1 1).2 = 0 then _ else _) = _
  rw [dbr1]; rfl
theorem dbp : putD dd1 2 dbY = (0, dd2) := by
  unfold putD; rw [if_neg (by decide), if_neg (by decide), if_neg (by rw [show ckV dbY = 0 from ckV_there (by decide)]; decide)]; rfl
theorem dbg2 : getD dd2 db1 2 = ((dbY, 0), dd2) := by
  unfold getD; rw [if_neg (by decide)]; rfl
theorem dbR : readsD dd2 = [1] := by rfl
theorem dbWr : writesD dd2 = [⟨2, dbY⟩] := by rfl
theorem dbM : mayD dd2 db2 = 11 := by
  have h1 : clashD dd2 db2 = false := by
    unfold clashD; rw [dbWr]
    show (decide ((1 : Int) < sinceT db2 2) || false) = false
    rw [dbs2]; rfl
  have h2 : staleD dd2 db2 = true := by
    unfold staleD; rw [dbR]
    show (decide ((1 : Int) < sinceT db2 1) || false) = true
    rw [dbs1]; rfl
  unfold mayD; rw [if_neg (by rw [h1]; simp), if_pos ⟨rfl, h2⟩]

end Go.Proofs.YtoiobhcgpajogabGreatDoor
