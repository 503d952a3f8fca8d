/- The walk of logBegun. -/
import Derived.Test.YtoiobhcgpajogabLaw02a
import Derived.Test.YtoiobhcgpajogabLog1
namespace Go.Proofs.Ytoiobhcgpajogab
open Go.RowKit

def lbW1 : List Ent := [⟨1, tbX⟩]
def lbW2 : List Ent := [⟨2, Val.zero⟩]
theorem lbc1 : ckPs (-1) lbW1 = 0 := by
  rw [lbW1, ckPs, if_neg (by decide), if_neg (by decide), show ckV (Ent.v ⟨1, tbX⟩) = 0 from ckV_there (by decide), if_neg (by decide)]; rfl
theorem lbc2 : ckPs (-1) lbW2 = 0 := tbc2
theorem lbe1 : encL lbW1 = [5, 1, 1, 1, 120] := by decide
theorem lbe2 : encL lbW2 = [4, 1, 2, 255] := by decide
def lb1 : Lg := ⟨[lbW1], []⟩
def lb2 : Lg := ⟨[lbW1], [4, 1, 2]⟩
theorem lbp1 : putG Lg.new lbW1 = (0, lb1) := by
  unfold putG; rw [if_neg (by rw [lbc1]; decide), if_neg (by rw [lbe1]; decide)]; rfl
theorem lbb1 : lb1.bytes = [5, 1, 1, 1, 120] := by simp [Lg.bytes, lb1, encAll, lbe1]
theorem lbb2 : lb2.bytes = [5, 1, 1, 1, 120, 4, 1, 2] := by simp [Lg.bytes, lb2, encAll, lbe1]
theorem lbp2 : (putG lb1 lbW2).1 = 0 := by
  unfold putG; rw [if_neg (by rw [lbc2]; decide), if_neg (by rw [lbe2, lbb1]; decide)]
theorem lbt2 : tearG lb1 lbW2 3 = (0, lb2) := by
  unfold tearG; rw [if_neg (by rw [lbp2]; decide), if_neg (by rw [lbe2]; decide), lbe2]; rfl
theorem lbo1 : lb1.Ok := by have := (putG_ok Lg.new_ok rfl lbW1).1; rw [lbp1] at this; exact this
theorem lbo2 : lb2.Ok := by have := tearG_ok lbo1 rfl lbW2 3; rw [lbt2] at this; exact this
theorem lbm : mendG lb2 = lb1 := rfl
theorem lbtab : tabOf lb1.bytes = (writeAll Tab.new [lbW1], 5) := by
  rw [lbo1.tab]
  show (writeAll Tab.new [lbW1], (encAll [lbW1]).length) = _
  rw [show (encAll [lbW1]).length = 5 by simp [encAll, lbe1]]
theorem lblast : (writeAll Tab.new [lbW1]).last = 1 := lbo1.last

theorem LogAt.alloc {w : World} {g : Nat → Nat} {p b : Nat} {G : Lg} (h : LogAt w g p b G) (q : Nat) (o : Obj) : LogAt (w.alloc o) (extc g w q) p b G := h.frame (Evo.alloc g q w o) (by omega)

set_option maxHeartbeats 4000000 in
set_option maxRecDepth 100000 in
theorem law_logBegun (w : World) : Calls Try.prog 27 #[] w (TruePost w) := by
  go_enter Try.func27, Try.ntmps27
  go_wp2_with fail
  refine (log_New (fun _ => 0) 1 w).mono ?_
  rintro e w1 ⟨b, rfl, hb1, -, hL1⟩
  have B1 := hid ((Base.start w).step (Evo.of_below (lo := 0) (hi := 0) (fun _ => 0) 1 hb1) (by omega))
  have L1 := hid hL1
  generalize extc (fun _ => 0) w 1 = g1 at *
  clear hb1 hL1
  go_wp2_with fail
  (with_reducible refine (law_has _ _).mono ?_)
  rintro e w2 ⟨rfl, hb⟩
  have B2 := hid (B1.out.below' hb)
  have L2 := hid (L1.out.below hb)
  clear hb B1 L1
  go_wp2_with fail
  have B3 := hid (B2.out.alloc 0 (.cells (encEnts lbW1).toArray 42))
  have P := log_Put (extc g1 w2 0) 1 b Lg.new (some ⟨w2.heap.size, 0, none⟩) 1 lbW1 (w2.alloc (.cells (encEnts lbW1).toArray 42)) (by decide) (by intro x hx; simp [lbW1] at hx; subst hx; decide) Lg.new_ok rfl (L2.out.alloc 0 _) (SliceC.lit g1 w2 1 (1 + 9) 0 _ _ (by omega)).at
  rw [lbp1] at P
  refine P.mono ?_
  clear P
  rintro e w4 ⟨rfl, g4, hL4, hE4⟩
  have B4 := hid (B3.out.step hE4 (by omega))
  have L4 := hid hL4
  clear hL4 hE4 B2 L2 B3
  go_wp2_with fail
  have B5 := hid (B4.out.alloc 0 (.cells (encEnts lbW2).toArray 42))
  have P := log_Tear (extc g4 w4 0) 1 b lb1 (some ⟨w4.heap.size, 0, none⟩) 1 lbW2 3 (w4.alloc (.cells (encEnts lbW2).toArray 42)) (by decide) (by intro x hx; simp [lbW2] at hx; subst hx; decide) lbo1 rfl (L4.out.alloc 0 _) (SliceC.lit g4 w4 1 (1 + 9) 0 _ _ (by omega)).at
  rw [lbt2] at P
  refine P.mono ?_
  clear P
  rintro e w6 ⟨rfl, g6, hL6, hE6⟩
  have B6 := hid (B5.out.step hE6 (by omega))
  have L6 := hid hL6
  clear hL6 hE6 B4 L4 B5
  go_wp2_with fail
  refine (log_Len g6 1 b lb2 w6 L6.out).mono ?_
  rintro e w6' ⟨rfl, rfl⟩
  go_wp2_with fail
  have P := log_Bytes g6 1 b lb2 w6 L6.out (by rw [lbb2]; decide)
  refine P.mono ?_
  clear P
  rintro e w7 ⟨a7, c7, rfl, -, hb, -⟩
  rw [lbb2]
  have B7 := hid (B6.out.below' hb)
  have L7 := hid (L6.out.below hb)
  clear hb B6 L6
  go_wp2_with fail
  have P := log_Mend g6 1 b lb2 w7 lbo2 L7.out
  rw [lbm] at P
  refine P.mono ?_
  clear P
  rintro e w8 ⟨rfl, g8, hL8, hE8⟩
  have B8 := hid (B7.out.step hE8 (by omega))
  have L8 := hid hL8
  clear hL8 hE8 B7 L7
  go_wp2_with fail
  have P := log_Bytes g8 1 b lb1 w8 L8.out (by rw [lbb1]; decide)
  refine P.mono ?_
  clear P
  rintro e w9 ⟨a9, c9, rfl, hx9, hb, hn9⟩
  have B9 := hid (B8.out.below' hb)
  have ha9 : ∃ b9, a9 = some ⟨b9, 0, none⟩ ∧ b9 < w9.heap.size := by
    rcases hx9.2 with h | ⟨b9, o9, rfl, h⟩
    · rw [lbb1] at h; simp [Lib.byteCells] at h
    · have e0 : o9 = 0 := (hn9 _ rfl).2
      subst e0
      refine ⟨b9, rfl, ?_⟩
      exact World.block_lt_of_cell? w9 _ (h 0 (.int .u8 5) (by rw [lbb1]; rfl))
  obtain ⟨b9, rfl, hb9⟩ := ha9
  have P := log_Table b9 0 c9 lb1.bytes w9 (by rw [lbb1]; decide) hx9 hb9
  rw [lbtab] at P
  clear hb hx9 hn9 B8 L8
  go_wp2_with fail
  refine P.mono ?_
  clear P
  rintro e w10 ⟨t, g10, rfl, hb, -, hT⟩
  have B10 := hid (B9.out.below' hb)
  have T10 := hid hT
  clear hb hT B9
  go_wp2_with fail
  have P := table_Last g10 1 t _ w10 T10.out
  rw [lblast] at P
  refine P.mono ?_
  clear P
  rintro e w11 ⟨rfl, rfl⟩
  go_wp2
  go_ret
  exact ⟨rfl, B10.out.below⟩

end Go.Proofs.Ytoiobhcgpajogab
