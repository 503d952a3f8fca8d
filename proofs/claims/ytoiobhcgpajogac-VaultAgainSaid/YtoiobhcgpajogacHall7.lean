/- The walk of hallBegun. -/
import Derived.Test.YtoiobhcgpajogacHall6
namespace Go.Proofs.Ytoiobhcgpajogac
open Go.RowKit

def hb0 : Ht := Ht.new
def hb1 : Ht := (doH hb0 ⟨1, 0, 1, 0, 0, 0, 0, ⟨#[]⟩⟩).2
def hb2 : Ht := (doH hb1 ⟨1, 1, 2, 0, 0, 0, 0, ⟨#[]⟩⟩).2
def hb3 : Ht := (doH hb2 ⟨3, 0, 0, 0, 1, 0, 0, ⟨#[120]⟩⟩).2
def hb4 : Ht := (doH hb3 ⟨2, 1, 0, 0, 1, 0, 0, ⟨#[]⟩⟩).2
def hb5 : Ht := (doH hb4 ⟨6, 0, 0, 0, 0, 0, 0, ⟨#[]⟩⟩).2
def hb6 : Ht := (doH hb5 ⟨3, 1, 0, 0, 2, 0, 0, ⟨#[121]⟩⟩).2
def hb7 : Ht := (doH hb6 ⟨6, 1, 0, 0, 0, 0, 0, ⟨#[]⟩⟩).2
theorem hbr1 : doH hb0 ⟨1, 0, 1, 0, 0, 0, 0, ⟨#[]⟩⟩ = (⟨0, 0, Val.zero, []⟩, hb1) := by kernel_rfl
theorem hbr2 : doH hb1 ⟨1, 1, 2, 0, 0, 0, 0, ⟨#[]⟩⟩ = (⟨0, 0, Val.zero, []⟩, hb2) := by kernel_rfl
theorem hbr3 : doH hb2 ⟨3, 0, 0, 0, 1, 0, 0, ⟨#[120]⟩⟩ = (⟨0, 0, Val.zero, []⟩, hb3) := by kernel_rfl
theorem hbr4 : doH hb3 ⟨2, 1, 0, 0, 1, 0, 0, ⟨#[]⟩⟩ = (⟨0, 0, Val.zero, []⟩, hb4) := by kernel_rfl
theorem hbr5 : doH hb4 ⟨6, 0, 0, 0, 0, 0, 0, ⟨#[]⟩⟩ = (⟨0, 1, Val.zero, []⟩, hb5) := by kernel_rfl
theorem hbr6 : doH hb5 ⟨3, 1, 0, 0, 2, 0, 0, ⟨#[121]⟩⟩ = (⟨0, 0, Val.zero, []⟩, hb6) := by kernel_rfl
theorem hbr7 : doH hb6 ⟨6, 1, 0, 0, 0, 0, 0, ⟨#[]⟩⟩ = (⟨11, 0, Val.zero, []⟩, hb7) := by kernel_rfl
theorem hbseat : hb7.seats 1 = none := by kernel_rfl
theorem hblast : hb7.v.tab.last = 1 := by kernel_rfl

set_option maxHeartbeats 4000000 in
set_option maxRecDepth 100000 in
theorem law_hallBegun (w : World) : Calls Try.prog 57 #[] w (TruePost w) := by
  have hz0 : Val.zero.there = false := rfl
  go_enter Try.func57, Try.ntmps57
  go_wp2_with fail
  refine (hall_New (fun _ => 0) 1 w).mono ?_
  rintro e w0 ⟨h, g0, rfl, hE, -, hH⟩
  have B0 := hid ((Base.start w).step hE (by omega))
  have H0 : Hid (HallAt w0 g0 1 h hb0) := hid hH
  clear hE hH
  go_wp2_with fail
  have P := hall_Do g0 1 h hb0 ⟨1, 0, 1, 0, 0, 0, 0, ⟨#[]⟩⟩ w0 (by decide) H0.out
  rw [hbr1] at P
  refine P.mono ?_
  clear P
  rintro e v1 ⟨a1, c1, f1, rfl, hH, hE, -, -⟩
  have hB := B0.out.step hE (by omega)
  go_upto_region 5 with (fail)
  have hA := Evo.alloc f1 0 v1 (.cells #[.int .i64 0, .int .i64 0, .bool false, .string Val.zero.bytes, .slice a1 0 c1] 103)
  have B1 := hid (hB.step hA (by omega))
  have H1 := hid (hH.frame hA (by omega))
  have L1 := hid (LocC.new f1 0 v1 103 [.int .i64 0, .int .i64 0, .bool false, .string Val.zero.bytes, .slice a1 0 c1])
  clear hA hB hH hE
  generalize v1.alloc (.cells #[.int .i64 0, .int .i64 0, .bool false, .string Val.zero.bytes, .slice a1 0 c1] 103) = w1 at *
  generalize extc f1 v1 0 = g1 at *
  generalize v1.heap.size = b1 at *
  clear B0 H0
  go_wp2_with fail
  have P := hall_Do g1 1 h hb1 ⟨1, 1, 2, 0, 0, 0, 0, ⟨#[]⟩⟩ w1 (by decide) H1.out
  rw [hbr2] at P
  refine P.mono ?_
  clear P
  rintro e v2 ⟨a2, c2, f2, rfl, hH, hE, -, -⟩
  have hB := B1.out.step hE (by omega)
  have hL1 := L1.out.frame hE (by omega)
  go_upto_region 6 with (fail)
  have hA := Evo.alloc f2 0 v2 (.cells #[.int .i64 0, .int .i64 0, .bool false, .string Val.zero.bytes, .slice a2 0 c2] 103)
  have B2 := hid (hB.step hA (by omega))
  have H2 := hid (hH.frame hA (by omega))
  have L2 := hid (LocC.new f2 0 v2 103 [.int .i64 0, .int .i64 0, .bool false, .string Val.zero.bytes, .slice a2 0 c2])
  have L1n := hid (hL1.frame hA (by omega))
  clear L1
  have L1 := hid L1n.out
  clear L1n hL1
  clear hA hB hH hE
  generalize v2.alloc (.cells #[.int .i64 0, .int .i64 0, .bool false, .string Val.zero.bytes, .slice a2 0 c2] 103) = w2 at *
  generalize extc f2 v2 0 = g2 at *
  generalize v2.heap.size = b2 at *
  clear B1 H1
  go_wp2_with fail
  have P := hall_Do g2 1 h hb2 ⟨3, 0, 0, 0, 1, 0, 0, ⟨#[120]⟩⟩ w2 (by decide) H2.out
  rw [hbr3] at P
  refine P.mono ?_
  clear P
  rintro e v3 ⟨a3, c3, f3, rfl, hH, hE, -, -⟩
  have hB := B2.out.step hE (by omega)
  have hL1 := L1.out.frame hE (by omega)
  have hL2 := L2.out.frame hE (by omega)
  have B3 := hid hB
  have H3 := hid hH
  clear L1
  have L1 := hid hL1
  clear hL1
  clear L2
  have L2 := hid hL2
  clear hL2
  clear hB hH hE
  generalize v3 = w3 at *
  generalize f3 = g3 at *
  clear B2 H2
  go_wp2_with fail
  have P := hall_Do g3 1 h hb3 ⟨2, 1, 0, 0, 1, 0, 0, ⟨#[]⟩⟩ w3 (by decide) H3.out
  rw [hbr4] at P
  refine P.mono ?_
  clear P
  rintro e v4 ⟨a4, c4, f4, rfl, hH, hE, -, -⟩
  have hB := B3.out.step hE (by omega)
  have hL1 := L1.out.frame hE (by omega)
  have hL2 := L2.out.frame hE (by omega)
  go_upto_region 8 with (fail)
  have hA := Evo.alloc f4 0 v4 (.cells #[.int .i64 0, .int .i64 0, .bool false, .string Val.zero.bytes, .slice a4 0 c4] 103)
  have B4 := hid (hB.step hA (by omega))
  have H4 := hid (hH.frame hA (by omega))
  have L4 := hid (LocC.new f4 0 v4 103 [.int .i64 0, .int .i64 0, .bool false, .string Val.zero.bytes, .slice a4 0 c4])
  have L1n := hid (hL1.frame hA (by omega))
  clear L1
  have L1 := hid L1n.out
  clear L1n hL1
  have L2n := hid (hL2.frame hA (by omega))
  clear L2
  have L2 := hid L2n.out
  clear L2n hL2
  clear hA hB hH hE
  generalize v4.alloc (.cells #[.int .i64 0, .int .i64 0, .bool false, .string Val.zero.bytes, .slice a4 0 c4] 103) = w4 at *
  generalize extc f4 v4 0 = g4 at *
  generalize v4.heap.size = b4 at *
  clear B3 H3
  go_wp2_with fail
  have P := hall_Do g4 1 h hb4 ⟨6, 0, 0, 0, 0, 0, 0, ⟨#[]⟩⟩ w4 (by decide) H4.out
  rw [hbr5] at P
  refine P.mono ?_
  clear P
  rintro e v5 ⟨a5, c5, f5, rfl, hH, hE, -, -⟩
  have hB := B4.out.step hE (by omega)
  have hL1 := L1.out.frame hE (by omega)
  have hL2 := L2.out.frame hE (by omega)
  have hL4 := L4.out.frame hE (by omega)
  go_upto_region 9 with (fail)
  have hA := Evo.alloc f5 0 v5 (.cells #[.int .i64 0, .int .i64 1, .bool false, .string Val.zero.bytes, .slice a5 0 c5] 103)
  have B5 := hid (hB.step hA (by omega))
  have H5 := hid (hH.frame hA (by omega))
  have L5 := hid (LocC.new f5 0 v5 103 [.int .i64 0, .int .i64 1, .bool false, .string Val.zero.bytes, .slice a5 0 c5])
  have L1n := hid (hL1.frame hA (by omega))
  clear L1
  have L1 := hid L1n.out
  clear L1n hL1
  have L2n := hid (hL2.frame hA (by omega))
  clear L2
  have L2 := hid L2n.out
  clear L2n hL2
  have L4n := hid (hL4.frame hA (by omega))
  clear L4
  have L4 := hid L4n.out
  clear L4n hL4
  clear hA hB hH hE
  generalize v5.alloc (.cells #[.int .i64 0, .int .i64 1, .bool false, .string Val.zero.bytes, .slice a5 0 c5] 103) = w5 at *
  generalize extc f5 v5 0 = g5 at *
  generalize v5.heap.size = b5 at *
  clear B4 H4
  go_wp2_with fail
  have P := hall_Do g5 1 h hb5 ⟨3, 1, 0, 0, 2, 0, 0, ⟨#[121]⟩⟩ w5 (by decide) H5.out
  rw [hbr6] at P
  refine P.mono ?_
  clear P
  rintro e v6 ⟨a6, c6, f6, rfl, hH, hE, -, -⟩
  have hB := B5.out.step hE (by omega)
  have hL1 := L1.out.frame hE (by omega)
  have hL2 := L2.out.frame hE (by omega)
  have hL4 := L4.out.frame hE (by omega)
  have hL5 := L5.out.frame hE (by omega)
  have B6 := hid hB
  have H6 := hid hH
  clear L1
  have L1 := hid hL1
  clear hL1
  clear L2
  have L2 := hid hL2
  clear hL2
  clear L4
  have L4 := hid hL4
  clear hL4
  clear L5
  have L5 := hid hL5
  clear hL5
  clear hB hH hE
  generalize v6 = w6 at *
  generalize f6 = g6 at *
  clear B5 H5
  go_wp2_with fail
  have P := hall_Do g6 1 h hb6 ⟨6, 1, 0, 0, 0, 0, 0, ⟨#[]⟩⟩ w6 (by decide) H6.out
  rw [hbr7] at P
  refine P.mono ?_
  clear P
  rintro e v7 ⟨a7, c7, f7, rfl, hH, hE, -, -⟩
  have hB := B6.out.step hE (by omega)
  have hL1 := L1.out.frame hE (by omega)
  have hL2 := L2.out.frame hE (by omega)
  have hL4 := L4.out.frame hE (by omega)
  have hL5 := L5.out.frame hE (by omega)
  go_upto_region 11 with (fail)
  have hA := Evo.alloc f7 0 v7 (.cells #[.int .i64 11, .int .i64 0, .bool false, .string Val.zero.bytes, .slice a7 0 c7] 103)
  have B7 := hid (hB.step hA (by omega))
  have H7 := hid (hH.frame hA (by omega))
  have L7 := hid (LocC.new f7 0 v7 103 [.int .i64 11, .int .i64 0, .bool false, .string Val.zero.bytes, .slice a7 0 c7])
  have L1n := hid (hL1.frame hA (by omega))
  clear L1
  have L1 := hid L1n.out
  clear L1n hL1
  have L2n := hid (hL2.frame hA (by omega))
  clear L2
  have L2 := hid L2n.out
  clear L2n hL2
  have L4n := hid (hL4.frame hA (by omega))
  clear L4
  have L4 := hid L4n.out
  clear L4n hL4
  have L5n := hid (hL5.frame hA (by omega))
  clear L5
  have L5 := hid L5n.out
  clear L5n hL5
  clear hA hB hH hE
  generalize v7.alloc (.cells #[.int .i64 11, .int .i64 0, .bool false, .string Val.zero.bytes, .slice a7 0 c7] 103) = w7 at *
  generalize extc f7 v7 0 = g7 at *
  generalize v7.heap.size = b7 at *
  clear B6 H6
  have q1 : w7.cell? ⟨b1, 0, none⟩ = some (.int .i64 0) := L1.out.1.cell 0
  have q2 : w7.cell? ⟨b2, 0, none⟩ = some (.int .i64 0) := L2.out.1.cell 0
  have q4 : w7.cell? ⟨b4, 0, none⟩ = some (.int .i64 0) := L4.out.1.cell 0
  have q4' : w7.cell? ⟨b4, 2, none⟩ = some (.bool false) := L4.out.1.cell 2
  have q5 : w7.cell? ⟨b5, 1, none⟩ = some (.int .i64 1) := L5.out.1.cell 1
  have q7 : w7.cell? ⟨b7, 0, none⟩ = some (.int .i64 11) := L7.out.1.cell 0
  clear L1 L2 L4 L5 L7
  obtain ⟨vp, ds, hC⟩ := H7.out
  obtain ⟨r0, t, b, hV⟩ := hC.top
  obtain ⟨r1, -, -, -⟩ := hV.cells
  have BU := hid (hall_Busy g7 1 h hb7 1 w7 H7.out)
  rw [show (isSeatB 1 && (hb7.seats (1 : Int).toNat).isSome) = false by rw [show (1 : Int).toNat = 1 from rfl, hbseat]; rfl] at BU
  have DE := hid (hall_Deed g7 1 h vp ds hb7 1 w7 hC)
  rw [show (if isSeatB 1 then seatP ds hb7.seats (1 : Int).toNat else Value.pointer none) = .pointer none by rw [show (1 : Int).toNat = 1 from rfl]; unfold seatP; rw [hbseat]; rfl] at DE
  have LA := hid (table_Last g7 (1 + 1 + 1) t hb7.v.tab w7 hV.2.2.1)
  rw [hblast] at LA
  have SE := hid (hall_Seat 4 w7)
  rw [show isSeatB 4 = true from rfl] at SE
  clear hC hV
  go_wp2_with fail
  refine BU.out.mono ?_
  rintro e w' ⟨rfl, rfl⟩
  go_wp2_with fail
  refine DE.out.mono ?_
  rintro e w' ⟨rfl, rfl⟩
  go_wp2_with fail
  refine LA.out.mono ?_
  rintro e w' ⟨rfl, rfl⟩
  go_wp2_with fail
  refine SE.out.mono ?_
  rintro e w' ⟨rfl, rfl⟩
  go_wp2
  go_ret
  exact ⟨rfl, B7.out.below⟩

end Go.Proofs.Ytoiobhcgpajogac
