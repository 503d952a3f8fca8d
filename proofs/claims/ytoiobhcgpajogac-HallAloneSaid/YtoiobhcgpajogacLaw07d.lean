/- The walk of HallAlone. -/
import Derived.Test.YtoiobhcgpajogacLaw07a
import Derived.Test.YtoiobhcgpajogacHallQ
import Derived.Test.YtoiobhcgpajogacReg
namespace Go.Proofs.Ytoiobhcgpajogac
open Go.RowKit

set_option maxHeartbeats 6000000 in
set_option maxRecDepth 100000 in
theorem walk_HallAlone (a : Option Addr) (cap : Nat) (l : List St) (w : World) (hl : l.length ≤ 9223372036854775807) (hA : StepsAt w a l) :
    Calls Try.prog 11 #[.slice a l.length cap] w (TruePost w) := by
  have HA := hid hA
  clear hA
  go_enter Try.func11, Try.ntmps11
  go_wp2_with fail
  (with_reducible refine (law_hallBegun w).mono ?_)
  rintro e w1 ⟨rfl, hb⟩
  have B1 := hid hb
  clear hb
  go_wp2_with fail
  (with_reducible refine (law_greatSteps a cap l w1 hl (HA.out.below B1.out)).mono ?_)
  rintro e w1' ⟨rfl, rfl⟩
  cases hg : greatS l with
  | true =>
    clear hg
    go_wp2
    go_ret
    exact ⟨rfl, B1.out⟩
  | false =>
  obtain ⟨h200, h100⟩ := greatS_false hg
  have H100 := hid h100
  have SA := hid (HA.out.below B1.out)
  clear hg h100 HA
  go_wp2_with fail
  refine (hall_New (fun _ => 0) 1 w1).mono ?_
  rintro e w2 ⟨h, g2, rfl, hE, -, hH⟩
  have B2 := hid ((Base.start w1).step hE (by omega))
  have H2 := hid hH
  clear hE hH
  try go_upto_region 7 with (fail)
  have hA3 := Evo.alloc g2 41 w2 (.cells #[.bool false, .string ⟨#[]⟩, .bool false, .string ⟨#[]⟩, .bool false, .string ⟨#[]⟩, .bool false, .string ⟨#[]⟩, .bool false, .string ⟨#[]⟩, .bool false, .string ⟨#[]⟩, .bool false, .string ⟨#[]⟩, .bool false, .string ⟨#[]⟩] 80)
  have L3 : Hid (LocC (w2.alloc (.cells #[.bool false, .string ⟨#[]⟩, .bool false, .string ⟨#[]⟩, .bool false, .string ⟨#[]⟩, .bool false, .string ⟨#[]⟩, .bool false, .string ⟨#[]⟩, .bool false, .string ⟨#[]⟩, .bool false, .string ⟨#[]⟩, .bool false, .string ⟨#[]⟩] 80)) (extc g2 w2 41) 41 w2.heap.size 80 (vals8 (sheetT Ht.new.v.tab (Ht.new.v.tab.last : Int)))) := hid (LocC.new g2 41 w2 80 (vals8 fun _ => Val.zero))
  have H3 := hid (H2.out.frame hA3 (by omega))
  have B3 := hid (B2.out.step hA3 (by omega))
  clear hA3 H2 B2
  generalize w2.alloc (.cells #[.bool false, .string ⟨#[]⟩, .bool false, .string ⟨#[]⟩, .bool false, .string ⟨#[]⟩, .bool false, .string ⟨#[]⟩, .bool false, .string ⟨#[]⟩, .bool false, .string ⟨#[]⟩, .bool false, .string ⟨#[]⟩, .bool false, .string ⟨#[]⟩] 80) = w3 at *
  generalize extc g2 w2 41 = g3 at *
  generalize w2.heap.size = bw at *
  go_wp2_with fail
  go_loopw [5] (fun i wr => ∃ (k : Nat) (g : Nat → Nat) (H : Ht), k ≤ l.length ∧ i = .int .i64 k ∧ Hid (HallAt wr g 1 h H) ∧ Hid (Base w1.heap.size w1 g wr) ∧ Hid (LocC wr g 41 bw 80 (vals8 (sheetT H.v.tab (H.v.tab.last : Int)))) ∧ Hid (∀ s, H.seats s = none)) (fun i _ => l.length - (intOf i).toNat)
  case atStart => exact ⟨0, g3, Ht.new, Nat.zero_le _, rfl, H3, B3, L3, hid (fun _ => rfl)⟩
  case round =>
    clear H3 B3 L3
    obtain ⟨k, g, H, hk, rfl, HH, HB, HL, HN⟩ := hrel
    by_cases hlt : k < l.length
    · obtain ⟨b1, o1, rfl, hbb, v1⟩ := SA.out.facts (by omega)
      obtain ⟨p0, p1, p2, p3, p4, p5, p6, p7, -⟩ := v1 k hlt
      have hx100 := H100.out l[k] (List.getElem_mem _)
      have P0 := (HB.out.cell (p := ⟨b1, _, none⟩) hbb).trans p0
      have P1 := (HB.out.cell (p := ⟨b1, _, none⟩) hbb).trans p1
      have P2 := (HB.out.cell (p := ⟨b1, _, none⟩) hbb).trans p2
      have P3 := (HB.out.cell (p := ⟨b1, _, none⟩) hbb).trans p3
      have P4 := (HB.out.cell (p := ⟨b1, _, none⟩) hbb).trans p4
      have P5 := (HB.out.cell (p := ⟨b1, _, none⟩) hbb).trans p5
      have P6 := (HB.out.cell (p := ⟨b1, _, none⟩) hbb).trans p6
      have P7 := (HB.out.cell (p := ⟨b1, _, none⟩) hbb).trans p7
      have hki : (k : Int) < (l.length : Int) := by omega
      have hk0 : (0 : Int) ≤ (k : Int) := by omega
      generalize l[k] = x at *
      have hxm : x.bytes.size ≤ maxLen := by unfold maxLen; omega
      clear v1 p0 p1 p2 p3 p4 p5 p6 p7
      have hmk0 : 0 ≤ (k : Int) % 2 := by omega
      have hmk2 : (k : Int) % 2 < 2 := by omega
      try go_upto_region 12 with (fail)
      have hA4 := Evo.alloc g 43 wr (.cells #[.int .i64 x.kind, .int .i64 0, .int .i64 x.mode, .int .i64 x.at_, .int .i64 x.key, .int .i64 x.to_, .int .i64 x.keep, .string x.bytes] 101)
      have L4 : Hid (LocC (wr.alloc (.cells #[.int .i64 x.kind, .int .i64 0, .int .i64 x.mode, .int .i64 x.at_, .int .i64 x.key, .int .i64 x.to_, .int .i64 x.keep, .string x.bytes] 101)) (extc g wr 43) 43 wr.heap.size 101 [.int .i64 x.kind, .int .i64 0, .int .i64 x.mode, .int .i64 x.at_, .int .i64 x.key, .int .i64 x.to_, .int .i64 x.keep, .string x.bytes]) := hid (LocC.new g 43 wr 101 [.int .i64 x.kind, .int .i64 0, .int .i64 x.mode, .int .i64 x.at_, .int .i64 x.key, .int .i64 x.to_, .int .i64 x.keep, .string x.bytes])
      have H4 := hid (HH.out.frame hA4 (by omega))
      have B4 := hid (HB.out.step hA4 (by omega))
      have W4 := hid (HL.out.frame hA4 (by omega))
      clear hA4 HH HB HL P0 P1 P2 P3 P4 P5 P6 P7
      generalize wr.alloc (.cells #[.int .i64 x.kind, .int .i64 0, .int .i64 x.mode, .int .i64 x.at_, .int .i64 x.key, .int .i64 x.to_, .int .i64 x.keep, .string x.bytes] 101) = w4 at *
      generalize extc g wr 43 = g4 at *
      generalize wr.heap.size = b6 at *
      obtain ⟨c0, c1, c2, c3, c4, c5, c6, c7⟩ : w4.cell? ⟨b6, 0, none⟩ = some (.int .i64 x.kind) ∧ w4.cell? ⟨b6, 1, none⟩ = some (.int .i64 0) ∧ w4.cell? ⟨b6, 2, none⟩ = some (.int .i64 x.mode) ∧ w4.cell? ⟨b6, 3, none⟩ = some (.int .i64 x.at_) ∧ w4.cell? ⟨b6, 4, none⟩ = some (.int .i64 x.key) ∧ w4.cell? ⟨b6, 5, none⟩ = some (.int .i64 x.to_) ∧ w4.cell? ⟨b6, 6, none⟩ = some (.int .i64 x.keep) ∧ w4.cell? ⟨b6, 7, none⟩ = some (.string x.bytes) :=
        ⟨L4.out.1.cell 0, L4.out.1.cell 1, L4.out.1.cell 2, L4.out.1.cell 3, L4.out.1.cell 4, L4.out.1.cell 5, L4.out.1.cell 6, L4.out.1.cell 7⟩
      by_cases h8 : x.kind = 8
      · have q3 : (x.kind != 3) = true := by simp; omega
        have q4 : (x.kind != 4) = true := by simp; omega
        have q8 : (x.kind != 8) = false := by simpa using h8
        have p8 : (x.kind == 8) = true := by simpa using h8
        have AC := hid (alone_clear (x := x) HN.out H4.out.ok.2 h8)
        clear h8
        go_wp2_with fail
        refine (hall_Do g4 1 h H ⟨x.kind, 0, x.mode, x.at_, x.key, x.to_, x.keep, x.bytes⟩ w4 hxm H4.out).mono ?_
        rw [show (⟨x.kind, 0, x.mode, x.at_, x.key, x.to_, x.keep, x.bytes⟩ : St) = sOf x from rfl]
        rintro e w5 ⟨a5, c5', g5, rfl, hH5, hE5, -, -⟩
        have H5 := hid hH5
        have B5 := hid (B4.out.step hE5 (by omega))
        have W5 := hid (W4.out.frame hE5 (by omega))
        clear hH5 hE5 c0 c1 c2 c3 c4 c5 c6 c7 H4 B4 W4
        generalize doH H (sOf x) = y at *
        go_wp2
        go_roundw
        case rel => exact ⟨k + 1, g5, y.2, by omega, by go_num, H5, B5, hid (by rw [AC.out.2.1, AC.out.2.2]; exact W5.out), hid (by rw [AC.out.1]; exact HN.out)⟩
        case measure => simp [intOf]; omega
      have p8 : (x.kind == 8) = false := by simpa using h8
      by_cases h3 : x.kind = 3
      · have q3 : (x.kind != 3) = false := by simpa using h3
        have p3 : (x.kind == 3) = true := by simpa using h3
        have HMM := hid (show (1 : Int) + (k : Int) % 2 = 1 ∨ (1 : Int) + (k : Int) % 2 = 2 by omega)
        have AB := hid (alone_begin H4.out.ok.2 (HN.out 0) HMM.out)
        have HOK := hid H4.out.ok
        have ONE := hid (oneW HOK.out.1 HOK.out.2 HMM.out x.key ⟨true, x.bytes⟩)
        have HSN := hid (show ∀ s, upd H.seats 0 none s = none from fun s => by unfold upd; split; rfl; exact HN.out s)
        have AP := hid (alone_put (H := ⟨H.v, upd H.seats 0 (some (Ded.new (1 + (k : Int) % 2) H.v.tab.last))⟩) (D := Ded.new (1 + (k : Int) % 2) H.v.tab.last) (by exact upd_same H.seats 0 _) (x := x) h3)
        simp only [upd_upd, Evt.of] at AP AB
        clear h8 h3
        go_wp2_with fail
        refine (hall_Do g4 1 h H ⟨1, 0, 1 + (k : Int) % 2, 0, 0, 0, 0, ⟨#[]⟩⟩ w4 (show (ByteArray.mk #[]).size ≤ maxLen by decide) H4.out).mono ?_
        rw [show (⟨1, 0, 1 + (k : Int) % 2, 0, 0, 0, 0, ⟨#[]⟩⟩ : St) = sBegin (1 + (k : Int) % 2) from rfl, AB.out]
        rintro e w5 ⟨a5, c5', g5, rfl, hH5, hE5, -, -⟩
        have hfd5 := fun w => run_field_code 0 0 Val.zero.there Val.zero.bytes (.slice a5 0 c5') w
        have H5 := hid hH5
        have B5 := hid (B4.out.step hE5 (by omega))
        have W5 := hid (W4.out.frame hE5 (by omega))
        have L5 := hid (L4.out.frame hE5 (by omega))
        clear hH5 hE5 c0 c1 c2 c3 c4 c5 c6 c7 H4 B4 W4 L4 AB
        generalize Ded.new (1 + (k : Int) % 2) H.v.tab.last = D0 at *
        obtain ⟨c0, c1, c2, c3, c4, c5, c6, c7⟩ : w5.cell? ⟨b6, 0, none⟩ = some (.int .i64 x.kind) ∧ w5.cell? ⟨b6, 1, none⟩ = some (.int .i64 0) ∧ w5.cell? ⟨b6, 2, none⟩ = some (.int .i64 x.mode) ∧ w5.cell? ⟨b6, 3, none⟩ = some (.int .i64 x.at_) ∧ w5.cell? ⟨b6, 4, none⟩ = some (.int .i64 x.key) ∧ w5.cell? ⟨b6, 5, none⟩ = some (.int .i64 x.to_) ∧ w5.cell? ⟨b6, 6, none⟩ = some (.int .i64 x.keep) ∧ w5.cell? ⟨b6, 7, none⟩ = some (.string x.bytes) := ⟨L5.out.1.cell 0, L5.out.1.cell 1, L5.out.1.cell 2, L5.out.1.cell 3, L5.out.1.cell 4, L5.out.1.cell 5, L5.out.1.cell 6, L5.out.1.cell 7⟩
        go_wp2_with fail
        refine (hall_Do g5 1 h _ ⟨x.kind, 0, x.mode, x.at_, x.key, x.to_, x.keep, x.bytes⟩ w5 hxm H5.out).mono ?_
        rw [show (⟨x.kind, 0, x.mode, x.at_, x.key, x.to_, x.keep, x.bytes⟩ : St) = sOf x from rfl, AP.out]
        rintro e w6 ⟨a6, c6', g6, rfl, hH6, hE6, -, -⟩
        have AC := hid (alone_commit (H := ⟨H.v, upd H.seats 0 (some (putD D0 x.key ⟨true, x.bytes⟩).2)⟩) (D := (putD D0 x.key ⟨true, x.bytes⟩).2) (by exact upd_same H.seats 0 _))
        simp only [upd_upd, Evt.of] at AC
        generalize putD D0 x.key ⟨true, x.bytes⟩ = z at *
        obtain ⟨zc, zD⟩ := z
        simp only at ONE AC
        have hfd6 := fun w => run_field_code zc 0 Val.zero.there Val.zero.bytes (.slice a6 0 c6') w
        have H6 := hid hH6
        have B6 := hid (B5.out.step hE6 (by omega))
        have W6 := hid (W5.out.frame hE6 (by omega))
        have L6 := hid (L5.out.frame hE6 (by omega))
        clear hH6 hE6 c0 c1 c2 c3 c4 c5 c6 c7 H5 B5 W5 L5 AP hfd5
        by_cases hcode : zc = 0
        · have qz : (zc == 0) = true := by simpa using hcode
          have HCODE := hid hcode
          clear hcode
          go_wp2_with fail
          refine (hall_Do g6 1 h _ ⟨6, 0, 0, 0, 0, 0, 0, ⟨#[]⟩⟩ w6 (show (ByteArray.mk #[]).size ≤ maxLen by decide) H6.out).mono ?_
          rw [show (⟨6, 0, 0, 0, 0, 0, 0, ⟨#[]⟩⟩ : St) = sCommit from rfl, AC.out]
          rintro e w7 ⟨a7, c7', g7, rfl, hH7, hE7, -, -⟩
          have H7 := hid hH7
          have B7 := hid (B6.out.step hE7 (by omega))
          have W7 := hid (W6.out.frame hE7 (by omega))
          have L7 := hid (L6.out.frame hE7 (by omega))
          clear hH7 hE7 H6 B6 W6 L6 AC hfd6
          generalize commitV H.v zD = y at *
          obtain ⟨⟨yn, yc⟩, V7⟩ := y
          go_upto_region 19 with (fail)
          have hA8 := Evo.alloc g7 44 w7 (.cells #[.int .i64 yc, .int .i64 yn, .bool Val.zero.there, .string Val.zero.bytes, .slice a7 0 c7'] 103)
          have E8 : Hid (LocC (w7.alloc (.cells #[.int .i64 yc, .int .i64 yn, .bool Val.zero.there, .string Val.zero.bytes, .slice a7 0 c7'] 103)) (extc g7 w7 44) 44 w7.heap.size 103 [.int .i64 yc, .int .i64 yn, .bool Val.zero.there, .string Val.zero.bytes, .slice a7 0 c7']) := hid (LocC.new g7 44 w7 103 [.int .i64 yc, .int .i64 yn, .bool Val.zero.there, .string Val.zero.bytes, .slice a7 0 c7'])
          have H8 := hid (H7.out.frame hA8 (by omega))
          have B8 := hid (B7.out.step hA8 (by omega))
          have W8 := hid (W7.out.frame hA8 (by omega))
          have L8 := hid (L7.out.frame hA8 (by omega))
          clear hA8 H7 B7 W7 L7
          generalize w7.alloc (.cells #[.int .i64 yc, .int .i64 yn, .bool Val.zero.there, .string Val.zero.bytes, .slice a7 0 c7'] 103) = w8 at *
          generalize extc g7 w7 44 = g8 at *
          generalize w7.heap.size = b8 at *
          have e0 : w8.cell? ⟨b8, 0, none⟩ = some (.int .i64 yc) := E8.out.1.cell 0
          have e1 : w8.cell? ⟨b8, 1, none⟩ = some (.int .i64 yn) := E8.out.1.cell 1
          obtain ⟨nk, hnk, hkey, hres⟩ := ONE.out.yes HCODE.out
          have HKEY := hid hkey
          clear hkey ONE
          rcases hres with h9 | ⟨hz1, hz2, hz3⟩
          · have hq9 : (yc == 9) = true := by simpa using h9
            clear h9 H8 W8 L8 E8
            go_wp2
            go_ret
            exact ⟨rfl, B1.out.trans (B8.out.below.mono B1.out.size)⟩
          · obtain ⟨rfl, rfl⟩ := Prod.mk.inj hz1
            have HZ2 := hid hz2
            have HZ3 := hid hz3
            have hpos : (0 : Int) < (H.v.tab.last : Int) + 1 := by omega
            clear hz1 hz2 hz3
            generalize sheetT H.v.tab (H.v.tab.last : Int) = f at *
            have hlt6 := L8.out.1.lt
            have hltw := W8.out.1.lt
            have hne : b6 ≠ bw := fun e => by have e1 := L8.out.2; have e2 := W8.out.2; rw [e, e2] at e1; omega
            obtain ⟨c0, c1, c2, c3, c4, c5, c6, c7⟩ : w8.cell? ⟨b6, 0, none⟩ = some (.int .i64 x.kind) ∧ w8.cell? ⟨b6, 1, none⟩ = some (.int .i64 0) ∧ w8.cell? ⟨b6, 2, none⟩ = some (.int .i64 x.mode) ∧ w8.cell? ⟨b6, 3, none⟩ = some (.int .i64 x.at_) ∧ w8.cell? ⟨b6, 4, none⟩ = some (.int .i64 x.key) ∧ w8.cell? ⟨b6, 5, none⟩ = some (.int .i64 x.to_) ∧ w8.cell? ⟨b6, 6, none⟩ = some (.int .i64 x.keep) ∧ w8.cell? ⟨b6, 7, none⟩ = some (.string x.bytes) := ⟨L8.out.1.cell 0, L8.out.1.cell 1, L8.out.1.cell 2, L8.out.1.cell 3, L8.out.1.cell 4, L8.out.1.cell 5, L8.out.1.cell 6, L8.out.1.cell 7⟩
            rw [HKEY.out] at c4
            have IK := hid (ref_IsKey_in (nk : Int) w8 (by omega))
            have hk0' : (0 : Int) ≤ (nk : Int) := by omega
            have hk8' : (nk : Int) < 8 := by omega
            obtain ⟨v0, v1⟩ := vals8_get f nk hnk
            have d0 := (W8.out.1.cell (nk * 2)).trans v0
            have d1 := (W8.out.1.cell (nk * 2 + 1)).trans v1
            have fr0 := W8.out.1.free (nk * 2)
            have fr1 := W8.out.1.free (nk * 2 + 1)
            clear v0 v1
            go_wp2_with fail
            refine IK.out.mono ?_
            rintro e w' ⟨rfl, rfl⟩
            go_upto_region 27 with (fail)
            have E9 : Evo 41 (41 + 1) g8 g8 w8 ((w8.setCell ⟨bw, nk * 2, none⟩ (.bool false)).setCell ⟨bw, nk * 2 + 1, none⟩ (.string ⟨#[]⟩)) := (evo_store _ W8.out.2).trans (evo_store _ W8.out.2)
            have W9 : Hid (LocC ((w8.setCell ⟨bw, nk * 2, none⟩ (.bool false)).setCell ⟨bw, nk * 2 + 1, none⟩ (.string ⟨#[]⟩)) g8 41 bw 80 (vals8 (upd f nk Val.zero))) := hid ⟨W8.out.1.set2 hnk Val.zero, W8.out.2⟩
            have H9 := hid (H8.out.frame E9 (by omega))
            have B9 := hid (B8.out.step E9 (by omega))
            have L9 := hid (L8.out.frame E9 (by omega))
            generalize (w8.setCell ⟨bw, nk * 2, none⟩ (.bool false)).setCell ⟨bw, nk * 2 + 1, none⟩ (.string ⟨#[]⟩) = w9 at *
            clear E9 W8 H8 B8 L8 c0 c1 c2 c3 c4 c5 c6 c7 d0 d1 fr0 fr1 e0 e1 E8 IK hlt6 hltw hpos
            obtain ⟨k0, k4, k7⟩ : w9.cell? ⟨b6, 0, none⟩ = some (.int .i64 x.kind) ∧ w9.cell? ⟨b6, 4, none⟩ = some (.int .i64 nk) ∧ w9.cell? ⟨b6, 7, none⟩ = some (.string x.bytes) := ⟨L9.out.1.cell 0, (L9.out.1.cell 4).trans (by rw [← HKEY.out]; rfl), L9.out.1.cell 7⟩
            have HH9 := hid H9.out
            have H9d := hid (HH9.out.below (Below.refl _ _).drew)
            have B9d := hid B9.out.drew
            have W9d := hid (show LocC w9.drew g8 41 bw 80 (vals8 (upd f nk Val.zero)) from W9.out)
            have L9d := hid (show LocC w9.drew g8 43 b6 101 [.int .i64 x.kind, .int .i64 0, .int .i64 x.mode, .int .i64 x.at_, .int .i64 x.key, .int .i64 x.to_, .int .i64 x.keep, .string x.bytes] from L9.out)
            have hS0 : w9.drew.cell? ⟨b6, 4, none⟩ = some (.int .i64 nk) ∧ w9.drew.cell? ⟨b6, 7, none⟩ = some (.string x.bytes) := ⟨k4, k7⟩
            clear HH9 H9 B9 W9 L9 k4 k7
            go_wp2_with fail
            clear k0
            -- REGION 28
            refine wp_region_noPanic ?_
            refine wp_region_held_drew (S := (fun W' : World => W'.cell? ⟨b6, 4, none⟩ = some (.int .i64 nk) ∧ W'.cell? ⟨b6, 7, none⟩ = some (.string x.bytes))) (by kernel_rfl) ?_ (fun hH0 => ?_)
            · (try dsimp only); (first | assumption | exact hS0)
            refine wpAnyH_take (i := 0) (v := ?_) (by simp only [List.getElem?_toArray, List.getElem?_cons_zero]; rfl) (by kernel_rfl) (by kernel_rfl) (by kernel_rfl) (fun _ _ _ h => h) (Or.inl ⟨by rfl, ?_⟩) (by assumption) ?_
            rotate_left
            · intro w hSw; (try dsimp only at hSw); go_simp; (try with_reducible rfl)
            try simp only [Act.put, List.setIfInBounds_toArray, List.set_cons_zero, List.set_cons_succ]
            refine wpAnyH_take (i := 1) (v := ?_) (by simp only [List.getElem?_toArray, List.getElem?_cons_zero, List.getElem?_cons_succ]; rfl) (by kernel_rfl) (by kernel_rfl) (by kernel_rfl) (fun _ _ _ h => h) (Or.inl ⟨by rfl, ?_⟩) (by assumption) ?_
            rotate_left
            · intro w hSw; (try dsimp only at hSw); go_simp; (try with_reducible rfl)
            try simp only [Act.put, List.setIfInBounds_toArray, List.set_cons_zero, List.set_cons_succ]
            refine wpAnyH_take (i := 2) (v := ?_) (by simp only [List.getElem?_toArray, List.getElem?_cons_zero, List.getElem?_cons_succ]; rfl) (by kernel_rfl) (by kernel_rfl) (by kernel_rfl) (fun _ _ _ h => h) (Or.inl ⟨by rfl, ?_⟩) (by assumption) ?_
            rotate_left
            · intro w hSw; (try dsimp only at hSw); go_simp; (try with_reducible rfl)
            try simp only [Act.put, List.setIfInBounds_toArray, List.set_cons_zero, List.set_cons_succ]
            refine wpAnyH_take (i := 3) (v := ?_) (by simp only [List.getElem?_toArray, List.getElem?_cons_zero, List.getElem?_cons_succ]; rfl) (by kernel_rfl) (by kernel_rfl) (by kernel_rfl) (fun _ _ _ h => h) (Or.inl ⟨by rfl, ?_⟩) (by assumption) ?_
            rotate_left
            · intro w hSw; (try dsimp only at hSw); go_simp; (try with_reducible rfl)
            try simp only [Act.put, List.setIfInBounds_toArray, List.set_cons_zero, List.set_cons_succ]
            refine wpAnyH_ready (rs := [4]) (by kernel_rfl) (by simp) ?_
            refine AllReadyH.cons (by simp only [List.getElem?_toArray, List.getElem?_cons_zero, List.getElem?_cons_succ]; rfl) (fun K hK => ?_) AllReadyH.nil
            go_simp
            go_at_call 56
            (with_reducible refine (law_has x.bytes w9.drew).mono ?_)
            rintro e w10 ⟨rfl, hb⟩
            have W10 := hid (W9d.out.below hb)
            have H10 := hid (H9d.out.below hb)
            have B10 := hid (B9d.out.below' hb)
            have L10 := hid (L9d.out.below hb)
            have hS' : w10.cell? ⟨b6, 4, none⟩ = some (.int .i64 nk) ∧ w10.cell? ⟨b6, 7, none⟩ = some (.string x.bytes) := ⟨(L10.out.1.cell 4).trans (by rw [← HKEY.out]; rfl), L10.out.1.cell 7⟩
            obtain ⟨v0, v1⟩ := vals8_get (upd f nk Val.zero) nk hnk
            have d0 := (W10.out.1.cell (nk * 2)).trans v0
            have d1 := (W10.out.1.cell (nk * 2 + 1)).trans v1
            have fr0 := W10.out.1.free (nk * 2)
            have fr1 := W10.out.1.free (nk * 2 + 1)
            have hltw := W10.out.1.lt
            clear v0 v1 hb hS0
            try go_wp2_with fail
            refine hK.out _ _ ?_ (fun hH1 => ?_)
            · (try dsimp only); (first | assumption | exact hS0)
            clear hK K hH0
            try simp only [Act.put, List.setIfInBounds_toArray, List.set_cons_zero, List.set_cons_succ]
            refine wpAnyH_take (i := 5) (v := ?_) (by simp only [List.getElem?_toArray, List.getElem?_cons_zero, List.getElem?_cons_succ]; rfl) (by kernel_rfl) (by kernel_rfl) (by kernel_rfl) (fun _ _ _ h => h) (Or.inl ⟨by rfl, ?_⟩) (by assumption) ?_
            rotate_left
            · intro w hSw; (try dsimp only at hSw); go_simp; (try with_reducible rfl)
            try simp only [Act.put, List.setIfInBounds_toArray, List.set_cons_zero, List.set_cons_succ]
            refine wpAnyH_ready (rs := [6]) (by kernel_rfl) (by simp) ?_
            refine AllReadyH.cons (by simp only [List.getElem?_toArray, List.getElem?_cons_zero, List.getElem?_cons_succ]; rfl) (fun K hK => ?_) AllReadyH.nil
            go_simp
            have E11 : Evo 41 (41 + 1) g8 g8 w10 ((w10.setCell ⟨bw, nk * 2, none⟩ (.bool true)).setCell ⟨bw, nk * 2 + 1, none⟩ (.string x.bytes)) := (evo_store _ W10.out.2).trans (evo_store _ W10.out.2)
            have W11 : Hid (LocC ((w10.setCell ⟨bw, nk * 2, none⟩ (.bool true)).setCell ⟨bw, nk * 2 + 1, none⟩ (.string x.bytes)) g8 41 bw 80 (vals8 (upd f nk ⟨true, x.bytes⟩))) := hid ⟨by rw [← upd_upd f nk Val.zero]; exact W10.out.1.set2 hnk ⟨true, x.bytes⟩, W10.out.2⟩
            have H11 := hid (H10.out.frame E11 (by omega))
            have B11 := hid (B10.out.step E11 (by omega))
            have L11 := hid (L10.out.frame E11 (by omega))
            generalize (w10.setCell ⟨bw, nk * 2, none⟩ (.bool true)).setCell ⟨bw, nk * 2 + 1, none⟩ (.string x.bytes) = w11 at *
            have hS' : w11.cell? ⟨b6, 4, none⟩ = some (.int .i64 nk) ∧ w11.cell? ⟨b6, 7, none⟩ = some (.string x.bytes) := ⟨(L11.out.1.cell 4).trans (by rw [← HKEY.out]; rfl), L11.out.1.cell 7⟩
            clear E11 W10 H10 B10 L10 d0 d1 fr0 fr1
            try go_wp2_with fail
            refine hK.out _ _ ?_ (fun hH2 => ?_)
            · (try dsimp only); (first | assumption | exact hS0)
            clear hK K hH1
            try simp only [Act.put, List.setIfInBounds_toArray, List.set_cons_zero, List.set_cons_succ]
            refine wpAnyH_done (by kernel_rfl) ?_ _
            refine NoPanic.normal ?_
            rotate_left
            -- END 28
            generalize w9 = w9old at *
            have HH9 := hid H11.out
            have B9 := hid B11.out
            have L9 := hid W11.out
            clear H11 B11 W11 L11
            generalize w11 = w9 at *
            go_wp2_with fail
            generalize hf9 : upd f nk ⟨true, x.bytes⟩ = f9 at *
            have HF0 := hid hf9
            clear hf9
            obtain ⟨H9, hh9⟩ : ∃ H9 : Ht, H9 = ⟨V7, upd H.seats 0 none⟩ := ⟨_, rfl⟩
            have HN9 : Hid (∀ s, H9.seats s = none) := hid (by rw [hh9]; exact HSN.out)
            have HF9 : Hid (sheetT H9.v.tab (H9.v.tab.last : Int) = f9) := hid (by rw [hh9, ← HZ3.out]; show sheetT V7.tab ((V7.tab.last : Nat) : Int) = _; rw [HZ2.out]; rfl)
            have A9 : Hid (HallAt w9 g8 1 h H9) := hid (by rw [hh9]; exact HH9.out)
            clear hh9 HH9 HSN HZ2 HZ3 HF0
            generalize g8 = g9 at *
            have hok9 := A9.out.ok
            obtain ⟨vp9, ds9, hC9⟩ := A9.out
            obtain ⟨r0, t9, tb9, hV9⟩ := hC9.top
            have r1 := hV9.cells.1
            have LA := hid (fun W (hb : Below w9.heap.size w9 W) => table_Last g9 (1 + 1 + 1) t9 H9.v.tab W (hV9.2.2.1.below hb))
            have SH := hid (fun W (hb : Below w9.heap.size w9 W) => (by
              have P := law_sheet g9 (1 + 1 + 1) t9 H9.v.tab W (H9.v.tab.last : Int) (hV9.2.2.1.below hb)
              rw [codesT_top hok9.2, HF9.out] at P
              exact P : Calls Try.prog 48 #[.pointer (some ⟨t9, 0, none⟩), .int .i64 (H9.v.tab.last : Int)] W (SheetPost f9 true W)))
            have KS := hid (fun W (hb : Below w9.heap.size w9 W) => (⟨hb, (hC9.below hb).top.1, (hV9.below hb).cells.1⟩ : Below w9.heap.size w9 W ∧ W.cell? ⟨h, 0, none⟩ = some (.pointer (some ⟨vp9, 0, none⟩)) ∧ W.cell? ⟨vp9, 0, none⟩ = some (.pointer (some ⟨t9, 0, none⟩))))
            clear hC9 hV9 hok9
            refine' join2 (fun (b : Nat) W => Below w9.heap.size w9 W ∧ Loc W b 80 (vals8 f9)) _ (fun HJ => ?_) (fun bn wn hS => ?_)
            rotate_left
            · skip
              -- REGION 29b3
              refine wp_region_noPanic ?_
              refine wp_region_held_drew (S := (fun W' : World => Below w9.heap.size w9 W' ∧ W'.cell? ⟨h, 0, none⟩ = some (.pointer (some ⟨vp9, 0, none⟩)) ∧ W'.cell? ⟨vp9, 0, none⟩ = some (.pointer (some ⟨t9, 0, none⟩)))) (by kernel_rfl) ?_ (fun hH0 => ?_)
              · (try dsimp only); (first | assumption | exact KS.out _ (Below.refl w9.heap.size w9).drew)
              refine wpAnyH_take (i := 0) (v := ?_) (by simp only [List.getElem?_toArray, List.getElem?_cons_zero]; rfl) (by kernel_rfl) (by kernel_rfl) (by kernel_rfl) (fun _ _ _ h => h) (Or.inl ⟨by rfl, ?_⟩) (by assumption) ?_
              rotate_left
              · intro w hSw; (try dsimp only at hSw); go_simp; (try with_reducible rfl)
              try simp only [Act.put, List.setIfInBounds_toArray, List.set_cons_zero, List.set_cons_succ]
              refine wpAnyH_take (i := 1) (v := ?_) (by simp only [List.getElem?_toArray, List.getElem?_cons_zero, List.getElem?_cons_succ]; rfl) (by kernel_rfl) (by kernel_rfl) (by kernel_rfl) (fun _ _ _ h => h) (Or.inl ⟨by rfl, ?_⟩) (by assumption) ?_
              rotate_left
              · intro w hSw; (try dsimp only at hSw); go_simp; (try with_reducible rfl)
              try simp only [Act.put, List.setIfInBounds_toArray, List.set_cons_zero, List.set_cons_succ]
              refine wpAnyH_take (i := 2) (v := ?_) (by simp only [List.getElem?_toArray, List.getElem?_cons_zero, List.getElem?_cons_succ]; rfl) (by kernel_rfl) (by kernel_rfl) (by kernel_rfl) (fun _ _ _ h => h) (Or.inl ⟨by rfl, ?_⟩) (by assumption) ?_
              rotate_left
              · intro w hSw; (try dsimp only at hSw); go_simp; (try with_reducible rfl)
              try simp only [Act.put, List.setIfInBounds_toArray, List.set_cons_zero, List.set_cons_succ]
              refine wpAnyH_take (i := 3) (v := ?_) (by simp only [List.getElem?_toArray, List.getElem?_cons_zero, List.getElem?_cons_succ]; rfl) (by kernel_rfl) (by kernel_rfl) (by kernel_rfl) (fun _ _ _ h => h) (Or.inl ⟨by rfl, ?_⟩) (by assumption) ?_
              rotate_left
              · intro w hSw; (try dsimp only at hSw); go_simp; (try with_reducible rfl)
              try simp only [Act.put, List.setIfInBounds_toArray, List.set_cons_zero, List.set_cons_succ]
              refine wpAnyH_take (i := 4) (v := ?_) (by simp only [List.getElem?_toArray, List.getElem?_cons_zero, List.getElem?_cons_succ]; rfl) (by kernel_rfl) (by kernel_rfl) (by kernel_rfl) (fun _ _ _ h => h) (Or.inl ⟨by rfl, ?_⟩) (by assumption) ?_
              rotate_left
              · intro w hSw; (try dsimp only at hSw); go_simp; (try with_reducible rfl)
              try simp only [Act.put, List.setIfInBounds_toArray, List.set_cons_zero, List.set_cons_succ]
              refine wpAnyH_take (i := 5) (v := ?_) (by simp only [List.getElem?_toArray, List.getElem?_cons_zero, List.getElem?_cons_succ]; rfl) (by kernel_rfl) (by kernel_rfl) (by kernel_rfl) (fun _ _ _ h => h) (Or.inl ⟨by rfl, ?_⟩) (by assumption) ?_
              rotate_left
              · intro w hSw; (try dsimp only at hSw); go_simp; (try with_reducible rfl)
              try simp only [Act.put, List.setIfInBounds_toArray, List.set_cons_zero, List.set_cons_succ]
              refine wpAnyH_take (i := 6) (v := ?_) (by simp only [List.getElem?_toArray, List.getElem?_cons_zero, List.getElem?_cons_succ]; rfl) (by kernel_rfl) (by kernel_rfl) (by kernel_rfl) (fun _ _ _ h => h) (Or.inl ⟨by rfl, ?_⟩) (by assumption) ?_
              rotate_left
              · intro w hSw; (try dsimp only at hSw); go_simp; (try with_reducible rfl)
              try simp only [Act.put, List.setIfInBounds_toArray, List.set_cons_zero, List.set_cons_succ]
              refine wpAnyH_take (i := 7) (v := ?_) (by simp only [List.getElem?_toArray, List.getElem?_cons_zero, List.getElem?_cons_succ]; rfl) (by kernel_rfl) (by kernel_rfl) (by kernel_rfl) (fun _ _ _ h => h) (Or.inl ⟨by rfl, ?_⟩) (by assumption) ?_
              rotate_left
              · intro w hSw; (try dsimp only at hSw); go_simp; (try with_reducible rfl)
              try simp only [Act.put, List.setIfInBounds_toArray, List.set_cons_zero, List.set_cons_succ]
              refine wpAnyH_take (i := 8) (v := ?_) (by simp only [List.getElem?_toArray, List.getElem?_cons_zero, List.getElem?_cons_succ]; rfl) (by kernel_rfl) (by kernel_rfl) (by kernel_rfl) (fun _ _ _ h => h) (Or.inl ⟨by rfl, ?_⟩) (by assumption) ?_
              rotate_left
              · intro w hSw; (try dsimp only at hSw); go_simp; (try with_reducible rfl)
              try simp only [Act.put, List.setIfInBounds_toArray, List.set_cons_zero, List.set_cons_succ]
              refine wpAnyH_take (i := 9) (v := ?_) (by simp only [List.getElem?_toArray, List.getElem?_cons_zero, List.getElem?_cons_succ]; rfl) (by kernel_rfl) (by kernel_rfl) (by kernel_rfl) (fun _ _ _ h => h) (Or.inl ⟨by rfl, ?_⟩) (by assumption) ?_
              rotate_left
              · intro w hSw; (try dsimp only at hSw); go_simp; (try with_reducible rfl)
              try simp only [Act.put, List.setIfInBounds_toArray, List.set_cons_zero, List.set_cons_succ]
              refine wpAnyH_take (i := 10) (v := ?_) (by simp only [List.getElem?_toArray, List.getElem?_cons_zero, List.getElem?_cons_succ]; rfl) (by kernel_rfl) (by kernel_rfl) (by kernel_rfl) (fun _ _ _ h => h) (Or.inl ⟨by rfl, ?_⟩) (by assumption) ?_
              rotate_left
              · intro w hSw; (try dsimp only at hSw); go_simp; (try with_reducible rfl)
              try simp only [Act.put, List.setIfInBounds_toArray, List.set_cons_zero, List.set_cons_succ]
              refine wpAnyH_take (i := 11) (v := ?_) (by simp only [List.getElem?_toArray, List.getElem?_cons_zero, List.getElem?_cons_succ]; rfl) (by kernel_rfl) (by kernel_rfl) (by kernel_rfl) (fun _ _ _ h => h) (Or.inl ⟨by rfl, ?_⟩) (by assumption) ?_
              rotate_left
              · intro w hSw; (try dsimp only at hSw); go_simp; (try with_reducible rfl)
              try simp only [Act.put, List.setIfInBounds_toArray, List.set_cons_zero, List.set_cons_succ]
              refine wpAnyH_take (i := 12) (v := ?_) (by simp only [List.getElem?_toArray, List.getElem?_cons_zero, List.getElem?_cons_succ]; rfl) (by kernel_rfl) (by kernel_rfl) (by kernel_rfl) (fun _ _ _ h => h) (Or.inl ⟨by rfl, ?_⟩) (by assumption) ?_
              rotate_left
              · intro w hSw; (try dsimp only at hSw); go_simp; (try with_reducible rfl)
              try simp only [Act.put, List.setIfInBounds_toArray, List.set_cons_zero, List.set_cons_succ]
              refine wpAnyH_take (i := 13) (v := ?_) (by simp only [List.getElem?_toArray, List.getElem?_cons_zero, List.getElem?_cons_succ]; rfl) (by kernel_rfl) (by kernel_rfl) (by kernel_rfl) (fun _ _ _ h => h) (Or.inl ⟨by rfl, ?_⟩) (by assumption) ?_
              rotate_left
              · intro w hSw; (try dsimp only at hSw); go_simp; (try with_reducible rfl)
              try simp only [Act.put, List.setIfInBounds_toArray, List.set_cons_zero, List.set_cons_succ]
              refine wpAnyH_ready (rs := [14, 19]) (by kernel_rfl) (by simp) ?_
              refine AllReadyH.cons (by simp only [List.getElem?_toArray, List.getElem?_cons_zero, List.getElem?_cons_succ]; rfl) (fun K hK => ?_) ?_
              · skip
                go_simp
                go_at_call 45
                have hS := (‹Below _ w9 _ ∧ _›).1
                (with_reducible refine (LA.out _ hS).mono ?_)
                rintro e w' ⟨rfl, rfl⟩
                clear hS
                try go_wp2_with fail
                refine hK.out _ _ ?_ (fun hH1 => ?_)
                · (try dsimp only); (first | assumption | exact KS.out _ (Below.refl w9.heap.size w9).drew)
                clear hK K hH0
                try simp only [Act.put, List.setIfInBounds_toArray, List.set_cons_zero, List.set_cons_succ]
                refine wpAnyH_ready (rs := [15, 19]) (by kernel_rfl) (by simp) ?_
                refine AllReadyH.cons (by simp only [List.getElem?_toArray, List.getElem?_cons_zero, List.getElem?_cons_succ]; rfl) (fun K hK => ?_) ?_
                · skip
                  go_simp
                  go_at_call 48
                  have hS := (‹Below _ w9 _ ∧ _›).1
                  (with_reducible refine (SH.out _ hS).mono ?_)
                  rintro e w5 ⟨rfl, hb5⟩
                  have hS' := KS.out _ (hS.trans (hb5.mono (by first | exact hS.size | (have h1 := hS.size; have h2 := HB6.out; omega))))
                  try (have hLZ := LZ.out.keep hb5; clear LZ; have LZ := hid hLZ; clear hLZ)
                  clear hb5 hS
                  try go_wp2_with fail
                  refine hK.out _ _ ?_ (fun hH2 => ?_)
                  · (try dsimp only); (first | assumption | exact KS.out _ (Below.refl w9.heap.size w9).drew)
                  clear hK K hH1
                  try simp only [Act.put, List.setIfInBounds_toArray, List.set_cons_zero, List.set_cons_succ]
                  refine wpAnyH_take (i := 16) (v := ?_) (by simp only [List.getElem?_toArray, List.getElem?_cons_zero, List.getElem?_cons_succ]; rfl) (by kernel_rfl) (by kernel_rfl) (by kernel_rfl) (fun _ _ _ h => h) (Or.inl ⟨by rfl, ?_⟩) (by assumption) ?_
                  rotate_left
                  · intro w hSw; (try dsimp only at hSw); go_simp; (try with_reducible rfl)
                  try simp only [Act.put, List.setIfInBounds_toArray, List.set_cons_zero, List.set_cons_succ]
                  refine wpAnyH_take (i := 17) (v := ?_) (by simp only [List.getElem?_toArray, List.getElem?_cons_zero, List.getElem?_cons_succ]; rfl) (by kernel_rfl) (by kernel_rfl) (by kernel_rfl) (fun _ _ _ h => h) (Or.inl ⟨by rfl, ?_⟩) (by assumption) ?_
                  rotate_left
                  · intro w hSw; (try dsimp only at hSw); go_simp; (try with_reducible rfl)
                  try simp only [Act.put, List.setIfInBounds_toArray, List.set_cons_zero, List.set_cons_succ]
                  refine wpAnyH_take (i := 18) (v := ?_) (by simp only [List.getElem?_toArray, List.getElem?_cons_zero, List.getElem?_cons_succ]; rfl) (by kernel_rfl) (by kernel_rfl) (by kernel_rfl) (fun _ _ _ h => h) (Or.inl ⟨by rfl, ?_⟩) (by assumption) ?_
                  rotate_left
                  · intro w hSw; (try dsimp only at hSw); go_simp; (try with_reducible rfl)
                  try simp only [Act.put, List.setIfInBounds_toArray, List.set_cons_zero, List.set_cons_succ]
                  refine wpAnyH_ready (rs := [19]) (by kernel_rfl) (by simp) ?_
                  refine AllReadyH.cons (by simp only [List.getElem?_toArray, List.getElem?_cons_zero, List.getElem?_cons_succ]; rfl) (fun K hK => ?_) AllReadyH.nil
                  go_simp
                  have hS := (‹Below _ w9 _ ∧ _›).1
                  first
                    | (have LZ : Hid (Loc (w5.alloc (.cells #[.bool false, .string ⟨#[]⟩, .bool false, .string ⟨#[]⟩, .bool false, .string ⟨#[]⟩, .bool false, .string ⟨#[]⟩, .bool false, .string ⟨#[]⟩, .bool false, .string ⟨#[]⟩, .bool false, .string ⟨#[]⟩, .bool false, .string ⟨#[]⟩] 80)) w5.heap.size 80 (vals8 fun _ => Val.zero)) := hid (Loc.new w5 80 (vals8 fun _ => Val.zero)); have HBN := hid hS.size; have hS' := KS.out (w5.alloc (.cells #[.bool false, .string ⟨#[]⟩, .bool false, .string ⟨#[]⟩, .bool false, .string ⟨#[]⟩, .bool false, .string ⟨#[]⟩, .bool false, .string ⟨#[]⟩, .bool false, .string ⟨#[]⟩, .bool false, .string ⟨#[]⟩, .bool false, .string ⟨#[]⟩] 80)) (hS.alloc hS.size _); clear hS; generalize w5.alloc (.cells #[.bool false, .string ⟨#[]⟩, .bool false, .string ⟨#[]⟩, .bool false, .string ⟨#[]⟩, .bool false, .string ⟨#[]⟩, .bool false, .string ⟨#[]⟩, .bool false, .string ⟨#[]⟩, .bool false, .string ⟨#[]⟩, .bool false, .string ⟨#[]⟩] 80) = w6 at *; generalize w5.heap.size = b6 at *)
                    | (have LZ : Hid (Loc (w9.alloc (.cells #[.bool false, .string ⟨#[]⟩, .bool false, .string ⟨#[]⟩, .bool false, .string ⟨#[]⟩, .bool false, .string ⟨#[]⟩, .bool false, .string ⟨#[]⟩, .bool false, .string ⟨#[]⟩, .bool false, .string ⟨#[]⟩, .bool false, .string ⟨#[]⟩] 80)).drew w9.heap.size 80 (vals8 fun _ => Val.zero)) := hid (Loc.new w9 80 (vals8 fun _ => Val.zero)); have HBN := hid (Nat.le_refl w9.heap.size); have hS' := KS.out (w9.alloc (.cells #[.bool false, .string ⟨#[]⟩, .bool false, .string ⟨#[]⟩, .bool false, .string ⟨#[]⟩, .bool false, .string ⟨#[]⟩, .bool false, .string ⟨#[]⟩, .bool false, .string ⟨#[]⟩, .bool false, .string ⟨#[]⟩, .bool false, .string ⟨#[]⟩] 80)).drew (((Below.refl w9.heap.size w9).alloc (Nat.le_refl _) _).drew); clear hS; generalize (w9.alloc (.cells #[.bool false, .string ⟨#[]⟩, .bool false, .string ⟨#[]⟩, .bool false, .string ⟨#[]⟩, .bool false, .string ⟨#[]⟩, .bool false, .string ⟨#[]⟩, .bool false, .string ⟨#[]⟩, .bool false, .string ⟨#[]⟩, .bool false, .string ⟨#[]⟩] 80)).drew = w6 at *; generalize hb6 : w9.heap.size = b6 at *; have HB6 := hid hb6; clear hb6)
                  try go_wp2_with fail
                  refine hK.out _ _ ?_ (fun hH3 => ?_)
                  · (try dsimp only); (first | assumption | exact KS.out _ (Below.refl w9.heap.size w9).drew)
                  clear hK K hH2
                  try simp only [Act.put, List.setIfInBounds_toArray, List.set_cons_zero, List.set_cons_succ]
                  refine wpAnyH_ready (rs := [20]) (by kernel_rfl) (by simp) ?_
                  refine AllReadyH.cons (by simp only [List.getElem?_toArray, List.getElem?_cons_zero, List.getElem?_cons_succ]; rfl) (fun K hK => ?_) AllReadyH.nil
                  have hS := (‹Below _ w9 _ ∧ _›).1
                  refine wp_store_mid 80 _ _ rfl _ 0 (vals8 f9).toArray rfl rfl (LZ.out.there8 f9) Try.infoWorld (vals8_one f9) ?_
                  have hS' := KS.out _ (Below.setCells' HBN.out (vals8 f9) 0 hS)
                  have LN := hid (LZ.out.setAll (vs := vals8 f9) rfl)
                  clear hS
                  first
                    | (generalize w5.setCells b6 0 (vals8 f9) = wz at *; have LN2 : Hid (Loc wz b6 80 (vals8 f9)) := by with_reducible exact LN)
                    | (generalize w6.setCells b6 0 (vals8 f9) = wz at *; have LN2 : Hid (Loc wz b6 80 (vals8 f9)) := by with_reducible exact LN)
                  refine hK.out _ _ ?_ (fun hH4 => ?_)
                  · (try dsimp only); (first | assumption | exact KS.out _ (Below.refl w9.heap.size w9).drew)
                  clear hK K hH3
                  try simp only [Act.put]
                  refine wpAnyH_take (i := 21) (v := ?_) (by simp only [List.getElem?_toArray, List.getElem?_cons_zero, List.getElem?_cons_succ]; rfl) (by kernel_rfl) (by kernel_rfl) (by kernel_rfl) (fun _ _ _ h => h) (Or.inl ⟨by rfl, ?_⟩) (by assumption) ?_
                  rotate_left
                  · intro w hSw; (try dsimp only at hSw); go_simp; (try with_reducible rfl)
                  try simp only [Act.put, List.setIfInBounds_toArray, List.set_cons_zero, List.set_cons_succ]
                  refine wpAnyH_done (by kernel_rfl) ?_ _
                  refine NoPanic.normal ?_
                  exact HJ b6 wz ⟨(‹Below _ w9 wz ∧ _›).1, LN2.out⟩
                refine AllReadyH.cons (by simp only [List.getElem?_toArray, List.getElem?_cons_zero, List.getElem?_cons_succ]; rfl) (fun K hK => ?_) AllReadyH.nil
                go_simp
                have hS := (‹Below _ w9 _ ∧ _›).1
                first
                  | (have LZ : Hid (Loc (w5.alloc (.cells #[.bool false, .string ⟨#[]⟩, .bool false, .string ⟨#[]⟩, .bool false, .string ⟨#[]⟩, .bool false, .string ⟨#[]⟩, .bool false, .string ⟨#[]⟩, .bool false, .string ⟨#[]⟩, .bool false, .string ⟨#[]⟩, .bool false, .string ⟨#[]⟩] 80)) w5.heap.size 80 (vals8 fun _ => Val.zero)) := hid (Loc.new w5 80 (vals8 fun _ => Val.zero)); have HBN := hid hS.size; have hS' := KS.out (w5.alloc (.cells #[.bool false, .string ⟨#[]⟩, .bool false, .string ⟨#[]⟩, .bool false, .string ⟨#[]⟩, .bool false, .string ⟨#[]⟩, .bool false, .string ⟨#[]⟩, .bool false, .string ⟨#[]⟩, .bool false, .string ⟨#[]⟩, .bool false, .string ⟨#[]⟩] 80)) (hS.alloc hS.size _); clear hS; generalize w5.alloc (.cells #[.bool false, .string ⟨#[]⟩, .bool false, .string ⟨#[]⟩, .bool false, .string ⟨#[]⟩, .bool false, .string ⟨#[]⟩, .bool false, .string ⟨#[]⟩, .bool false, .string ⟨#[]⟩, .bool false, .string ⟨#[]⟩, .bool false, .string ⟨#[]⟩] 80) = w6 at *; generalize w5.heap.size = b6 at *)
                  | (have LZ : Hid (Loc (w9.alloc (.cells #[.bool false, .string ⟨#[]⟩, .bool false, .string ⟨#[]⟩, .bool false, .string ⟨#[]⟩, .bool false, .string ⟨#[]⟩, .bool false, .string ⟨#[]⟩, .bool false, .string ⟨#[]⟩, .bool false, .string ⟨#[]⟩, .bool false, .string ⟨#[]⟩] 80)).drew w9.heap.size 80 (vals8 fun _ => Val.zero)) := hid (Loc.new w9 80 (vals8 fun _ => Val.zero)); have HBN := hid (Nat.le_refl w9.heap.size); have hS' := KS.out (w9.alloc (.cells #[.bool false, .string ⟨#[]⟩, .bool false, .string ⟨#[]⟩, .bool false, .string ⟨#[]⟩, .bool false, .string ⟨#[]⟩, .bool false, .string ⟨#[]⟩, .bool false, .string ⟨#[]⟩, .bool false, .string ⟨#[]⟩, .bool false, .string ⟨#[]⟩] 80)).drew (((Below.refl w9.heap.size w9).alloc (Nat.le_refl _) _).drew); clear hS; generalize (w9.alloc (.cells #[.bool false, .string ⟨#[]⟩, .bool false, .string ⟨#[]⟩, .bool false, .string ⟨#[]⟩, .bool false, .string ⟨#[]⟩, .bool false, .string ⟨#[]⟩, .bool false, .string ⟨#[]⟩, .bool false, .string ⟨#[]⟩, .bool false, .string ⟨#[]⟩] 80)).drew = w6 at *; generalize hb6 : w9.heap.size = b6 at *; have HB6 := hid hb6; clear hb6)
                try go_wp2_with fail
                refine hK.out _ _ ?_ (fun hH5 => ?_)
                · (try dsimp only); (first | assumption | exact KS.out _ (Below.refl w9.heap.size w9).drew)
                clear hK K hH1
                try simp only [Act.put, List.setIfInBounds_toArray, List.set_cons_zero, List.set_cons_succ]
                refine wpAnyH_ready (rs := [15]) (by kernel_rfl) (by simp) ?_
                refine AllReadyH.cons (by simp only [List.getElem?_toArray, List.getElem?_cons_zero, List.getElem?_cons_succ]; rfl) (fun K hK => ?_) AllReadyH.nil
                go_simp
                go_at_call 48
                have hS := (‹Below _ w9 _ ∧ _›).1
                (with_reducible refine (SH.out _ hS).mono ?_)
                rintro e w5 ⟨rfl, hb5⟩
                have hS' := KS.out _ (hS.trans (hb5.mono (by first | exact hS.size | (have h1 := hS.size; have h2 := HB6.out; omega))))
                try (have hLZ := LZ.out.keep hb5; clear LZ; have LZ := hid hLZ; clear hLZ)
                clear hb5 hS
                try go_wp2_with fail
                refine hK.out _ _ ?_ (fun hH6 => ?_)
                · (try dsimp only); (first | assumption | exact KS.out _ (Below.refl w9.heap.size w9).drew)
                clear hK K hH5
                try simp only [Act.put, List.setIfInBounds_toArray, List.set_cons_zero, List.set_cons_succ]
                refine wpAnyH_take (i := 16) (v := ?_) (by simp only [List.getElem?_toArray, List.getElem?_cons_zero, List.getElem?_cons_succ]; rfl) (by kernel_rfl) (by kernel_rfl) (by kernel_rfl) (fun _ _ _ h => h) (Or.inl ⟨by rfl, ?_⟩) (by assumption) ?_
                rotate_left
                · intro w hSw; (try dsimp only at hSw); go_simp; (try with_reducible rfl)
                try simp only [Act.put, List.setIfInBounds_toArray, List.set_cons_zero, List.set_cons_succ]
                refine wpAnyH_take (i := 17) (v := ?_) (by simp only [List.getElem?_toArray, List.getElem?_cons_zero, List.getElem?_cons_succ]; rfl) (by kernel_rfl) (by kernel_rfl) (by kernel_rfl) (fun _ _ _ h => h) (Or.inl ⟨by rfl, ?_⟩) (by assumption) ?_
                rotate_left
                · intro w hSw; (try dsimp only at hSw); go_simp; (try with_reducible rfl)
                try simp only [Act.put, List.setIfInBounds_toArray, List.set_cons_zero, List.set_cons_succ]
                refine wpAnyH_take (i := 18) (v := ?_) (by simp only [List.getElem?_toArray, List.getElem?_cons_zero, List.getElem?_cons_succ]; rfl) (by kernel_rfl) (by kernel_rfl) (by kernel_rfl) (fun _ _ _ h => h) (Or.inl ⟨by rfl, ?_⟩) (by assumption) ?_
                rotate_left
                · intro w hSw; (try dsimp only at hSw); go_simp; (try with_reducible rfl)
                try simp only [Act.put, List.setIfInBounds_toArray, List.set_cons_zero, List.set_cons_succ]
                refine wpAnyH_ready (rs := [20]) (by kernel_rfl) (by simp) ?_
                refine AllReadyH.cons (by simp only [List.getElem?_toArray, List.getElem?_cons_zero, List.getElem?_cons_succ]; rfl) (fun K hK => ?_) AllReadyH.nil
                have hS := (‹Below _ w9 _ ∧ _›).1
                refine wp_store_mid 80 _ _ rfl _ 0 (vals8 f9).toArray rfl rfl (LZ.out.there8 f9) Try.infoWorld (vals8_one f9) ?_
                have hS' := KS.out _ (Below.setCells' HBN.out (vals8 f9) 0 hS)
                have LN := hid (LZ.out.setAll (vs := vals8 f9) rfl)
                clear hS
                first
                  | (generalize w5.setCells b6 0 (vals8 f9) = wz at *; have LN2 : Hid (Loc wz b6 80 (vals8 f9)) := by with_reducible exact LN)
                  | (generalize w6.setCells b6 0 (vals8 f9) = wz at *; have LN2 : Hid (Loc wz b6 80 (vals8 f9)) := by with_reducible exact LN)
                refine hK.out _ _ ?_ (fun hH7 => ?_)
                · (try dsimp only); (first | assumption | exact KS.out _ (Below.refl w9.heap.size w9).drew)
                clear hK K hH6
                try simp only [Act.put]
                refine wpAnyH_take (i := 21) (v := ?_) (by simp only [List.getElem?_toArray, List.getElem?_cons_zero, List.getElem?_cons_succ]; rfl) (by kernel_rfl) (by kernel_rfl) (by kernel_rfl) (fun _ _ _ h => h) (Or.inl ⟨by rfl, ?_⟩) (by assumption) ?_
                rotate_left
                · intro w hSw; (try dsimp only at hSw); go_simp; (try with_reducible rfl)
                try simp only [Act.put, List.setIfInBounds_toArray, List.set_cons_zero, List.set_cons_succ]
                refine wpAnyH_done (by kernel_rfl) ?_ _
                refine NoPanic.normal ?_
                exact HJ b6 wz ⟨(‹Below _ w9 wz ∧ _›).1, LN2.out⟩
              refine AllReadyH.cons (by simp only [List.getElem?_toArray, List.getElem?_cons_zero, List.getElem?_cons_succ]; rfl) (fun K hK => ?_) AllReadyH.nil
              go_simp
              have hS := (‹Below _ w9 _ ∧ _›).1
              first
                | (have LZ : Hid (Loc (w5.alloc (.cells #[.bool false, .string ⟨#[]⟩, .bool false, .string ⟨#[]⟩, .bool false, .string ⟨#[]⟩, .bool false, .string ⟨#[]⟩, .bool false, .string ⟨#[]⟩, .bool false, .string ⟨#[]⟩, .bool false, .string ⟨#[]⟩, .bool false, .string ⟨#[]⟩] 80)) w5.heap.size 80 (vals8 fun _ => Val.zero)) := hid (Loc.new w5 80 (vals8 fun _ => Val.zero)); have HBN := hid hS.size; have hS' := KS.out (w5.alloc (.cells #[.bool false, .string ⟨#[]⟩, .bool false, .string ⟨#[]⟩, .bool false, .string ⟨#[]⟩, .bool false, .string ⟨#[]⟩, .bool false, .string ⟨#[]⟩, .bool false, .string ⟨#[]⟩, .bool false, .string ⟨#[]⟩, .bool false, .string ⟨#[]⟩] 80)) (hS.alloc hS.size _); clear hS; generalize w5.alloc (.cells #[.bool false, .string ⟨#[]⟩, .bool false, .string ⟨#[]⟩, .bool false, .string ⟨#[]⟩, .bool false, .string ⟨#[]⟩, .bool false, .string ⟨#[]⟩, .bool false, .string ⟨#[]⟩, .bool false, .string ⟨#[]⟩, .bool false, .string ⟨#[]⟩] 80) = w6 at *; generalize w5.heap.size = b6 at *)
                | (have LZ : Hid (Loc (w9.alloc (.cells #[.bool false, .string ⟨#[]⟩, .bool false, .string ⟨#[]⟩, .bool false, .string ⟨#[]⟩, .bool false, .string ⟨#[]⟩, .bool false, .string ⟨#[]⟩, .bool false, .string ⟨#[]⟩, .bool false, .string ⟨#[]⟩, .bool false, .string ⟨#[]⟩] 80)).drew w9.heap.size 80 (vals8 fun _ => Val.zero)) := hid (Loc.new w9 80 (vals8 fun _ => Val.zero)); have HBN := hid (Nat.le_refl w9.heap.size); have hS' := KS.out (w9.alloc (.cells #[.bool false, .string ⟨#[]⟩, .bool false, .string ⟨#[]⟩, .bool false, .string ⟨#[]⟩, .bool false, .string ⟨#[]⟩, .bool false, .string ⟨#[]⟩, .bool false, .string ⟨#[]⟩, .bool false, .string ⟨#[]⟩, .bool false, .string ⟨#[]⟩] 80)).drew (((Below.refl w9.heap.size w9).alloc (Nat.le_refl _) _).drew); clear hS; generalize (w9.alloc (.cells #[.bool false, .string ⟨#[]⟩, .bool false, .string ⟨#[]⟩, .bool false, .string ⟨#[]⟩, .bool false, .string ⟨#[]⟩, .bool false, .string ⟨#[]⟩, .bool false, .string ⟨#[]⟩, .bool false, .string ⟨#[]⟩, .bool false, .string ⟨#[]⟩] 80)).drew = w6 at *; generalize hb6 : w9.heap.size = b6 at *; have HB6 := hid hb6; clear hb6)
              try go_wp2_with fail
              refine hK.out _ _ ?_ (fun hH8 => ?_)
              · (try dsimp only); (first | assumption | exact KS.out _ (Below.refl w9.heap.size w9).drew)
              clear hK K hH0
              try simp only [Act.put, List.setIfInBounds_toArray, List.set_cons_zero, List.set_cons_succ]
              refine wpAnyH_ready (rs := [14]) (by kernel_rfl) (by simp) ?_
              refine AllReadyH.cons (by simp only [List.getElem?_toArray, List.getElem?_cons_zero, List.getElem?_cons_succ]; rfl) (fun K hK => ?_) AllReadyH.nil
              go_simp
              go_at_call 45
              have hS := (‹Below _ w9 _ ∧ _›).1
              (with_reducible refine (LA.out _ hS).mono ?_)
              rintro e w' ⟨rfl, rfl⟩
              clear hS
              try go_wp2_with fail
              refine hK.out _ _ ?_ (fun hH9 => ?_)
              · (try dsimp only); (first | assumption | exact KS.out _ (Below.refl w9.heap.size w9).drew)
              clear hK K hH8
              try simp only [Act.put, List.setIfInBounds_toArray, List.set_cons_zero, List.set_cons_succ]
              refine wpAnyH_ready (rs := [15]) (by kernel_rfl) (by simp) ?_
              refine AllReadyH.cons (by simp only [List.getElem?_toArray, List.getElem?_cons_zero, List.getElem?_cons_succ]; rfl) (fun K hK => ?_) AllReadyH.nil
              go_simp
              go_at_call 48
              have hS := (‹Below _ w9 _ ∧ _›).1
              (with_reducible refine (SH.out _ hS).mono ?_)
              rintro e w5 ⟨rfl, hb5⟩
              have hS' := KS.out _ (hS.trans (hb5.mono (by first | exact hS.size | (have h1 := hS.size; have h2 := HB6.out; omega))))
              try (have hLZ := LZ.out.keep hb5; clear LZ; have LZ := hid hLZ; clear hLZ)
              clear hb5 hS
              try go_wp2_with fail
              refine hK.out _ _ ?_ (fun hH10 => ?_)
              · (try dsimp only); (first | assumption | exact KS.out _ (Below.refl w9.heap.size w9).drew)
              clear hK K hH9
              try simp only [Act.put, List.setIfInBounds_toArray, List.set_cons_zero, List.set_cons_succ]
              refine wpAnyH_take (i := 16) (v := ?_) (by simp only [List.getElem?_toArray, List.getElem?_cons_zero, List.getElem?_cons_succ]; rfl) (by kernel_rfl) (by kernel_rfl) (by kernel_rfl) (fun _ _ _ h => h) (Or.inl ⟨by rfl, ?_⟩) (by assumption) ?_
              rotate_left
              · intro w hSw; (try dsimp only at hSw); go_simp; (try with_reducible rfl)
              try simp only [Act.put, List.setIfInBounds_toArray, List.set_cons_zero, List.set_cons_succ]
              refine wpAnyH_take (i := 17) (v := ?_) (by simp only [List.getElem?_toArray, List.getElem?_cons_zero, List.getElem?_cons_succ]; rfl) (by kernel_rfl) (by kernel_rfl) (by kernel_rfl) (fun _ _ _ h => h) (Or.inl ⟨by rfl, ?_⟩) (by assumption) ?_
              rotate_left
              · intro w hSw; (try dsimp only at hSw); go_simp; (try with_reducible rfl)
              try simp only [Act.put, List.setIfInBounds_toArray, List.set_cons_zero, List.set_cons_succ]
              refine wpAnyH_take (i := 18) (v := ?_) (by simp only [List.getElem?_toArray, List.getElem?_cons_zero, List.getElem?_cons_succ]; rfl) (by kernel_rfl) (by kernel_rfl) (by kernel_rfl) (fun _ _ _ h => h) (Or.inl ⟨by rfl, ?_⟩) (by assumption) ?_
              rotate_left
              · intro w hSw; (try dsimp only at hSw); go_simp; (try with_reducible rfl)
              try simp only [Act.put, List.setIfInBounds_toArray, List.set_cons_zero, List.set_cons_succ]
              refine wpAnyH_ready (rs := [20]) (by kernel_rfl) (by simp) ?_
              refine AllReadyH.cons (by simp only [List.getElem?_toArray, List.getElem?_cons_zero, List.getElem?_cons_succ]; rfl) (fun K hK => ?_) AllReadyH.nil
              have hS := (‹Below _ w9 _ ∧ _›).1
              refine wp_store_mid 80 _ _ rfl _ 0 (vals8 f9).toArray rfl rfl (LZ.out.there8 f9) Try.infoWorld (vals8_one f9) ?_
              have hS' := KS.out _ (Below.setCells' HBN.out (vals8 f9) 0 hS)
              have LN := hid (LZ.out.setAll (vs := vals8 f9) rfl)
              clear hS
              first
                | (generalize w5.setCells b6 0 (vals8 f9) = wz at *; have LN2 : Hid (Loc wz b6 80 (vals8 f9)) := by with_reducible exact LN)
                | (generalize w6.setCells b6 0 (vals8 f9) = wz at *; have LN2 : Hid (Loc wz b6 80 (vals8 f9)) := by with_reducible exact LN)
              refine hK.out _ _ ?_ (fun hH11 => ?_)
              · (try dsimp only); (first | assumption | exact KS.out _ (Below.refl w9.heap.size w9).drew)
              clear hK K hH10
              try simp only [Act.put]
              refine wpAnyH_take (i := 21) (v := ?_) (by simp only [List.getElem?_toArray, List.getElem?_cons_zero, List.getElem?_cons_succ]; rfl) (by kernel_rfl) (by kernel_rfl) (by kernel_rfl) (fun _ _ _ h => h) (Or.inl ⟨by rfl, ?_⟩) (by assumption) ?_
              rotate_left
              · intro w hSw; (try dsimp only at hSw); go_simp; (try with_reducible rfl)
              try simp only [Act.put, List.setIfInBounds_toArray, List.set_cons_zero, List.set_cons_succ]
              refine wpAnyH_done (by kernel_rfl) ?_ _
              refine NoPanic.normal ?_
              exact HJ b6 wz ⟨(‹Below _ w9 wz ∧ _›).1, LN2.out⟩
              -- END 29b3
            · skip
              obtain ⟨hb, hL⟩ := hS
              have AN := hid (A9.out.below hb)
              have BN := hid (B9.out.below' hb)
              have LN := hid (L9.out.below hb)
              have MN := hid hL
              clear hb hL A9 B9 L9 KS LA SH r0 r1
              go_wp2_with (first
                | refine wpList_load_vals rfl (.tmp 4) rfl bw rfl f9 LN.out.1 ?_
                | refine wpList_load_vals rfl (.tmp 9) rfl bn rfl f9 MN.out ?_
                | refine wpList_ne_vals rfl (.tmp 115) (.tmp 116) _ rfl f9 rfl rfl ?_)
              go_roundw
              case rel => exact ⟨k + 1, g9, H9, by omega, by go_num, AN, BN, hid (by rw [HF9.out]; exact LN.out), HN9⟩
              case measure => simp [intOf]; omega
        · have qz : (zc == 0) = false := by simpa using hcode
          have YN := hid (ONE.out.no hcode)
          clear hcode ONE
          go_wp2_with fail
          refine (hall_Do g6 1 h _ ⟨6, 0, 0, 0, 0, 0, 0, ⟨#[]⟩⟩ w6 (show (ByteArray.mk #[]).size ≤ maxLen by decide) H6.out).mono ?_
          rw [show (⟨6, 0, 0, 0, 0, 0, 0, ⟨#[]⟩⟩ : St) = sCommit from rfl, AC.out]
          rintro e w7 ⟨a7, c7', g7, rfl, hH7, hE7, -, -⟩
          have H7 := hid hH7
          have B7 := hid (B6.out.step hE7 (by omega))
          have W7 := hid (W6.out.frame hE7 (by omega))
          have L7 := hid (L6.out.frame hE7 (by omega))
          clear hH7 hE7 H6 B6 W6 L6 AC hfd6
          generalize commitV H.v zD = y at *
          obtain ⟨⟨yn, yc⟩, V7⟩ := y
          go_upto_region 19 with (fail)
          have hA8 := Evo.alloc g7 44 w7 (.cells #[.int .i64 yc, .int .i64 yn, .bool Val.zero.there, .string Val.zero.bytes, .slice a7 0 c7'] 103)
          have E8 : Hid (LocC (w7.alloc (.cells #[.int .i64 yc, .int .i64 yn, .bool Val.zero.there, .string Val.zero.bytes, .slice a7 0 c7'] 103)) (extc g7 w7 44) 44 w7.heap.size 103 [.int .i64 yc, .int .i64 yn, .bool Val.zero.there, .string Val.zero.bytes, .slice a7 0 c7']) := hid (LocC.new g7 44 w7 103 [.int .i64 yc, .int .i64 yn, .bool Val.zero.there, .string Val.zero.bytes, .slice a7 0 c7'])
          have H8 := hid (H7.out.frame hA8 (by omega))
          have B8 := hid (B7.out.step hA8 (by omega))
          have W8 := hid (W7.out.frame hA8 (by omega))
          have L8 := hid (L7.out.frame hA8 (by omega))
          clear hA8 H7 B7 W7 L7
          generalize w7.alloc (.cells #[.int .i64 yc, .int .i64 yn, .bool Val.zero.there, .string Val.zero.bytes, .slice a7 0 c7'] 103) = w8 at *
          generalize extc g7 w7 44 = g8 at *
          generalize w7.heap.size = b8 at *
          have e0 : w8.cell? ⟨b8, 0, none⟩ = some (.int .i64 yc) := E8.out.1.cell 0
          have e1 : w8.cell? ⟨b8, 1, none⟩ = some (.int .i64 yn) := E8.out.1.cell 1
          obtain ⟨hy, rfl⟩ := Prod.mk.inj YN.out
          obtain ⟨rfl, rfl⟩ := Prod.mk.inj hy
          clear hy YN
          generalize hf9 : sheetT H.v.tab (H.v.tab.last : Int) = f9 at *
          have HF9 := hid hf9
          clear hf9
          obtain ⟨H9, hh9⟩ : ∃ H9 : Ht, H9 = ⟨H.v, upd H.seats 0 none⟩ := ⟨_, rfl⟩
          have HN9 : Hid (∀ s, H9.seats s = none) := hid (by rw [hh9]; exact HSN.out)
          have HF9' : Hid (sheetT H9.v.tab (H9.v.tab.last : Int) = f9) := hid (by rw [hh9]; exact HF9.out)
          have A9 : Hid (HallAt w8 g8 1 h H9) := hid (by rw [hh9]; exact H8.out)
          clear hh9 H8 HF9 HSN
          have HF9 := hid HF9'.out
          clear HF9'
          have B9 := hid B8.out
          have L9 := hid W8.out
          clear B8 W8
          go_wp2_with fail
          clear e0 e1 L8 E8
          generalize w8 = w9 at *
          generalize g8 = g9 at *
          have hok9 := A9.out.ok
          obtain ⟨vp9, ds9, hC9⟩ := A9.out
          obtain ⟨r0, t9, tb9, hV9⟩ := hC9.top
          have r1 := hV9.cells.1
          have LA := hid (fun W (hb : Below w9.heap.size w9 W) => table_Last g9 (1 + 1 + 1) t9 H9.v.tab W (hV9.2.2.1.below hb))
          have SH := hid (fun W (hb : Below w9.heap.size w9 W) => (by
            have P := law_sheet g9 (1 + 1 + 1) t9 H9.v.tab W (H9.v.tab.last : Int) (hV9.2.2.1.below hb)
            rw [codesT_top hok9.2, HF9.out] at P
            exact P : Calls Try.prog 48 #[.pointer (some ⟨t9, 0, none⟩), .int .i64 (H9.v.tab.last : Int)] W (SheetPost f9 true W)))
          have KS := hid (fun W (hb : Below w9.heap.size w9 W) => (⟨hb, (hC9.below hb).top.1, (hV9.below hb).cells.1⟩ : Below w9.heap.size w9 W ∧ W.cell? ⟨h, 0, none⟩ = some (.pointer (some ⟨vp9, 0, none⟩)) ∧ W.cell? ⟨vp9, 0, none⟩ = some (.pointer (some ⟨t9, 0, none⟩))))
          clear hC9 hV9 hok9
          go_wp2_with fail
          refine' join2 (fun (b : Nat) W => Below w9.heap.size w9 W ∧ Loc W b 80 (vals8 f9)) _ (fun HJ => ?_) (fun bn wn hS => ?_)
          rotate_left
          · skip
            -- REGION 29a3
            refine wp_region_noPanic ?_
            refine wp_region_held_drew (S := (fun W' : World => Below w9.heap.size w9 W' ∧ W'.cell? ⟨h, 0, none⟩ = some (.pointer (some ⟨vp9, 0, none⟩)) ∧ W'.cell? ⟨vp9, 0, none⟩ = some (.pointer (some ⟨t9, 0, none⟩)))) (by kernel_rfl) ?_ (fun hH0 => ?_)
            · (try dsimp only); (first | assumption | exact KS.out _ (Below.refl w9.heap.size w9).drew)
            refine wpAnyH_take (i := 0) (v := ?_) (by simp only [List.getElem?_toArray, List.getElem?_cons_zero]; rfl) (by kernel_rfl) (by kernel_rfl) (by kernel_rfl) (fun _ _ _ h => h) (Or.inl ⟨by rfl, ?_⟩) (by assumption) ?_
            rotate_left
            · intro w hSw; (try dsimp only at hSw); go_simp; (try with_reducible rfl)
            try simp only [Act.put, List.setIfInBounds_toArray, List.set_cons_zero, List.set_cons_succ]
            refine wpAnyH_take (i := 1) (v := ?_) (by simp only [List.getElem?_toArray, List.getElem?_cons_zero, List.getElem?_cons_succ]; rfl) (by kernel_rfl) (by kernel_rfl) (by kernel_rfl) (fun _ _ _ h => h) (Or.inl ⟨by rfl, ?_⟩) (by assumption) ?_
            rotate_left
            · intro w hSw; (try dsimp only at hSw); go_simp; (try with_reducible rfl)
            try simp only [Act.put, List.setIfInBounds_toArray, List.set_cons_zero, List.set_cons_succ]
            refine wpAnyH_take (i := 2) (v := ?_) (by simp only [List.getElem?_toArray, List.getElem?_cons_zero, List.getElem?_cons_succ]; rfl) (by kernel_rfl) (by kernel_rfl) (by kernel_rfl) (fun _ _ _ h => h) (Or.inl ⟨by rfl, ?_⟩) (by assumption) ?_
            rotate_left
            · intro w hSw; (try dsimp only at hSw); go_simp; (try with_reducible rfl)
            try simp only [Act.put, List.setIfInBounds_toArray, List.set_cons_zero, List.set_cons_succ]
            refine wpAnyH_take (i := 3) (v := ?_) (by simp only [List.getElem?_toArray, List.getElem?_cons_zero, List.getElem?_cons_succ]; rfl) (by kernel_rfl) (by kernel_rfl) (by kernel_rfl) (fun _ _ _ h => h) (Or.inl ⟨by rfl, ?_⟩) (by assumption) ?_
            rotate_left
            · intro w hSw; (try dsimp only at hSw); go_simp; (try with_reducible rfl)
            try simp only [Act.put, List.setIfInBounds_toArray, List.set_cons_zero, List.set_cons_succ]
            refine wpAnyH_take (i := 4) (v := ?_) (by simp only [List.getElem?_toArray, List.getElem?_cons_zero, List.getElem?_cons_succ]; rfl) (by kernel_rfl) (by kernel_rfl) (by kernel_rfl) (fun _ _ _ h => h) (Or.inl ⟨by rfl, ?_⟩) (by assumption) ?_
            rotate_left
            · intro w hSw; (try dsimp only at hSw); go_simp; (try with_reducible rfl)
            try simp only [Act.put, List.setIfInBounds_toArray, List.set_cons_zero, List.set_cons_succ]
            refine wpAnyH_take (i := 5) (v := ?_) (by simp only [List.getElem?_toArray, List.getElem?_cons_zero, List.getElem?_cons_succ]; rfl) (by kernel_rfl) (by kernel_rfl) (by kernel_rfl) (fun _ _ _ h => h) (Or.inl ⟨by rfl, ?_⟩) (by assumption) ?_
            rotate_left
            · intro w hSw; (try dsimp only at hSw); go_simp; (try with_reducible rfl)
            try simp only [Act.put, List.setIfInBounds_toArray, List.set_cons_zero, List.set_cons_succ]
            refine wpAnyH_take (i := 6) (v := ?_) (by simp only [List.getElem?_toArray, List.getElem?_cons_zero, List.getElem?_cons_succ]; rfl) (by kernel_rfl) (by kernel_rfl) (by kernel_rfl) (fun _ _ _ h => h) (Or.inl ⟨by rfl, ?_⟩) (by assumption) ?_
            rotate_left
            · intro w hSw; (try dsimp only at hSw); go_simp; (try with_reducible rfl)
            try simp only [Act.put, List.setIfInBounds_toArray, List.set_cons_zero, List.set_cons_succ]
            refine wpAnyH_take (i := 7) (v := ?_) (by simp only [List.getElem?_toArray, List.getElem?_cons_zero, List.getElem?_cons_succ]; rfl) (by kernel_rfl) (by kernel_rfl) (by kernel_rfl) (fun _ _ _ h => h) (Or.inl ⟨by rfl, ?_⟩) (by assumption) ?_
            rotate_left
            · intro w hSw; (try dsimp only at hSw); go_simp; (try with_reducible rfl)
            try simp only [Act.put, List.setIfInBounds_toArray, List.set_cons_zero, List.set_cons_succ]
            refine wpAnyH_take (i := 8) (v := ?_) (by simp only [List.getElem?_toArray, List.getElem?_cons_zero, List.getElem?_cons_succ]; rfl) (by kernel_rfl) (by kernel_rfl) (by kernel_rfl) (fun _ _ _ h => h) (Or.inl ⟨by rfl, ?_⟩) (by assumption) ?_
            rotate_left
            · intro w hSw; (try dsimp only at hSw); go_simp; (try with_reducible rfl)
            try simp only [Act.put, List.setIfInBounds_toArray, List.set_cons_zero, List.set_cons_succ]
            refine wpAnyH_take (i := 9) (v := ?_) (by simp only [List.getElem?_toArray, List.getElem?_cons_zero, List.getElem?_cons_succ]; rfl) (by kernel_rfl) (by kernel_rfl) (by kernel_rfl) (fun _ _ _ h => h) (Or.inl ⟨by rfl, ?_⟩) (by assumption) ?_
            rotate_left
            · intro w hSw; (try dsimp only at hSw); go_simp; (try with_reducible rfl)
            try simp only [Act.put, List.setIfInBounds_toArray, List.set_cons_zero, List.set_cons_succ]
            refine wpAnyH_take (i := 10) (v := ?_) (by simp only [List.getElem?_toArray, List.getElem?_cons_zero, List.getElem?_cons_succ]; rfl) (by kernel_rfl) (by kernel_rfl) (by kernel_rfl) (fun _ _ _ h => h) (Or.inl ⟨by rfl, ?_⟩) (by assumption) ?_
            rotate_left
            · intro w hSw; (try dsimp only at hSw); go_simp; (try with_reducible rfl)
            try simp only [Act.put, List.setIfInBounds_toArray, List.set_cons_zero, List.set_cons_succ]
            refine wpAnyH_take (i := 11) (v := ?_) (by simp only [List.getElem?_toArray, List.getElem?_cons_zero, List.getElem?_cons_succ]; rfl) (by kernel_rfl) (by kernel_rfl) (by kernel_rfl) (fun _ _ _ h => h) (Or.inl ⟨by rfl, ?_⟩) (by assumption) ?_
            rotate_left
            · intro w hSw; (try dsimp only at hSw); go_simp; (try with_reducible rfl)
            try simp only [Act.put, List.setIfInBounds_toArray, List.set_cons_zero, List.set_cons_succ]
            refine wpAnyH_take (i := 12) (v := ?_) (by simp only [List.getElem?_toArray, List.getElem?_cons_zero, List.getElem?_cons_succ]; rfl) (by kernel_rfl) (by kernel_rfl) (by kernel_rfl) (fun _ _ _ h => h) (Or.inl ⟨by rfl, ?_⟩) (by assumption) ?_
            rotate_left
            · intro w hSw; (try dsimp only at hSw); go_simp; (try with_reducible rfl)
            try simp only [Act.put, List.setIfInBounds_toArray, List.set_cons_zero, List.set_cons_succ]
            refine wpAnyH_take (i := 13) (v := ?_) (by simp only [List.getElem?_toArray, List.getElem?_cons_zero, List.getElem?_cons_succ]; rfl) (by kernel_rfl) (by kernel_rfl) (by kernel_rfl) (fun _ _ _ h => h) (Or.inl ⟨by rfl, ?_⟩) (by assumption) ?_
            rotate_left
            · intro w hSw; (try dsimp only at hSw); go_simp; (try with_reducible rfl)
            try simp only [Act.put, List.setIfInBounds_toArray, List.set_cons_zero, List.set_cons_succ]
            refine wpAnyH_ready (rs := [14, 19]) (by kernel_rfl) (by simp) ?_
            refine AllReadyH.cons (by simp only [List.getElem?_toArray, List.getElem?_cons_zero, List.getElem?_cons_succ]; rfl) (fun K hK => ?_) ?_
            · skip
              go_simp
              go_at_call 45
              have hS := (‹Below _ w9 _ ∧ _›).1
              (with_reducible refine (LA.out _ hS).mono ?_)
              rintro e w' ⟨rfl, rfl⟩
              clear hS
              try go_wp2_with fail
              refine hK.out _ _ ?_ (fun hH1 => ?_)
              · (try dsimp only); (first | assumption | exact KS.out _ (Below.refl w9.heap.size w9).drew)
              clear hK K hH0
              try simp only [Act.put, List.setIfInBounds_toArray, List.set_cons_zero, List.set_cons_succ]
              refine wpAnyH_ready (rs := [15, 19]) (by kernel_rfl) (by simp) ?_
              refine AllReadyH.cons (by simp only [List.getElem?_toArray, List.getElem?_cons_zero, List.getElem?_cons_succ]; rfl) (fun K hK => ?_) ?_
              · skip
                go_simp
                go_at_call 48
                have hS := (‹Below _ w9 _ ∧ _›).1
                (with_reducible refine (SH.out _ hS).mono ?_)
                rintro e w5 ⟨rfl, hb5⟩
                have hS' := KS.out _ (hS.trans (hb5.mono (by first | exact hS.size | (have h1 := hS.size; have h2 := HB6.out; omega))))
                try (have hLZ := LZ.out.keep hb5; clear LZ; have LZ := hid hLZ; clear hLZ)
                clear hb5 hS
                try go_wp2_with fail
                refine hK.out _ _ ?_ (fun hH2 => ?_)
                · (try dsimp only); (first | assumption | exact KS.out _ (Below.refl w9.heap.size w9).drew)
                clear hK K hH1
                try simp only [Act.put, List.setIfInBounds_toArray, List.set_cons_zero, List.set_cons_succ]
                refine wpAnyH_take (i := 16) (v := ?_) (by simp only [List.getElem?_toArray, List.getElem?_cons_zero, List.getElem?_cons_succ]; rfl) (by kernel_rfl) (by kernel_rfl) (by kernel_rfl) (fun _ _ _ h => h) (Or.inl ⟨by rfl, ?_⟩) (by assumption) ?_
                rotate_left
                · intro w hSw; (try dsimp only at hSw); go_simp; (try with_reducible rfl)
                try simp only [Act.put, List.setIfInBounds_toArray, List.set_cons_zero, List.set_cons_succ]
                refine wpAnyH_take (i := 17) (v := ?_) (by simp only [List.getElem?_toArray, List.getElem?_cons_zero, List.getElem?_cons_succ]; rfl) (by kernel_rfl) (by kernel_rfl) (by kernel_rfl) (fun _ _ _ h => h) (Or.inl ⟨by rfl, ?_⟩) (by assumption) ?_
                rotate_left
                · intro w hSw; (try dsimp only at hSw); go_simp; (try with_reducible rfl)
                try simp only [Act.put, List.setIfInBounds_toArray, List.set_cons_zero, List.set_cons_succ]
                refine wpAnyH_take (i := 18) (v := ?_) (by simp only [List.getElem?_toArray, List.getElem?_cons_zero, List.getElem?_cons_succ]; rfl) (by kernel_rfl) (by kernel_rfl) (by kernel_rfl) (fun _ _ _ h => h) (Or.inl ⟨by rfl, ?_⟩) (by assumption) ?_
                rotate_left
                · intro w hSw; (try dsimp only at hSw); go_simp; (try with_reducible rfl)
                try simp only [Act.put, List.setIfInBounds_toArray, List.set_cons_zero, List.set_cons_succ]
                refine wpAnyH_ready (rs := [19]) (by kernel_rfl) (by simp) ?_
                refine AllReadyH.cons (by simp only [List.getElem?_toArray, List.getElem?_cons_zero, List.getElem?_cons_succ]; rfl) (fun K hK => ?_) AllReadyH.nil
                go_simp
                have hS := (‹Below _ w9 _ ∧ _›).1
                first
                  | (have LZ : Hid (Loc (w5.alloc (.cells #[.bool false, .string ⟨#[]⟩, .bool false, .string ⟨#[]⟩, .bool false, .string ⟨#[]⟩, .bool false, .string ⟨#[]⟩, .bool false, .string ⟨#[]⟩, .bool false, .string ⟨#[]⟩, .bool false, .string ⟨#[]⟩, .bool false, .string ⟨#[]⟩] 80)) w5.heap.size 80 (vals8 fun _ => Val.zero)) := hid (Loc.new w5 80 (vals8 fun _ => Val.zero)); have HBN := hid hS.size; have hS' := KS.out (w5.alloc (.cells #[.bool false, .string ⟨#[]⟩, .bool false, .string ⟨#[]⟩, .bool false, .string ⟨#[]⟩, .bool false, .string ⟨#[]⟩, .bool false, .string ⟨#[]⟩, .bool false, .string ⟨#[]⟩, .bool false, .string ⟨#[]⟩, .bool false, .string ⟨#[]⟩] 80)) (hS.alloc hS.size _); clear hS; generalize w5.alloc (.cells #[.bool false, .string ⟨#[]⟩, .bool false, .string ⟨#[]⟩, .bool false, .string ⟨#[]⟩, .bool false, .string ⟨#[]⟩, .bool false, .string ⟨#[]⟩, .bool false, .string ⟨#[]⟩, .bool false, .string ⟨#[]⟩, .bool false, .string ⟨#[]⟩] 80) = w6 at *; generalize w5.heap.size = b6 at *)
                  | (have LZ : Hid (Loc (w9.alloc (.cells #[.bool false, .string ⟨#[]⟩, .bool false, .string ⟨#[]⟩, .bool false, .string ⟨#[]⟩, .bool false, .string ⟨#[]⟩, .bool false, .string ⟨#[]⟩, .bool false, .string ⟨#[]⟩, .bool false, .string ⟨#[]⟩, .bool false, .string ⟨#[]⟩] 80)).drew w9.heap.size 80 (vals8 fun _ => Val.zero)) := hid (Loc.new w9 80 (vals8 fun _ => Val.zero)); have HBN := hid (Nat.le_refl w9.heap.size); have hS' := KS.out (w9.alloc (.cells #[.bool false, .string ⟨#[]⟩, .bool false, .string ⟨#[]⟩, .bool false, .string ⟨#[]⟩, .bool false, .string ⟨#[]⟩, .bool false, .string ⟨#[]⟩, .bool false, .string ⟨#[]⟩, .bool false, .string ⟨#[]⟩, .bool false, .string ⟨#[]⟩] 80)).drew (((Below.refl w9.heap.size w9).alloc (Nat.le_refl _) _).drew); clear hS; generalize (w9.alloc (.cells #[.bool false, .string ⟨#[]⟩, .bool false, .string ⟨#[]⟩, .bool false, .string ⟨#[]⟩, .bool false, .string ⟨#[]⟩, .bool false, .string ⟨#[]⟩, .bool false, .string ⟨#[]⟩, .bool false, .string ⟨#[]⟩, .bool false, .string ⟨#[]⟩] 80)).drew = w6 at *; generalize hb6 : w9.heap.size = b6 at *; have HB6 := hid hb6; clear hb6)
                try go_wp2_with fail
                refine hK.out _ _ ?_ (fun hH3 => ?_)
                · (try dsimp only); (first | assumption | exact KS.out _ (Below.refl w9.heap.size w9).drew)
                clear hK K hH2
                try simp only [Act.put, List.setIfInBounds_toArray, List.set_cons_zero, List.set_cons_succ]
                refine wpAnyH_ready (rs := [20]) (by kernel_rfl) (by simp) ?_
                refine AllReadyH.cons (by simp only [List.getElem?_toArray, List.getElem?_cons_zero, List.getElem?_cons_succ]; rfl) (fun K hK => ?_) AllReadyH.nil
                have hS := (‹Below _ w9 _ ∧ _›).1
                refine wp_store_mid 80 _ _ rfl _ 0 (vals8 f9).toArray rfl rfl (LZ.out.there8 f9) Try.infoWorld (vals8_one f9) ?_
                have hS' := KS.out _ (Below.setCells' HBN.out (vals8 f9) 0 hS)
                have LN := hid (LZ.out.setAll (vs := vals8 f9) rfl)
                clear hS
                first
                  | (generalize w5.setCells b6 0 (vals8 f9) = wz at *; have LN2 : Hid (Loc wz b6 80 (vals8 f9)) := by with_reducible exact LN)
                  | (generalize w6.setCells b6 0 (vals8 f9) = wz at *; have LN2 : Hid (Loc wz b6 80 (vals8 f9)) := by with_reducible exact LN)
                refine hK.out _ _ ?_ (fun hH4 => ?_)
                · (try dsimp only); (first | assumption | exact KS.out _ (Below.refl w9.heap.size w9).drew)
                clear hK K hH3
                try simp only [Act.put]
                refine wpAnyH_take (i := 21) (v := ?_) (by simp only [List.getElem?_toArray, List.getElem?_cons_zero, List.getElem?_cons_succ]; rfl) (by kernel_rfl) (by kernel_rfl) (by kernel_rfl) (fun _ _ _ h => h) (Or.inl ⟨by rfl, ?_⟩) (by assumption) ?_
                rotate_left
                · intro w hSw; (try dsimp only at hSw); go_simp; (try with_reducible rfl)
                try simp only [Act.put, List.setIfInBounds_toArray, List.set_cons_zero, List.set_cons_succ]
                refine wpAnyH_done (by kernel_rfl) ?_ _
                refine NoPanic.normal ?_
                exact HJ b6 wz ⟨(‹Below _ w9 wz ∧ _›).1, LN2.out⟩
              refine AllReadyH.cons (by simp only [List.getElem?_toArray, List.getElem?_cons_zero, List.getElem?_cons_succ]; rfl) (fun K hK => ?_) AllReadyH.nil
              go_simp
              have hS := (‹Below _ w9 _ ∧ _›).1
              first
                | (have LZ : Hid (Loc (w5.alloc (.cells #[.bool false, .string ⟨#[]⟩, .bool false, .string ⟨#[]⟩, .bool false, .string ⟨#[]⟩, .bool false, .string ⟨#[]⟩, .bool false, .string ⟨#[]⟩, .bool false, .string ⟨#[]⟩, .bool false, .string ⟨#[]⟩, .bool false, .string ⟨#[]⟩] 80)) w5.heap.size 80 (vals8 fun _ => Val.zero)) := hid (Loc.new w5 80 (vals8 fun _ => Val.zero)); have HBN := hid hS.size; have hS' := KS.out (w5.alloc (.cells #[.bool false, .string ⟨#[]⟩, .bool false, .string ⟨#[]⟩, .bool false, .string ⟨#[]⟩, .bool false, .string ⟨#[]⟩, .bool false, .string ⟨#[]⟩, .bool false, .string ⟨#[]⟩, .bool false, .string ⟨#[]⟩, .bool false, .string ⟨#[]⟩] 80)) (hS.alloc hS.size _); clear hS; generalize w5.alloc (.cells #[.bool false, .string ⟨#[]⟩, .bool false, .string ⟨#[]⟩, .bool false, .string ⟨#[]⟩, .bool false, .string ⟨#[]⟩, .bool false, .string ⟨#[]⟩, .bool false, .string ⟨#[]⟩, .bool false, .string ⟨#[]⟩, .bool false, .string ⟨#[]⟩] 80) = w6 at *; generalize w5.heap.size = b6 at *)
                | (have LZ : Hid (Loc (w9.alloc (.cells #[.bool false, .string ⟨#[]⟩, .bool false, .string ⟨#[]⟩, .bool false, .string ⟨#[]⟩, .bool false, .string ⟨#[]⟩, .bool false, .string ⟨#[]⟩, .bool false, .string ⟨#[]⟩, .bool false, .string ⟨#[]⟩, .bool false, .string ⟨#[]⟩] 80)).drew w9.heap.size 80 (vals8 fun _ => Val.zero)) := hid (Loc.new w9 80 (vals8 fun _ => Val.zero)); have HBN := hid (Nat.le_refl w9.heap.size); have hS' := KS.out (w9.alloc (.cells #[.bool false, .string ⟨#[]⟩, .bool false, .string ⟨#[]⟩, .bool false, .string ⟨#[]⟩, .bool false, .string ⟨#[]⟩, .bool false, .string ⟨#[]⟩, .bool false, .string ⟨#[]⟩, .bool false, .string ⟨#[]⟩, .bool false, .string ⟨#[]⟩] 80)).drew (((Below.refl w9.heap.size w9).alloc (Nat.le_refl _) _).drew); clear hS; generalize (w9.alloc (.cells #[.bool false, .string ⟨#[]⟩, .bool false, .string ⟨#[]⟩, .bool false, .string ⟨#[]⟩, .bool false, .string ⟨#[]⟩, .bool false, .string ⟨#[]⟩, .bool false, .string ⟨#[]⟩, .bool false, .string ⟨#[]⟩, .bool false, .string ⟨#[]⟩] 80)).drew = w6 at *; generalize hb6 : w9.heap.size = b6 at *; have HB6 := hid hb6; clear hb6)
              try go_wp2_with fail
              refine hK.out _ _ ?_ (fun hH5 => ?_)
              · (try dsimp only); (first | assumption | exact KS.out _ (Below.refl w9.heap.size w9).drew)
              clear hK K hH1
              try simp only [Act.put, List.setIfInBounds_toArray, List.set_cons_zero, List.set_cons_succ]
              refine wpAnyH_ready (rs := [15]) (by kernel_rfl) (by simp) ?_
              refine AllReadyH.cons (by simp only [List.getElem?_toArray, List.getElem?_cons_zero, List.getElem?_cons_succ]; rfl) (fun K hK => ?_) AllReadyH.nil
              go_simp
              go_at_call 48
              have hS := (‹Below _ w9 _ ∧ _›).1
              (with_reducible refine (SH.out _ hS).mono ?_)
              rintro e w5 ⟨rfl, hb5⟩
              have hS' := KS.out _ (hS.trans (hb5.mono (by first | exact hS.size | (have h1 := hS.size; have h2 := HB6.out; omega))))
              try (have hLZ := LZ.out.keep hb5; clear LZ; have LZ := hid hLZ; clear hLZ)
              clear hb5 hS
              try go_wp2_with fail
              refine hK.out _ _ ?_ (fun hH6 => ?_)
              · (try dsimp only); (first | assumption | exact KS.out _ (Below.refl w9.heap.size w9).drew)
              clear hK K hH5
              try simp only [Act.put, List.setIfInBounds_toArray, List.set_cons_zero, List.set_cons_succ]
              refine wpAnyH_take (i := 16) (v := ?_) (by simp only [List.getElem?_toArray, List.getElem?_cons_zero, List.getElem?_cons_succ]; rfl) (by kernel_rfl) (by kernel_rfl) (by kernel_rfl) (fun _ _ _ h => h) (Or.inl ⟨by rfl, ?_⟩) (by assumption) ?_
              rotate_left
              · intro w hSw; (try dsimp only at hSw); go_simp; (try with_reducible rfl)
              try simp only [Act.put, List.setIfInBounds_toArray, List.set_cons_zero, List.set_cons_succ]
              refine wpAnyH_take (i := 17) (v := ?_) (by simp only [List.getElem?_toArray, List.getElem?_cons_zero, List.getElem?_cons_succ]; rfl) (by kernel_rfl) (by kernel_rfl) (by kernel_rfl) (fun _ _ _ h => h) (Or.inl ⟨by rfl, ?_⟩) (by assumption) ?_
              rotate_left
              · intro w hSw; (try dsimp only at hSw); go_simp; (try with_reducible rfl)
              try simp only [Act.put, List.setIfInBounds_toArray, List.set_cons_zero, List.set_cons_succ]
              refine wpAnyH_take (i := 18) (v := ?_) (by simp only [List.getElem?_toArray, List.getElem?_cons_zero, List.getElem?_cons_succ]; rfl) (by kernel_rfl) (by kernel_rfl) (by kernel_rfl) (fun _ _ _ h => h) (Or.inl ⟨by rfl, ?_⟩) (by assumption) ?_
              rotate_left
              · intro w hSw; (try dsimp only at hSw); go_simp; (try with_reducible rfl)
              try simp only [Act.put, List.setIfInBounds_toArray, List.set_cons_zero, List.set_cons_succ]
              refine wpAnyH_ready (rs := [20]) (by kernel_rfl) (by simp) ?_
              refine AllReadyH.cons (by simp only [List.getElem?_toArray, List.getElem?_cons_zero, List.getElem?_cons_succ]; rfl) (fun K hK => ?_) AllReadyH.nil
              have hS := (‹Below _ w9 _ ∧ _›).1
              refine wp_store_mid 80 _ _ rfl _ 0 (vals8 f9).toArray rfl rfl (LZ.out.there8 f9) Try.infoWorld (vals8_one f9) ?_
              have hS' := KS.out _ (Below.setCells' HBN.out (vals8 f9) 0 hS)
              have LN := hid (LZ.out.setAll (vs := vals8 f9) rfl)
              clear hS
              first
                | (generalize w5.setCells b6 0 (vals8 f9) = wz at *; have LN2 : Hid (Loc wz b6 80 (vals8 f9)) := by with_reducible exact LN)
                | (generalize w6.setCells b6 0 (vals8 f9) = wz at *; have LN2 : Hid (Loc wz b6 80 (vals8 f9)) := by with_reducible exact LN)
              refine hK.out _ _ ?_ (fun hH7 => ?_)
              · (try dsimp only); (first | assumption | exact KS.out _ (Below.refl w9.heap.size w9).drew)
              clear hK K hH6
              try simp only [Act.put]
              refine wpAnyH_take (i := 21) (v := ?_) (by simp only [List.getElem?_toArray, List.getElem?_cons_zero, List.getElem?_cons_succ]; rfl) (by kernel_rfl) (by kernel_rfl) (by kernel_rfl) (fun _ _ _ h => h) (Or.inl ⟨by rfl, ?_⟩) (by assumption) ?_
              rotate_left
              · intro w hSw; (try dsimp only at hSw); go_simp; (try with_reducible rfl)
              try simp only [Act.put, List.setIfInBounds_toArray, List.set_cons_zero, List.set_cons_succ]
              refine wpAnyH_done (by kernel_rfl) ?_ _
              refine NoPanic.normal ?_
              exact HJ b6 wz ⟨(‹Below _ w9 wz ∧ _›).1, LN2.out⟩
            refine AllReadyH.cons (by simp only [List.getElem?_toArray, List.getElem?_cons_zero, List.getElem?_cons_succ]; rfl) (fun K hK => ?_) AllReadyH.nil
            go_simp
            have hS := (‹Below _ w9 _ ∧ _›).1
            first
              | (have LZ : Hid (Loc (w5.alloc (.cells #[.bool false, .string ⟨#[]⟩, .bool false, .string ⟨#[]⟩, .bool false, .string ⟨#[]⟩, .bool false, .string ⟨#[]⟩, .bool false, .string ⟨#[]⟩, .bool false, .string ⟨#[]⟩, .bool false, .string ⟨#[]⟩, .bool false, .string ⟨#[]⟩] 80)) w5.heap.size 80 (vals8 fun _ => Val.zero)) := hid (Loc.new w5 80 (vals8 fun _ => Val.zero)); have HBN := hid hS.size; have hS' := KS.out (w5.alloc (.cells #[.bool false, .string ⟨#[]⟩, .bool false, .string ⟨#[]⟩, .bool false, .string ⟨#[]⟩, .bool false, .string ⟨#[]⟩, .bool false, .string ⟨#[]⟩, .bool false, .string ⟨#[]⟩, .bool false, .string ⟨#[]⟩, .bool false, .string ⟨#[]⟩] 80)) (hS.alloc hS.size _); clear hS; generalize w5.alloc (.cells #[.bool false, .string ⟨#[]⟩, .bool false, .string ⟨#[]⟩, .bool false, .string ⟨#[]⟩, .bool false, .string ⟨#[]⟩, .bool false, .string ⟨#[]⟩, .bool false, .string ⟨#[]⟩, .bool false, .string ⟨#[]⟩, .bool false, .string ⟨#[]⟩] 80) = w6 at *; generalize w5.heap.size = b6 at *)
              | (have LZ : Hid (Loc (w9.alloc (.cells #[.bool false, .string ⟨#[]⟩, .bool false, .string ⟨#[]⟩, .bool false, .string ⟨#[]⟩, .bool false, .string ⟨#[]⟩, .bool false, .string ⟨#[]⟩, .bool false, .string ⟨#[]⟩, .bool false, .string ⟨#[]⟩, .bool false, .string ⟨#[]⟩] 80)).drew w9.heap.size 80 (vals8 fun _ => Val.zero)) := hid (Loc.new w9 80 (vals8 fun _ => Val.zero)); have HBN := hid (Nat.le_refl w9.heap.size); have hS' := KS.out (w9.alloc (.cells #[.bool false, .string ⟨#[]⟩, .bool false, .string ⟨#[]⟩, .bool false, .string ⟨#[]⟩, .bool false, .string ⟨#[]⟩, .bool false, .string ⟨#[]⟩, .bool false, .string ⟨#[]⟩, .bool false, .string ⟨#[]⟩, .bool false, .string ⟨#[]⟩] 80)).drew (((Below.refl w9.heap.size w9).alloc (Nat.le_refl _) _).drew); clear hS; generalize (w9.alloc (.cells #[.bool false, .string ⟨#[]⟩, .bool false, .string ⟨#[]⟩, .bool false, .string ⟨#[]⟩, .bool false, .string ⟨#[]⟩, .bool false, .string ⟨#[]⟩, .bool false, .string ⟨#[]⟩, .bool false, .string ⟨#[]⟩, .bool false, .string ⟨#[]⟩] 80)).drew = w6 at *; generalize hb6 : w9.heap.size = b6 at *; have HB6 := hid hb6; clear hb6)
            try go_wp2_with fail
            refine hK.out _ _ ?_ (fun hH8 => ?_)
            · (try dsimp only); (first | assumption | exact KS.out _ (Below.refl w9.heap.size w9).drew)
            clear hK K hH0
            try simp only [Act.put, List.setIfInBounds_toArray, List.set_cons_zero, List.set_cons_succ]
            refine wpAnyH_ready (rs := [14]) (by kernel_rfl) (by simp) ?_
            refine AllReadyH.cons (by simp only [List.getElem?_toArray, List.getElem?_cons_zero, List.getElem?_cons_succ]; rfl) (fun K hK => ?_) AllReadyH.nil
            go_simp
            go_at_call 45
            have hS := (‹Below _ w9 _ ∧ _›).1
            (with_reducible refine (LA.out _ hS).mono ?_)
            rintro e w' ⟨rfl, rfl⟩
            clear hS
            try go_wp2_with fail
            refine hK.out _ _ ?_ (fun hH9 => ?_)
            · (try dsimp only); (first | assumption | exact KS.out _ (Below.refl w9.heap.size w9).drew)
            clear hK K hH8
            try simp only [Act.put, List.setIfInBounds_toArray, List.set_cons_zero, List.set_cons_succ]
            refine wpAnyH_ready (rs := [15]) (by kernel_rfl) (by simp) ?_
            refine AllReadyH.cons (by simp only [List.getElem?_toArray, List.getElem?_cons_zero, List.getElem?_cons_succ]; rfl) (fun K hK => ?_) AllReadyH.nil
            go_simp
            go_at_call 48
            have hS := (‹Below _ w9 _ ∧ _›).1
            (with_reducible refine (SH.out _ hS).mono ?_)
            rintro e w5 ⟨rfl, hb5⟩
            have hS' := KS.out _ (hS.trans (hb5.mono (by first | exact hS.size | (have h1 := hS.size; have h2 := HB6.out; omega))))
            try (have hLZ := LZ.out.keep hb5; clear LZ; have LZ := hid hLZ; clear hLZ)
            clear hb5 hS
            try go_wp2_with fail
            refine hK.out _ _ ?_ (fun hH10 => ?_)
            · (try dsimp only); (first | assumption | exact KS.out _ (Below.refl w9.heap.size w9).drew)
            clear hK K hH9
            try simp only [Act.put, List.setIfInBounds_toArray, List.set_cons_zero, List.set_cons_succ]
            refine wpAnyH_take (i := 16) (v := ?_) (by simp only [List.getElem?_toArray, List.getElem?_cons_zero, List.getElem?_cons_succ]; rfl) (by kernel_rfl) (by kernel_rfl) (by kernel_rfl) (fun _ _ _ h => h) (Or.inl ⟨by rfl, ?_⟩) (by assumption) ?_
            rotate_left
            · intro w hSw; (try dsimp only at hSw); go_simp; (try with_reducible rfl)
            try simp only [Act.put, List.setIfInBounds_toArray, List.set_cons_zero, List.set_cons_succ]
            refine wpAnyH_take (i := 17) (v := ?_) (by simp only [List.getElem?_toArray, List.getElem?_cons_zero, List.getElem?_cons_succ]; rfl) (by kernel_rfl) (by kernel_rfl) (by kernel_rfl) (fun _ _ _ h => h) (Or.inl ⟨by rfl, ?_⟩) (by assumption) ?_
            rotate_left
            · intro w hSw; (try dsimp only at hSw); go_simp; (try with_reducible rfl)
            try simp only [Act.put, List.setIfInBounds_toArray, List.set_cons_zero, List.set_cons_succ]
            refine wpAnyH_take (i := 18) (v := ?_) (by simp only [List.getElem?_toArray, List.getElem?_cons_zero, List.getElem?_cons_succ]; rfl) (by kernel_rfl) (by kernel_rfl) (by kernel_rfl) (fun _ _ _ h => h) (Or.inl ⟨by rfl, ?_⟩) (by assumption) ?_
            rotate_left
            · intro w hSw; (try dsimp only at hSw); go_simp; (try with_reducible rfl)
            try simp only [Act.put, List.setIfInBounds_toArray, List.set_cons_zero, List.set_cons_succ]
            refine wpAnyH_ready (rs := [20]) (by kernel_rfl) (by simp) ?_
            refine AllReadyH.cons (by simp only [List.getElem?_toArray, List.getElem?_cons_zero, List.getElem?_cons_succ]; rfl) (fun K hK => ?_) AllReadyH.nil
            have hS := (‹Below _ w9 _ ∧ _›).1
            refine wp_store_mid 80 _ _ rfl _ 0 (vals8 f9).toArray rfl rfl (LZ.out.there8 f9) Try.infoWorld (vals8_one f9) ?_
            have hS' := KS.out _ (Below.setCells' HBN.out (vals8 f9) 0 hS)
            have LN := hid (LZ.out.setAll (vs := vals8 f9) rfl)
            clear hS
            first
              | (generalize w5.setCells b6 0 (vals8 f9) = wz at *; have LN2 : Hid (Loc wz b6 80 (vals8 f9)) := by with_reducible exact LN)
              | (generalize w6.setCells b6 0 (vals8 f9) = wz at *; have LN2 : Hid (Loc wz b6 80 (vals8 f9)) := by with_reducible exact LN)
            refine hK.out _ _ ?_ (fun hH11 => ?_)
            · (try dsimp only); (first | assumption | exact KS.out _ (Below.refl w9.heap.size w9).drew)
            clear hK K hH10
            try simp only [Act.put]
            refine wpAnyH_take (i := 21) (v := ?_) (by simp only [List.getElem?_toArray, List.getElem?_cons_zero, List.getElem?_cons_succ]; rfl) (by kernel_rfl) (by kernel_rfl) (by kernel_rfl) (fun _ _ _ h => h) (Or.inl ⟨by rfl, ?_⟩) (by assumption) ?_
            rotate_left
            · intro w hSw; (try dsimp only at hSw); go_simp; (try with_reducible rfl)
            try simp only [Act.put, List.setIfInBounds_toArray, List.set_cons_zero, List.set_cons_succ]
            refine wpAnyH_done (by kernel_rfl) ?_ _
            refine NoPanic.normal ?_
            exact HJ b6 wz ⟨(‹Below _ w9 wz ∧ _›).1, LN2.out⟩
            -- END 29a3
          · skip
            obtain ⟨hb, hL⟩ := hS
            have AN := hid (A9.out.below hb)
            have BN := hid (B9.out.below' hb)
            have LN := hid (L9.out.below hb)
            have MN := hid hL
            clear hb hL A9 B9 L9 KS LA SH r0 r1
            go_wp2_with (first
              | refine wpList_load_vals rfl (.tmp 4) rfl bw rfl f9 LN.out.1 ?_
              | refine wpList_load_vals rfl (.tmp 9) rfl bn rfl f9 MN.out ?_
              | refine wpList_ne_vals rfl (.tmp 115) (.tmp 116) _ rfl f9 rfl rfl ?_)
            go_roundw
            case rel => exact ⟨k + 1, g9, H9, by omega, by go_num, AN, BN, hid (by rw [HF9.out]; exact LN.out), HN9⟩
            case measure => simp [intOf]; omega
      have q3 : (x.kind != 3) = true := by simpa using h3
      have p3 : (x.kind == 3) = false := by simpa using h3
      by_cases h4 : x.kind = 4
      · have q4 : (x.kind != 4) = false := by simpa using h4
        have HMM := hid (show (1 : Int) + (k : Int) % 2 = 1 ∨ (1 : Int) + (k : Int) % 2 = 2 by omega)
        have AB := hid (alone_begin H4.out.ok.2 (HN.out 0) HMM.out)
        have HOK := hid H4.out.ok
        have ONE := hid (oneW HOK.out.1 HOK.out.2 HMM.out x.key Val.zero)
        have HSN := hid (show ∀ s, upd H.seats 0 none s = none from fun s => by unfold upd; split; rfl; exact HN.out s)
        have AP := hid (alone_drop (H := ⟨H.v, upd H.seats 0 (some (Ded.new (1 + (k : Int) % 2) H.v.tab.last))⟩) (D := Ded.new (1 + (k : Int) % 2) H.v.tab.last) (by exact upd_same H.seats 0 _) (x := x) h4)
        simp only [upd_upd, Evt.of] at AP AB
        clear h8 h4
        go_wp2_with fail
        refine (hall_Do g4 1 h H ⟨1, 0, 1 + (k : Int) % 2, 0, 0, 0, 0, ⟨#[]⟩⟩ w4 (show (ByteArray.mk #[]).size ≤ maxLen by decide) H4.out).mono ?_
        rw [show (⟨1, 0, 1 + (k : Int) % 2, 0, 0, 0, 0, ⟨#[]⟩⟩ : St) = sBegin (1 + (k : Int) % 2) from rfl, AB.out]
        rintro e w5 ⟨a5, c5', g5, rfl, hH5, hE5, -, -⟩
        have hfd5 := fun w => run_field_code 0 0 Val.zero.there Val.zero.bytes (.slice a5 0 c5') w
        have H5 := hid hH5
        have B5 := hid (B4.out.step hE5 (by omega))
        have W5 := hid (W4.out.frame hE5 (by omega))
        have L5 := hid (L4.out.frame hE5 (by omega))
        clear hH5 hE5 c0 c1 c2 c3 c4 c5 c6 c7 H4 B4 W4 L4 AB
        generalize Ded.new (1 + (k : Int) % 2) H.v.tab.last = D0 at *
        obtain ⟨c0, c1, c2, c3, c4, c5, c6, c7⟩ : w5.cell? ⟨b6, 0, none⟩ = some (.int .i64 x.kind) ∧ w5.cell? ⟨b6, 1, none⟩ = some (.int .i64 0) ∧ w5.cell? ⟨b6, 2, none⟩ = some (.int .i64 x.mode) ∧ w5.cell? ⟨b6, 3, none⟩ = some (.int .i64 x.at_) ∧ w5.cell? ⟨b6, 4, none⟩ = some (.int .i64 x.key) ∧ w5.cell? ⟨b6, 5, none⟩ = some (.int .i64 x.to_) ∧ w5.cell? ⟨b6, 6, none⟩ = some (.int .i64 x.keep) ∧ w5.cell? ⟨b6, 7, none⟩ = some (.string x.bytes) := ⟨L5.out.1.cell 0, L5.out.1.cell 1, L5.out.1.cell 2, L5.out.1.cell 3, L5.out.1.cell 4, L5.out.1.cell 5, L5.out.1.cell 6, L5.out.1.cell 7⟩
        go_wp2_with fail
        refine (hall_Do g5 1 h _ ⟨x.kind, 0, x.mode, x.at_, x.key, x.to_, x.keep, x.bytes⟩ w5 hxm H5.out).mono ?_
        rw [show (⟨x.kind, 0, x.mode, x.at_, x.key, x.to_, x.keep, x.bytes⟩ : St) = sOf x from rfl, AP.out]
        rintro e w6 ⟨a6, c6', g6, rfl, hH6, hE6, -, -⟩
        have AC := hid (alone_commit (H := ⟨H.v, upd H.seats 0 (some (putD D0 x.key Val.zero).2)⟩) (D := (putD D0 x.key Val.zero).2) (by exact upd_same H.seats 0 _))
        simp only [upd_upd, Evt.of] at AC
        generalize putD D0 x.key Val.zero = z at *
        obtain ⟨zc, zD⟩ := z
        simp only at ONE AC
        have hfd6 := fun w => run_field_code zc 0 Val.zero.there Val.zero.bytes (.slice a6 0 c6') w
        have H6 := hid hH6
        have B6 := hid (B5.out.step hE6 (by omega))
        have W6 := hid (W5.out.frame hE6 (by omega))
        have L6 := hid (L5.out.frame hE6 (by omega))
        clear hH6 hE6 c0 c1 c2 c3 c4 c5 c6 c7 H5 B5 W5 L5 AP hfd5
        by_cases hcode : zc = 0
        · have qz : (zc == 0) = true := by simpa using hcode
          have HCODE := hid hcode
          clear hcode
          go_wp2_with fail
          refine (hall_Do g6 1 h _ ⟨6, 0, 0, 0, 0, 0, 0, ⟨#[]⟩⟩ w6 (show (ByteArray.mk #[]).size ≤ maxLen by decide) H6.out).mono ?_
          rw [show (⟨6, 0, 0, 0, 0, 0, 0, ⟨#[]⟩⟩ : St) = sCommit from rfl, AC.out]
          rintro e w7 ⟨a7, c7', g7, rfl, hH7, hE7, -, -⟩
          have H7 := hid hH7
          have B7 := hid (B6.out.step hE7 (by omega))
          have W7 := hid (W6.out.frame hE7 (by omega))
          have L7 := hid (L6.out.frame hE7 (by omega))
          clear hH7 hE7 H6 B6 W6 L6 AC hfd6
          generalize commitV H.v zD = y at *
          obtain ⟨⟨yn, yc⟩, V7⟩ := y
          go_upto_region 19 with (fail)
          have hA8 := Evo.alloc g7 44 w7 (.cells #[.int .i64 yc, .int .i64 yn, .bool Val.zero.there, .string Val.zero.bytes, .slice a7 0 c7'] 103)
          have E8 : Hid (LocC (w7.alloc (.cells #[.int .i64 yc, .int .i64 yn, .bool Val.zero.there, .string Val.zero.bytes, .slice a7 0 c7'] 103)) (extc g7 w7 44) 44 w7.heap.size 103 [.int .i64 yc, .int .i64 yn, .bool Val.zero.there, .string Val.zero.bytes, .slice a7 0 c7']) := hid (LocC.new g7 44 w7 103 [.int .i64 yc, .int .i64 yn, .bool Val.zero.there, .string Val.zero.bytes, .slice a7 0 c7'])
          have H8 := hid (H7.out.frame hA8 (by omega))
          have B8 := hid (B7.out.step hA8 (by omega))
          have W8 := hid (W7.out.frame hA8 (by omega))
          have L8 := hid (L7.out.frame hA8 (by omega))
          clear hA8 H7 B7 W7 L7
          generalize w7.alloc (.cells #[.int .i64 yc, .int .i64 yn, .bool Val.zero.there, .string Val.zero.bytes, .slice a7 0 c7'] 103) = w8 at *
          generalize extc g7 w7 44 = g8 at *
          generalize w7.heap.size = b8 at *
          have e0 : w8.cell? ⟨b8, 0, none⟩ = some (.int .i64 yc) := E8.out.1.cell 0
          have e1 : w8.cell? ⟨b8, 1, none⟩ = some (.int .i64 yn) := E8.out.1.cell 1
          obtain ⟨nk, hnk, hkey, hres⟩ := ONE.out.yes HCODE.out
          have HKEY := hid hkey
          clear hkey ONE
          rcases hres with h9 | ⟨hz1, hz2, hz3⟩
          · have hq9 : (yc == 9) = true := by simpa using h9
            clear h9 H8 W8 L8 E8
            go_wp2
            go_ret
            exact ⟨rfl, B1.out.trans (B8.out.below.mono B1.out.size)⟩
          · obtain ⟨rfl, rfl⟩ := Prod.mk.inj hz1
            have HZ2 := hid hz2
            have HZ3 := hid hz3
            have hpos : (0 : Int) < (H.v.tab.last : Int) + 1 := by omega
            clear hz1 hz2 hz3
            generalize sheetT H.v.tab (H.v.tab.last : Int) = f at *
            have hlt6 := L8.out.1.lt
            have hltw := W8.out.1.lt
            have hne : b6 ≠ bw := fun e => by have e1 := L8.out.2; have e2 := W8.out.2; rw [e, e2] at e1; omega
            obtain ⟨c0, c1, c2, c3, c4, c5, c6, c7⟩ : w8.cell? ⟨b6, 0, none⟩ = some (.int .i64 x.kind) ∧ w8.cell? ⟨b6, 1, none⟩ = some (.int .i64 0) ∧ w8.cell? ⟨b6, 2, none⟩ = some (.int .i64 x.mode) ∧ w8.cell? ⟨b6, 3, none⟩ = some (.int .i64 x.at_) ∧ w8.cell? ⟨b6, 4, none⟩ = some (.int .i64 x.key) ∧ w8.cell? ⟨b6, 5, none⟩ = some (.int .i64 x.to_) ∧ w8.cell? ⟨b6, 6, none⟩ = some (.int .i64 x.keep) ∧ w8.cell? ⟨b6, 7, none⟩ = some (.string x.bytes) := ⟨L8.out.1.cell 0, L8.out.1.cell 1, L8.out.1.cell 2, L8.out.1.cell 3, L8.out.1.cell 4, L8.out.1.cell 5, L8.out.1.cell 6, L8.out.1.cell 7⟩
            rw [HKEY.out] at c4
            have IK := hid (ref_IsKey_in (nk : Int) w8 (by omega))
            have hk0' : (0 : Int) ≤ (nk : Int) := by omega
            have hk8' : (nk : Int) < 8 := by omega
            obtain ⟨v0, v1⟩ := vals8_get f nk hnk
            have d0 := (W8.out.1.cell (nk * 2)).trans v0
            have d1 := (W8.out.1.cell (nk * 2 + 1)).trans v1
            have fr0 := W8.out.1.free (nk * 2)
            have fr1 := W8.out.1.free (nk * 2 + 1)
            clear v0 v1
            go_wp2_with fail
            refine IK.out.mono ?_
            rintro e w' ⟨rfl, rfl⟩
            go_upto_region 27 with (fail)
            have E9 : Evo 41 (41 + 1) g8 g8 w8 ((w8.setCell ⟨bw, nk * 2, none⟩ (.bool false)).setCell ⟨bw, nk * 2 + 1, none⟩ (.string ⟨#[]⟩)) := (evo_store _ W8.out.2).trans (evo_store _ W8.out.2)
            have W9 : Hid (LocC ((w8.setCell ⟨bw, nk * 2, none⟩ (.bool false)).setCell ⟨bw, nk * 2 + 1, none⟩ (.string ⟨#[]⟩)) g8 41 bw 80 (vals8 (upd f nk Val.zero))) := hid ⟨W8.out.1.set2 hnk Val.zero, W8.out.2⟩
            have H9 := hid (H8.out.frame E9 (by omega))
            have B9 := hid (B8.out.step E9 (by omega))
            have L9 := hid (L8.out.frame E9 (by omega))
            generalize (w8.setCell ⟨bw, nk * 2, none⟩ (.bool false)).setCell ⟨bw, nk * 2 + 1, none⟩ (.string ⟨#[]⟩) = w9 at *
            clear E9 W8 H8 B8 L8 c0 c1 c2 c3 c4 c5 c6 c7 d0 d1 fr0 fr1 e0 e1 E8 IK hlt6 hltw hpos
            obtain ⟨k0, -⟩ : w9.cell? ⟨b6, 0, none⟩ = some (.int .i64 x.kind) ∧ True := ⟨L9.out.1.cell 0, trivial⟩
            have HH9 := hid H9.out
            go_wp2_with fail
            clear k0 L9 H9 hne
            have L9 := hid W9.out
            clear W9
            generalize hf9 : upd f nk Val.zero = f9 at *
            have HF0 := hid hf9
            clear hf9
            obtain ⟨H9, hh9⟩ : ∃ H9 : Ht, H9 = ⟨V7, upd H.seats 0 none⟩ := ⟨_, rfl⟩
            have HN9 : Hid (∀ s, H9.seats s = none) := hid (by rw [hh9]; exact HSN.out)
            have HF9 : Hid (sheetT H9.v.tab (H9.v.tab.last : Int) = f9) := hid (by rw [hh9, ← HZ3.out]; show sheetT V7.tab ((V7.tab.last : Nat) : Int) = _; rw [HZ2.out]; rfl)
            have A9 : Hid (HallAt w9 g8 1 h H9) := hid (by rw [hh9]; exact HH9.out)
            clear hh9 HH9 HSN HZ2 HZ3 HF0
            generalize g8 = g9 at *
            have hok9 := A9.out.ok
            obtain ⟨vp9, ds9, hC9⟩ := A9.out
            obtain ⟨r0, t9, tb9, hV9⟩ := hC9.top
            have r1 := hV9.cells.1
            have LA := hid (fun W (hb : Below w9.heap.size w9 W) => table_Last g9 (1 + 1 + 1) t9 H9.v.tab W (hV9.2.2.1.below hb))
            have SH := hid (fun W (hb : Below w9.heap.size w9 W) => (by
              have P := law_sheet g9 (1 + 1 + 1) t9 H9.v.tab W (H9.v.tab.last : Int) (hV9.2.2.1.below hb)
              rw [codesT_top hok9.2, HF9.out] at P
              exact P : Calls Try.prog 48 #[.pointer (some ⟨t9, 0, none⟩), .int .i64 (H9.v.tab.last : Int)] W (SheetPost f9 true W)))
            have KS := hid (fun W (hb : Below w9.heap.size w9 W) => (⟨hb, (hC9.below hb).top.1, (hV9.below hb).cells.1⟩ : Below w9.heap.size w9 W ∧ W.cell? ⟨h, 0, none⟩ = some (.pointer (some ⟨vp9, 0, none⟩)) ∧ W.cell? ⟨vp9, 0, none⟩ = some (.pointer (some ⟨t9, 0, none⟩))))
            clear hC9 hV9 hok9
            refine' join2 (fun (b : Nat) W => Below w9.heap.size w9 W ∧ Loc W b 80 (vals8 f9)) _ (fun HJ => ?_) (fun bn wn hS => ?_)
            rotate_left
            · skip
              -- REGION 29b4
              refine wp_region_noPanic ?_
              refine wp_region_held_drew (S := (fun W' : World => Below w9.heap.size w9 W' ∧ W'.cell? ⟨h, 0, none⟩ = some (.pointer (some ⟨vp9, 0, none⟩)) ∧ W'.cell? ⟨vp9, 0, none⟩ = some (.pointer (some ⟨t9, 0, none⟩)))) (by kernel_rfl) ?_ (fun hH0 => ?_)
              · (try dsimp only); (first | assumption | exact KS.out _ (Below.refl w9.heap.size w9).drew)
              refine wpAnyH_take (i := 0) (v := ?_) (by simp only [List.getElem?_toArray, List.getElem?_cons_zero]; rfl) (by kernel_rfl) (by kernel_rfl) (by kernel_rfl) (fun _ _ _ h => h) (Or.inl ⟨by rfl, ?_⟩) (by assumption) ?_
              rotate_left
              · intro w hSw; (try dsimp only at hSw); go_simp; (try with_reducible rfl)
              try simp only [Act.put, List.setIfInBounds_toArray, List.set_cons_zero, List.set_cons_succ]
              refine wpAnyH_take (i := 1) (v := ?_) (by simp only [List.getElem?_toArray, List.getElem?_cons_zero, List.getElem?_cons_succ]; rfl) (by kernel_rfl) (by kernel_rfl) (by kernel_rfl) (fun _ _ _ h => h) (Or.inl ⟨by rfl, ?_⟩) (by assumption) ?_
              rotate_left
              · intro w hSw; (try dsimp only at hSw); go_simp; (try with_reducible rfl)
              try simp only [Act.put, List.setIfInBounds_toArray, List.set_cons_zero, List.set_cons_succ]
              refine wpAnyH_take (i := 2) (v := ?_) (by simp only [List.getElem?_toArray, List.getElem?_cons_zero, List.getElem?_cons_succ]; rfl) (by kernel_rfl) (by kernel_rfl) (by kernel_rfl) (fun _ _ _ h => h) (Or.inl ⟨by rfl, ?_⟩) (by assumption) ?_
              rotate_left
              · intro w hSw; (try dsimp only at hSw); go_simp; (try with_reducible rfl)
              try simp only [Act.put, List.setIfInBounds_toArray, List.set_cons_zero, List.set_cons_succ]
              refine wpAnyH_take (i := 3) (v := ?_) (by simp only [List.getElem?_toArray, List.getElem?_cons_zero, List.getElem?_cons_succ]; rfl) (by kernel_rfl) (by kernel_rfl) (by kernel_rfl) (fun _ _ _ h => h) (Or.inl ⟨by rfl, ?_⟩) (by assumption) ?_
              rotate_left
              · intro w hSw; (try dsimp only at hSw); go_simp; (try with_reducible rfl)
              try simp only [Act.put, List.setIfInBounds_toArray, List.set_cons_zero, List.set_cons_succ]
              refine wpAnyH_take (i := 4) (v := ?_) (by simp only [List.getElem?_toArray, List.getElem?_cons_zero, List.getElem?_cons_succ]; rfl) (by kernel_rfl) (by kernel_rfl) (by kernel_rfl) (fun _ _ _ h => h) (Or.inl ⟨by rfl, ?_⟩) (by assumption) ?_
              rotate_left
              · intro w hSw; (try dsimp only at hSw); go_simp; (try with_reducible rfl)
              try simp only [Act.put, List.setIfInBounds_toArray, List.set_cons_zero, List.set_cons_succ]
              refine wpAnyH_take (i := 5) (v := ?_) (by simp only [List.getElem?_toArray, List.getElem?_cons_zero, List.getElem?_cons_succ]; rfl) (by kernel_rfl) (by kernel_rfl) (by kernel_rfl) (fun _ _ _ h => h) (Or.inl ⟨by rfl, ?_⟩) (by assumption) ?_
              rotate_left
              · intro w hSw; (try dsimp only at hSw); go_simp; (try with_reducible rfl)
              try simp only [Act.put, List.setIfInBounds_toArray, List.set_cons_zero, List.set_cons_succ]
              refine wpAnyH_take (i := 6) (v := ?_) (by simp only [List.getElem?_toArray, List.getElem?_cons_zero, List.getElem?_cons_succ]; rfl) (by kernel_rfl) (by kernel_rfl) (by kernel_rfl) (fun _ _ _ h => h) (Or.inl ⟨by rfl, ?_⟩) (by assumption) ?_
              rotate_left
              · intro w hSw; (try dsimp only at hSw); go_simp; (try with_reducible rfl)
              try simp only [Act.put, List.setIfInBounds_toArray, List.set_cons_zero, List.set_cons_succ]
              refine wpAnyH_take (i := 7) (v := ?_) (by simp only [List.getElem?_toArray, List.getElem?_cons_zero, List.getElem?_cons_succ]; rfl) (by kernel_rfl) (by kernel_rfl) (by kernel_rfl) (fun _ _ _ h => h) (Or.inl ⟨by rfl, ?_⟩) (by assumption) ?_
              rotate_left
              · intro w hSw; (try dsimp only at hSw); go_simp; (try with_reducible rfl)
              try simp only [Act.put, List.setIfInBounds_toArray, List.set_cons_zero, List.set_cons_succ]
              refine wpAnyH_take (i := 8) (v := ?_) (by simp only [List.getElem?_toArray, List.getElem?_cons_zero, List.getElem?_cons_succ]; rfl) (by kernel_rfl) (by kernel_rfl) (by kernel_rfl) (fun _ _ _ h => h) (Or.inl ⟨by rfl, ?_⟩) (by assumption) ?_
              rotate_left
              · intro w hSw; (try dsimp only at hSw); go_simp; (try with_reducible rfl)
              try simp only [Act.put, List.setIfInBounds_toArray, List.set_cons_zero, List.set_cons_succ]
              refine wpAnyH_take (i := 9) (v := ?_) (by simp only [List.getElem?_toArray, List.getElem?_cons_zero, List.getElem?_cons_succ]; rfl) (by kernel_rfl) (by kernel_rfl) (by kernel_rfl) (fun _ _ _ h => h) (Or.inl ⟨by rfl, ?_⟩) (by assumption) ?_
              rotate_left
              · intro w hSw; (try dsimp only at hSw); go_simp; (try with_reducible rfl)
              try simp only [Act.put, List.setIfInBounds_toArray, List.set_cons_zero, List.set_cons_succ]
              refine wpAnyH_take (i := 10) (v := ?_) (by simp only [List.getElem?_toArray, List.getElem?_cons_zero, List.getElem?_cons_succ]; rfl) (by kernel_rfl) (by kernel_rfl) (by kernel_rfl) (fun _ _ _ h => h) (Or.inl ⟨by rfl, ?_⟩) (by assumption) ?_
              rotate_left
              · intro w hSw; (try dsimp only at hSw); go_simp; (try with_reducible rfl)
              try simp only [Act.put, List.setIfInBounds_toArray, List.set_cons_zero, List.set_cons_succ]
              refine wpAnyH_take (i := 11) (v := ?_) (by simp only [List.getElem?_toArray, List.getElem?_cons_zero, List.getElem?_cons_succ]; rfl) (by kernel_rfl) (by kernel_rfl) (by kernel_rfl) (fun _ _ _ h => h) (Or.inl ⟨by rfl, ?_⟩) (by assumption) ?_
              rotate_left
              · intro w hSw; (try dsimp only at hSw); go_simp; (try with_reducible rfl)
              try simp only [Act.put, List.setIfInBounds_toArray, List.set_cons_zero, List.set_cons_succ]
              refine wpAnyH_take (i := 12) (v := ?_) (by simp only [List.getElem?_toArray, List.getElem?_cons_zero, List.getElem?_cons_succ]; rfl) (by kernel_rfl) (by kernel_rfl) (by kernel_rfl) (fun _ _ _ h => h) (Or.inl ⟨by rfl, ?_⟩) (by assumption) ?_
              rotate_left
              · intro w hSw; (try dsimp only at hSw); go_simp; (try with_reducible rfl)
              try simp only [Act.put, List.setIfInBounds_toArray, List.set_cons_zero, List.set_cons_succ]
              refine wpAnyH_take (i := 13) (v := ?_) (by simp only [List.getElem?_toArray, List.getElem?_cons_zero, List.getElem?_cons_succ]; rfl) (by kernel_rfl) (by kernel_rfl) (by kernel_rfl) (fun _ _ _ h => h) (Or.inl ⟨by rfl, ?_⟩) (by assumption) ?_
              rotate_left
              · intro w hSw; (try dsimp only at hSw); go_simp; (try with_reducible rfl)
              try simp only [Act.put, List.setIfInBounds_toArray, List.set_cons_zero, List.set_cons_succ]
              refine wpAnyH_ready (rs := [14, 19]) (by kernel_rfl) (by simp) ?_
              refine AllReadyH.cons (by simp only [List.getElem?_toArray, List.getElem?_cons_zero, List.getElem?_cons_succ]; rfl) (fun K hK => ?_) ?_
              · skip
                go_simp
                go_at_call 45
                have hS := (‹Below _ w9 _ ∧ _›).1
                (with_reducible refine (LA.out _ hS).mono ?_)
                rintro e w' ⟨rfl, rfl⟩
                clear hS
                try go_wp2_with fail
                refine hK.out _ _ ?_ (fun hH1 => ?_)
                · (try dsimp only); (first | assumption | exact KS.out _ (Below.refl w9.heap.size w9).drew)
                clear hK K hH0
                try simp only [Act.put, List.setIfInBounds_toArray, List.set_cons_zero, List.set_cons_succ]
                refine wpAnyH_ready (rs := [15, 19]) (by kernel_rfl) (by simp) ?_
                refine AllReadyH.cons (by simp only [List.getElem?_toArray, List.getElem?_cons_zero, List.getElem?_cons_succ]; rfl) (fun K hK => ?_) ?_
                · skip
                  go_simp
                  go_at_call 48
                  have hS := (‹Below _ w9 _ ∧ _›).1
                  (with_reducible refine (SH.out _ hS).mono ?_)
                  rintro e w5 ⟨rfl, hb5⟩
                  have hS' := KS.out _ (hS.trans (hb5.mono (by first | exact hS.size | (have h1 := hS.size; have h2 := HB6.out; omega))))
                  try (have hLZ := LZ.out.keep hb5; clear LZ; have LZ := hid hLZ; clear hLZ)
                  clear hb5 hS
                  try go_wp2_with fail
                  refine hK.out _ _ ?_ (fun hH2 => ?_)
                  · (try dsimp only); (first | assumption | exact KS.out _ (Below.refl w9.heap.size w9).drew)
                  clear hK K hH1
                  try simp only [Act.put, List.setIfInBounds_toArray, List.set_cons_zero, List.set_cons_succ]
                  refine wpAnyH_take (i := 16) (v := ?_) (by simp only [List.getElem?_toArray, List.getElem?_cons_zero, List.getElem?_cons_succ]; rfl) (by kernel_rfl) (by kernel_rfl) (by kernel_rfl) (fun _ _ _ h => h) (Or.inl ⟨by rfl, ?_⟩) (by assumption) ?_
                  rotate_left
                  · intro w hSw; (try dsimp only at hSw); go_simp; (try with_reducible rfl)
                  try simp only [Act.put, List.setIfInBounds_toArray, List.set_cons_zero, List.set_cons_succ]
                  refine wpAnyH_take (i := 17) (v := ?_) (by simp only [List.getElem?_toArray, List.getElem?_cons_zero, List.getElem?_cons_succ]; rfl) (by kernel_rfl) (by kernel_rfl) (by kernel_rfl) (fun _ _ _ h => h) (Or.inl ⟨by rfl, ?_⟩) (by assumption) ?_
                  rotate_left
                  · intro w hSw; (try dsimp only at hSw); go_simp; (try with_reducible rfl)
                  try simp only [Act.put, List.setIfInBounds_toArray, List.set_cons_zero, List.set_cons_succ]
                  refine wpAnyH_take (i := 18) (v := ?_) (by simp only [List.getElem?_toArray, List.getElem?_cons_zero, List.getElem?_cons_succ]; rfl) (by kernel_rfl) (by kernel_rfl) (by kernel_rfl) (fun _ _ _ h => h) (Or.inl ⟨by rfl, ?_⟩) (by assumption) ?_
                  rotate_left
                  · intro w hSw; (try dsimp only at hSw); go_simp; (try with_reducible rfl)
                  try simp only [Act.put, List.setIfInBounds_toArray, List.set_cons_zero, List.set_cons_succ]
                  refine wpAnyH_ready (rs := [19]) (by kernel_rfl) (by simp) ?_
                  refine AllReadyH.cons (by simp only [List.getElem?_toArray, List.getElem?_cons_zero, List.getElem?_cons_succ]; rfl) (fun K hK => ?_) AllReadyH.nil
                  go_simp
                  have hS := (‹Below _ w9 _ ∧ _›).1
                  first
                    | (have LZ : Hid (Loc (w5.alloc (.cells #[.bool false, .string ⟨#[]⟩, .bool false, .string ⟨#[]⟩, .bool false, .string ⟨#[]⟩, .bool false, .string ⟨#[]⟩, .bool false, .string ⟨#[]⟩, .bool false, .string ⟨#[]⟩, .bool false, .string ⟨#[]⟩, .bool false, .string ⟨#[]⟩] 80)) w5.heap.size 80 (vals8 fun _ => Val.zero)) := hid (Loc.new w5 80 (vals8 fun _ => Val.zero)); have HBN := hid hS.size; have hS' := KS.out (w5.alloc (.cells #[.bool false, .string ⟨#[]⟩, .bool false, .string ⟨#[]⟩, .bool false, .string ⟨#[]⟩, .bool false, .string ⟨#[]⟩, .bool false, .string ⟨#[]⟩, .bool false, .string ⟨#[]⟩, .bool false, .string ⟨#[]⟩, .bool false, .string ⟨#[]⟩] 80)) (hS.alloc hS.size _); clear hS; generalize w5.alloc (.cells #[.bool false, .string ⟨#[]⟩, .bool false, .string ⟨#[]⟩, .bool false, .string ⟨#[]⟩, .bool false, .string ⟨#[]⟩, .bool false, .string ⟨#[]⟩, .bool false, .string ⟨#[]⟩, .bool false, .string ⟨#[]⟩, .bool false, .string ⟨#[]⟩] 80) = w6 at *; generalize w5.heap.size = b6 at *)
                    | (have LZ : Hid (Loc (w9.alloc (.cells #[.bool false, .string ⟨#[]⟩, .bool false, .string ⟨#[]⟩, .bool false, .string ⟨#[]⟩, .bool false, .string ⟨#[]⟩, .bool false, .string ⟨#[]⟩, .bool false, .string ⟨#[]⟩, .bool false, .string ⟨#[]⟩, .bool false, .string ⟨#[]⟩] 80)).drew w9.heap.size 80 (vals8 fun _ => Val.zero)) := hid (Loc.new w9 80 (vals8 fun _ => Val.zero)); have HBN := hid (Nat.le_refl w9.heap.size); have hS' := KS.out (w9.alloc (.cells #[.bool false, .string ⟨#[]⟩, .bool false, .string ⟨#[]⟩, .bool false, .string ⟨#[]⟩, .bool false, .string ⟨#[]⟩, .bool false, .string ⟨#[]⟩, .bool false, .string ⟨#[]⟩, .bool false, .string ⟨#[]⟩, .bool false, .string ⟨#[]⟩] 80)).drew (((Below.refl w9.heap.size w9).alloc (Nat.le_refl _) _).drew); clear hS; generalize (w9.alloc (.cells #[.bool false, .string ⟨#[]⟩, .bool false, .string ⟨#[]⟩, .bool false, .string ⟨#[]⟩, .bool false, .string ⟨#[]⟩, .bool false, .string ⟨#[]⟩, .bool false, .string ⟨#[]⟩, .bool false, .string ⟨#[]⟩, .bool false, .string ⟨#[]⟩] 80)).drew = w6 at *; generalize hb6 : w9.heap.size = b6 at *; have HB6 := hid hb6; clear hb6)
                  try go_wp2_with fail
                  refine hK.out _ _ ?_ (fun hH3 => ?_)
                  · (try dsimp only); (first | assumption | exact KS.out _ (Below.refl w9.heap.size w9).drew)
                  clear hK K hH2
                  try simp only [Act.put, List.setIfInBounds_toArray, List.set_cons_zero, List.set_cons_succ]
                  refine wpAnyH_ready (rs := [20]) (by kernel_rfl) (by simp) ?_
                  refine AllReadyH.cons (by simp only [List.getElem?_toArray, List.getElem?_cons_zero, List.getElem?_cons_succ]; rfl) (fun K hK => ?_) AllReadyH.nil
                  have hS := (‹Below _ w9 _ ∧ _›).1
                  refine wp_store_mid 80 _ _ rfl _ 0 (vals8 f9).toArray rfl rfl (LZ.out.there8 f9) Try.infoWorld (vals8_one f9) ?_
                  have hS' := KS.out _ (Below.setCells' HBN.out (vals8 f9) 0 hS)
                  have LN := hid (LZ.out.setAll (vs := vals8 f9) rfl)
                  clear hS
                  first
                    | (generalize w5.setCells b6 0 (vals8 f9) = wz at *; have LN2 : Hid (Loc wz b6 80 (vals8 f9)) := by with_reducible exact LN)
                    | (generalize w6.setCells b6 0 (vals8 f9) = wz at *; have LN2 : Hid (Loc wz b6 80 (vals8 f9)) := by with_reducible exact LN)
                  refine hK.out _ _ ?_ (fun hH4 => ?_)
                  · (try dsimp only); (first | assumption | exact KS.out _ (Below.refl w9.heap.size w9).drew)
                  clear hK K hH3
                  try simp only [Act.put]
                  refine wpAnyH_take (i := 21) (v := ?_) (by simp only [List.getElem?_toArray, List.getElem?_cons_zero, List.getElem?_cons_succ]; rfl) (by kernel_rfl) (by kernel_rfl) (by kernel_rfl) (fun _ _ _ h => h) (Or.inl ⟨by rfl, ?_⟩) (by assumption) ?_
                  rotate_left
                  · intro w hSw; (try dsimp only at hSw); go_simp; (try with_reducible rfl)
                  try simp only [Act.put, List.setIfInBounds_toArray, List.set_cons_zero, List.set_cons_succ]
                  refine wpAnyH_done (by kernel_rfl) ?_ _
                  refine NoPanic.normal ?_
                  exact HJ b6 wz ⟨(‹Below _ w9 wz ∧ _›).1, LN2.out⟩
                refine AllReadyH.cons (by simp only [List.getElem?_toArray, List.getElem?_cons_zero, List.getElem?_cons_succ]; rfl) (fun K hK => ?_) AllReadyH.nil
                go_simp
                have hS := (‹Below _ w9 _ ∧ _›).1
                first
                  | (have LZ : Hid (Loc (w5.alloc (.cells #[.bool false, .string ⟨#[]⟩, .bool false, .string ⟨#[]⟩, .bool false, .string ⟨#[]⟩, .bool false, .string ⟨#[]⟩, .bool false, .string ⟨#[]⟩, .bool false, .string ⟨#[]⟩, .bool false, .string ⟨#[]⟩, .bool false, .string ⟨#[]⟩] 80)) w5.heap.size 80 (vals8 fun _ => Val.zero)) := hid (Loc.new w5 80 (vals8 fun _ => Val.zero)); have HBN := hid hS.size; have hS' := KS.out (w5.alloc (.cells #[.bool false, .string ⟨#[]⟩, .bool false, .string ⟨#[]⟩, .bool false, .string ⟨#[]⟩, .bool false, .string ⟨#[]⟩, .bool false, .string ⟨#[]⟩, .bool false, .string ⟨#[]⟩, .bool false, .string ⟨#[]⟩, .bool false, .string ⟨#[]⟩] 80)) (hS.alloc hS.size _); clear hS; generalize w5.alloc (.cells #[.bool false, .string ⟨#[]⟩, .bool false, .string ⟨#[]⟩, .bool false, .string ⟨#[]⟩, .bool false, .string ⟨#[]⟩, .bool false, .string ⟨#[]⟩, .bool false, .string ⟨#[]⟩, .bool false, .string ⟨#[]⟩, .bool false, .string ⟨#[]⟩] 80) = w6 at *; generalize w5.heap.size = b6 at *)
                  | (have LZ : Hid (Loc (w9.alloc (.cells #[.bool false, .string ⟨#[]⟩, .bool false, .string ⟨#[]⟩, .bool false, .string ⟨#[]⟩, .bool false, .string ⟨#[]⟩, .bool false, .string ⟨#[]⟩, .bool false, .string ⟨#[]⟩, .bool false, .string ⟨#[]⟩, .bool false, .string ⟨#[]⟩] 80)).drew w9.heap.size 80 (vals8 fun _ => Val.zero)) := hid (Loc.new w9 80 (vals8 fun _ => Val.zero)); have HBN := hid (Nat.le_refl w9.heap.size); have hS' := KS.out (w9.alloc (.cells #[.bool false, .string ⟨#[]⟩, .bool false, .string ⟨#[]⟩, .bool false, .string ⟨#[]⟩, .bool false, .string ⟨#[]⟩, .bool false, .string ⟨#[]⟩, .bool false, .string ⟨#[]⟩, .bool false, .string ⟨#[]⟩, .bool false, .string ⟨#[]⟩] 80)).drew (((Below.refl w9.heap.size w9).alloc (Nat.le_refl _) _).drew); clear hS; generalize (w9.alloc (.cells #[.bool false, .string ⟨#[]⟩, .bool false, .string ⟨#[]⟩, .bool false, .string ⟨#[]⟩, .bool false, .string ⟨#[]⟩, .bool false, .string ⟨#[]⟩, .bool false, .string ⟨#[]⟩, .bool false, .string ⟨#[]⟩, .bool false, .string ⟨#[]⟩] 80)).drew = w6 at *; generalize hb6 : w9.heap.size = b6 at *; have HB6 := hid hb6; clear hb6)
                try go_wp2_with fail
                refine hK.out _ _ ?_ (fun hH5 => ?_)
                · (try dsimp only); (first | assumption | exact KS.out _ (Below.refl w9.heap.size w9).drew)
                clear hK K hH1
                try simp only [Act.put, List.setIfInBounds_toArray, List.set_cons_zero, List.set_cons_succ]
                refine wpAnyH_ready (rs := [15]) (by kernel_rfl) (by simp) ?_
                refine AllReadyH.cons (by simp only [List.getElem?_toArray, List.getElem?_cons_zero, List.getElem?_cons_succ]; rfl) (fun K hK => ?_) AllReadyH.nil
                go_simp
                go_at_call 48
                have hS := (‹Below _ w9 _ ∧ _›).1
                (with_reducible refine (SH.out _ hS).mono ?_)
                rintro e w5 ⟨rfl, hb5⟩
                have hS' := KS.out _ (hS.trans (hb5.mono (by first | exact hS.size | (have h1 := hS.size; have h2 := HB6.out; omega))))
                try (have hLZ := LZ.out.keep hb5; clear LZ; have LZ := hid hLZ; clear hLZ)
                clear hb5 hS
                try go_wp2_with fail
                refine hK.out _ _ ?_ (fun hH6 => ?_)
                · (try dsimp only); (first | assumption | exact KS.out _ (Below.refl w9.heap.size w9).drew)
                clear hK K hH5
                try simp only [Act.put, List.setIfInBounds_toArray, List.set_cons_zero, List.set_cons_succ]
                refine wpAnyH_take (i := 16) (v := ?_) (by simp only [List.getElem?_toArray, List.getElem?_cons_zero, List.getElem?_cons_succ]; rfl) (by kernel_rfl) (by kernel_rfl) (by kernel_rfl) (fun _ _ _ h => h) (Or.inl ⟨by rfl, ?_⟩) (by assumption) ?_
                rotate_left
                · intro w hSw; (try dsimp only at hSw); go_simp; (try with_reducible rfl)
                try simp only [Act.put, List.setIfInBounds_toArray, List.set_cons_zero, List.set_cons_succ]
                refine wpAnyH_take (i := 17) (v := ?_) (by simp only [List.getElem?_toArray, List.getElem?_cons_zero, List.getElem?_cons_succ]; rfl) (by kernel_rfl) (by kernel_rfl) (by kernel_rfl) (fun _ _ _ h => h) (Or.inl ⟨by rfl, ?_⟩) (by assumption) ?_
                rotate_left
                · intro w hSw; (try dsimp only at hSw); go_simp; (try with_reducible rfl)
                try simp only [Act.put, List.setIfInBounds_toArray, List.set_cons_zero, List.set_cons_succ]
                refine wpAnyH_take (i := 18) (v := ?_) (by simp only [List.getElem?_toArray, List.getElem?_cons_zero, List.getElem?_cons_succ]; rfl) (by kernel_rfl) (by kernel_rfl) (by kernel_rfl) (fun _ _ _ h => h) (Or.inl ⟨by rfl, ?_⟩) (by assumption) ?_
                rotate_left
                · intro w hSw; (try dsimp only at hSw); go_simp; (try with_reducible rfl)
                try simp only [Act.put, List.setIfInBounds_toArray, List.set_cons_zero, List.set_cons_succ]
                refine wpAnyH_ready (rs := [20]) (by kernel_rfl) (by simp) ?_
                refine AllReadyH.cons (by simp only [List.getElem?_toArray, List.getElem?_cons_zero, List.getElem?_cons_succ]; rfl) (fun K hK => ?_) AllReadyH.nil
                have hS := (‹Below _ w9 _ ∧ _›).1
                refine wp_store_mid 80 _ _ rfl _ 0 (vals8 f9).toArray rfl rfl (LZ.out.there8 f9) Try.infoWorld (vals8_one f9) ?_
                have hS' := KS.out _ (Below.setCells' HBN.out (vals8 f9) 0 hS)
                have LN := hid (LZ.out.setAll (vs := vals8 f9) rfl)
                clear hS
                first
                  | (generalize w5.setCells b6 0 (vals8 f9) = wz at *; have LN2 : Hid (Loc wz b6 80 (vals8 f9)) := by with_reducible exact LN)
                  | (generalize w6.setCells b6 0 (vals8 f9) = wz at *; have LN2 : Hid (Loc wz b6 80 (vals8 f9)) := by with_reducible exact LN)
                refine hK.out _ _ ?_ (fun hH7 => ?_)
                · (try dsimp only); (first | assumption | exact KS.out _ (Below.refl w9.heap.size w9).drew)
                clear hK K hH6
                try simp only [Act.put]
                refine wpAnyH_take (i := 21) (v := ?_) (by simp only [List.getElem?_toArray, List.getElem?_cons_zero, List.getElem?_cons_succ]; rfl) (by kernel_rfl) (by kernel_rfl) (by kernel_rfl) (fun _ _ _ h => h) (Or.inl ⟨by rfl, ?_⟩) (by assumption) ?_
                rotate_left
                · intro w hSw; (try dsimp only at hSw); go_simp; (try with_reducible rfl)
                try simp only [Act.put, List.setIfInBounds_toArray, List.set_cons_zero, List.set_cons_succ]
                refine wpAnyH_done (by kernel_rfl) ?_ _
                refine NoPanic.normal ?_
                exact HJ b6 wz ⟨(‹Below _ w9 wz ∧ _›).1, LN2.out⟩
              refine AllReadyH.cons (by simp only [List.getElem?_toArray, List.getElem?_cons_zero, List.getElem?_cons_succ]; rfl) (fun K hK => ?_) AllReadyH.nil
              go_simp
              have hS := (‹Below _ w9 _ ∧ _›).1
              first
                | (have LZ : Hid (Loc (w5.alloc (.cells #[.bool false, .string ⟨#[]⟩, .bool false, .string ⟨#[]⟩, .bool false, .string ⟨#[]⟩, .bool false, .string ⟨#[]⟩, .bool false, .string ⟨#[]⟩, .bool false, .string ⟨#[]⟩, .bool false, .string ⟨#[]⟩, .bool false, .string ⟨#[]⟩] 80)) w5.heap.size 80 (vals8 fun _ => Val.zero)) := hid (Loc.new w5 80 (vals8 fun _ => Val.zero)); have HBN := hid hS.size; have hS' := KS.out (w5.alloc (.cells #[.bool false, .string ⟨#[]⟩, .bool false, .string ⟨#[]⟩, .bool false, .string ⟨#[]⟩, .bool false, .string ⟨#[]⟩, .bool false, .string ⟨#[]⟩, .bool false, .string ⟨#[]⟩, .bool false, .string ⟨#[]⟩, .bool false, .string ⟨#[]⟩] 80)) (hS.alloc hS.size _); clear hS; generalize w5.alloc (.cells #[.bool false, .string ⟨#[]⟩, .bool false, .string ⟨#[]⟩, .bool false, .string ⟨#[]⟩, .bool false, .string ⟨#[]⟩, .bool false, .string ⟨#[]⟩, .bool false, .string ⟨#[]⟩, .bool false, .string ⟨#[]⟩, .bool false, .string ⟨#[]⟩] 80) = w6 at *; generalize w5.heap.size = b6 at *)
                | (have LZ : Hid (Loc (w9.alloc (.cells #[.bool false, .string ⟨#[]⟩, .bool false, .string ⟨#[]⟩, .bool false, .string ⟨#[]⟩, .bool false, .string ⟨#[]⟩, .bool false, .string ⟨#[]⟩, .bool false, .string ⟨#[]⟩, .bool false, .string ⟨#[]⟩, .bool false, .string ⟨#[]⟩] 80)).drew w9.heap.size 80 (vals8 fun _ => Val.zero)) := hid (Loc.new w9 80 (vals8 fun _ => Val.zero)); have HBN := hid (Nat.le_refl w9.heap.size); have hS' := KS.out (w9.alloc (.cells #[.bool false, .string ⟨#[]⟩, .bool false, .string ⟨#[]⟩, .bool false, .string ⟨#[]⟩, .bool false, .string ⟨#[]⟩, .bool false, .string ⟨#[]⟩, .bool false, .string ⟨#[]⟩, .bool false, .string ⟨#[]⟩, .bool false, .string ⟨#[]⟩] 80)).drew (((Below.refl w9.heap.size w9).alloc (Nat.le_refl _) _).drew); clear hS; generalize (w9.alloc (.cells #[.bool false, .string ⟨#[]⟩, .bool false, .string ⟨#[]⟩, .bool false, .string ⟨#[]⟩, .bool false, .string ⟨#[]⟩, .bool false, .string ⟨#[]⟩, .bool false, .string ⟨#[]⟩, .bool false, .string ⟨#[]⟩, .bool false, .string ⟨#[]⟩] 80)).drew = w6 at *; generalize hb6 : w9.heap.size = b6 at *; have HB6 := hid hb6; clear hb6)
              try go_wp2_with fail
              refine hK.out _ _ ?_ (fun hH8 => ?_)
              · (try dsimp only); (first | assumption | exact KS.out _ (Below.refl w9.heap.size w9).drew)
              clear hK K hH0
              try simp only [Act.put, List.setIfInBounds_toArray, List.set_cons_zero, List.set_cons_succ]
              refine wpAnyH_ready (rs := [14]) (by kernel_rfl) (by simp) ?_
              refine AllReadyH.cons (by simp only [List.getElem?_toArray, List.getElem?_cons_zero, List.getElem?_cons_succ]; rfl) (fun K hK => ?_) AllReadyH.nil
              go_simp
              go_at_call 45
              have hS := (‹Below _ w9 _ ∧ _›).1
              (with_reducible refine (LA.out _ hS).mono ?_)
              rintro e w' ⟨rfl, rfl⟩
              clear hS
              try go_wp2_with fail
              refine hK.out _ _ ?_ (fun hH9 => ?_)
              · (try dsimp only); (first | assumption | exact KS.out _ (Below.refl w9.heap.size w9).drew)
              clear hK K hH8
              try simp only [Act.put, List.setIfInBounds_toArray, List.set_cons_zero, List.set_cons_succ]
              refine wpAnyH_ready (rs := [15]) (by kernel_rfl) (by simp) ?_
              refine AllReadyH.cons (by simp only [List.getElem?_toArray, List.getElem?_cons_zero, List.getElem?_cons_succ]; rfl) (fun K hK => ?_) AllReadyH.nil
              go_simp
              go_at_call 48
              have hS := (‹Below _ w9 _ ∧ _›).1
              (with_reducible refine (SH.out _ hS).mono ?_)
              rintro e w5 ⟨rfl, hb5⟩
              have hS' := KS.out _ (hS.trans (hb5.mono (by first | exact hS.size | (have h1 := hS.size; have h2 := HB6.out; omega))))
              try (have hLZ := LZ.out.keep hb5; clear LZ; have LZ := hid hLZ; clear hLZ)
              clear hb5 hS
              try go_wp2_with fail
              refine hK.out _ _ ?_ (fun hH10 => ?_)
              · (try dsimp only); (first | assumption | exact KS.out _ (Below.refl w9.heap.size w9).drew)
              clear hK K hH9
              try simp only [Act.put, List.setIfInBounds_toArray, List.set_cons_zero, List.set_cons_succ]
              refine wpAnyH_take (i := 16) (v := ?_) (by simp only [List.getElem?_toArray, List.getElem?_cons_zero, List.getElem?_cons_succ]; rfl) (by kernel_rfl) (by kernel_rfl) (by kernel_rfl) (fun _ _ _ h => h) (Or.inl ⟨by rfl, ?_⟩) (by assumption) ?_
              rotate_left
              · intro w hSw; (try dsimp only at hSw); go_simp; (try with_reducible rfl)
              try simp only [Act.put, List.setIfInBounds_toArray, List.set_cons_zero, List.set_cons_succ]
              refine wpAnyH_take (i := 17) (v := ?_) (by simp only [List.getElem?_toArray, List.getElem?_cons_zero, List.getElem?_cons_succ]; rfl) (by kernel_rfl) (by kernel_rfl) (by kernel_rfl) (fun _ _ _ h => h) (Or.inl ⟨by rfl, ?_⟩) (by assumption) ?_
              rotate_left
              · intro w hSw; (try dsimp only at hSw); go_simp; (try with_reducible rfl)
              try simp only [Act.put, List.setIfInBounds_toArray, List.set_cons_zero, List.set_cons_succ]
              refine wpAnyH_take (i := 18) (v := ?_) (by simp only [List.getElem?_toArray, List.getElem?_cons_zero, List.getElem?_cons_succ]; rfl) (by kernel_rfl) (by kernel_rfl) (by kernel_rfl) (fun _ _ _ h => h) (Or.inl ⟨by rfl, ?_⟩) (by assumption) ?_
              rotate_left
              · intro w hSw; (try dsimp only at hSw); go_simp; (try with_reducible rfl)
              try simp only [Act.put, List.setIfInBounds_toArray, List.set_cons_zero, List.set_cons_succ]
              refine wpAnyH_ready (rs := [20]) (by kernel_rfl) (by simp) ?_
              refine AllReadyH.cons (by simp only [List.getElem?_toArray, List.getElem?_cons_zero, List.getElem?_cons_succ]; rfl) (fun K hK => ?_) AllReadyH.nil
              have hS := (‹Below _ w9 _ ∧ _›).1
              refine wp_store_mid 80 _ _ rfl _ 0 (vals8 f9).toArray rfl rfl (LZ.out.there8 f9) Try.infoWorld (vals8_one f9) ?_
              have hS' := KS.out _ (Below.setCells' HBN.out (vals8 f9) 0 hS)
              have LN := hid (LZ.out.setAll (vs := vals8 f9) rfl)
              clear hS
              first
                | (generalize w5.setCells b6 0 (vals8 f9) = wz at *; have LN2 : Hid (Loc wz b6 80 (vals8 f9)) := by with_reducible exact LN)
                | (generalize w6.setCells b6 0 (vals8 f9) = wz at *; have LN2 : Hid (Loc wz b6 80 (vals8 f9)) := by with_reducible exact LN)
              refine hK.out _ _ ?_ (fun hH11 => ?_)
              · (try dsimp only); (first | assumption | exact KS.out _ (Below.refl w9.heap.size w9).drew)
              clear hK K hH10
              try simp only [Act.put]
              refine wpAnyH_take (i := 21) (v := ?_) (by simp only [List.getElem?_toArray, List.getElem?_cons_zero, List.getElem?_cons_succ]; rfl) (by kernel_rfl) (by kernel_rfl) (by kernel_rfl) (fun _ _ _ h => h) (Or.inl ⟨by rfl, ?_⟩) (by assumption) ?_
              rotate_left
              · intro w hSw; (try dsimp only at hSw); go_simp; (try with_reducible rfl)
              try simp only [Act.put, List.setIfInBounds_toArray, List.set_cons_zero, List.set_cons_succ]
              refine wpAnyH_done (by kernel_rfl) ?_ _
              refine NoPanic.normal ?_
              exact HJ b6 wz ⟨(‹Below _ w9 wz ∧ _›).1, LN2.out⟩
              -- END 29b4
            · skip
              obtain ⟨hb, hL⟩ := hS
              have AN := hid (A9.out.below hb)
              have BN := hid (B9.out.below' hb)
              have LN := hid (L9.out.below hb)
              have MN := hid hL
              clear hb hL A9 B9 L9 KS LA SH r0 r1
              go_wp2_with (first
                | refine wpList_load_vals rfl (.tmp 4) rfl bw rfl f9 LN.out.1 ?_
                | refine wpList_load_vals rfl (.tmp 9) rfl bn rfl f9 MN.out ?_
                | refine wpList_ne_vals rfl (.tmp 115) (.tmp 116) _ rfl f9 rfl rfl ?_)
              go_roundw
              case rel => exact ⟨k + 1, g9, H9, by omega, by go_num, AN, BN, hid (by rw [HF9.out]; exact LN.out), HN9⟩
              case measure => simp [intOf]; omega
        · have qz : (zc == 0) = false := by simpa using hcode
          have YN := hid (ONE.out.no hcode)
          clear hcode ONE
          go_wp2_with fail
          refine (hall_Do g6 1 h _ ⟨6, 0, 0, 0, 0, 0, 0, ⟨#[]⟩⟩ w6 (show (ByteArray.mk #[]).size ≤ maxLen by decide) H6.out).mono ?_
          rw [show (⟨6, 0, 0, 0, 0, 0, 0, ⟨#[]⟩⟩ : St) = sCommit from rfl, AC.out]
          rintro e w7 ⟨a7, c7', g7, rfl, hH7, hE7, -, -⟩
          have H7 := hid hH7
          have B7 := hid (B6.out.step hE7 (by omega))
          have W7 := hid (W6.out.frame hE7 (by omega))
          have L7 := hid (L6.out.frame hE7 (by omega))
          clear hH7 hE7 H6 B6 W6 L6 AC hfd6
          generalize commitV H.v zD = y at *
          obtain ⟨⟨yn, yc⟩, V7⟩ := y
          go_upto_region 19 with (fail)
          have hA8 := Evo.alloc g7 44 w7 (.cells #[.int .i64 yc, .int .i64 yn, .bool Val.zero.there, .string Val.zero.bytes, .slice a7 0 c7'] 103)
          have E8 : Hid (LocC (w7.alloc (.cells #[.int .i64 yc, .int .i64 yn, .bool Val.zero.there, .string Val.zero.bytes, .slice a7 0 c7'] 103)) (extc g7 w7 44) 44 w7.heap.size 103 [.int .i64 yc, .int .i64 yn, .bool Val.zero.there, .string Val.zero.bytes, .slice a7 0 c7']) := hid (LocC.new g7 44 w7 103 [.int .i64 yc, .int .i64 yn, .bool Val.zero.there, .string Val.zero.bytes, .slice a7 0 c7'])
          have H8 := hid (H7.out.frame hA8 (by omega))
          have B8 := hid (B7.out.step hA8 (by omega))
          have W8 := hid (W7.out.frame hA8 (by omega))
          have L8 := hid (L7.out.frame hA8 (by omega))
          clear hA8 H7 B7 W7 L7
          generalize w7.alloc (.cells #[.int .i64 yc, .int .i64 yn, .bool Val.zero.there, .string Val.zero.bytes, .slice a7 0 c7'] 103) = w8 at *
          generalize extc g7 w7 44 = g8 at *
          generalize w7.heap.size = b8 at *
          have e0 : w8.cell? ⟨b8, 0, none⟩ = some (.int .i64 yc) := E8.out.1.cell 0
          have e1 : w8.cell? ⟨b8, 1, none⟩ = some (.int .i64 yn) := E8.out.1.cell 1
          obtain ⟨hy, rfl⟩ := Prod.mk.inj YN.out
          obtain ⟨rfl, rfl⟩ := Prod.mk.inj hy
          clear hy YN
          generalize hf9 : sheetT H.v.tab (H.v.tab.last : Int) = f9 at *
          have HF9 := hid hf9
          clear hf9
          obtain ⟨H9, hh9⟩ : ∃ H9 : Ht, H9 = ⟨H.v, upd H.seats 0 none⟩ := ⟨_, rfl⟩
          have HN9 : Hid (∀ s, H9.seats s = none) := hid (by rw [hh9]; exact HSN.out)
          have HF9' : Hid (sheetT H9.v.tab (H9.v.tab.last : Int) = f9) := hid (by rw [hh9]; exact HF9.out)
          have A9 : Hid (HallAt w8 g8 1 h H9) := hid (by rw [hh9]; exact H8.out)
          clear hh9 H8 HF9 HSN
          have HF9 := hid HF9'.out
          clear HF9'
          have B9 := hid B8.out
          have L9 := hid W8.out
          clear B8 W8
          go_wp2_with fail
          clear e0 e1 L8 E8
          generalize w8 = w9 at *
          generalize g8 = g9 at *
          have hok9 := A9.out.ok
          obtain ⟨vp9, ds9, hC9⟩ := A9.out
          obtain ⟨r0, t9, tb9, hV9⟩ := hC9.top
          have r1 := hV9.cells.1
          have LA := hid (fun W (hb : Below w9.heap.size w9 W) => table_Last g9 (1 + 1 + 1) t9 H9.v.tab W (hV9.2.2.1.below hb))
          have SH := hid (fun W (hb : Below w9.heap.size w9 W) => (by
            have P := law_sheet g9 (1 + 1 + 1) t9 H9.v.tab W (H9.v.tab.last : Int) (hV9.2.2.1.below hb)
            rw [codesT_top hok9.2, HF9.out] at P
            exact P : Calls Try.prog 48 #[.pointer (some ⟨t9, 0, none⟩), .int .i64 (H9.v.tab.last : Int)] W (SheetPost f9 true W)))
          have KS := hid (fun W (hb : Below w9.heap.size w9 W) => (⟨hb, (hC9.below hb).top.1, (hV9.below hb).cells.1⟩ : Below w9.heap.size w9 W ∧ W.cell? ⟨h, 0, none⟩ = some (.pointer (some ⟨vp9, 0, none⟩)) ∧ W.cell? ⟨vp9, 0, none⟩ = some (.pointer (some ⟨t9, 0, none⟩))))
          clear hC9 hV9 hok9
          go_wp2_with fail
          refine' join2 (fun (b : Nat) W => Below w9.heap.size w9 W ∧ Loc W b 80 (vals8 f9)) _ (fun HJ => ?_) (fun bn wn hS => ?_)
          rotate_left
          · skip
            -- REGION 29a4
            refine wp_region_noPanic ?_
            refine wp_region_held_drew (S := (fun W' : World => Below w9.heap.size w9 W' ∧ W'.cell? ⟨h, 0, none⟩ = some (.pointer (some ⟨vp9, 0, none⟩)) ∧ W'.cell? ⟨vp9, 0, none⟩ = some (.pointer (some ⟨t9, 0, none⟩)))) (by kernel_rfl) ?_ (fun hH0 => ?_)
            · (try dsimp only); (first | assumption | exact KS.out _ (Below.refl w9.heap.size w9).drew)
            refine wpAnyH_take (i := 0) (v := ?_) (by simp only [List.getElem?_toArray, List.getElem?_cons_zero]; rfl) (by kernel_rfl) (by kernel_rfl) (by kernel_rfl) (fun _ _ _ h => h) (Or.inl ⟨by rfl, ?_⟩) (by assumption) ?_
            rotate_left
            · intro w hSw; (try dsimp only at hSw); go_simp; (try with_reducible rfl)
            try simp only [Act.put, List.setIfInBounds_toArray, List.set_cons_zero, List.set_cons_succ]
            refine wpAnyH_take (i := 1) (v := ?_) (by simp only [List.getElem?_toArray, List.getElem?_cons_zero, List.getElem?_cons_succ]; rfl) (by kernel_rfl) (by kernel_rfl) (by kernel_rfl) (fun _ _ _ h => h) (Or.inl ⟨by rfl, ?_⟩) (by assumption) ?_
            rotate_left
            · intro w hSw; (try dsimp only at hSw); go_simp; (try with_reducible rfl)
            try simp only [Act.put, List.setIfInBounds_toArray, List.set_cons_zero, List.set_cons_succ]
            refine wpAnyH_take (i := 2) (v := ?_) (by simp only [List.getElem?_toArray, List.getElem?_cons_zero, List.getElem?_cons_succ]; rfl) (by kernel_rfl) (by kernel_rfl) (by kernel_rfl) (fun _ _ _ h => h) (Or.inl ⟨by rfl, ?_⟩) (by assumption) ?_
            rotate_left
            · intro w hSw; (try dsimp only at hSw); go_simp; (try with_reducible rfl)
            try simp only [Act.put, List.setIfInBounds_toArray, List.set_cons_zero, List.set_cons_succ]
            refine wpAnyH_take (i := 3) (v := ?_) (by simp only [List.getElem?_toArray, List.getElem?_cons_zero, List.getElem?_cons_succ]; rfl) (by kernel_rfl) (by kernel_rfl) (by kernel_rfl) (fun _ _ _ h => h) (Or.inl ⟨by rfl, ?_⟩) (by assumption) ?_
            rotate_left
            · intro w hSw; (try dsimp only at hSw); go_simp; (try with_reducible rfl)
            try simp only [Act.put, List.setIfInBounds_toArray, List.set_cons_zero, List.set_cons_succ]
            refine wpAnyH_take (i := 4) (v := ?_) (by simp only [List.getElem?_toArray, List.getElem?_cons_zero, List.getElem?_cons_succ]; rfl) (by kernel_rfl) (by kernel_rfl) (by kernel_rfl) (fun _ _ _ h => h) (Or.inl ⟨by rfl, ?_⟩) (by assumption) ?_
            rotate_left
            · intro w hSw; (try dsimp only at hSw); go_simp; (try with_reducible rfl)
            try simp only [Act.put, List.setIfInBounds_toArray, List.set_cons_zero, List.set_cons_succ]
            refine wpAnyH_take (i := 5) (v := ?_) (by simp only [List.getElem?_toArray, List.getElem?_cons_zero, List.getElem?_cons_succ]; rfl) (by kernel_rfl) (by kernel_rfl) (by kernel_rfl) (fun _ _ _ h => h) (Or.inl ⟨by rfl, ?_⟩) (by assumption) ?_
            rotate_left
            · intro w hSw; (try dsimp only at hSw); go_simp; (try with_reducible rfl)
            try simp only [Act.put, List.setIfInBounds_toArray, List.set_cons_zero, List.set_cons_succ]
            refine wpAnyH_take (i := 6) (v := ?_) (by simp only [List.getElem?_toArray, List.getElem?_cons_zero, List.getElem?_cons_succ]; rfl) (by kernel_rfl) (by kernel_rfl) (by kernel_rfl) (fun _ _ _ h => h) (Or.inl ⟨by rfl, ?_⟩) (by assumption) ?_
            rotate_left
            · intro w hSw; (try dsimp only at hSw); go_simp; (try with_reducible rfl)
            try simp only [Act.put, List.setIfInBounds_toArray, List.set_cons_zero, List.set_cons_succ]
            refine wpAnyH_take (i := 7) (v := ?_) (by simp only [List.getElem?_toArray, List.getElem?_cons_zero, List.getElem?_cons_succ]; rfl) (by kernel_rfl) (by kernel_rfl) (by kernel_rfl) (fun _ _ _ h => h) (Or.inl ⟨by rfl, ?_⟩) (by assumption) ?_
            rotate_left
            · intro w hSw; (try dsimp only at hSw); go_simp; (try with_reducible rfl)
            try simp only [Act.put, List.setIfInBounds_toArray, List.set_cons_zero, List.set_cons_succ]
            refine wpAnyH_take (i := 8) (v := ?_) (by simp only [List.getElem?_toArray, List.getElem?_cons_zero, List.getElem?_cons_succ]; rfl) (by kernel_rfl) (by kernel_rfl) (by kernel_rfl) (fun _ _ _ h => h) (Or.inl ⟨by rfl, ?_⟩) (by assumption) ?_
            rotate_left
            · intro w hSw; (try dsimp only at hSw); go_simp; (try with_reducible rfl)
            try simp only [Act.put, List.setIfInBounds_toArray, List.set_cons_zero, List.set_cons_succ]
            refine wpAnyH_take (i := 9) (v := ?_) (by simp only [List.getElem?_toArray, List.getElem?_cons_zero, List.getElem?_cons_succ]; rfl) (by kernel_rfl) (by kernel_rfl) (by kernel_rfl) (fun _ _ _ h => h) (Or.inl ⟨by rfl, ?_⟩) (by assumption) ?_
            rotate_left
            · intro w hSw; (try dsimp only at hSw); go_simp; (try with_reducible rfl)
            try simp only [Act.put, List.setIfInBounds_toArray, List.set_cons_zero, List.set_cons_succ]
            refine wpAnyH_take (i := 10) (v := ?_) (by simp only [List.getElem?_toArray, List.getElem?_cons_zero, List.getElem?_cons_succ]; rfl) (by kernel_rfl) (by kernel_rfl) (by kernel_rfl) (fun _ _ _ h => h) (Or.inl ⟨by rfl, ?_⟩) (by assumption) ?_
            rotate_left
            · intro w hSw; (try dsimp only at hSw); go_simp; (try with_reducible rfl)
            try simp only [Act.put, List.setIfInBounds_toArray, List.set_cons_zero, List.set_cons_succ]
            refine wpAnyH_take (i := 11) (v := ?_) (by simp only [List.getElem?_toArray, List.getElem?_cons_zero, List.getElem?_cons_succ]; rfl) (by kernel_rfl) (by kernel_rfl) (by kernel_rfl) (fun _ _ _ h => h) (Or.inl ⟨by rfl, ?_⟩) (by assumption) ?_
            rotate_left
            · intro w hSw; (try dsimp only at hSw); go_simp; (try with_reducible rfl)
            try simp only [Act.put, List.setIfInBounds_toArray, List.set_cons_zero, List.set_cons_succ]
            refine wpAnyH_take (i := 12) (v := ?_) (by simp only [List.getElem?_toArray, List.getElem?_cons_zero, List.getElem?_cons_succ]; rfl) (by kernel_rfl) (by kernel_rfl) (by kernel_rfl) (fun _ _ _ h => h) (Or.inl ⟨by rfl, ?_⟩) (by assumption) ?_
            rotate_left
            · intro w hSw; (try dsimp only at hSw); go_simp; (try with_reducible rfl)
            try simp only [Act.put, List.setIfInBounds_toArray, List.set_cons_zero, List.set_cons_succ]
            refine wpAnyH_take (i := 13) (v := ?_) (by simp only [List.getElem?_toArray, List.getElem?_cons_zero, List.getElem?_cons_succ]; rfl) (by kernel_rfl) (by kernel_rfl) (by kernel_rfl) (fun _ _ _ h => h) (Or.inl ⟨by rfl, ?_⟩) (by assumption) ?_
            rotate_left
            · intro w hSw; (try dsimp only at hSw); go_simp; (try with_reducible rfl)
            try simp only [Act.put, List.setIfInBounds_toArray, List.set_cons_zero, List.set_cons_succ]
            refine wpAnyH_ready (rs := [14, 19]) (by kernel_rfl) (by simp) ?_
            refine AllReadyH.cons (by simp only [List.getElem?_toArray, List.getElem?_cons_zero, List.getElem?_cons_succ]; rfl) (fun K hK => ?_) ?_
            · skip
              go_simp
              go_at_call 45
              have hS := (‹Below _ w9 _ ∧ _›).1
              (with_reducible refine (LA.out _ hS).mono ?_)
              rintro e w' ⟨rfl, rfl⟩
              clear hS
              try go_wp2_with fail
              refine hK.out _ _ ?_ (fun hH1 => ?_)
              · (try dsimp only); (first | assumption | exact KS.out _ (Below.refl w9.heap.size w9).drew)
              clear hK K hH0
              try simp only [Act.put, List.setIfInBounds_toArray, List.set_cons_zero, List.set_cons_succ]
              refine wpAnyH_ready (rs := [15, 19]) (by kernel_rfl) (by simp) ?_
              refine AllReadyH.cons (by simp only [List.getElem?_toArray, List.getElem?_cons_zero, List.getElem?_cons_succ]; rfl) (fun K hK => ?_) ?_
              · skip
                go_simp
                go_at_call 48
                have hS := (‹Below _ w9 _ ∧ _›).1
                (with_reducible refine (SH.out _ hS).mono ?_)
                rintro e w5 ⟨rfl, hb5⟩
                have hS' := KS.out _ (hS.trans (hb5.mono (by first | exact hS.size | (have h1 := hS.size; have h2 := HB6.out; omega))))
                try (have hLZ := LZ.out.keep hb5; clear LZ; have LZ := hid hLZ; clear hLZ)
                clear hb5 hS
                try go_wp2_with fail
                refine hK.out _ _ ?_ (fun hH2 => ?_)
                · (try dsimp only); (first | assumption | exact KS.out _ (Below.refl w9.heap.size w9).drew)
                clear hK K hH1
                try simp only [Act.put, List.setIfInBounds_toArray, List.set_cons_zero, List.set_cons_succ]
                refine wpAnyH_take (i := 16) (v := ?_) (by simp only [List.getElem?_toArray, List.getElem?_cons_zero, List.getElem?_cons_succ]; rfl) (by kernel_rfl) (by kernel_rfl) (by kernel_rfl) (fun _ _ _ h => h) (Or.inl ⟨by rfl, ?_⟩) (by assumption) ?_
                rotate_left
                · intro w hSw; (try dsimp only at hSw); go_simp; (try with_reducible rfl)
                try simp only [Act.put, List.setIfInBounds_toArray, List.set_cons_zero, List.set_cons_succ]
                refine wpAnyH_take (i := 17) (v := ?_) (by simp only [List.getElem?_toArray, List.getElem?_cons_zero, List.getElem?_cons_succ]; rfl) (by kernel_rfl) (by kernel_rfl) (by kernel_rfl) (fun _ _ _ h => h) (Or.inl ⟨by rfl, ?_⟩) (by assumption) ?_
                rotate_left
                · intro w hSw; (try dsimp only at hSw); go_simp; (try with_reducible rfl)
                try simp only [Act.put, List.setIfInBounds_toArray, List.set_cons_zero, List.set_cons_succ]
                refine wpAnyH_take (i := 18) (v := ?_) (by simp only [List.getElem?_toArray, List.getElem?_cons_zero, List.getElem?_cons_succ]; rfl) (by kernel_rfl) (by kernel_rfl) (by kernel_rfl) (fun _ _ _ h => h) (Or.inl ⟨by rfl, ?_⟩) (by assumption) ?_
                rotate_left
                · intro w hSw; (try dsimp only at hSw); go_simp; (try with_reducible rfl)
                try simp only [Act.put, List.setIfInBounds_toArray, List.set_cons_zero, List.set_cons_succ]
                refine wpAnyH_ready (rs := [19]) (by kernel_rfl) (by simp) ?_
                refine AllReadyH.cons (by simp only [List.getElem?_toArray, List.getElem?_cons_zero, List.getElem?_cons_succ]; rfl) (fun K hK => ?_) AllReadyH.nil
                go_simp
                have hS := (‹Below _ w9 _ ∧ _›).1
                first
                  | (have LZ : Hid (Loc (w5.alloc (.cells #[.bool false, .string ⟨#[]⟩, .bool false, .string ⟨#[]⟩, .bool false, .string ⟨#[]⟩, .bool false, .string ⟨#[]⟩, .bool false, .string ⟨#[]⟩, .bool false, .string ⟨#[]⟩, .bool false, .string ⟨#[]⟩, .bool false, .string ⟨#[]⟩] 80)) w5.heap.size 80 (vals8 fun _ => Val.zero)) := hid (Loc.new w5 80 (vals8 fun _ => Val.zero)); have HBN := hid hS.size; have hS' := KS.out (w5.alloc (.cells #[.bool false, .string ⟨#[]⟩, .bool false, .string ⟨#[]⟩, .bool false, .string ⟨#[]⟩, .bool false, .string ⟨#[]⟩, .bool false, .string ⟨#[]⟩, .bool false, .string ⟨#[]⟩, .bool false, .string ⟨#[]⟩, .bool false, .string ⟨#[]⟩] 80)) (hS.alloc hS.size _); clear hS; generalize w5.alloc (.cells #[.bool false, .string ⟨#[]⟩, .bool false, .string ⟨#[]⟩, .bool false, .string ⟨#[]⟩, .bool false, .string ⟨#[]⟩, .bool false, .string ⟨#[]⟩, .bool false, .string ⟨#[]⟩, .bool false, .string ⟨#[]⟩, .bool false, .string ⟨#[]⟩] 80) = w6 at *; generalize w5.heap.size = b6 at *)
                  | (have LZ : Hid (Loc (w9.alloc (.cells #[.bool false, .string ⟨#[]⟩, .bool false, .string ⟨#[]⟩, .bool false, .string ⟨#[]⟩, .bool false, .string ⟨#[]⟩, .bool false, .string ⟨#[]⟩, .bool false, .string ⟨#[]⟩, .bool false, .string ⟨#[]⟩, .bool false, .string ⟨#[]⟩] 80)).drew w9.heap.size 80 (vals8 fun _ => Val.zero)) := hid (Loc.new w9 80 (vals8 fun _ => Val.zero)); have HBN := hid (Nat.le_refl w9.heap.size); have hS' := KS.out (w9.alloc (.cells #[.bool false, .string ⟨#[]⟩, .bool false, .string ⟨#[]⟩, .bool false, .string ⟨#[]⟩, .bool false, .string ⟨#[]⟩, .bool false, .string ⟨#[]⟩, .bool false, .string ⟨#[]⟩, .bool false, .string ⟨#[]⟩, .bool false, .string ⟨#[]⟩] 80)).drew (((Below.refl w9.heap.size w9).alloc (Nat.le_refl _) _).drew); clear hS; generalize (w9.alloc (.cells #[.bool false, .string ⟨#[]⟩, .bool false, .string ⟨#[]⟩, .bool false, .string ⟨#[]⟩, .bool false, .string ⟨#[]⟩, .bool false, .string ⟨#[]⟩, .bool false, .string ⟨#[]⟩, .bool false, .string ⟨#[]⟩, .bool false, .string ⟨#[]⟩] 80)).drew = w6 at *; generalize hb6 : w9.heap.size = b6 at *; have HB6 := hid hb6; clear hb6)
                try go_wp2_with fail
                refine hK.out _ _ ?_ (fun hH3 => ?_)
                · (try dsimp only); (first | assumption | exact KS.out _ (Below.refl w9.heap.size w9).drew)
                clear hK K hH2
                try simp only [Act.put, List.setIfInBounds_toArray, List.set_cons_zero, List.set_cons_succ]
                refine wpAnyH_ready (rs := [20]) (by kernel_rfl) (by simp) ?_
                refine AllReadyH.cons (by simp only [List.getElem?_toArray, List.getElem?_cons_zero, List.getElem?_cons_succ]; rfl) (fun K hK => ?_) AllReadyH.nil
                have hS := (‹Below _ w9 _ ∧ _›).1
                refine wp_store_mid 80 _ _ rfl _ 0 (vals8 f9).toArray rfl rfl (LZ.out.there8 f9) Try.infoWorld (vals8_one f9) ?_
                have hS' := KS.out _ (Below.setCells' HBN.out (vals8 f9) 0 hS)
                have LN := hid (LZ.out.setAll (vs := vals8 f9) rfl)
                clear hS
                first
                  | (generalize w5.setCells b6 0 (vals8 f9) = wz at *; have LN2 : Hid (Loc wz b6 80 (vals8 f9)) := by with_reducible exact LN)
                  | (generalize w6.setCells b6 0 (vals8 f9) = wz at *; have LN2 : Hid (Loc wz b6 80 (vals8 f9)) := by with_reducible exact LN)
                refine hK.out _ _ ?_ (fun hH4 => ?_)
                · (try dsimp only); (first | assumption | exact KS.out _ (Below.refl w9.heap.size w9).drew)
                clear hK K hH3
                try simp only [Act.put]
                refine wpAnyH_take (i := 21) (v := ?_) (by simp only [List.getElem?_toArray, List.getElem?_cons_zero, List.getElem?_cons_succ]; rfl) (by kernel_rfl) (by kernel_rfl) (by kernel_rfl) (fun _ _ _ h => h) (Or.inl ⟨by rfl, ?_⟩) (by assumption) ?_
                rotate_left
                · intro w hSw; (try dsimp only at hSw); go_simp; (try with_reducible rfl)
                try simp only [Act.put, List.setIfInBounds_toArray, List.set_cons_zero, List.set_cons_succ]
                refine wpAnyH_done (by kernel_rfl) ?_ _
                refine NoPanic.normal ?_
                exact HJ b6 wz ⟨(‹Below _ w9 wz ∧ _›).1, LN2.out⟩
              refine AllReadyH.cons (by simp only [List.getElem?_toArray, List.getElem?_cons_zero, List.getElem?_cons_succ]; rfl) (fun K hK => ?_) AllReadyH.nil
              go_simp
              have hS := (‹Below _ w9 _ ∧ _›).1
              first
                | (have LZ : Hid (Loc (w5.alloc (.cells #[.bool false, .string ⟨#[]⟩, .bool false, .string ⟨#[]⟩, .bool false, .string ⟨#[]⟩, .bool false, .string ⟨#[]⟩, .bool false, .string ⟨#[]⟩, .bool false, .string ⟨#[]⟩, .bool false, .string ⟨#[]⟩, .bool false, .string ⟨#[]⟩] 80)) w5.heap.size 80 (vals8 fun _ => Val.zero)) := hid (Loc.new w5 80 (vals8 fun _ => Val.zero)); have HBN := hid hS.size; have hS' := KS.out (w5.alloc (.cells #[.bool false, .string ⟨#[]⟩, .bool false, .string ⟨#[]⟩, .bool false, .string ⟨#[]⟩, .bool false, .string ⟨#[]⟩, .bool false, .string ⟨#[]⟩, .bool false, .string ⟨#[]⟩, .bool false, .string ⟨#[]⟩, .bool false, .string ⟨#[]⟩] 80)) (hS.alloc hS.size _); clear hS; generalize w5.alloc (.cells #[.bool false, .string ⟨#[]⟩, .bool false, .string ⟨#[]⟩, .bool false, .string ⟨#[]⟩, .bool false, .string ⟨#[]⟩, .bool false, .string ⟨#[]⟩, .bool false, .string ⟨#[]⟩, .bool false, .string ⟨#[]⟩, .bool false, .string ⟨#[]⟩] 80) = w6 at *; generalize w5.heap.size = b6 at *)
                | (have LZ : Hid (Loc (w9.alloc (.cells #[.bool false, .string ⟨#[]⟩, .bool false, .string ⟨#[]⟩, .bool false, .string ⟨#[]⟩, .bool false, .string ⟨#[]⟩, .bool false, .string ⟨#[]⟩, .bool false, .string ⟨#[]⟩, .bool false, .string ⟨#[]⟩, .bool false, .string ⟨#[]⟩] 80)).drew w9.heap.size 80 (vals8 fun _ => Val.zero)) := hid (Loc.new w9 80 (vals8 fun _ => Val.zero)); have HBN := hid (Nat.le_refl w9.heap.size); have hS' := KS.out (w9.alloc (.cells #[.bool false, .string ⟨#[]⟩, .bool false, .string ⟨#[]⟩, .bool false, .string ⟨#[]⟩, .bool false, .string ⟨#[]⟩, .bool false, .string ⟨#[]⟩, .bool false, .string ⟨#[]⟩, .bool false, .string ⟨#[]⟩, .bool false, .string ⟨#[]⟩] 80)).drew (((Below.refl w9.heap.size w9).alloc (Nat.le_refl _) _).drew); clear hS; generalize (w9.alloc (.cells #[.bool false, .string ⟨#[]⟩, .bool false, .string ⟨#[]⟩, .bool false, .string ⟨#[]⟩, .bool false, .string ⟨#[]⟩, .bool false, .string ⟨#[]⟩, .bool false, .string ⟨#[]⟩, .bool false, .string ⟨#[]⟩, .bool false, .string ⟨#[]⟩] 80)).drew = w6 at *; generalize hb6 : w9.heap.size = b6 at *; have HB6 := hid hb6; clear hb6)
              try go_wp2_with fail
              refine hK.out _ _ ?_ (fun hH5 => ?_)
              · (try dsimp only); (first | assumption | exact KS.out _ (Below.refl w9.heap.size w9).drew)
              clear hK K hH1
              try simp only [Act.put, List.setIfInBounds_toArray, List.set_cons_zero, List.set_cons_succ]
              refine wpAnyH_ready (rs := [15]) (by kernel_rfl) (by simp) ?_
              refine AllReadyH.cons (by simp only [List.getElem?_toArray, List.getElem?_cons_zero, List.getElem?_cons_succ]; rfl) (fun K hK => ?_) AllReadyH.nil
              go_simp
              go_at_call 48
              have hS := (‹Below _ w9 _ ∧ _›).1
              (with_reducible refine (SH.out _ hS).mono ?_)
              rintro e w5 ⟨rfl, hb5⟩
              have hS' := KS.out _ (hS.trans (hb5.mono (by first | exact hS.size | (have h1 := hS.size; have h2 := HB6.out; omega))))
              try (have hLZ := LZ.out.keep hb5; clear LZ; have LZ := hid hLZ; clear hLZ)
              clear hb5 hS
              try go_wp2_with fail
              refine hK.out _ _ ?_ (fun hH6 => ?_)
              · (try dsimp only); (first | assumption | exact KS.out _ (Below.refl w9.heap.size w9).drew)
              clear hK K hH5
              try simp only [Act.put, List.setIfInBounds_toArray, List.set_cons_zero, List.set_cons_succ]
              refine wpAnyH_take (i := 16) (v := ?_) (by simp only [List.getElem?_toArray, List.getElem?_cons_zero, List.getElem?_cons_succ]; rfl) (by kernel_rfl) (by kernel_rfl) (by kernel_rfl) (fun _ _ _ h => h) (Or.inl ⟨by rfl, ?_⟩) (by assumption) ?_
              rotate_left
              · intro w hSw; (try dsimp only at hSw); go_simp; (try with_reducible rfl)
              try simp only [Act.put, List.setIfInBounds_toArray, List.set_cons_zero, List.set_cons_succ]
              refine wpAnyH_take (i := 17) (v := ?_) (by simp only [List.getElem?_toArray, List.getElem?_cons_zero, List.getElem?_cons_succ]; rfl) (by kernel_rfl) (by kernel_rfl) (by kernel_rfl) (fun _ _ _ h => h) (Or.inl ⟨by rfl, ?_⟩) (by assumption) ?_
              rotate_left
              · intro w hSw; (try dsimp only at hSw); go_simp; (try with_reducible rfl)
              try simp only [Act.put, List.setIfInBounds_toArray, List.set_cons_zero, List.set_cons_succ]
              refine wpAnyH_take (i := 18) (v := ?_) (by simp only [List.getElem?_toArray, List.getElem?_cons_zero, List.getElem?_cons_succ]; rfl) (by kernel_rfl) (by kernel_rfl) (by kernel_rfl) (fun _ _ _ h => h) (Or.inl ⟨by rfl, ?_⟩) (by assumption) ?_
              rotate_left
              · intro w hSw; (try dsimp only at hSw); go_simp; (try with_reducible rfl)
              try simp only [Act.put, List.setIfInBounds_toArray, List.set_cons_zero, List.set_cons_succ]
              refine wpAnyH_ready (rs := [20]) (by kernel_rfl) (by simp) ?_
              refine AllReadyH.cons (by simp only [List.getElem?_toArray, List.getElem?_cons_zero, List.getElem?_cons_succ]; rfl) (fun K hK => ?_) AllReadyH.nil
              have hS := (‹Below _ w9 _ ∧ _›).1
              refine wp_store_mid 80 _ _ rfl _ 0 (vals8 f9).toArray rfl rfl (LZ.out.there8 f9) Try.infoWorld (vals8_one f9) ?_
              have hS' := KS.out _ (Below.setCells' HBN.out (vals8 f9) 0 hS)
              have LN := hid (LZ.out.setAll (vs := vals8 f9) rfl)
              clear hS
              first
                | (generalize w5.setCells b6 0 (vals8 f9) = wz at *; have LN2 : Hid (Loc wz b6 80 (vals8 f9)) := by with_reducible exact LN)
                | (generalize w6.setCells b6 0 (vals8 f9) = wz at *; have LN2 : Hid (Loc wz b6 80 (vals8 f9)) := by with_reducible exact LN)
              refine hK.out _ _ ?_ (fun hH7 => ?_)
              · (try dsimp only); (first | assumption | exact KS.out _ (Below.refl w9.heap.size w9).drew)
              clear hK K hH6
              try simp only [Act.put]
              refine wpAnyH_take (i := 21) (v := ?_) (by simp only [List.getElem?_toArray, List.getElem?_cons_zero, List.getElem?_cons_succ]; rfl) (by kernel_rfl) (by kernel_rfl) (by kernel_rfl) (fun _ _ _ h => h) (Or.inl ⟨by rfl, ?_⟩) (by assumption) ?_
              rotate_left
              · intro w hSw; (try dsimp only at hSw); go_simp; (try with_reducible rfl)
              try simp only [Act.put, List.setIfInBounds_toArray, List.set_cons_zero, List.set_cons_succ]
              refine wpAnyH_done (by kernel_rfl) ?_ _
              refine NoPanic.normal ?_
              exact HJ b6 wz ⟨(‹Below _ w9 wz ∧ _›).1, LN2.out⟩
            refine AllReadyH.cons (by simp only [List.getElem?_toArray, List.getElem?_cons_zero, List.getElem?_cons_succ]; rfl) (fun K hK => ?_) AllReadyH.nil
            go_simp
            have hS := (‹Below _ w9 _ ∧ _›).1
            first
              | (have LZ : Hid (Loc (w5.alloc (.cells #[.bool false, .string ⟨#[]⟩, .bool false, .string ⟨#[]⟩, .bool false, .string ⟨#[]⟩, .bool false, .string ⟨#[]⟩, .bool false, .string ⟨#[]⟩, .bool false, .string ⟨#[]⟩, .bool false, .string ⟨#[]⟩, .bool false, .string ⟨#[]⟩] 80)) w5.heap.size 80 (vals8 fun _ => Val.zero)) := hid (Loc.new w5 80 (vals8 fun _ => Val.zero)); have HBN := hid hS.size; have hS' := KS.out (w5.alloc (.cells #[.bool false, .string ⟨#[]⟩, .bool false, .string ⟨#[]⟩, .bool false, .string ⟨#[]⟩, .bool false, .string ⟨#[]⟩, .bool false, .string ⟨#[]⟩, .bool false, .string ⟨#[]⟩, .bool false, .string ⟨#[]⟩, .bool false, .string ⟨#[]⟩] 80)) (hS.alloc hS.size _); clear hS; generalize w5.alloc (.cells #[.bool false, .string ⟨#[]⟩, .bool false, .string ⟨#[]⟩, .bool false, .string ⟨#[]⟩, .bool false, .string ⟨#[]⟩, .bool false, .string ⟨#[]⟩, .bool false, .string ⟨#[]⟩, .bool false, .string ⟨#[]⟩, .bool false, .string ⟨#[]⟩] 80) = w6 at *; generalize w5.heap.size = b6 at *)
              | (have LZ : Hid (Loc (w9.alloc (.cells #[.bool false, .string ⟨#[]⟩, .bool false, .string ⟨#[]⟩, .bool false, .string ⟨#[]⟩, .bool false, .string ⟨#[]⟩, .bool false, .string ⟨#[]⟩, .bool false, .string ⟨#[]⟩, .bool false, .string ⟨#[]⟩, .bool false, .string ⟨#[]⟩] 80)).drew w9.heap.size 80 (vals8 fun _ => Val.zero)) := hid (Loc.new w9 80 (vals8 fun _ => Val.zero)); have HBN := hid (Nat.le_refl w9.heap.size); have hS' := KS.out (w9.alloc (.cells #[.bool false, .string ⟨#[]⟩, .bool false, .string ⟨#[]⟩, .bool false, .string ⟨#[]⟩, .bool false, .string ⟨#[]⟩, .bool false, .string ⟨#[]⟩, .bool false, .string ⟨#[]⟩, .bool false, .string ⟨#[]⟩, .bool false, .string ⟨#[]⟩] 80)).drew (((Below.refl w9.heap.size w9).alloc (Nat.le_refl _) _).drew); clear hS; generalize (w9.alloc (.cells #[.bool false, .string ⟨#[]⟩, .bool false, .string ⟨#[]⟩, .bool false, .string ⟨#[]⟩, .bool false, .string ⟨#[]⟩, .bool false, .string ⟨#[]⟩, .bool false, .string ⟨#[]⟩, .bool false, .string ⟨#[]⟩, .bool false, .string ⟨#[]⟩] 80)).drew = w6 at *; generalize hb6 : w9.heap.size = b6 at *; have HB6 := hid hb6; clear hb6)
            try go_wp2_with fail
            refine hK.out _ _ ?_ (fun hH8 => ?_)
            · (try dsimp only); (first | assumption | exact KS.out _ (Below.refl w9.heap.size w9).drew)
            clear hK K hH0
            try simp only [Act.put, List.setIfInBounds_toArray, List.set_cons_zero, List.set_cons_succ]
            refine wpAnyH_ready (rs := [14]) (by kernel_rfl) (by simp) ?_
            refine AllReadyH.cons (by simp only [List.getElem?_toArray, List.getElem?_cons_zero, List.getElem?_cons_succ]; rfl) (fun K hK => ?_) AllReadyH.nil
            go_simp
            go_at_call 45
            have hS := (‹Below _ w9 _ ∧ _›).1
            (with_reducible refine (LA.out _ hS).mono ?_)
            rintro e w' ⟨rfl, rfl⟩
            clear hS
            try go_wp2_with fail
            refine hK.out _ _ ?_ (fun hH9 => ?_)
            · (try dsimp only); (first | assumption | exact KS.out _ (Below.refl w9.heap.size w9).drew)
            clear hK K hH8
            try simp only [Act.put, List.setIfInBounds_toArray, List.set_cons_zero, List.set_cons_succ]
            refine wpAnyH_ready (rs := [15]) (by kernel_rfl) (by simp) ?_
            refine AllReadyH.cons (by simp only [List.getElem?_toArray, List.getElem?_cons_zero, List.getElem?_cons_succ]; rfl) (fun K hK => ?_) AllReadyH.nil
            go_simp
            go_at_call 48
            have hS := (‹Below _ w9 _ ∧ _›).1
            (with_reducible refine (SH.out _ hS).mono ?_)
            rintro e w5 ⟨rfl, hb5⟩
            have hS' := KS.out _ (hS.trans (hb5.mono (by first | exact hS.size | (have h1 := hS.size; have h2 := HB6.out; omega))))
            try (have hLZ := LZ.out.keep hb5; clear LZ; have LZ := hid hLZ; clear hLZ)
            clear hb5 hS
            try go_wp2_with fail
            refine hK.out _ _ ?_ (fun hH10 => ?_)
            · (try dsimp only); (first | assumption | exact KS.out _ (Below.refl w9.heap.size w9).drew)
            clear hK K hH9
            try simp only [Act.put, List.setIfInBounds_toArray, List.set_cons_zero, List.set_cons_succ]
            refine wpAnyH_take (i := 16) (v := ?_) (by simp only [List.getElem?_toArray, List.getElem?_cons_zero, List.getElem?_cons_succ]; rfl) (by kernel_rfl) (by kernel_rfl) (by kernel_rfl) (fun _ _ _ h => h) (Or.inl ⟨by rfl, ?_⟩) (by assumption) ?_
            rotate_left
            · intro w hSw; (try dsimp only at hSw); go_simp; (try with_reducible rfl)
            try simp only [Act.put, List.setIfInBounds_toArray, List.set_cons_zero, List.set_cons_succ]
            refine wpAnyH_take (i := 17) (v := ?_) (by simp only [List.getElem?_toArray, List.getElem?_cons_zero, List.getElem?_cons_succ]; rfl) (by kernel_rfl) (by kernel_rfl) (by kernel_rfl) (fun _ _ _ h => h) (Or.inl ⟨by rfl, ?_⟩) (by assumption) ?_
            rotate_left
            · intro w hSw; (try dsimp only at hSw); go_simp; (try with_reducible rfl)
            try simp only [Act.put, List.setIfInBounds_toArray, List.set_cons_zero, List.set_cons_succ]
            refine wpAnyH_take (i := 18) (v := ?_) (by simp only [List.getElem?_toArray, List.getElem?_cons_zero, List.getElem?_cons_succ]; rfl) (by kernel_rfl) (by kernel_rfl) (by kernel_rfl) (fun _ _ _ h => h) (Or.inl ⟨by rfl, ?_⟩) (by assumption) ?_
            rotate_left
            · intro w hSw; (try dsimp only at hSw); go_simp; (try with_reducible rfl)
            try simp only [Act.put, List.setIfInBounds_toArray, List.set_cons_zero, List.set_cons_succ]
            refine wpAnyH_ready (rs := [20]) (by kernel_rfl) (by simp) ?_
            refine AllReadyH.cons (by simp only [List.getElem?_toArray, List.getElem?_cons_zero, List.getElem?_cons_succ]; rfl) (fun K hK => ?_) AllReadyH.nil
            have hS := (‹Below _ w9 _ ∧ _›).1
            refine wp_store_mid 80 _ _ rfl _ 0 (vals8 f9).toArray rfl rfl (LZ.out.there8 f9) Try.infoWorld (vals8_one f9) ?_
            have hS' := KS.out _ (Below.setCells' HBN.out (vals8 f9) 0 hS)
            have LN := hid (LZ.out.setAll (vs := vals8 f9) rfl)
            clear hS
            first
              | (generalize w5.setCells b6 0 (vals8 f9) = wz at *; have LN2 : Hid (Loc wz b6 80 (vals8 f9)) := by with_reducible exact LN)
              | (generalize w6.setCells b6 0 (vals8 f9) = wz at *; have LN2 : Hid (Loc wz b6 80 (vals8 f9)) := by with_reducible exact LN)
            refine hK.out _ _ ?_ (fun hH11 => ?_)
            · (try dsimp only); (first | assumption | exact KS.out _ (Below.refl w9.heap.size w9).drew)
            clear hK K hH10
            try simp only [Act.put]
            refine wpAnyH_take (i := 21) (v := ?_) (by simp only [List.getElem?_toArray, List.getElem?_cons_zero, List.getElem?_cons_succ]; rfl) (by kernel_rfl) (by kernel_rfl) (by kernel_rfl) (fun _ _ _ h => h) (Or.inl ⟨by rfl, ?_⟩) (by assumption) ?_
            rotate_left
            · intro w hSw; (try dsimp only at hSw); go_simp; (try with_reducible rfl)
            try simp only [Act.put, List.setIfInBounds_toArray, List.set_cons_zero, List.set_cons_succ]
            refine wpAnyH_done (by kernel_rfl) ?_ _
            refine NoPanic.normal ?_
            exact HJ b6 wz ⟨(‹Below _ w9 wz ∧ _›).1, LN2.out⟩
            -- END 29a4
          · skip
            obtain ⟨hb, hL⟩ := hS
            have AN := hid (A9.out.below hb)
            have BN := hid (B9.out.below' hb)
            have LN := hid (L9.out.below hb)
            have MN := hid hL
            clear hb hL A9 B9 L9 KS LA SH r0 r1
            go_wp2_with (first
              | refine wpList_load_vals rfl (.tmp 4) rfl bw rfl f9 LN.out.1 ?_
              | refine wpList_load_vals rfl (.tmp 9) rfl bn rfl f9 MN.out ?_
              | refine wpList_ne_vals rfl (.tmp 115) (.tmp 116) _ rfl f9 rfl rfl ?_)
            go_roundw
            case rel => exact ⟨k + 1, g9, H9, by omega, by go_num, AN, BN, hid (by rw [HF9.out]; exact LN.out), HN9⟩
            case measure => simp [intOf]; omega
      have q4 : (x.kind != 4) = true := by simpa using h4
      have q8 : (x.kind != 8) = true := by simpa using h8
      clear h3 h4 h8
      go_wp2
      go_roundw
      case rel => exact ⟨k + 1, g4, H, by omega, by go_num, H4, B4, W4, HN⟩
      case measure => simp [intOf]; omega
    · have hge : (l.length : Int) ≤ (k : Int) := by omega
      clear SA
      go_wp2
      go_ret
      exact ⟨rfl, B1.out.trans (HB.out.below.mono B1.out.size)⟩

end Go.Proofs.Ytoiobhcgpajogac
