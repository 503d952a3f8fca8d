/- The walk of HallCrash. -/
import Derived.Test.YtoiobhcgpajogacHall7
import Derived.Test.YtoiobhcgpajogacHallP
import Derived.Test.YtoiobhcgpajogacVals
namespace Go.Proofs.Ytoiobhcgpajogac
open Go.RowKit

theorem doH_crash (H : Ht) : doH H ⟨9, 0, 0, 0, 0, 0, 0, ⟨#[]⟩⟩ = (⟨0, 0, Val.zero, []⟩, ⟨crashV H.v.log, fun _ => none⟩) := by
  unfold doH
  rw [if_neg (by decide), if_neg (by decide), if_pos rfl]; rfl

theorem run_field_code (c n : Int) (b : Bool) (s : ByteArray) (v : Value) (w : World) : (Instr.field 103 (.agg #[.int .i64 c, .int .i64 n, .bool b, .string s, v]) 0).run Try.prog w = .ok (.int .i64 c) w := by kernel_rfl

set_option maxHeartbeats 8000000 in
set_option maxRecDepth 100000 in
theorem walk_HallCrash (a : Option Addr) (cap : Nat) (l : List St) (w : World) (hl : l.length ≤ 9223372036854775807) (hA : StepsAt w a l) :
    Calls Try.prog 10 #[.slice a l.length cap] w (TruePost w) := by
  have HA := hid hA
  clear hA
  go_enter Try.func10, Try.ntmps10
  go_wp2_with fail
  (with_reducible refine (law_hallBegun w).mono ?_)
  rintro e w1 ⟨rfl, hb⟩
  have B1 := hid hb
  clear hb
  go_wp2_with fail
  (with_reducible refine (law_greatSteps a cap l w1 hl (HA.out.below B1.out)).mono ?_)
  rintro e w1' ⟨rfl, rfl⟩
  cases hg : greatS l with
  | true =>
    clear hg
    go_wp2
    go_ret
    exact ⟨rfl, B1.out⟩
  | false =>
  obtain ⟨h200, h100⟩ := greatS_false hg
  have H100 := hid h100
  have SA := hid (HA.out.below B1.out)
  clear hg h100 HA
  go_wp2_with fail
  refine (hall_New (fun _ => 0) 1 w1).mono ?_
  rintro e w2 ⟨h, g2, rfl, hE, -, hH⟩
  have B2 := hid ((Base.start w1).step hE (by omega))
  have H2 := hid hH
  clear hE hH
  go_wp2_with fail
  go_loopw [4] (fun i wr => ∃ (k : Nat) (g : Nat → Nat) (Hk : Ht), k ≤ l.length ∧ i = .int .i64 k ∧ Hid (HallAt wr g 1 h Hk) ∧ Hid (Base w1.heap.size w1 g wr) ∧ Hid Hk.v.Sound) (fun i _ => l.length - (intOf i).toNat)
  case atStart => exact ⟨0, g2, Ht.new, Nat.zero_le _, rfl, H2, B2, hid Vt.new_sound⟩
  case round =>
    clear H2 B2
    obtain ⟨k, g, Hk, hk, rfl, HH, HB, HS⟩ := hrel
    by_cases hlt : k < l.length
    · obtain ⟨b1, o1, rfl, hbb, v1⟩ := SA.out.facts (by omega)
      obtain ⟨p0, p1, p2, p3, p4, p5, p6, p7, -⟩ := v1 k hlt
      have hx100 := H100.out l[k] (List.getElem_mem _)
      have P0 := (HB.out.cell (p := ⟨b1, _, none⟩) hbb).trans p0
      have P1 := (HB.out.cell (p := ⟨b1, _, none⟩) hbb).trans p1
      have P2 := (HB.out.cell (p := ⟨b1, _, none⟩) hbb).trans p2
      have P3 := (HB.out.cell (p := ⟨b1, _, none⟩) hbb).trans p3
      have P4 := (HB.out.cell (p := ⟨b1, _, none⟩) hbb).trans p4
      have P5 := (HB.out.cell (p := ⟨b1, _, none⟩) hbb).trans p5
      have P6 := (HB.out.cell (p := ⟨b1, _, none⟩) hbb).trans p6
      have P7 := (HB.out.cell (p := ⟨b1, _, none⟩) hbb).trans p7
      have hki : (k : Int) < (l.length : Int) := by omega
      have hk0 : (0 : Int) ≤ (k : Int) := by omega
      generalize l[k] = x at *
      have hxm : x.bytes.size ≤ maxLen := by unfold maxLen; omega
      clear v1 p0 p1 p2 p3 p4 p5 p6 p7
      go_wp2_with fail
      refine (hall_Do g 1 h Hk x wr hxm HH.out).mono ?_
      rintro e w3 ⟨a3, c3, g3, rfl, hH3, hE3, -, -⟩
      have H3 := hid hH3
      have B3 := hid (HB.out.step hE3 (by omega))
      have S3 := hid (doH_sound HH.out.ok.1 HH.out.ok.2 HS.out x)
      clear hH3 hE3 P0 P1 P2 P3 P4 P5 P6 P7 HH HB HS
      generalize doH Hk x = y at *
      go_wp2
      go_roundw
      case rel => exact ⟨k + 1, g3, y.2, by omega, by go_num, H3, B3, S3⟩
      case measure => simp [intOf]; omega
    · have hge : (l.length : Int) ≤ (k : Int) := by omega
      have hok := HH.out.ok
      obtain ⟨vp, ds, hC⟩ := HH.out
      obtain ⟨r0, t, b, hV⟩ := hC.top
      obtain ⟨r1, -, -, -⟩ := hV.cells
      have HT := hid hV.2.2.1
      have HVC := hid hV
      have HC := hid hC
      have FOK := hid (writeAll_ok Tab.new_ok Hk.v.log.l)
      have hsh := hid (HS.out.sheet hok.2 FOK.out)
      have hcd := hid (codesT_top hok.2)
      have HFL := hid (show (writeAll Tab.new Hk.v.log.l).last = Hk.v.tab.last from HS.out.1.symm)
      have hcr := doH_crash Hk
      clear hC hV HS hok SA
      have h40 := HT.out.1.2
      generalize hn : Hk.v.tab.last = n at *
      go_wp2_with fail
      (with_reducible refine (table_Last g (1 + 1 + 1) t Hk.v.tab wr HT.out).mono ?_)
      rintro e w3 ⟨rfl, rfl⟩
      rw [hn]
      go_wp2_with fail
      have P := law_sheet g (1 + 1 + 1) t Hk.v.tab wr n HT.out
      rw [hsh.out, hcd.out] at P
      (with_reducible refine P.mono ?_)
      clear P
      rintro e w3 ⟨rfl, hb⟩
      have B3 := hid (HB.out.below' hb)
      have C3 := hid (HC.out.below hb)
      clear hb HB HC HT
      generalize hf : sheetT (writeAll Tab.new Hk.v.log.l) ((writeAll Tab.new Hk.v.log.l).last : Int) = f at *
      have HF := hid hf
      clear hf r0 r1
      go_wp2_with (refine wpList_new_vals w3 rfl (.tmp 6) (.tmp 46) rfl f rfl rfl ?_; intro w4 hL4 hb4; have L4 := hid (show LocC w4 (extc g w3 0) 0 w3.heap.size 80 (vals8 f) from ⟨hL4, extc_new (Nat.le_refl _)⟩); have C4 := hid (C3.out.frame (Evo.of_below (lo := 0) (hi := 0) g 0 hb4) (by omega)); have B4 := hid (B3.out.step (Evo.of_below (lo := 0) (hi := 0) g 0 hb4) (by omega)); clear hL4 hb4)
      generalize extc g w3 0 = g4 at *
      generalize w3.heap.size = b6 at *
      have P := hall_Do g4 1 h Hk ⟨9, 0, 0, 0, 0, 0, 0, ⟨#[]⟩⟩ w4 (by decide) ⟨vp, ds, C4.out⟩
      rw [hcr] at P
      refine P.mono ?_
      clear P hcr C3 B3
      rintro e w5 ⟨a5, c5, g5, rfl, hH5, hE5, -, -⟩
      have hfd := fun w => run_field_code 0 0 Val.zero.there Val.zero.bytes (.slice a5 0 c5) w
      have H5 := hid hH5
      have B5 := hid (B4.out.step hE5 (by omega))
      have L5 := hid (L4.out.frame hE5 (by omega))
      clear hH5 hE5 B4 L4 C4
      obtain ⟨vp5, ds5, hC5⟩ := H5.out
      obtain ⟨r0, t5, b5, hV5⟩ := hC5.top
      obtain ⟨r1, -, -, -⟩ := hV5.cells
      have HT5 : Hid (TableAt w5 g5 (1 + 1 + 1) t5 (writeAll Tab.new Hk.v.log.l)) := hid hV5.2.2.1
      have C5 := hid hC5
      clear hC5 hV5 H5
      have P := law_sheet g5 (1 + 1 + 1) t5 (writeAll Tab.new Hk.v.log.l) w5 n HT5.out
      rw [← HFL.out] at P
      rw [HF.out, codesT_top FOK.out, HFL.out] at P
      have HP := hid P
      clear P
      go_wp2_with fail
      (with_reducible refine HP.out.mono ?_)
      rintro e w7 ⟨rfl, hb⟩
      have B7 := hid (B5.out.below' hb)
      have C7 := hid (C5.out.below hb)
      have L7 := hid (L5.out.below hb)
      clear hb B5 C5 L5 HT5 HP r0 r1
      go_wp2_with (refine wpList_new_vals w7 rfl (.tmp 8) (.tmp 67) rfl f rfl rfl ?_; intro w8 hL8 hb8; have M8 := hid hL8; have L8 := hid (L7.out.1.keep hb8); have C8 := hid (C7.out.below hb8); have B8 := hid (B7.out.below' hb8); clear hL8 hb8)
      generalize w7.heap.size = b8 at *
      clear L7 C7 B7
      have BU := hid (fun s => hall_Busy g5 1 h ⟨crashV Hk.v.log, fun _ => none⟩ s w8 ⟨vp5, ds5, C8.out⟩)
      go_loop [10] (fun i => ∃ s : Nat, s ≤ 5 ∧ i = .int .i64 s) (fun i => 5 - (intOf i).toNat)
      case atStart => exact ⟨0, by omega, rfl⟩
      case round =>
        obtain ⟨s, hs, rfl⟩ := hrel
        by_cases h5 : s < 5
        · have hs5 : (s : Int) < 5 := by omega
          have BS := hid (BU.out s)
          rw [show (isSeatB (s : Int) && ((fun _ => none : Nat → Option Ded) (s : Int).toNat).isSome) = false by simp] at BS
          go_wp2_with fail
          refine BS.out.mono ?_
          rintro e w' ⟨rfl, rfl⟩
          go_wp2
          go_round
          case rel => exact ⟨s + 1, by omega, by go_num⟩
          case measure => simp [intOf]; omega
        · have hs5 : (5 : Int) ≤ (s : Int) := by omega
          obtain ⟨r0, t8, b8', hV8⟩ := C8.out.top
          obtain ⟨r1, -, -, -⟩ := hV8.cells
          have LA := hid (table_Last g5 (1 + 1 + 1) t8 _ w8 hV8.2.2.1)
          rw [show (crashV Hk.v.log).tab.last = n from HFL.out] at LA
          have LE := hid (hall_Least g5 1 h ⟨crashV Hk.v.log, fun _ => none⟩ w8 ⟨vp5, ds5, C8.out⟩)
          rw [show leastH ⟨crashV Hk.v.log, fun _ => none⟩ = (n : Int) from congrArg (fun (z : Nat) => (z : Int)) HFL.out] at LE
          have FI := hid (table_First g5 (1 + 1 + 1) t8 _ w8 hV8.2.2.1)
          rw [show firstT (crashV Hk.v.log).tab = 0 from (AtZero.all _).first] at FI
          clear hV8 BU
          go_wp2_with (first
            | refine wpList_load_vals rfl (.tmp 6) rfl b6 rfl f L8.out ?_
            | refine wpList_load_vals rfl (.tmp 8) rfl b8 rfl f M8.out ?_
            | refine wpList_eq_vals rfl (.tmp 78) (.tmp 79) _ rfl f rfl rfl ?_)
          refine LA.out.mono ?_
          rintro e w' ⟨rfl, rfl⟩
          go_wp2_with fail
          refine LE.out.mono ?_
          rintro e w' ⟨rfl, rfl⟩
          go_wp2_with fail
          refine FI.out.mono ?_
          rintro e w9 ⟨rfl, hb⟩
          have B9 := hid (B1.out.trans ((B8.out.below.mono B1.out.size).trans (hb.mono (Nat.le_trans B1.out.size B8.out.size))))
          clear hb
          go_wp2
          go_ret
          exact ⟨rfl, B9.out⟩

end Go.Proofs.Ytoiobhcgpajogac
