/- The walk of VaultLooks. -/
import Derived.Test.YtoiobhcgpajogacHouseP
import Derived.Test.YtoiobhcgpajogacHouse11
namespace Go.Proofs.Ytoiobhcgpajogac
open Go.RowKit

set_option maxHeartbeats 8000000 in
set_option maxRecDepth 100000 in
theorem walk_VaultLooks (a : Option Addr) (cap : Nat) (l : List Vst) (at_ kq : Int) (w : World) (hl : l.length ≤ 9223372036854775807) (hA : VstepsAt w a l) (_ : (Lit.int .i64 at_).wf = true) (_ : (Lit.int .i64 kq).wf = true) :
    Calls Try.prog 7 #[.slice a l.length cap, .int .i64 at_, .int .i64 kq] w (TruePost w) := by
  have HA := hid hA
  clear hA
  go_enter Try.func7, Try.ntmps7
  go_wp2_with fail
  (with_reducible refine (law_vaultBegun w).mono ?_)
  rintro e w1 ⟨rfl, hb⟩
  have B1 := hid hb
  clear hb
  go_wp2_with fail
  (with_reducible refine (law_greatVault a cap l w1 hl (HA.out.below B1.out)).mono ?_)
  rintro e w' ⟨rfl, rfl⟩
  cases hg : greatV l with
  | true =>
    clear hg
    go_wp2
    go_ret
    exact ⟨rfl, B1.out⟩
  | false =>
  obtain ⟨h150, h100⟩ := greatV_false hg
  have H100 := hid h100
  have VA := hid (HA.out.below B1.out)
  clear hg h100 HA
  go_wp2_with fail
  (with_reducible refine (law_newHouse w1).mono ?_)
  rintro e w2 ⟨h, vp, c, g, rfl, hE, hH⟩
  have S2 : Hid (HouseAt w2 g 1 h 0 Vt.new) := hid ⟨vp, c, _, _, 41, 0, _, hH, fun i hi => by omega⟩
  have C2 := hid ((Base.start w1).step hE (by omega))
  have q0 := hH.loc.1.cell 0
  simp only [List.getElem?_cons_zero] at q0
  clear hE hH
  go_wp2_with fail
  go_loopw [8] (fun i wr => ∃ (k : Nat) (g : Nat → Nat) (V : Vt), k ≤ l.length ∧ i = .int .i64 k ∧ Hid (HouseAt wr g 1 h (8 * k) V) ∧ Hid (Base w1.heap.size w1 g wr) ∧ Hid V.Sound) (fun i _ => l.length - (intOf i).toNat)
  case atStart => exact ⟨0, g, Vt.new, Nat.zero_le _, rfl, S2, C2, hid Vt.new_sound⟩
  case round =>
    clear S2 C2 q0
    obtain ⟨k, g, V, hk, rfl, H, HB, HS⟩ := hrel
    by_cases hlt : k < l.length
    · obtain ⟨b, off, rfl, hbb, hv⟩ := VA.out.facts (by omega)
      obtain ⟨p0, p1, p2, p3, p4, p5, p6, p7, p8⟩ := hv k hlt
      have c0 := (HB.out.cell (p := ⟨b, _, none⟩) hbb).trans p0
      have c1 := (HB.out.cell (p := ⟨b, _, none⟩) hbb).trans p1
      have c2 := (HB.out.cell (p := ⟨b, _, none⟩) hbb).trans p2
      have c3 := (HB.out.cell (p := ⟨b, _, none⟩) hbb).trans p3
      have c4 := (HB.out.cell (p := ⟨b, _, none⟩) hbb).trans p4
      have c5 := (HB.out.cell (p := ⟨b, _, none⟩) hbb).trans p5
      have c6 := (HB.out.cell (p := ⟨b, _, none⟩) hbb).trans p6
      have c7 := (HB.out.cell (p := ⟨b, _, none⟩) hbb).trans p7
      have hki : (k : Int) < (l.length : Int) := by omega
      have hk0 : (0 : Int) ≤ (k : Int) := by omega
      generalize l[k] = y at *
      clear p0 p1 p2 p3 p4 p5 p6 p7 hv
      have ST := hid (house_step g 1 h (8 * k) V y wr (Nat.le_refl _) (by omega) p8 H.out)
      go_wp2_with fail
      refine ST.out.mono ?_
      rintro e w3 ⟨rfl, g3, V3, hH, hS, hK⟩
      have H3 : Hid (HouseAt w3 g3 1 h (8 * (k + 1)) V3) := hid hH
      have HS3 := hid (hS HS.out)
      have HB3 := hid (hK _ _ HB.out)
      clear hH hS hK ST H HS HB c0 c1 c2 c3 c4 c5 c6 c7
      go_wp2_with fail
      go_roundw
      case rel => exact ⟨k + 1, g3, V3, by omega, by go_num, H3, HB3, HS3⟩
      case measure => simp [intOf]; omega
    · have hki : (l.length : Int) ≤ (k : Int) := by omega
      obtain ⟨vp, c, vd, vw, nx, n, x, hC, -⟩ := H.out
      have hnx := hC.nxt
      have HL := hid hC.loc
      have q0 := hC.loc.1.cell 0
      simp only [List.getElem?_cons_zero] at q0
      obtain ⟨t, b, hV⟩ := hC.vault
      obtain ⟨q1, -, -, -⟩ := hV.cells
      have hOK := hV.1
      have hT := hV.2.2.1.1
      have HV := hid hV
      clear hC hV H VA
      have FI := hid (fun W (hb : Below wr.heap.size wr W) => table_First g (1 + 1 + 1) t V.tab W (HV.out.2.2.1.below hb))
      have LA := hid (fun W (hb : Below wr.heap.size wr W) => table_Last g (1 + 1 + 1) t V.tab W (HV.out.2.2.1.below hb))
      have QS := hid (fun W (hb : Below wr.heap.size wr W) => (⟨(HL.out.below hb).1.cell 0, (HV.out.below hb).cells.1⟩ : W.cell? ⟨h, 0, none⟩ = some (.pointer (some ⟨vp, 0, none⟩)) ∧ W.cell? ⟨vp, 0, none⟩ = some (.pointer (some ⟨t, 0, none⟩))))
      have BG := hid (vault_Begin g (1 + 1) vp V nx 3 at_ wr ⟨t, b, HV.out⟩)
      by_cases h1 : at_ < 0 ∨ (V.tab.last : Int) < at_
      · rw [look_range h1] at BG
        unfold BeginPost at BG
        simp only at BG
        go_wp2_with fail
        refine BG.out.mono ?_
        rintro e w3 ⟨hb, rfl⟩
        have B3 := hid hb
        have L3 := hid (LA.out _ hb)
        obtain ⟨r0, r1⟩ := QS.out _ hb
        clear hb BG FI LA QS
        by_cases h2 : at_ < 0
        · clear h1
          go_wp2_with fail
          go_ret
          exact ⟨rfl, B1.out.trans ((HB.out.below' B3.out).below.mono B1.out.size)⟩
        · have h3 : (V.tab.last : Int) < at_ := by omega
          have h2' : 0 ≤ at_ := by omega
          clear h1
          generalize V.tab.last = L at *
          go_wp2_with fail
          refine L3.out.mono ?_
          rintro e w' ⟨rfl, rfl⟩
          go_wp2_with fail
          go_ret
          exact ⟨rfl, B1.out.trans ((HB.out.below' B3.out).below.mono B1.out.size)⟩
      have h2 : 0 ≤ at_ := by omega
      have h3 : at_ ≤ (V.tab.last : Int) := by omega
      have h2' : ¬ at_ < 0 := by omega
      clear h1
      by_cases h4 : at_ < firstT V.tab
      · rw [look_old h2 h3 h4] at BG
        unfold BeginPost at BG
        simp only at BG
        have h40 : (V.tab.last : Int) ≤ 40 := by have := hT.2; omega
        go_wp2_with fail
        refine BG.out.mono ?_
        rintro e w3 ⟨hb, rfl⟩
        have B3 := hid hb
        have L3 := hid (LA.out _ hb)
        have F3 := hid (FI.out _ hb)
        obtain ⟨r0, r1⟩ := QS.out _ hb
        clear hb BG FI LA QS hT hOK HS
        generalize firstT V.tab = F at *
        generalize V.tab.last = L at *
        go_wp2_with fail
        refine L3.out.mono ?_
        rintro e w' ⟨rfl, rfl⟩
        go_wp2_with fail
        refine F3.out.mono ?_
        rintro e w4 ⟨rfl, hb⟩
        have B4 := hid (B3.out.trans (hb.mono B3.out.size))
        clear hb
        go_wp2_with fail
        go_ret
        exact ⟨rfl, B1.out.trans ((HB.out.below' B4.out).below.mono B1.out.size)⟩
      have h5 : firstT V.tab ≤ at_ := by omega
      rw [look_some h2 h3 h5] at BG
      unfold BeginPost at BG
      simp only at BG
      have LG := hid (look_get V.tab hT h3 h5 kq)
      have LC := hid (fun (D : Ded) hw hm => look_commit (V := V) (D := D) hw hm)
      have LP := hid (fun (D : Ded) hm => look_put (D := D) hm kq ⟨true, ⟨#[120]⟩⟩)
      have h40 : (V.tab.last : Int) ≤ 40 := by have := hT.2; omega
      go_wp2_with fail
      refine BG.out.mono ?_
      rintro e w3 ⟨hb, d, rfl, -, hD⟩
      have E3 := Evo.of_below (lo := 0) (hi := 0) g nx hb
      have B3 := hid (HB.out.step E3 (by omega))
      have V3 := hid (HV.out.frame E3 (by omega))
      have L3 := hid (HL.out.frame E3 (by omega))
      have D3 := hid hD
      clear hb hD E3 BG FI LA QS HB HV HL q0 q1
      generalize extc g wr nx = g3 at *
      obtain ⟨q0, q1⟩ : w3.cell? ⟨h, 0, none⟩ = some (.pointer (some ⟨vp, 0, none⟩)) ∧ w3.cell? ⟨vp, 0, none⟩ = some (.pointer (some ⟨t, 0, none⟩)) := ⟨L3.out.1.cell 0, V3.out.cells.1⟩
      have LA := hid (table_Last g3 (1 + 1 + 1) t V.tab w3 V3.out.2.2.1)
      have FI := hid (table_First g3 (1 + 1 + 1) t V.tab w3 V3.out.2.2.1)
      have hT' := hid hT
      clear hT hOK HS
      generalize hF : firstT V.tab = F at *
      generalize hL : V.tab.last = L at *
      clear hF
      have HLL := hid hL
      clear hL
      go_wp2_with fail
      refine LA.out.mono ?_
      rintro e w' ⟨rfl, rfl⟩
      go_wp2_with fail
      refine FI.out.mono ?_
      rintro e w4 ⟨rfl, hb⟩
      have B4 := hid (B3.out.below' hb)
      have V4 := hid (V3.out.below hb)
      have L4 := hid (L3.out.below hb)
      have D4 := hid (D3.out.below hb)
      clear hb LA FI B3 V3 L3 D3 q0 q1
      obtain ⟨q0, q1⟩ : w4.cell? ⟨h, 0, none⟩ = some (.pointer (some ⟨vp, 0, none⟩)) ∧ w4.cell? ⟨vp, 0, none⟩ = some (.pointer (some ⟨t, 0, none⟩)) := ⟨L4.out.1.cell 0, V4.out.cells.1⟩
      have GD := hid (deed_Get g3 nx d (Ded.new 3 at_) g3 (1 + 1 + 1) t V.tab kq w4 D4.out V4.out.2.2.1)
      have RDT := hid (fun W G (hV : VaultC W G (1 + 1) vp t b V) => table_Read G (1 + 1 + 1) t V.tab W kq at_ hV.2.2.1)
      obtain ⟨y, hy⟩ : ∃ y, getD (Ded.new 3 at_) V.tab kq = y := ⟨_, rfl⟩
      rw [hy] at GD LG
      obtain ⟨r, hr⟩ : ∃ r, readT V.tab kq at_ = r := ⟨_, rfl⟩
      rw [hr] at RDT LG
      obtain ⟨⟨u, cd⟩, D'⟩ := y
      obtain ⟨e1, hw, hm⟩ := LG.out
      simp only at e1 hw hm
      subst e1
      have LC' := hid (LC.out D' hw hm)
      have LP' := hid (LP.out D' hm)
      clear hy hr hw hm LG LC LP
      unfold DGetPost at GD
      simp only at GD
      go_wp2_with fail
      refine GD.out.mono ?_
      rintro e w5 ⟨rfl, g5, hD, hE⟩
      have B5 := hid (B4.out.step hE (by omega))
      have V5 := hid (V4.out.frame hE (by omega))
      have L5 := hid (L4.out.frame hE (by omega))
      have D5 := hid hD
      clear hD hE B4 V4 L4 D4 q0 q1 GD
      go_upto_region 21 with (fail)
      have EA := Evo.alloc g5 (nx + 1) w5 (.cells #[.bool u.there, .string u.bytes] 39)
      have Y6 : Hid (LocC (w5.alloc (.cells #[.bool u.there, .string u.bytes] 39)) (extc g5 w5 (nx + 1)) (nx + 1) w5.heap.size 39 [.bool u.there, .string u.bytes]) := hid (LocC.new g5 (nx + 1) w5 39 [.bool u.there, .string u.bytes])
      have B6 := hid (B5.out.step EA (by omega))
      have V6 := hid (V5.out.frame EA (by omega))
      have L6 := hid (L5.out.frame EA (by omega))
      have D6 := hid (D5.out.frame EA (by omega))
      clear EA B5 V5 L5 D5
      generalize w5.alloc (.cells #[.bool u.there, .string u.bytes] 39) = w6 at *
      generalize extc g5 w5 (nx + 1) = g6 at *
      generalize w5.heap.size = b6 at *
      obtain ⟨q0, q1⟩ : w6.cell? ⟨h, 0, none⟩ = some (.pointer (some ⟨vp, 0, none⟩)) ∧ w6.cell? ⟨vp, 0, none⟩ = some (.pointer (some ⟨t, 0, none⟩)) := ⟨L6.out.1.cell 0, V6.out.cells.1⟩
      have RD6 := hid (RDT.out w6 g6 V6.out)
      go_wp2_with fail
      refine RD6.out.mono ?_
      rintro e w7 ⟨rfl, hb⟩
      have B7 := hid (B6.out.below' hb)
      have V7 := hid (V6.out.below hb)
      have L7 := hid (L6.out.below hb)
      have D7 := hid (D6.out.below hb)
      have Y7 := hid (Y6.out.below hb)
      clear hb B6 V6 L6 D6 Y6 RD6 RDT q0 q1
      go_upto_region 22 with (fail)
      have EA := Evo.alloc g6 (nx + 2) w7 (.cells #[.bool u.there, .string u.bytes] 39)
      have Z8 : Hid (LocC (w7.alloc (.cells #[.bool u.there, .string u.bytes] 39)) (extc g6 w7 (nx + 2)) (nx + 2) w7.heap.size 39 [.bool u.there, .string u.bytes]) := hid (LocC.new g6 (nx + 2) w7 39 [.bool u.there, .string u.bytes])
      have B8 := hid (B7.out.step EA (by omega))
      have V8 := hid (V7.out.frame EA (by omega))
      have L8 := hid (L7.out.frame EA (by omega))
      have D8 := hid (D7.out.frame EA (by omega))
      have Y8 := hid (Y7.out.frame EA (by omega))
      clear EA B7 V7 L7 D7 Y7
      generalize w7.alloc (.cells #[.bool u.there, .string u.bytes] 39) = w8 at *
      generalize extc g6 w7 (nx + 2) = g8 at *
      generalize w7.heap.size = b8 at *
      obtain ⟨q0, q1⟩ : w8.cell? ⟨h, 0, none⟩ = some (.pointer (some ⟨vp, 0, none⟩)) ∧ w8.cell? ⟨vp, 0, none⟩ = some (.pointer (some ⟨t, 0, none⟩)) := ⟨L8.out.1.cell 0, V8.out.cells.1⟩
      have LA := hid (table_Last g8 (1 + 1 + 1) t V.tab w8 V8.out.2.2.1)
      rw [HLL.out] at LA
      have CM := hid (vault_Commit g8 (1 + 1) vp V nx d D' w8 ⟨t, b, V8.out⟩ D8.out)
      rw [LC'.out] at CM
      unfold VTurnPost at CM
      simp only at CM
      go_wp2_with fail
      refine LA.out.mono ?_
      rintro e w' ⟨rfl, rfl⟩
      go_wp2_with fail
      refine CM.out.mono ?_
      rintro e w9 ⟨rfl, g9, hv, hE⟩
      obtain ⟨t9, b9, hV9⟩ := hv
      have V9 := hid hV9
      have B9 := hid (B8.out.step hE (by omega))
      have L9 := hid (L8.out.frame hE (by omega))
      have D9 := hid (D8.out.frame hE (by omega))
      have Y9 := hid (Y8.out.frame hE (by omega))
      have Z9 := hid (Z8.out.frame hE (by omega))
      clear hV9 hE B8 V8 L8 D8 Y8 Z8 LA CM q0 q1
      obtain ⟨y0, y1, -, -⟩ := Y9.out.1.two
      obtain ⟨z0, z1, -, -⟩ := Z9.out.1.two
      go_wp2_with fail
      refine (law_has ⟨#[120]⟩ w9).mono ?_
      rintro e wa ⟨rfl, hb⟩
      have Ba := hid (B9.out.below' hb)
      have Va := hid (V9.out.below hb)
      have La := hid (L9.out.below hb)
      have Da := hid (D9.out.below hb)
      clear hb B9 V9 L9 D9 Y9 Z9 y0 y1 z0 z1
      have PD := hid (deed_Put g9 nx d D' kq ⟨true, ⟨#[120]⟩⟩ wa (show (ByteArray.mk #[120]).size ≤ maxLen by decide) Da.out)
      obtain ⟨z, hz⟩ : ∃ z, putD D' kq ⟨true, ⟨#[120]⟩⟩ = z := ⟨_, rfl⟩
      rw [hz] at PD LP'
      obtain ⟨cz, D''⟩ := z
      have hcz : (cz == 0) = false := by have := LP'.out; simpa using this
      have hcz2 : (cz != 0) = true := by have := LP'.out; simpa using this
      clear hz LP'
      unfold DPutPost at PD
      simp only at PD
      go_wp2_with fail
      refine PD.out.mono ?_
      rintro e wb ⟨rfl, gb, hD, hE⟩
      have Bb := hid (Ba.out.step hE (by omega))
      have Vb := hid (Va.out.frame hE (by omega))
      have Lb := hid (La.out.frame hE (by omega))
      clear hD hE PD Ba Va La Da
      obtain ⟨q0, q1⟩ : wb.cell? ⟨h, 0, none⟩ = some (.pointer (some ⟨vp, 0, none⟩)) ∧ wb.cell? ⟨vp, 0, none⟩ = some (.pointer (some ⟨t9, 0, none⟩)) := ⟨Lb.out.1.cell 0, Vb.out.cells.1⟩
      have LA := hid (table_Last gb (1 + 1 + 1) t9 V.tab wb Vb.out.2.2.1)
      rw [HLL.out] at LA
      go_wp2_with fail
      refine LA.out.mono ?_
      rintro e w' ⟨rfl, rfl⟩
      go_wp2_with fail
      go_ret
      exact ⟨rfl, B1.out.trans (Bb.out.below.mono B1.out.size)⟩

end Go.Proofs.Ytoiobhcgpajogac
