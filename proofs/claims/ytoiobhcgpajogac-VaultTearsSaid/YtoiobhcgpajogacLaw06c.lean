/- The walk of VaultTears. -/
import Derived.Test.YtoiobhcgpajogacHouseP
import Derived.Test.YtoiobhcgpajogacHouse11
import Derived.Test.YtoiobhcgpajogacReg
namespace Go.Proofs.Ytoiobhcgpajogac
open Go.RowKit

set_option maxHeartbeats 8000000 in
set_option maxRecDepth 100000 in
theorem walk_VaultTears (a : Option Addr) (cap : Nat) (l : List Vst) (a2 : Option Addr) (cap2 : Nat) (m : List Ent) (keep : Int) (w : World) (hl : l.length ≤ 9223372036854775807) (hA : VstepsAt w a l) (hl2 : m.length ≤ 9223372036854775807) (hA2 : PairsAt w a2 m) (_ : (Lit.int .i64 keep).wf = true) :
    Calls Try.prog 6 #[.slice a l.length cap, .slice a2 m.length cap2, .int .i64 keep] w (TruePost w) := by
  have HA := hid hA
  clear hA
  have HA2 := hid hA2
  clear hA2
  go_enter Try.func6, Try.ntmps6
  go_wp2_with fail
  (with_reducible refine (law_vaultBegun w).mono ?_)
  rintro e w1 ⟨rfl, hb⟩
  have B1 := hid hb
  clear hb
  go_wp2_with fail
  (with_reducible refine (law_greatVault a cap l w1 hl (HA.out.below B1.out)).mono ?_)
  rintro e w' ⟨rfl, rfl⟩
  cases hg : greatV l with
  | true =>
    clear hg
    go_wp2
    go_ret
    exact ⟨rfl, B1.out⟩
  | false =>
  obtain ⟨h150, h100⟩ := greatV_false hg
  have H100 := hid h100
  have VA := hid (HA.out.below B1.out)
  clear hg h100 HA
  go_wp2_with fail
  (with_reducible refine (law_greatPairs a2 cap2 m w1 hl2 (HA2.out.below B1.out).sl).mono ?_)
  rintro e w1' ⟨rfl, hb⟩
  have B1' := hid (B1.out.trans (hb.mono B1.out.size))
  have VA' := hid (VA.out.below hb)
  have M2 := hid (HA2.out.below B1'.out)
  clear hb B1 VA HA2
  have B1 := B1'
  have VA := VA'
  clear B1' VA'
  cases hg : greatP m with
  | true =>
    clear hg
    go_wp2
    go_ret
    exact ⟨rfl, B1.out⟩
  | false =>
  obtain ⟨hq50, hqs⟩ := greatP_false hg
  have MS := hid hqs
  clear hg hqs
  go_wp2_with fail
  (with_reducible refine (law_newHouse w1').mono ?_)
  rintro e w2 ⟨h, vp, c, g, rfl, hE, hH⟩
  have S2 : Hid (HouseAt w2 g 1 h 0 Vt.new) := hid ⟨vp, c, _, _, 41, 0, _, hH, fun i hi => by omega⟩
  have C2 := hid ((Base.start w1').step hE (by omega))
  have q0 := hH.loc.1.cell 0
  simp only [List.getElem?_cons_zero] at q0
  clear hE hH
  go_wp2_with fail
  go_loopw [8] (fun i wr => ∃ (k : Nat) (g : Nat → Nat) (V : Vt), k ≤ l.length ∧ i = .int .i64 k ∧ Hid (HouseAt wr g 1 h (8 * k) V) ∧ Hid (Base w1'.heap.size w1' g wr) ∧ Hid V.Sound) (fun i _ => l.length - (intOf i).toNat)
  case atStart => exact ⟨0, g, Vt.new, Nat.zero_le _, rfl, S2, C2, hid Vt.new_sound⟩
  case round =>
    clear S2 C2 q0
    obtain ⟨k, g, V, hk, rfl, H, HB, HS⟩ := hrel
    by_cases hlt : k < l.length
    · obtain ⟨b, off, rfl, hbb, hv⟩ := VA.out.facts (by omega)
      obtain ⟨p0, p1, p2, p3, p4, p5, p6, p7, p8⟩ := hv k hlt
      have c0 := (HB.out.cell (p := ⟨b, _, none⟩) hbb).trans p0
      have c1 := (HB.out.cell (p := ⟨b, _, none⟩) hbb).trans p1
      have c2 := (HB.out.cell (p := ⟨b, _, none⟩) hbb).trans p2
      have c3 := (HB.out.cell (p := ⟨b, _, none⟩) hbb).trans p3
      have c4 := (HB.out.cell (p := ⟨b, _, none⟩) hbb).trans p4
      have c5 := (HB.out.cell (p := ⟨b, _, none⟩) hbb).trans p5
      have c6 := (HB.out.cell (p := ⟨b, _, none⟩) hbb).trans p6
      have c7 := (HB.out.cell (p := ⟨b, _, none⟩) hbb).trans p7
      have hki : (k : Int) < (l.length : Int) := by omega
      have hk0 : (0 : Int) ≤ (k : Int) := by omega
      generalize l[k] = y at *
      clear p0 p1 p2 p3 p4 p5 p6 p7 hv
      have ST := hid (house_step g 1 h (8 * k) V y wr (Nat.le_refl _) (by omega) p8 H.out)
      go_wp2_with fail
      refine ST.out.mono ?_
      rintro e w3 ⟨rfl, g3, V3, hH, hS, hK⟩
      have H3 : Hid (HouseAt w3 g3 1 h (8 * (k + 1)) V3) := hid hH
      have HS3 := hid (hS HS.out)
      have HB3 := hid (hK _ _ HB.out)
      clear hH hS hK ST H HS HB c0 c1 c2 c3 c4 c5 c6 c7
      go_wp2_with fail
      go_roundw
      case rel => exact ⟨k + 1, g3, V3, by omega, by go_num, H3, HB3, HS3⟩
      case measure => simp [intOf]; omega
    · have hki : (l.length : Int) ≤ (k : Int) := by omega
      obtain ⟨vp, c, vd, vw, nx, n, x, hC, -⟩ := H.out
      have hnx := hC.nxt
      have HL := hid hC.loc
      have q0 := hC.loc.1.cell 0
      simp only [List.getElem?_cons_zero] at q0
      obtain ⟨t, b, hV⟩ := hC.vault
      obtain ⟨q1, -, -, -⟩ := hV.cells
      have hOK := hV.1
      have hT := hV.2.2.1.1
      have HV := hid hV
      clear hC hV H VA
      have TOK := hid hT
      have VOK := hid hOK
      have LA := hid (table_Last g (1 + 1 + 1) t V.tab wr HV.out.2.2.1)
      have SH := hid (show Calls Try.prog 48 #[.pointer (some ⟨t, 0, none⟩), .int .i64 (V.tab.last : Int)] wr (SheetPost (sheetT V.tab V.tab.last) true wr) from (by
        have P := law_sheet g (1 + 1 + 1) t V.tab wr (V.tab.last : Int) HV.out.2.2.1
        rw [codesT_top hT] at P
        exact P))
      have BGN := hid (begin_sure hT)
      have TL := hid (fun (D : Ded) (hD : D.Ok) (hb : D.beg = V.tab.last) => tears_law hOK hT HS.out hD hb keep)
      have h40 : (V.tab.last : Int) ≤ 40 := by have := hT.2; omega
      have W0 := hid (want_new (sheetT V.tab V.tab.last) 2 V.tab.last)
      generalize hf : sheetT V.tab V.tab.last = f at *
      generalize hL : V.tab.last = L at *
      have HF := hid hf
      have HLL := hid hL
      clear hT hOK HS hf hL
      go_wp2_with fail
      refine LA.out.mono ?_
      rintro e w' ⟨rfl, rfl⟩
      go_wp2_with fail
      (with_reducible refine SH.out.mono ?_)
      rintro e w3 ⟨rfl, hb⟩
      have B3 := hid (HB.out.below' hb)
      have V3 := hid (HV.out.below hb)
      have H3 := hid (HL.out.below hb)
      clear hb LA SH HB HV HL q0 q1
      go_wp2_with (refine wpList_new_vals w3 rfl (.tmp 10) (.tmp 66) rfl f rfl rfl ?_; intro w4 hLn hbn; have Lw4 := hid (show LocC w4 (extc g w3 (nx + 1)) (nx + 1) w3.heap.size 80 (vals8 f) from ⟨hLn, extc_new (Nat.le_refl _)⟩); have Ew4 := hid (Evo.of_below (lo := 0) (hi := 0) g (nx + 1) hbn); have q0 := (H3.out.below hbn).1.cell 0; simp only [List.getElem?_cons_zero] at q0; clear hLn hbn)
      have B4 := hid (B3.out.step Ew4.out (by omega))
      have V4 := hid (V3.out.frame Ew4.out (by omega))
      have H4 := hid (H3.out.frame Ew4.out (by omega))
      have L4 := Lw4
      clear B3 V3 H3 Ew4 Lw4
      generalize extc g w3 (nx + 1) = g4 at *
      generalize w3.heap.size = b4 at *
      have BG := hid (vault_Begin g4 (1 + 1) vp V nx 2 0 w4 ⟨t, b, V4.out⟩)
      rw [BGN.out] at BG
      unfold BeginPost at BG
      simp only at BG
      go_wp2_with fail
      refine BG.out.mono ?_
      rintro e w5 ⟨hb, d, rfl, -, hD⟩
      have E5 := Evo.of_below (lo := 0) (hi := 0) g4 nx hb
      have B5 := hid (B4.out.step E5 (by omega))
      have V5 := hid (V4.out.frame E5 (by omega))
      have H5 := hid (H4.out.frame E5 (by omega))
      have L5 := hid (L4.out.frame E5 (by omega))
      have D5 := hid hD
      clear hb hD E5 BG BGN B4 V4 H4 L4 q0
      generalize extc g4 w4 nx = g5 at *
      go_wp2_with (first | refine wpList_load_vals rfl (.tmp 10) rfl b4 rfl f L5.out.1 ?_ | (refine wpList_new_vals w5 rfl (.tmp 14) (.tmp 86) rfl f rfl rfl ?_; intro w6 hLn hbn; have Lw6 := hid (show LocC w6 (extc g5 w5 (nx + 2)) (nx + 2) w5.heap.size 80 (vals8 f) from ⟨hLn, extc_new (Nat.le_refl _)⟩); have Ew6 := hid (Evo.of_below (lo := 0) (hi := 0) g5 (nx + 2) hbn); clear hLn hbn))
      have B6 := hid (B5.out.step Ew6.out (by omega))
      have V6 := hid (V5.out.frame Ew6.out (by omega))
      have H6 := hid (H5.out.frame Ew6.out (by omega))
      have L6 := hid (L5.out.frame Ew6.out (by omega))
      have D6 := hid (D5.out.frame Ew6.out (by omega))
      have N6 := Lw6
      rw [← W0.out] at N6
      clear B5 V5 H5 L5 D5 Ew6 Lw6 W0
      generalize extc g5 w5 (nx + 2) = g6 at *
      generalize w5.heap.size = b6 at *
      have U6 : Hid ((Ded.new 2 L).beg = L) := hid rfl
      generalize Ded.new 2 L = D0 at *
      go_loopw [15] (fun i wr => ∃ (j : Nat) (G : Nat → Nat) (D : Ded), j ≤ m.length ∧ i = .int .i64 j ∧ Hid (Base w1'.heap.size w1' G wr) ∧ Hid (VaultC wr G (1 + 1) vp t b V) ∧ Hid (LocC wr G 1 h 69 [.pointer (some ⟨vp, 0, none⟩), .pointer (some ⟨c, 0, none⟩), vd, vw]) ∧ Hid (LocC wr G (nx + 1) b4 80 (vals8 f)) ∧ Hid (DeedAt wr G nx d D) ∧ Hid (LocC wr G (nx + 2) b6 80 (vals8 (wantP f D))) ∧ Hid (D.beg = L)) (fun i _ => m.length - (intOf i).toNat)
      case atStart => exact ⟨0, g6, D0, Nat.zero_le _, rfl, B6, V6, H6, L6, D6, N6, U6⟩
      case round =>
        clear B6 V6 H6 L6 D6 N6 U6
        obtain ⟨j, G, D, hj, rfl, HB, HV, HL, HW, HD, HN, HU⟩ := hrel
        by_cases hjl : j < m.length
        · obtain ⟨b2, f2, rfl, hv⟩ := M2.out.1.ents (by omega)
          obtain ⟨p0, p1, p2⟩ := hv j hjl
          have hbb : b2 < w1'.heap.size := World.block_lt_of_cell? _ _ p0
          have hsz := MS.out m[j] (List.getElem_mem _)
          have hji : (j : Int) < (m.length : Int) := by omega
          have hj0 : (0 : Int) ≤ (j : Int) := by omega
          generalize m[j] = y at *
          have hsz2 : y.v.bytes.size ≤ maxLen := by unfold maxLen; omega
          have HBB := hid hbb
          have KM := hid (fun (G2 : Nat → Nat) (W : World) (hB : Base w1'.heap.size w1' G2 W) => (⟨(hB.cell (p := ⟨b2, f2 + j * 3, none⟩) hbb).trans p0, (hB.cell (p := ⟨b2, f2 + j * 3 + 1, none⟩) hbb).trans p1, (hB.cell (p := ⟨b2, f2 + j * 3 + 2, none⟩) hbb).trans p2⟩ : W.cell? ⟨b2, f2 + j * 3, none⟩ = some (.int .i64 y.n) ∧ W.cell? ⟨b2, f2 + j * 3 + 1, none⟩ = some (.bool y.v.there) ∧ W.cell? ⟨b2, f2 + j * 3 + 2, none⟩ = some (.string y.v.bytes)))
          clear hv p0 p1 p2
          have BA := hid (HB.out.below' (Below.refl wr.heap.size wr).drew)
          have PD := hid (deed_Put G nx d D y.n y.v wr.drew hsz2 (HD.out.below (Below.refl wr.heap.size wr).drew))
          have hS0 := KM.out _ _ BA.out
          by_cases hc : (putD D y.n y.v).1 = 0
          · obtain ⟨q, hq8, hqn, hqw, hqb⟩ := want_put (f := f) hc
            unfold DPutPost at PD
            rw [hc] at PD
            have QW := hid hqw
            have QB := hid (hqb.trans HU.out)
            generalize (putD D y.n y.v).2 = D2 at *
            have hq0 : (0 : Int) ≤ (q : Int) := by omega
            have hq8' : (q : Int) < 8 := by omega
            have CK := hid (fun W => ref_IsKey_in q W ⟨hq0, hq8'⟩)
            rw [hqn] at PD KM hS0
            clear hqn hqw hqb hc hsz hsz2 BA
            go_wp2_with fail
            -- REGION 22p
            refine wp_region_noPanic ?_
            refine wp_region_held_drew (S := (fun W : World => W.cell? ⟨b2, f2 + j * 3, none⟩ = some (.int .i64 q) ∧ W.cell? ⟨b2, f2 + j * 3 + 1, none⟩ = some (.bool y.v.there) ∧ W.cell? ⟨b2, f2 + j * 3 + 2, none⟩ = some (.string y.v.bytes))) (by kernel_rfl) ?_ (fun hH0 => ?_)
            · (try dsimp only); (first | assumption | exact hS0)
            refine wpAnyH_take (i := 0) (v := ?_) (by simp only [List.getElem?_toArray, List.getElem?_cons_zero]; rfl) (by kernel_rfl) (by kernel_rfl) (by kernel_rfl) (fun _ _ _ h => h) (Or.inl ⟨by rfl, ?_⟩) (by assumption) ?_
            rotate_left
            · intro w hSw; (try dsimp only at hSw); go_simp; (try with_reducible rfl)
            try simp only [Act.put, List.setIfInBounds_toArray, List.set_cons_zero, List.set_cons_succ]
            refine wpAnyH_take (i := 1) (v := ?_) (by simp only [List.getElem?_toArray, List.getElem?_cons_zero, List.getElem?_cons_succ]; rfl) (by kernel_rfl) (by kernel_rfl) (by kernel_rfl) (fun _ _ _ h => h) (Or.inl ⟨by rfl, ?_⟩) (by assumption) ?_
            rotate_left
            · intro w hSw; (try dsimp only at hSw); go_simp; (try with_reducible rfl)
            try simp only [Act.put, List.setIfInBounds_toArray, List.set_cons_zero, List.set_cons_succ]
            refine wpAnyH_take (i := 2) (v := ?_) (by simp only [List.getElem?_toArray, List.getElem?_cons_zero, List.getElem?_cons_succ]; rfl) (by kernel_rfl) (by kernel_rfl) (by kernel_rfl) (fun _ _ _ h => h) (Or.inl ⟨by rfl, ?_⟩) (by assumption) ?_
            rotate_left
            · intro w hSw; (try dsimp only at hSw); go_simp; (try with_reducible rfl)
            try simp only [Act.put, List.setIfInBounds_toArray, List.set_cons_zero, List.set_cons_succ]
            refine wpAnyH_take (i := 3) (v := ?_) (by simp only [List.getElem?_toArray, List.getElem?_cons_zero, List.getElem?_cons_succ]; rfl) (by kernel_rfl) (by kernel_rfl) (by kernel_rfl) (fun _ _ _ h => h) (Or.inl ⟨by rfl, ?_⟩) (by assumption) ?_
            rotate_left
            · intro w hSw; (try dsimp only at hSw); go_simp; (try with_reducible rfl)
            try simp only [Act.put, List.setIfInBounds_toArray, List.set_cons_zero, List.set_cons_succ]
            refine wpAnyH_take (i := 4) (v := ?_) (by simp only [List.getElem?_toArray, List.getElem?_cons_zero, List.getElem?_cons_succ]; rfl) (by kernel_rfl) (by kernel_rfl) (by kernel_rfl) (fun _ _ _ h => h) (Or.inl ⟨by rfl, ?_⟩) (by assumption) ?_
            rotate_left
            · intro w hSw; (try dsimp only at hSw); go_simp; (try with_reducible rfl)
            try simp only [Act.put, List.setIfInBounds_toArray, List.set_cons_zero, List.set_cons_succ]
            refine wpAnyH_take (i := 5) (v := ?_) (by simp only [List.getElem?_toArray, List.getElem?_cons_zero, List.getElem?_cons_succ]; rfl) (by kernel_rfl) (by kernel_rfl) (by kernel_rfl) (fun _ _ _ h => h) (Or.inl ⟨by rfl, ?_⟩) (by assumption) ?_
            rotate_left
            · intro w hSw; (try dsimp only at hSw); go_simp; (try with_reducible rfl)
            try simp only [Act.put, List.setIfInBounds_toArray, List.set_cons_zero, List.set_cons_succ]
            refine wpAnyH_take (i := 6) (v := ?_) (by simp only [List.getElem?_toArray, List.getElem?_cons_zero, List.getElem?_cons_succ]; rfl) (by kernel_rfl) (by kernel_rfl) (by kernel_rfl) (fun _ _ _ h => h) (Or.inl ⟨by rfl, ?_⟩) (by assumption) ?_
            rotate_left
            · intro w hSw; (try dsimp only at hSw); go_simp; (try with_reducible rfl)
            try simp only [Act.put, List.setIfInBounds_toArray, List.set_cons_zero, List.set_cons_succ]
            refine wpAnyH_take (i := 7) (v := ?_) (by simp only [List.getElem?_toArray, List.getElem?_cons_zero, List.getElem?_cons_succ]; rfl) (by kernel_rfl) (by kernel_rfl) (by kernel_rfl) (fun _ _ _ h => h) (Or.inl ⟨by rfl, ?_⟩) (by assumption) ?_
            rotate_left
            · intro w hSw; (try dsimp only at hSw); go_simp; (try with_reducible rfl)
            try simp only [Act.put, List.setIfInBounds_toArray, List.set_cons_zero, List.set_cons_succ]
            refine wpAnyH_take (i := 8) (v := ?_) (by simp only [List.getElem?_toArray, List.getElem?_cons_zero, List.getElem?_cons_succ]; rfl) (by kernel_rfl) (by kernel_rfl) (by kernel_rfl) (fun _ _ _ h => h) (Or.inl ⟨by rfl, ?_⟩) (by assumption) ?_
            rotate_left
            · intro w hSw; (try dsimp only at hSw); go_simp; (try with_reducible rfl)
            try simp only [Act.put, List.setIfInBounds_toArray, List.set_cons_zero, List.set_cons_succ]
            refine wpAnyH_take (i := 9) (v := ?_) (by simp only [List.getElem?_toArray, List.getElem?_cons_zero, List.getElem?_cons_succ]; rfl) (by kernel_rfl) (by kernel_rfl) (by kernel_rfl) (fun _ _ _ h => h) (Or.inl ⟨by rfl, ?_⟩) (by assumption) ?_
            rotate_left
            · intro w hSw; (try dsimp only at hSw); go_simp; (try with_reducible rfl)
            try simp only [Act.put, List.setIfInBounds_toArray, List.set_cons_zero, List.set_cons_succ]
            refine wpAnyH_take (i := 10) (v := ?_) (by simp only [List.getElem?_toArray, List.getElem?_cons_zero, List.getElem?_cons_succ]; rfl) (by kernel_rfl) (by kernel_rfl) (by kernel_rfl) (fun _ _ _ h => h) (Or.inl ⟨by rfl, ?_⟩) (by assumption) ?_
            rotate_left
            · intro w hSw; (try dsimp only at hSw); go_simp; (try with_reducible rfl)
            try simp only [Act.put, List.setIfInBounds_toArray, List.set_cons_zero, List.set_cons_succ]
            refine wpAnyH_ready (rs := [11]) (by kernel_rfl) (by simp) ?_
            refine AllReadyH.cons (by simp only [List.getElem?_toArray, List.getElem?_cons_zero, List.getElem?_cons_succ]; rfl) (fun K hK => ?_) AllReadyH.nil
            go_simp
            go_at_call 22
            (with_reducible refine PD.out.mono ?_)
            rintro e w7 ⟨rfl, g7, hD, hE⟩
            have B7 := hid ((HB.out.below' (Below.refl wr.heap.size wr).drew).step hE (by omega))
            have V7 := hid ((HV.out.below (Below.refl wr.heap.size wr).drew).frame hE (by omega))
            have H7 := hid ((HL.out.below (Below.refl wr.heap.size wr).drew).frame hE (by omega))
            have W7 := hid ((HW.out.below (Below.refl wr.heap.size wr).drew).frame hE (by omega))
            have N7 := hid ((HN.out.below (Below.refl wr.heap.size wr).drew).frame hE (by omega))
            have D7 := hid hD
            have hS' := KM.out _ _ B7.out
            clear hD hE HB HV HL HW HN HD
            try go_wp2_with fail
            refine hK.out _ _ ?_ (fun hH1 => ?_)
            · (try dsimp only); (first | assumption | exact hS0)
            clear hK K hH0
            try simp only [Act.put, List.setIfInBounds_toArray, List.set_cons_zero, List.set_cons_succ]
            refine wpAnyH_take (i := 12) (v := ?_) (by simp only [List.getElem?_toArray, List.getElem?_cons_zero, List.getElem?_cons_succ]; rfl) (by kernel_rfl) (by kernel_rfl) (by kernel_rfl) (fun _ _ _ h => h) (Or.inl ⟨by rfl, ?_⟩) (by assumption) ?_
            rotate_left
            · intro w hSw; (try dsimp only at hSw); go_simp; (try with_reducible rfl)
            try simp only [Act.put, List.setIfInBounds_toArray, List.set_cons_zero, List.set_cons_succ]
            refine wpAnyH_take (i := 13) (v := ?_) (by simp only [List.getElem?_toArray, List.getElem?_cons_zero, List.getElem?_cons_succ]; rfl) (by kernel_rfl) (by kernel_rfl) (by kernel_rfl) (fun _ _ _ h => h) (Or.inl ⟨by rfl, ?_⟩) (by assumption) ?_
            rotate_left
            · intro w hSw; (try dsimp only at hSw); go_simp; (try with_reducible rfl)
            try simp only [Act.put, List.setIfInBounds_toArray, List.set_cons_zero, List.set_cons_succ]
            refine wpAnyH_take (i := 14) (v := ?_) (by simp only [List.getElem?_toArray, List.getElem?_cons_zero, List.getElem?_cons_succ]; rfl) (by kernel_rfl) (by kernel_rfl) (by kernel_rfl) (fun _ _ _ h => h) (Or.inl ⟨by rfl, ?_⟩) (by assumption) ?_
            rotate_left
            · intro w hSw; (try dsimp only at hSw); go_simp; (try with_reducible rfl)
            try simp only [Act.put, List.setIfInBounds_toArray, List.set_cons_zero, List.set_cons_succ]
            refine wpAnyH_take (i := 15) (v := ?_) (by simp only [List.getElem?_toArray, List.getElem?_cons_zero, List.getElem?_cons_succ]; rfl) (by kernel_rfl) (by kernel_rfl) (by kernel_rfl) (fun _ _ _ h => h) (Or.inl ⟨by rfl, ?_⟩) (by assumption) ?_
            rotate_left
            · intro w hSw; (try dsimp only at hSw); go_simp; (try with_reducible rfl)
            try simp only [Act.put, List.setIfInBounds_toArray, List.set_cons_zero, List.set_cons_succ]
            refine wpAnyH_take (i := 16) (v := ?_) (by simp only [List.getElem?_toArray, List.getElem?_cons_zero, List.getElem?_cons_succ]; rfl) (by kernel_rfl) (by kernel_rfl) (by kernel_rfl) (fun _ _ _ h => h) (Or.inl ⟨by rfl, ?_⟩) (by assumption) ?_
            rotate_left
            · intro w hSw; (try dsimp only at hSw); go_simp; (try with_reducible rfl)
            try simp only [Act.put, List.setIfInBounds_toArray, List.set_cons_zero, List.set_cons_succ]
            refine wpAnyH_take (i := 17) (v := ?_) (by simp only [List.getElem?_toArray, List.getElem?_cons_zero, List.getElem?_cons_succ]; rfl) (by kernel_rfl) (by kernel_rfl) (by kernel_rfl) (fun _ _ _ h => h) (Or.inl ⟨by rfl, ?_⟩) (by assumption) ?_
            rotate_left
            · intro w hSw; (try dsimp only at hSw); go_simp; (try with_reducible rfl)
            try simp only [Act.put, List.setIfInBounds_toArray, List.set_cons_zero, List.set_cons_succ]
            refine wpAnyH_take (i := 18) (v := ?_) (by simp only [List.getElem?_toArray, List.getElem?_cons_zero, List.getElem?_cons_succ]; rfl) (by kernel_rfl) (by kernel_rfl) (by kernel_rfl) (fun _ _ _ h => h) (Or.inl ⟨by rfl, ?_⟩) (by assumption) ?_
            rotate_left
            · intro w hSw; (try dsimp only at hSw); go_simp; (try with_reducible rfl)
            try simp only [Act.put, List.setIfInBounds_toArray, List.set_cons_zero, List.set_cons_succ]
            refine wpAnyH_ready (rs := [19]) (by kernel_rfl) (by simp) ?_
            refine AllReadyH.cons (by simp only [List.getElem?_toArray, List.getElem?_cons_zero, List.getElem?_cons_succ]; rfl) (fun K hK => ?_) AllReadyH.nil
            go_simp
            go_at_call 52
            (with_reducible refine (CK.out _).mono ?_)
            rintro e W ⟨rfl, rfl⟩
            try go_wp2_with fail
            refine hK.out _ _ ?_ (fun hH2 => ?_)
            · (try dsimp only); (first | assumption | exact hS0)
            clear hK K hH1
            try simp only [Act.put, List.setIfInBounds_toArray, List.set_cons_zero, List.set_cons_succ]
            refine wpAnyH_take (i := 20) (v := ?_) (by simp only [List.getElem?_toArray, List.getElem?_cons_zero, List.getElem?_cons_succ]; rfl) (by kernel_rfl) (by kernel_rfl) (by kernel_rfl) (fun _ _ _ h => h) (Or.inl ⟨by rfl, ?_⟩) (by assumption) ?_
            rotate_left
            · intro w hSw; (try dsimp only at hSw); go_simp; (try with_reducible rfl)
            try simp only [Act.put, List.setIfInBounds_toArray, List.set_cons_zero, List.set_cons_succ]
            refine wpAnyH_done (by kernel_rfl) ?_ _
            refine NoPanic.normal ?_
            rotate_left
            -- END 22p
            clear hS0 PD CK
            have hS0 := KM.out _ _ (B7.out.below' (Below.refl w7.heap.size w7).drew)
            obtain ⟨y1, y2, r1, r2⟩ : w7.cell? ⟨b6, q * 2, none⟩ = some (.bool (wantP f D q).there) ∧ w7.cell? ⟨b6, q * 2 + 1, none⟩ = some (.string (wantP f D q).bytes) ∧ w7.frozen? ⟨b6, q * 2, none⟩ = false ∧ w7.frozen? ⟨b6, q * 2 + 1, none⟩ = false := ⟨(N7.out.1.cell (q * 2)).trans (vals8_get _ q hq8).1, (N7.out.1.cell (q * 2 + 1)).trans (vals8_get _ q hq8).2, N7.out.1.free (q * 2), N7.out.1.free (q * 2 + 1)⟩
            go_wp2_with fail
            -- REGION 23
            refine wp_region_noPanic ?_
            refine wp_region_held_drew (S := (fun W : World => W.cell? ⟨b2, f2 + j * 3, none⟩ = some (.int .i64 q) ∧ W.cell? ⟨b2, f2 + j * 3 + 1, none⟩ = some (.bool y.v.there) ∧ W.cell? ⟨b2, f2 + j * 3 + 2, none⟩ = some (.string y.v.bytes))) (by kernel_rfl) ?_ (fun hH0 => ?_)
            · (try dsimp only); (first | assumption | exact hS0)
            refine wpAnyH_take (i := 0) (v := ?_) (by simp only [List.getElem?_toArray, List.getElem?_cons_zero]; rfl) (by kernel_rfl) (by kernel_rfl) (by kernel_rfl) (fun _ _ _ h => h) (Or.inl ⟨by rfl, ?_⟩) (by assumption) ?_
            rotate_left
            · intro w hSw; (try dsimp only at hSw); go_simp; (try with_reducible rfl)
            try simp only [Act.put, List.setIfInBounds_toArray, List.set_cons_zero, List.set_cons_succ]
            refine wpAnyH_take (i := 1) (v := ?_) (by simp only [List.getElem?_toArray, List.getElem?_cons_zero, List.getElem?_cons_succ]; rfl) (by kernel_rfl) (by kernel_rfl) (by kernel_rfl) (fun _ _ _ h => h) (Or.inl ⟨by rfl, ?_⟩) (by assumption) ?_
            rotate_left
            · intro w hSw; (try dsimp only at hSw); go_simp; (try with_reducible rfl)
            try simp only [Act.put, List.setIfInBounds_toArray, List.set_cons_zero, List.set_cons_succ]
            refine wpAnyH_take (i := 2) (v := ?_) (by simp only [List.getElem?_toArray, List.getElem?_cons_zero, List.getElem?_cons_succ]; rfl) (by kernel_rfl) (by kernel_rfl) (by kernel_rfl) (fun _ _ _ h => h) (Or.inl ⟨by rfl, ?_⟩) (by assumption) ?_
            rotate_left
            · intro w hSw; (try dsimp only at hSw); go_simp; (try with_reducible rfl)
            try simp only [Act.put, List.setIfInBounds_toArray, List.set_cons_zero, List.set_cons_succ]
            refine wpAnyH_take (i := 3) (v := ?_) (by simp only [List.getElem?_toArray, List.getElem?_cons_zero, List.getElem?_cons_succ]; rfl) (by kernel_rfl) (by kernel_rfl) (by kernel_rfl) (fun _ _ _ h => h) (Or.inl ⟨by rfl, ?_⟩) (by assumption) ?_
            rotate_left
            · intro w hSw; (try dsimp only at hSw); go_simp; (try with_reducible rfl)
            try simp only [Act.put, List.setIfInBounds_toArray, List.set_cons_zero, List.set_cons_succ]
            refine wpAnyH_take (i := 4) (v := ?_) (by simp only [List.getElem?_toArray, List.getElem?_cons_zero, List.getElem?_cons_succ]; rfl) (by kernel_rfl) (by kernel_rfl) (by kernel_rfl) (fun _ _ _ h => h) (Or.inl ⟨by rfl, ?_⟩) (by assumption) ?_
            rotate_left
            · intro w hSw; (try dsimp only at hSw); go_simp; (try with_reducible rfl)
            try simp only [Act.put, List.setIfInBounds_toArray, List.set_cons_zero, List.set_cons_succ]
            refine wpAnyH_take (i := 5) (v := ?_) (by simp only [List.getElem?_toArray, List.getElem?_cons_zero, List.getElem?_cons_succ]; rfl) (by kernel_rfl) (by kernel_rfl) (by kernel_rfl) (fun _ _ _ h => h) (Or.inl ⟨by rfl, ?_⟩) (by assumption) ?_
            rotate_left
            · intro w hSw; (try dsimp only at hSw); go_simp; (try with_reducible rfl)
            try simp only [Act.put, List.setIfInBounds_toArray, List.set_cons_zero, List.set_cons_succ]
            refine wpAnyH_take (i := 6) (v := ?_) (by simp only [List.getElem?_toArray, List.getElem?_cons_zero, List.getElem?_cons_succ]; rfl) (by kernel_rfl) (by kernel_rfl) (by kernel_rfl) (fun _ _ _ h => h) (Or.inl ⟨by rfl, ?_⟩) (by assumption) ?_
            rotate_left
            · intro w hSw; (try dsimp only at hSw); go_simp; (try with_reducible rfl)
            try simp only [Act.put, List.setIfInBounds_toArray, List.set_cons_zero, List.set_cons_succ]
            refine wpAnyH_take (i := 7) (v := ?_) (by simp only [List.getElem?_toArray, List.getElem?_cons_zero, List.getElem?_cons_succ]; rfl) (by kernel_rfl) (by kernel_rfl) (by kernel_rfl) (fun _ _ _ h => h) (Or.inl ⟨by rfl, ?_⟩) (by assumption) ?_
            rotate_left
            · intro w hSw; (try dsimp only at hSw); go_simp; (try with_reducible rfl)
            try simp only [Act.put, List.setIfInBounds_toArray, List.set_cons_zero, List.set_cons_succ]
            refine wpAnyH_take (i := 8) (v := ?_) (by simp only [List.getElem?_toArray, List.getElem?_cons_zero, List.getElem?_cons_succ]; rfl) (by kernel_rfl) (by kernel_rfl) (by kernel_rfl) (fun _ _ _ h => h) (Or.inl ⟨by rfl, ?_⟩) (by assumption) ?_
            rotate_left
            · intro w hSw; (try dsimp only at hSw); go_simp; (try with_reducible rfl)
            try simp only [Act.put, List.setIfInBounds_toArray, List.set_cons_zero, List.set_cons_succ]
            refine wpAnyH_take (i := 9) (v := ?_) (by simp only [List.getElem?_toArray, List.getElem?_cons_zero, List.getElem?_cons_succ]; rfl) (by kernel_rfl) (by kernel_rfl) (by kernel_rfl) (fun _ _ _ h => h) (Or.inl ⟨by rfl, ?_⟩) (by assumption) ?_
            rotate_left
            · intro w hSw; (try dsimp only at hSw); go_simp; (try with_reducible rfl)
            try simp only [Act.put, List.setIfInBounds_toArray, List.set_cons_zero, List.set_cons_succ]
            refine wpAnyH_take (i := 10) (v := ?_) (by simp only [List.getElem?_toArray, List.getElem?_cons_zero, List.getElem?_cons_succ]; rfl) (by kernel_rfl) (by kernel_rfl) (by kernel_rfl) (fun _ _ _ h => h) (Or.inl ⟨by rfl, ?_⟩) (by assumption) ?_
            rotate_left
            · intro w hSw; (try dsimp only at hSw); go_simp; (try with_reducible rfl)
            try simp only [Act.put, List.setIfInBounds_toArray, List.set_cons_zero, List.set_cons_succ]
            refine wpAnyH_ready (rs := [11]) (by kernel_rfl) (by simp) ?_
            refine AllReadyH.cons (by simp only [List.getElem?_toArray, List.getElem?_cons_zero, List.getElem?_cons_succ]; rfl) (fun K hK => ?_) AllReadyH.nil
            go_simp
            have hE := (evo_store (g := g7) (w := w7.drew) (b := b6) (i := q * 2) (.bool y.v.there) N7.out.2).trans (evo_store (w := w7.drew.setCell ⟨b6, q * 2, none⟩ (.bool y.v.there)) (i := q * 2 + 1) (.string y.v.bytes) N7.out.2)
            have N8 : Hid (LocC ((w7.drew.setCell ⟨b6, q * 2, none⟩ (.bool y.v.there)).setCell ⟨b6, q * 2 + 1, none⟩ (.string y.v.bytes)) g7 (nx + 2) b6 80 (vals8 (wantP f D2))) := hid ⟨by rw [QW.out]; exact (show Loc w7.drew b6 80 (vals8 (wantP f D)) from N7.out.1).set2 hq8 y.v, N7.out.2⟩
            have B8 := hid ((B7.out.below' (Below.refl w7.heap.size w7).drew).step hE (by omega))
            have V8 := hid ((V7.out.below (Below.refl w7.heap.size w7).drew).frame hE (by omega))
            have H8 := hid ((H7.out.below (Below.refl w7.heap.size w7).drew).frame hE (by omega))
            have W8 := hid ((W7.out.below (Below.refl w7.heap.size w7).drew).frame hE (by omega))
            have D8 := hid ((D7.out.below (Below.refl w7.heap.size w7).drew).frame hE (by omega))
            have hS' := KM.out _ _ B8.out
            clear hE
            have ew : ((w7.setCell ⟨b6, q * 2, none⟩ (.bool y.v.there)).setCell ⟨b6, q * 2 + 1, none⟩ (.string y.v.bytes)).drew = (w7.drew.setCell ⟨b6, q * 2, none⟩ (.bool y.v.there)).setCell ⟨b6, q * 2 + 1, none⟩ (.string y.v.bytes) := rfl
            rw [ew]
            clear ew
            generalize (w7.drew.setCell ⟨b6, q * 2, none⟩ (.bool y.v.there)).setCell ⟨b6, q * 2 + 1, none⟩ (.string y.v.bytes) = w8 at *
            try go_wp2_with fail
            refine hK.out _ _ ?_ (fun hH1 => ?_)
            · (try dsimp only); (first | assumption | exact hS0)
            clear hK K hH0
            try simp only [Act.put, List.setIfInBounds_toArray, List.set_cons_zero, List.set_cons_succ]
            refine wpAnyH_done (by kernel_rfl) ?_ _
            refine NoPanic.normal ?_
            rotate_left
            -- END 23
            clear hS0 y1 y2 r1 r2 N7 B7 V7 H7 W7 D7
            go_wp2_with fail
            go_roundw
            case rel => exact ⟨j + 1, g7, D2, by omega, by go_num, B8, V8, H8, W8, D8, N8, QB⟩
            case measure => simp [intOf]; omega
          · have hst := want_stay hc
            unfold DPutPost at PD
            rw [hst] at PD
            clear hst
            have hc' : ((putD D y.n y.v).1 == 0) = false := by simpa using hc
            generalize (putD D y.n y.v).1 = code at *
            clear hc hsz hsz2 BA
            go_wp2_with fail
            -- REGION 22n
            refine wp_region_noPanic ?_
            refine wp_region_held_drew (S := (fun W : World => W.cell? ⟨b2, f2 + j * 3, none⟩ = some (.int .i64 y.n) ∧ W.cell? ⟨b2, f2 + j * 3 + 1, none⟩ = some (.bool y.v.there) ∧ W.cell? ⟨b2, f2 + j * 3 + 2, none⟩ = some (.string y.v.bytes))) (by kernel_rfl) ?_ (fun hH0 => ?_)
            · (try dsimp only); (first | assumption | exact hS0)
            refine wpAnyH_take (i := 0) (v := ?_) (by simp only [List.getElem?_toArray, List.getElem?_cons_zero]; rfl) (by kernel_rfl) (by kernel_rfl) (by kernel_rfl) (fun _ _ _ h => h) (Or.inl ⟨by rfl, ?_⟩) (by assumption) ?_
            rotate_left
            · intro w hSw; (try dsimp only at hSw); go_simp; (try with_reducible rfl)
            try simp only [Act.put, List.setIfInBounds_toArray, List.set_cons_zero, List.set_cons_succ]
            refine wpAnyH_take (i := 1) (v := ?_) (by simp only [List.getElem?_toArray, List.getElem?_cons_zero, List.getElem?_cons_succ]; rfl) (by kernel_rfl) (by kernel_rfl) (by kernel_rfl) (fun _ _ _ h => h) (Or.inl ⟨by rfl, ?_⟩) (by assumption) ?_
            rotate_left
            · intro w hSw; (try dsimp only at hSw); go_simp; (try with_reducible rfl)
            try simp only [Act.put, List.setIfInBounds_toArray, List.set_cons_zero, List.set_cons_succ]
            refine wpAnyH_take (i := 2) (v := ?_) (by simp only [List.getElem?_toArray, List.getElem?_cons_zero, List.getElem?_cons_succ]; rfl) (by kernel_rfl) (by kernel_rfl) (by kernel_rfl) (fun _ _ _ h => h) (Or.inl ⟨by rfl, ?_⟩) (by assumption) ?_
            rotate_left
            · intro w hSw; (try dsimp only at hSw); go_simp; (try with_reducible rfl)
            try simp only [Act.put, List.setIfInBounds_toArray, List.set_cons_zero, List.set_cons_succ]
            refine wpAnyH_take (i := 3) (v := ?_) (by simp only [List.getElem?_toArray, List.getElem?_cons_zero, List.getElem?_cons_succ]; rfl) (by kernel_rfl) (by kernel_rfl) (by kernel_rfl) (fun _ _ _ h => h) (Or.inl ⟨by rfl, ?_⟩) (by assumption) ?_
            rotate_left
            · intro w hSw; (try dsimp only at hSw); go_simp; (try with_reducible rfl)
            try simp only [Act.put, List.setIfInBounds_toArray, List.set_cons_zero, List.set_cons_succ]
            refine wpAnyH_take (i := 4) (v := ?_) (by simp only [List.getElem?_toArray, List.getElem?_cons_zero, List.getElem?_cons_succ]; rfl) (by kernel_rfl) (by kernel_rfl) (by kernel_rfl) (fun _ _ _ h => h) (Or.inl ⟨by rfl, ?_⟩) (by assumption) ?_
            rotate_left
            · intro w hSw; (try dsimp only at hSw); go_simp; (try with_reducible rfl)
            try simp only [Act.put, List.setIfInBounds_toArray, List.set_cons_zero, List.set_cons_succ]
            refine wpAnyH_take (i := 5) (v := ?_) (by simp only [List.getElem?_toArray, List.getElem?_cons_zero, List.getElem?_cons_succ]; rfl) (by kernel_rfl) (by kernel_rfl) (by kernel_rfl) (fun _ _ _ h => h) (Or.inl ⟨by rfl, ?_⟩) (by assumption) ?_
            rotate_left
            · intro w hSw; (try dsimp only at hSw); go_simp; (try with_reducible rfl)
            try simp only [Act.put, List.setIfInBounds_toArray, List.set_cons_zero, List.set_cons_succ]
            refine wpAnyH_take (i := 6) (v := ?_) (by simp only [List.getElem?_toArray, List.getElem?_cons_zero, List.getElem?_cons_succ]; rfl) (by kernel_rfl) (by kernel_rfl) (by kernel_rfl) (fun _ _ _ h => h) (Or.inl ⟨by rfl, ?_⟩) (by assumption) ?_
            rotate_left
            · intro w hSw; (try dsimp only at hSw); go_simp; (try with_reducible rfl)
            try simp only [Act.put, List.setIfInBounds_toArray, List.set_cons_zero, List.set_cons_succ]
            refine wpAnyH_take (i := 7) (v := ?_) (by simp only [List.getElem?_toArray, List.getElem?_cons_zero, List.getElem?_cons_succ]; rfl) (by kernel_rfl) (by kernel_rfl) (by kernel_rfl) (fun _ _ _ h => h) (Or.inl ⟨by rfl, ?_⟩) (by assumption) ?_
            rotate_left
            · intro w hSw; (try dsimp only at hSw); go_simp; (try with_reducible rfl)
            try simp only [Act.put, List.setIfInBounds_toArray, List.set_cons_zero, List.set_cons_succ]
            refine wpAnyH_take (i := 8) (v := ?_) (by simp only [List.getElem?_toArray, List.getElem?_cons_zero, List.getElem?_cons_succ]; rfl) (by kernel_rfl) (by kernel_rfl) (by kernel_rfl) (fun _ _ _ h => h) (Or.inl ⟨by rfl, ?_⟩) (by assumption) ?_
            rotate_left
            · intro w hSw; (try dsimp only at hSw); go_simp; (try with_reducible rfl)
            try simp only [Act.put, List.setIfInBounds_toArray, List.set_cons_zero, List.set_cons_succ]
            refine wpAnyH_take (i := 9) (v := ?_) (by simp only [List.getElem?_toArray, List.getElem?_cons_zero, List.getElem?_cons_succ]; rfl) (by kernel_rfl) (by kernel_rfl) (by kernel_rfl) (fun _ _ _ h => h) (Or.inl ⟨by rfl, ?_⟩) (by assumption) ?_
            rotate_left
            · intro w hSw; (try dsimp only at hSw); go_simp; (try with_reducible rfl)
            try simp only [Act.put, List.setIfInBounds_toArray, List.set_cons_zero, List.set_cons_succ]
            refine wpAnyH_take (i := 10) (v := ?_) (by simp only [List.getElem?_toArray, List.getElem?_cons_zero, List.getElem?_cons_succ]; rfl) (by kernel_rfl) (by kernel_rfl) (by kernel_rfl) (fun _ _ _ h => h) (Or.inl ⟨by rfl, ?_⟩) (by assumption) ?_
            rotate_left
            · intro w hSw; (try dsimp only at hSw); go_simp; (try with_reducible rfl)
            try simp only [Act.put, List.setIfInBounds_toArray, List.set_cons_zero, List.set_cons_succ]
            refine wpAnyH_ready (rs := [11]) (by kernel_rfl) (by simp) ?_
            refine AllReadyH.cons (by simp only [List.getElem?_toArray, List.getElem?_cons_zero, List.getElem?_cons_succ]; rfl) (fun K hK => ?_) AllReadyH.nil
            go_simp
            go_at_call 22
            (with_reducible refine PD.out.mono ?_)
            rintro e w7 ⟨rfl, g7, hD, hE⟩
            have B7 := hid ((HB.out.below' (Below.refl wr.heap.size wr).drew).step hE (by omega))
            have V7 := hid ((HV.out.below (Below.refl wr.heap.size wr).drew).frame hE (by omega))
            have H7 := hid ((HL.out.below (Below.refl wr.heap.size wr).drew).frame hE (by omega))
            have W7 := hid ((HW.out.below (Below.refl wr.heap.size wr).drew).frame hE (by omega))
            have N7 := hid ((HN.out.below (Below.refl wr.heap.size wr).drew).frame hE (by omega))
            have D7 := hid hD
            have hS' := KM.out _ _ B7.out
            clear hD hE HB HV HL HW HN HD
            try go_wp2_with fail
            refine hK.out _ _ ?_ (fun hH1 => ?_)
            · (try dsimp only); (first | assumption | exact hS0)
            clear hK K hH0
            try simp only [Act.put, List.setIfInBounds_toArray, List.set_cons_zero, List.set_cons_succ]
            refine wpAnyH_take (i := 12) (v := ?_) (by simp only [List.getElem?_toArray, List.getElem?_cons_zero, List.getElem?_cons_succ]; rfl) (by kernel_rfl) (by kernel_rfl) (by kernel_rfl) (fun _ _ _ h => h) (Or.inl ⟨by rfl, ?_⟩) (by assumption) ?_
            rotate_left
            · intro w hSw; (try dsimp only at hSw); go_simp; (try with_reducible rfl)
            try simp only [Act.put, List.setIfInBounds_toArray, List.set_cons_zero, List.set_cons_succ]
            refine wpAnyH_take (i := 13) (v := ?_) (by simp only [List.getElem?_toArray, List.getElem?_cons_zero, List.getElem?_cons_succ]; rfl) (by kernel_rfl) (by kernel_rfl) (by kernel_rfl) (fun _ _ _ h => h) (Or.inl ⟨by rfl, ?_⟩) (by assumption) ?_
            rotate_left
            · intro w hSw; (try dsimp only at hSw); go_simp; (try with_reducible rfl)
            try simp only [Act.put, List.setIfInBounds_toArray, List.set_cons_zero, List.set_cons_succ]
            refine wpAnyH_take (i := 14) (v := undef) (by simp only [List.getElem?_toArray, List.getElem?_cons_zero, List.getElem?_cons_succ]; rfl) (by kernel_rfl) (by kernel_rfl) (by kernel_rfl) (fun _ _ _ h => h) (Or.inr ⟨by rfl, rfl⟩) (by assumption) ?_
            try simp only [Act.put, List.setIfInBounds_toArray, List.set_cons_zero, List.set_cons_succ]
            refine wpAnyH_take (i := 15) (v := undef) (by simp only [List.getElem?_toArray, List.getElem?_cons_zero, List.getElem?_cons_succ]; rfl) (by kernel_rfl) (by kernel_rfl) (by kernel_rfl) (fun _ _ _ h => h) (Or.inr ⟨by rfl, rfl⟩) (by assumption) ?_
            try simp only [Act.put, List.setIfInBounds_toArray, List.set_cons_zero, List.set_cons_succ]
            refine wpAnyH_take (i := 16) (v := undef) (by simp only [List.getElem?_toArray, List.getElem?_cons_zero, List.getElem?_cons_succ]; rfl) (by kernel_rfl) (by kernel_rfl) (by kernel_rfl) (fun _ _ _ h => h) (Or.inr ⟨by rfl, rfl⟩) (by assumption) ?_
            try simp only [Act.put, List.setIfInBounds_toArray, List.set_cons_zero, List.set_cons_succ]
            refine wpAnyH_take (i := 17) (v := undef) (by simp only [List.getElem?_toArray, List.getElem?_cons_zero, List.getElem?_cons_succ]; rfl) (by kernel_rfl) (by kernel_rfl) (by kernel_rfl) (fun _ _ _ h => h) (Or.inr ⟨by rfl, rfl⟩) (by assumption) ?_
            try simp only [Act.put, List.setIfInBounds_toArray, List.set_cons_zero, List.set_cons_succ]
            refine wpAnyH_take (i := 18) (v := undef) (by simp only [List.getElem?_toArray, List.getElem?_cons_zero, List.getElem?_cons_succ]; rfl) (by kernel_rfl) (by kernel_rfl) (by kernel_rfl) (fun _ _ _ h => h) (Or.inr ⟨by rfl, rfl⟩) (by assumption) ?_
            try simp only [Act.put, List.setIfInBounds_toArray, List.set_cons_zero, List.set_cons_succ]
            refine wpAnyH_take (i := 19) (v := undef) (by simp only [List.getElem?_toArray, List.getElem?_cons_zero, List.getElem?_cons_succ]; rfl) (by kernel_rfl) (by kernel_rfl) (by kernel_rfl) (fun _ _ _ h => h) (Or.inr ⟨by rfl, rfl⟩) (by assumption) ?_
            try simp only [Act.put, List.setIfInBounds_toArray, List.set_cons_zero, List.set_cons_succ]
            refine wpAnyH_take (i := 20) (v := ?_) (by simp only [List.getElem?_toArray, List.getElem?_cons_zero, List.getElem?_cons_succ]; rfl) (by kernel_rfl) (by kernel_rfl) (by kernel_rfl) (fun _ _ _ h => h) (Or.inl ⟨by rfl, ?_⟩) (by assumption) ?_
            rotate_left
            · intro w hSw; (try dsimp only at hSw); go_simp; (try with_reducible rfl)
            try simp only [Act.put, List.setIfInBounds_toArray, List.set_cons_zero, List.set_cons_succ]
            refine wpAnyH_done (by kernel_rfl) ?_ _
            refine NoPanic.normal ?_
            rotate_left
            -- END 22n
            clear hS0 PD
            go_wp2_with fail
            go_roundw
            case rel => exact ⟨j + 1, g7, D, by omega, by go_num, B7, V7, H7, W7, D7, N7, HU⟩
            case measure => simp [intOf]; omega
        · have hji : (m.length : Int) ≤ (j : Int) := by omega
          have WR := hid (deed_Writes G nx d D wr HD.out)
          have hlen : (writesD D).length ≤ 1000000 := by have := writesTo_length D 8; unfold writesD; omega
          have TLD := hid (TL.out D HD.out.1 HU.out)
          clear TL M2 MS
          have HWR := hid (show writesD D = writesD D from rfl)
          have VT := hid (fun W (hW : Below wr.heap.size wr W) => vault_Tear G (1 + 1) vp V nx d D keep W ⟨t, b, HV.out.below hW⟩ (HD.out.below hW))
          have VTOK := hid (tearV_ok VOK.out D keep)
          obtain ⟨z, hz⟩ : ∃ z, tearV V D keep = z := ⟨_, rfl⟩
          have TN := hid (fun (h : TornNone V D keep) => (⟨h.zero, h.last, h.sheet, h.why⟩ : (tearV V D keep).1.1 = 0 ∧ (tearV V D keep).2.tab.last = V.tab.last ∧ sheetT (tearV V D keep).2.tab V.tab.last = sheetT V.tab V.tab.last ∧ ((tearV V D keep).1.2 ≠ 0 ∨ writesD D = [] ∨ keep < 200)))
          have TA := hid (fun (h : TornAll V D keep) => (⟨h.some_, h.code, h.last, h.sheet, h.wrote⟩ : (tearV V D keep).1.1 = (V.tab.last : Int) + 1 ∧ (tearV V D keep).1.2 = 0 ∧ (tearV V D keep).2.tab.last = V.tab.last + 1 ∧ sheetT (tearV V D keep).2.tab ((V.tab.last : Int) + 1) = wantP (sheetT V.tab V.tab.last) D ∧ writesD D ≠ []))
          rw [hz] at VT VTOK TN TA
          rw [HLL.out] at TN TA
          rw [HF.out] at TN TA
          generalize writesD D = ws at *
          obtain ⟨⟨kn, ke⟩, V2⟩ := z
          unfold VTurnPost at VT
          simp only at VT VTOK TN TA
          clear hz HWR
          go_wp2_with fail
          refine WR.out.mono ?_
          rintro e w2 ⟨aw, cw, rfl, -, hb, -, -⟩
          have HB2 := hid (HB.out.below' hb)
          have VT2 := hid (VT.out _ hb)
          have HL2 := hid (HL.out.below hb)
          have HW2 := hid (HW.out.below hb)
          have HN2 := hid (HN.out.below hb)
          clear hb WR VT HB HL HW HN HV HD
          have q0 := HL2.out.1.cell 0
          simp only [List.getElem?_cons_zero] at q0
          obtain ⟨wt, hwt⟩ : ∃ wt : Bool, decide (0 < ws.length) = wt := ⟨_, rfl⟩
          have hwt2 : decide ((0 : Int) < (ws.length : Int)) = wt := by rw [← hwt, decide_eq_decide]; omega
          have HWT := hid hwt
          go_wp2_with fail
          refine VT2.out.mono ?_
          rintro e w3 ⟨rfl, g3, hV, hE⟩
          obtain ⟨t3, b3, hV3⟩ := hV
          have hok3 := hV3.2.2.1.1
          have HB3 := hid (HB2.out.step hE (by omega))
          have HL3 := hid (HL2.out.frame hE (by omega))
          have HW3 := hid (HW2.out.frame hE (by omega))
          have HN3 := hid (HN2.out.frame hE (by omega))
          have HV3 := hid hV3
          clear hE VT2 HB2 HL2 HW2 HN2 q0 hV3 hwt hwt2
          obtain ⟨fn, L3, hcase⟩ : ∃ (fn : Nat → Val) (L3 : Nat), V2.tab.last = L3 ∧ sheetT V2.tab (L3 : Int) = fn ∧ ((kn = 0 ∧ L3 = L ∧ fn = f ∧ (ke ≠ 0 ∨ ws = [] ∨ keep < 200)) ∨ (kn = (L : Int) + 1 ∧ ke = 0 ∧ L3 = L + 1 ∧ fn = wantP f D ∧ ws ≠ [])) := by
            rcases TLD.out with h | h
            · obtain ⟨h1, h2, h3, h4⟩ := TN.out h
              exact ⟨f, L, h2, h3, .inl ⟨h1, rfl, rfl, h4⟩⟩
            · obtain ⟨h1, h2, h3, h4, h5⟩ := TA.out h
              exact ⟨wantP f D, L + 1, h3, (by rw [← h4]; congr 1), .inr ⟨h1, h2, rfl, rfl, h5⟩⟩
          obtain ⟨hl3, hf3, hcase⟩ := hcase
          have LA := hid (fun W (hb : Below w3.heap.size w3 W) => table_Last g3 (1 + 1 + 1) t3 V2.tab W (HV3.out.2.2.1.below hb))
          have SH := hid (fun W (hb : Below w3.heap.size w3 W) => (by
            have P := law_sheet g3 (1 + 1 + 1) t3 V2.tab W (V2.tab.last : Int) (HV3.out.2.2.1.below hb)
            rw [codesT_top hok3] at P
            exact P : Calls Try.prog 48 #[.pointer (some ⟨t3, 0, none⟩), .int .i64 (V2.tab.last : Int)] W (SheetPost (sheetT V2.tab V2.tab.last) true W)))
          rw [hl3] at LA SH
          rw [hf3] at SH
          have KS := hid (fun W (hb : Below w3.heap.size w3 W) => (⟨hb, (HL3.out.below hb).1.cell 0, (HV3.out.below hb).cells.1⟩ : Below w3.heap.size w3 W ∧ W.cell? ⟨h, 0, none⟩ = some (.pointer (some ⟨vp, 0, none⟩)) ∧ W.cell? ⟨vp, 0, none⟩ = some (.pointer (some ⟨t3, 0, none⟩))))
          obtain ⟨-, r0, r1⟩ := KS.out w3 (Below.refl _ _)
          have HC := hid hcase
          clear hl3 hf3 hok3 hcase TN TA TLD
          go_wp2_with fail
          refine' join2 (fun (b : Nat) W => Below w3.heap.size w3 W ∧ Loc W b 80 (vals8 fn)) _ (fun HJ => ?_) (fun bn wn hS => ?_)
          rotate_left
          · skip
            -- REGION 26
            refine wp_region_noPanic ?_
            refine wp_region_held_drew (S := (fun W' : World => Below w3.heap.size w3 W' ∧ W'.cell? ⟨h, 0, none⟩ = some (.pointer (some ⟨vp, 0, none⟩)) ∧ W'.cell? ⟨vp, 0, none⟩ = some (.pointer (some ⟨t3, 0, none⟩)))) (by kernel_rfl) ?_ (fun hH0 => ?_)
            · (try dsimp only); (first | assumption | exact KS.out _ (Below.refl w3.heap.size w3).drew)
            refine wpAnyH_take (i := 0) (v := ?_) (by simp only [List.getElem?_toArray, List.getElem?_cons_zero]; rfl) (by kernel_rfl) (by kernel_rfl) (by kernel_rfl) (fun _ _ _ h => h) (Or.inl ⟨by rfl, ?_⟩) (by assumption) ?_
            rotate_left
            · intro w hSw; (try dsimp only at hSw); go_simp; (try with_reducible rfl)
            try simp only [Act.put, List.setIfInBounds_toArray, List.set_cons_zero, List.set_cons_succ]
            refine wpAnyH_take (i := 1) (v := ?_) (by simp only [List.getElem?_toArray, List.getElem?_cons_zero, List.getElem?_cons_succ]; rfl) (by kernel_rfl) (by kernel_rfl) (by kernel_rfl) (fun _ _ _ h => h) (Or.inl ⟨by rfl, ?_⟩) (by assumption) ?_
            rotate_left
            · intro w hSw; (try dsimp only at hSw); go_simp; (try with_reducible rfl)
            try simp only [Act.put, List.setIfInBounds_toArray, List.set_cons_zero, List.set_cons_succ]
            refine wpAnyH_take (i := 2) (v := ?_) (by simp only [List.getElem?_toArray, List.getElem?_cons_zero, List.getElem?_cons_succ]; rfl) (by kernel_rfl) (by kernel_rfl) (by kernel_rfl) (fun _ _ _ h => h) (Or.inl ⟨by rfl, ?_⟩) (by assumption) ?_
            rotate_left
            · intro w hSw; (try dsimp only at hSw); go_simp; (try with_reducible rfl)
            try simp only [Act.put, List.setIfInBounds_toArray, List.set_cons_zero, List.set_cons_succ]
            refine wpAnyH_take (i := 3) (v := ?_) (by simp only [List.getElem?_toArray, List.getElem?_cons_zero, List.getElem?_cons_succ]; rfl) (by kernel_rfl) (by kernel_rfl) (by kernel_rfl) (fun _ _ _ h => h) (Or.inl ⟨by rfl, ?_⟩) (by assumption) ?_
            rotate_left
            · intro w hSw; (try dsimp only at hSw); go_simp; (try with_reducible rfl)
            try simp only [Act.put, List.setIfInBounds_toArray, List.set_cons_zero, List.set_cons_succ]
            refine wpAnyH_take (i := 4) (v := ?_) (by simp only [List.getElem?_toArray, List.getElem?_cons_zero, List.getElem?_cons_succ]; rfl) (by kernel_rfl) (by kernel_rfl) (by kernel_rfl) (fun _ _ _ h => h) (Or.inl ⟨by rfl, ?_⟩) (by assumption) ?_
            rotate_left
            · intro w hSw; (try dsimp only at hSw); go_simp; (try with_reducible rfl)
            try simp only [Act.put, List.setIfInBounds_toArray, List.set_cons_zero, List.set_cons_succ]
            refine wpAnyH_take (i := 5) (v := ?_) (by simp only [List.getElem?_toArray, List.getElem?_cons_zero, List.getElem?_cons_succ]; rfl) (by kernel_rfl) (by kernel_rfl) (by kernel_rfl) (fun _ _ _ h => h) (Or.inl ⟨by rfl, ?_⟩) (by assumption) ?_
            rotate_left
            · intro w hSw; (try dsimp only at hSw); go_simp; (try with_reducible rfl)
            try simp only [Act.put, List.setIfInBounds_toArray, List.set_cons_zero, List.set_cons_succ]
            refine wpAnyH_take (i := 6) (v := ?_) (by simp only [List.getElem?_toArray, List.getElem?_cons_zero, List.getElem?_cons_succ]; rfl) (by kernel_rfl) (by kernel_rfl) (by kernel_rfl) (fun _ _ _ h => h) (Or.inl ⟨by rfl, ?_⟩) (by assumption) ?_
            rotate_left
            · intro w hSw; (try dsimp only at hSw); go_simp; (try with_reducible rfl)
            try simp only [Act.put, List.setIfInBounds_toArray, List.set_cons_zero, List.set_cons_succ]
            refine wpAnyH_take (i := 7) (v := ?_) (by simp only [List.getElem?_toArray, List.getElem?_cons_zero, List.getElem?_cons_succ]; rfl) (by kernel_rfl) (by kernel_rfl) (by kernel_rfl) (fun _ _ _ h => h) (Or.inl ⟨by rfl, ?_⟩) (by assumption) ?_
            rotate_left
            · intro w hSw; (try dsimp only at hSw); go_simp; (try with_reducible rfl)
            try simp only [Act.put, List.setIfInBounds_toArray, List.set_cons_zero, List.set_cons_succ]
            refine wpAnyH_take (i := 8) (v := ?_) (by simp only [List.getElem?_toArray, List.getElem?_cons_zero, List.getElem?_cons_succ]; rfl) (by kernel_rfl) (by kernel_rfl) (by kernel_rfl) (fun _ _ _ h => h) (Or.inl ⟨by rfl, ?_⟩) (by assumption) ?_
            rotate_left
            · intro w hSw; (try dsimp only at hSw); go_simp; (try with_reducible rfl)
            try simp only [Act.put, List.setIfInBounds_toArray, List.set_cons_zero, List.set_cons_succ]
            refine wpAnyH_take (i := 9) (v := ?_) (by simp only [List.getElem?_toArray, List.getElem?_cons_zero, List.getElem?_cons_succ]; rfl) (by kernel_rfl) (by kernel_rfl) (by kernel_rfl) (fun _ _ _ h => h) (Or.inl ⟨by rfl, ?_⟩) (by assumption) ?_
            rotate_left
            · intro w hSw; (try dsimp only at hSw); go_simp; (try with_reducible rfl)
            try simp only [Act.put, List.setIfInBounds_toArray, List.set_cons_zero, List.set_cons_succ]
            refine wpAnyH_take (i := 10) (v := ?_) (by simp only [List.getElem?_toArray, List.getElem?_cons_zero, List.getElem?_cons_succ]; rfl) (by kernel_rfl) (by kernel_rfl) (by kernel_rfl) (fun _ _ _ h => h) (Or.inl ⟨by rfl, ?_⟩) (by assumption) ?_
            rotate_left
            · intro w hSw; (try dsimp only at hSw); go_simp; (try with_reducible rfl)
            try simp only [Act.put, List.setIfInBounds_toArray, List.set_cons_zero, List.set_cons_succ]
            refine wpAnyH_take (i := 11) (v := ?_) (by simp only [List.getElem?_toArray, List.getElem?_cons_zero, List.getElem?_cons_succ]; rfl) (by kernel_rfl) (by kernel_rfl) (by kernel_rfl) (fun _ _ _ h => h) (Or.inl ⟨by rfl, ?_⟩) (by assumption) ?_
            rotate_left
            · intro w hSw; (try dsimp only at hSw); go_simp; (try with_reducible rfl)
            try simp only [Act.put, List.setIfInBounds_toArray, List.set_cons_zero, List.set_cons_succ]
            refine wpAnyH_take (i := 12) (v := ?_) (by simp only [List.getElem?_toArray, List.getElem?_cons_zero, List.getElem?_cons_succ]; rfl) (by kernel_rfl) (by kernel_rfl) (by kernel_rfl) (fun _ _ _ h => h) (Or.inl ⟨by rfl, ?_⟩) (by assumption) ?_
            rotate_left
            · intro w hSw; (try dsimp only at hSw); go_simp; (try with_reducible rfl)
            try simp only [Act.put, List.setIfInBounds_toArray, List.set_cons_zero, List.set_cons_succ]
            refine wpAnyH_take (i := 13) (v := ?_) (by simp only [List.getElem?_toArray, List.getElem?_cons_zero, List.getElem?_cons_succ]; rfl) (by kernel_rfl) (by kernel_rfl) (by kernel_rfl) (fun _ _ _ h => h) (Or.inl ⟨by rfl, ?_⟩) (by assumption) ?_
            rotate_left
            · intro w hSw; (try dsimp only at hSw); go_simp; (try with_reducible rfl)
            try simp only [Act.put, List.setIfInBounds_toArray, List.set_cons_zero, List.set_cons_succ]
            refine wpAnyH_ready (rs := [14, 19]) (by kernel_rfl) (by simp) ?_
            refine AllReadyH.cons (by simp only [List.getElem?_toArray, List.getElem?_cons_zero, List.getElem?_cons_succ]; rfl) (fun K hK => ?_) ?_
            · skip
              go_simp
              go_at_call 45
              have hS := (‹Below _ w3 _ ∧ _›).1
              (with_reducible refine (LA.out _ hS).mono ?_)
              rintro e w' ⟨rfl, rfl⟩
              clear hS
              try go_wp2_with fail
              refine hK.out _ _ ?_ (fun hH1 => ?_)
              · (try dsimp only); (first | assumption | exact KS.out _ (Below.refl w3.heap.size w3).drew)
              clear hK K hH0
              try simp only [Act.put, List.setIfInBounds_toArray, List.set_cons_zero, List.set_cons_succ]
              refine wpAnyH_ready (rs := [15, 19]) (by kernel_rfl) (by simp) ?_
              refine AllReadyH.cons (by simp only [List.getElem?_toArray, List.getElem?_cons_zero, List.getElem?_cons_succ]; rfl) (fun K hK => ?_) ?_
              · skip
                go_simp
                go_at_call 48
                have hS := (‹Below _ w3 _ ∧ _›).1
                (with_reducible refine (SH.out _ hS).mono ?_)
                rintro e w5 ⟨rfl, hb5⟩
                have hS' := KS.out _ (hS.trans (hb5.mono (by first | exact hS.size | (have h1 := hS.size; have h2 := HB6.out; omega))))
                try (have hLZ := LZ.out.keep hb5; clear LZ; have LZ := hid hLZ; clear hLZ)
                clear hb5 hS
                try go_wp2_with fail
                refine hK.out _ _ ?_ (fun hH2 => ?_)
                · (try dsimp only); (first | assumption | exact KS.out _ (Below.refl w3.heap.size w3).drew)
                clear hK K hH1
                try simp only [Act.put, List.setIfInBounds_toArray, List.set_cons_zero, List.set_cons_succ]
                refine wpAnyH_take (i := 16) (v := ?_) (by simp only [List.getElem?_toArray, List.getElem?_cons_zero, List.getElem?_cons_succ]; rfl) (by kernel_rfl) (by kernel_rfl) (by kernel_rfl) (fun _ _ _ h => h) (Or.inl ⟨by rfl, ?_⟩) (by assumption) ?_
                rotate_left
                · intro w hSw; (try dsimp only at hSw); go_simp; (try with_reducible rfl)
                try simp only [Act.put, List.setIfInBounds_toArray, List.set_cons_zero, List.set_cons_succ]
                refine wpAnyH_take (i := 17) (v := ?_) (by simp only [List.getElem?_toArray, List.getElem?_cons_zero, List.getElem?_cons_succ]; rfl) (by kernel_rfl) (by kernel_rfl) (by kernel_rfl) (fun _ _ _ h => h) (Or.inl ⟨by rfl, ?_⟩) (by assumption) ?_
                rotate_left
                · intro w hSw; (try dsimp only at hSw); go_simp; (try with_reducible rfl)
                try simp only [Act.put, List.setIfInBounds_toArray, List.set_cons_zero, List.set_cons_succ]
                refine wpAnyH_take (i := 18) (v := ?_) (by simp only [List.getElem?_toArray, List.getElem?_cons_zero, List.getElem?_cons_succ]; rfl) (by kernel_rfl) (by kernel_rfl) (by kernel_rfl) (fun _ _ _ h => h) (Or.inl ⟨by rfl, ?_⟩) (by assumption) ?_
                rotate_left
                · intro w hSw; (try dsimp only at hSw); go_simp; (try with_reducible rfl)
                try simp only [Act.put, List.setIfInBounds_toArray, List.set_cons_zero, List.set_cons_succ]
                refine wpAnyH_ready (rs := [19]) (by kernel_rfl) (by simp) ?_
                refine AllReadyH.cons (by simp only [List.getElem?_toArray, List.getElem?_cons_zero, List.getElem?_cons_succ]; rfl) (fun K hK => ?_) AllReadyH.nil
                go_simp
                have hS := (‹Below _ w3 _ ∧ _›).1
                first
                  | (have LZ : Hid (Loc (w5.alloc (.cells #[.bool false, .string ⟨#[]⟩, .bool false, .string ⟨#[]⟩, .bool false, .string ⟨#[]⟩, .bool false, .string ⟨#[]⟩, .bool false, .string ⟨#[]⟩, .bool false, .string ⟨#[]⟩, .bool false, .string ⟨#[]⟩, .bool false, .string ⟨#[]⟩] 80)) w5.heap.size 80 (vals8 fun _ => Val.zero)) := hid (Loc.new w5 80 (vals8 fun _ => Val.zero)); have HBN := hid hS.size; have hS' := KS.out (w5.alloc (.cells #[.bool false, .string ⟨#[]⟩, .bool false, .string ⟨#[]⟩, .bool false, .string ⟨#[]⟩, .bool false, .string ⟨#[]⟩, .bool false, .string ⟨#[]⟩, .bool false, .string ⟨#[]⟩, .bool false, .string ⟨#[]⟩, .bool false, .string ⟨#[]⟩] 80)) (hS.alloc hS.size _); clear hS; generalize w5.alloc (.cells #[.bool false, .string ⟨#[]⟩, .bool false, .string ⟨#[]⟩, .bool false, .string ⟨#[]⟩, .bool false, .string ⟨#[]⟩, .bool false, .string ⟨#[]⟩, .bool false, .string ⟨#[]⟩, .bool false, .string ⟨#[]⟩, .bool false, .string ⟨#[]⟩] 80) = w6 at *; generalize w5.heap.size = b6 at *)
                  | (have LZ : Hid (Loc (w3.alloc (.cells #[.bool false, .string ⟨#[]⟩, .bool false, .string ⟨#[]⟩, .bool false, .string ⟨#[]⟩, .bool false, .string ⟨#[]⟩, .bool false, .string ⟨#[]⟩, .bool false, .string ⟨#[]⟩, .bool false, .string ⟨#[]⟩, .bool false, .string ⟨#[]⟩] 80)).drew w3.heap.size 80 (vals8 fun _ => Val.zero)) := hid (Loc.new w3 80 (vals8 fun _ => Val.zero)); have HBN := hid (Nat.le_refl w3.heap.size); have hS' := KS.out (w3.alloc (.cells #[.bool false, .string ⟨#[]⟩, .bool false, .string ⟨#[]⟩, .bool false, .string ⟨#[]⟩, .bool false, .string ⟨#[]⟩, .bool false, .string ⟨#[]⟩, .bool false, .string ⟨#[]⟩, .bool false, .string ⟨#[]⟩, .bool false, .string ⟨#[]⟩] 80)).drew (((Below.refl w3.heap.size w3).alloc (Nat.le_refl _) _).drew); clear hS; generalize (w3.alloc (.cells #[.bool false, .string ⟨#[]⟩, .bool false, .string ⟨#[]⟩, .bool false, .string ⟨#[]⟩, .bool false, .string ⟨#[]⟩, .bool false, .string ⟨#[]⟩, .bool false, .string ⟨#[]⟩, .bool false, .string ⟨#[]⟩, .bool false, .string ⟨#[]⟩] 80)).drew = w6 at *; generalize hb6 : w3.heap.size = b6 at *; have HB6 := hid hb6; clear hb6)
                try go_wp2_with fail
                refine hK.out _ _ ?_ (fun hH3 => ?_)
                · (try dsimp only); (first | assumption | exact KS.out _ (Below.refl w3.heap.size w3).drew)
                clear hK K hH2
                try simp only [Act.put, List.setIfInBounds_toArray, List.set_cons_zero, List.set_cons_succ]
                refine wpAnyH_ready (rs := [20]) (by kernel_rfl) (by simp) ?_
                refine AllReadyH.cons (by simp only [List.getElem?_toArray, List.getElem?_cons_zero, List.getElem?_cons_succ]; rfl) (fun K hK => ?_) AllReadyH.nil
                have hS := (‹Below _ w3 _ ∧ _›).1
                refine wp_store_mid 80 _ _ rfl _ 0 (vals8 fn).toArray rfl rfl (LZ.out.there8 fn) Try.infoWorld (vals8_one fn) ?_
                have hS' := KS.out _ (Below.setCells' HBN.out (vals8 fn) 0 hS)
                have LN := hid (LZ.out.setAll (vs := vals8 fn) rfl)
                clear hS
                first
                  | (generalize w5.setCells b6 0 (vals8 fn) = wz at *; have LN2 : Hid (Loc wz b6 80 (vals8 fn)) := by with_reducible exact LN)
                  | (generalize w6.setCells b6 0 (vals8 fn) = wz at *; have LN2 : Hid (Loc wz b6 80 (vals8 fn)) := by with_reducible exact LN)
                refine hK.out _ _ ?_ (fun hH4 => ?_)
                · (try dsimp only); (first | assumption | exact KS.out _ (Below.refl w3.heap.size w3).drew)
                clear hK K hH3
                try simp only [Act.put]
                refine wpAnyH_take (i := 21) (v := ?_) (by simp only [List.getElem?_toArray, List.getElem?_cons_zero, List.getElem?_cons_succ]; rfl) (by kernel_rfl) (by kernel_rfl) (by kernel_rfl) (fun _ _ _ h => h) (Or.inl ⟨by rfl, ?_⟩) (by assumption) ?_
                rotate_left
                · intro w hSw; (try dsimp only at hSw); go_simp; (try with_reducible rfl)
                try simp only [Act.put, List.setIfInBounds_toArray, List.set_cons_zero, List.set_cons_succ]
                refine wpAnyH_done (by kernel_rfl) ?_ _
                refine NoPanic.normal ?_
                exact HJ b6 wz ⟨(‹Below _ w3 wz ∧ _›).1, LN2.out⟩
              refine AllReadyH.cons (by simp only [List.getElem?_toArray, List.getElem?_cons_zero, List.getElem?_cons_succ]; rfl) (fun K hK => ?_) AllReadyH.nil
              go_simp
              have hS := (‹Below _ w3 _ ∧ _›).1
              first
                | (have LZ : Hid (Loc (w5.alloc (.cells #[.bool false, .string ⟨#[]⟩, .bool false, .string ⟨#[]⟩, .bool false, .string ⟨#[]⟩, .bool false, .string ⟨#[]⟩, .bool false, .string ⟨#[]⟩, .bool false, .string ⟨#[]⟩, .bool false, .string ⟨#[]⟩, .bool false, .string ⟨#[]⟩] 80)) w5.heap.size 80 (vals8 fun _ => Val.zero)) := hid (Loc.new w5 80 (vals8 fun _ => Val.zero)); have HBN := hid hS.size; have hS' := KS.out (w5.alloc (.cells #[.bool false, .string ⟨#[]⟩, .bool false, .string ⟨#[]⟩, .bool false, .string ⟨#[]⟩, .bool false, .string ⟨#[]⟩, .bool false, .string ⟨#[]⟩, .bool false, .string ⟨#[]⟩, .bool false, .string ⟨#[]⟩, .bool false, .string ⟨#[]⟩] 80)) (hS.alloc hS.size _); clear hS; generalize w5.alloc (.cells #[.bool false, .string ⟨#[]⟩, .bool false, .string ⟨#[]⟩, .bool false, .string ⟨#[]⟩, .bool false, .string ⟨#[]⟩, .bool false, .string ⟨#[]⟩, .bool false, .string ⟨#[]⟩, .bool false, .string ⟨#[]⟩, .bool false, .string ⟨#[]⟩] 80) = w6 at *; generalize w5.heap.size = b6 at *)
                | (have LZ : Hid (Loc (w3.alloc (.cells #[.bool false, .string ⟨#[]⟩, .bool false, .string ⟨#[]⟩, .bool false, .string ⟨#[]⟩, .bool false, .string ⟨#[]⟩, .bool false, .string ⟨#[]⟩, .bool false, .string ⟨#[]⟩, .bool false, .string ⟨#[]⟩, .bool false, .string ⟨#[]⟩] 80)).drew w3.heap.size 80 (vals8 fun _ => Val.zero)) := hid (Loc.new w3 80 (vals8 fun _ => Val.zero)); have HBN := hid (Nat.le_refl w3.heap.size); have hS' := KS.out (w3.alloc (.cells #[.bool false, .string ⟨#[]⟩, .bool false, .string ⟨#[]⟩, .bool false, .string ⟨#[]⟩, .bool false, .string ⟨#[]⟩, .bool false, .string ⟨#[]⟩, .bool false, .string ⟨#[]⟩, .bool false, .string ⟨#[]⟩, .bool false, .string ⟨#[]⟩] 80)).drew (((Below.refl w3.heap.size w3).alloc (Nat.le_refl _) _).drew); clear hS; generalize (w3.alloc (.cells #[.bool false, .string ⟨#[]⟩, .bool false, .string ⟨#[]⟩, .bool false, .string ⟨#[]⟩, .bool false, .string ⟨#[]⟩, .bool false, .string ⟨#[]⟩, .bool false, .string ⟨#[]⟩, .bool false, .string ⟨#[]⟩, .bool false, .string ⟨#[]⟩] 80)).drew = w6 at *; generalize hb6 : w3.heap.size = b6 at *; have HB6 := hid hb6; clear hb6)
              try go_wp2_with fail
              refine hK.out _ _ ?_ (fun hH5 => ?_)
              · (try dsimp only); (first | assumption | exact KS.out _ (Below.refl w3.heap.size w3).drew)
              clear hK K hH1
              try simp only [Act.put, List.setIfInBounds_toArray, List.set_cons_zero, List.set_cons_succ]
              refine wpAnyH_ready (rs := [15]) (by kernel_rfl) (by simp) ?_
              refine AllReadyH.cons (by simp only [List.getElem?_toArray, List.getElem?_cons_zero, List.getElem?_cons_succ]; rfl) (fun K hK => ?_) AllReadyH.nil
              go_simp
              go_at_call 48
              have hS := (‹Below _ w3 _ ∧ _›).1
              (with_reducible refine (SH.out _ hS).mono ?_)
              rintro e w5 ⟨rfl, hb5⟩
              have hS' := KS.out _ (hS.trans (hb5.mono (by first | exact hS.size | (have h1 := hS.size; have h2 := HB6.out; omega))))
              try (have hLZ := LZ.out.keep hb5; clear LZ; have LZ := hid hLZ; clear hLZ)
              clear hb5 hS
              try go_wp2_with fail
              refine hK.out _ _ ?_ (fun hH6 => ?_)
              · (try dsimp only); (first | assumption | exact KS.out _ (Below.refl w3.heap.size w3).drew)
              clear hK K hH5
              try simp only [Act.put, List.setIfInBounds_toArray, List.set_cons_zero, List.set_cons_succ]
              refine wpAnyH_take (i := 16) (v := ?_) (by simp only [List.getElem?_toArray, List.getElem?_cons_zero, List.getElem?_cons_succ]; rfl) (by kernel_rfl) (by kernel_rfl) (by kernel_rfl) (fun _ _ _ h => h) (Or.inl ⟨by rfl, ?_⟩) (by assumption) ?_
              rotate_left
              · intro w hSw; (try dsimp only at hSw); go_simp; (try with_reducible rfl)
              try simp only [Act.put, List.setIfInBounds_toArray, List.set_cons_zero, List.set_cons_succ]
              refine wpAnyH_take (i := 17) (v := ?_) (by simp only [List.getElem?_toArray, List.getElem?_cons_zero, List.getElem?_cons_succ]; rfl) (by kernel_rfl) (by kernel_rfl) (by kernel_rfl) (fun _ _ _ h => h) (Or.inl ⟨by rfl, ?_⟩) (by assumption) ?_
              rotate_left
              · intro w hSw; (try dsimp only at hSw); go_simp; (try with_reducible rfl)
              try simp only [Act.put, List.setIfInBounds_toArray, List.set_cons_zero, List.set_cons_succ]
              refine wpAnyH_take (i := 18) (v := ?_) (by simp only [List.getElem?_toArray, List.getElem?_cons_zero, List.getElem?_cons_succ]; rfl) (by kernel_rfl) (by kernel_rfl) (by kernel_rfl) (fun _ _ _ h => h) (Or.inl ⟨by rfl, ?_⟩) (by assumption) ?_
              rotate_left
              · intro w hSw; (try dsimp only at hSw); go_simp; (try with_reducible rfl)
              try simp only [Act.put, List.setIfInBounds_toArray, List.set_cons_zero, List.set_cons_succ]
              refine wpAnyH_ready (rs := [20]) (by kernel_rfl) (by simp) ?_
              refine AllReadyH.cons (by simp only [List.getElem?_toArray, List.getElem?_cons_zero, List.getElem?_cons_succ]; rfl) (fun K hK => ?_) AllReadyH.nil
              have hS := (‹Below _ w3 _ ∧ _›).1
              refine wp_store_mid 80 _ _ rfl _ 0 (vals8 fn).toArray rfl rfl (LZ.out.there8 fn) Try.infoWorld (vals8_one fn) ?_
              have hS' := KS.out _ (Below.setCells' HBN.out (vals8 fn) 0 hS)
              have LN := hid (LZ.out.setAll (vs := vals8 fn) rfl)
              clear hS
              first
                | (generalize w5.setCells b6 0 (vals8 fn) = wz at *; have LN2 : Hid (Loc wz b6 80 (vals8 fn)) := by with_reducible exact LN)
                | (generalize w6.setCells b6 0 (vals8 fn) = wz at *; have LN2 : Hid (Loc wz b6 80 (vals8 fn)) := by with_reducible exact LN)
              refine hK.out _ _ ?_ (fun hH7 => ?_)
              · (try dsimp only); (first | assumption | exact KS.out _ (Below.refl w3.heap.size w3).drew)
              clear hK K hH6
              try simp only [Act.put]
              refine wpAnyH_take (i := 21) (v := ?_) (by simp only [List.getElem?_toArray, List.getElem?_cons_zero, List.getElem?_cons_succ]; rfl) (by kernel_rfl) (by kernel_rfl) (by kernel_rfl) (fun _ _ _ h => h) (Or.inl ⟨by rfl, ?_⟩) (by assumption) ?_
              rotate_left
              · intro w hSw; (try dsimp only at hSw); go_simp; (try with_reducible rfl)
              try simp only [Act.put, List.setIfInBounds_toArray, List.set_cons_zero, List.set_cons_succ]
              refine wpAnyH_done (by kernel_rfl) ?_ _
              refine NoPanic.normal ?_
              exact HJ b6 wz ⟨(‹Below _ w3 wz ∧ _›).1, LN2.out⟩
            refine AllReadyH.cons (by simp only [List.getElem?_toArray, List.getElem?_cons_zero, List.getElem?_cons_succ]; rfl) (fun K hK => ?_) AllReadyH.nil
            go_simp
            have hS := (‹Below _ w3 _ ∧ _›).1
            first
              | (have LZ : Hid (Loc (w5.alloc (.cells #[.bool false, .string ⟨#[]⟩, .bool false, .string ⟨#[]⟩, .bool false, .string ⟨#[]⟩, .bool false, .string ⟨#[]⟩, .bool false, .string ⟨#[]⟩, .bool false, .string ⟨#[]⟩, .bool false, .string ⟨#[]⟩, .bool false, .string ⟨#[]⟩] 80)) w5.heap.size 80 (vals8 fun _ => Val.zero)) := hid (Loc.new w5 80 (vals8 fun _ => Val.zero)); have HBN := hid hS.size; have hS' := KS.out (w5.alloc (.cells #[.bool false, .string ⟨#[]⟩, .bool false, .string ⟨#[]⟩, .bool false, .string ⟨#[]⟩, .bool false, .string ⟨#[]⟩, .bool false, .string ⟨#[]⟩, .bool false, .string ⟨#[]⟩, .bool false, .string ⟨#[]⟩, .bool false, .string ⟨#[]⟩] 80)) (hS.alloc hS.size _); clear hS; generalize w5.alloc (.cells #[.bool false, .string ⟨#[]⟩, .bool false, .string ⟨#[]⟩, .bool false, .string ⟨#[]⟩, .bool false, .string ⟨#[]⟩, .bool false, .string ⟨#[]⟩, .bool false, .string ⟨#[]⟩, .bool false, .string ⟨#[]⟩, .bool false, .string ⟨#[]⟩] 80) = w6 at *; generalize w5.heap.size = b6 at *)
              | (have LZ : Hid (Loc (w3.alloc (.cells #[.bool false, .string ⟨#[]⟩, .bool false, .string ⟨#[]⟩, .bool false, .string ⟨#[]⟩, .bool false, .string ⟨#[]⟩, .bool false, .string ⟨#[]⟩, .bool false, .string ⟨#[]⟩, .bool false, .string ⟨#[]⟩, .bool false, .string ⟨#[]⟩] 80)).drew w3.heap.size 80 (vals8 fun _ => Val.zero)) := hid (Loc.new w3 80 (vals8 fun _ => Val.zero)); have HBN := hid (Nat.le_refl w3.heap.size); have hS' := KS.out (w3.alloc (.cells #[.bool false, .string ⟨#[]⟩, .bool false, .string ⟨#[]⟩, .bool false, .string ⟨#[]⟩, .bool false, .string ⟨#[]⟩, .bool false, .string ⟨#[]⟩, .bool false, .string ⟨#[]⟩, .bool false, .string ⟨#[]⟩, .bool false, .string ⟨#[]⟩] 80)).drew (((Below.refl w3.heap.size w3).alloc (Nat.le_refl _) _).drew); clear hS; generalize (w3.alloc (.cells #[.bool false, .string ⟨#[]⟩, .bool false, .string ⟨#[]⟩, .bool false, .string ⟨#[]⟩, .bool false, .string ⟨#[]⟩, .bool false, .string ⟨#[]⟩, .bool false, .string ⟨#[]⟩, .bool false, .string ⟨#[]⟩, .bool false, .string ⟨#[]⟩] 80)).drew = w6 at *; generalize hb6 : w3.heap.size = b6 at *; have HB6 := hid hb6; clear hb6)
            try go_wp2_with fail
            refine hK.out _ _ ?_ (fun hH8 => ?_)
            · (try dsimp only); (first | assumption | exact KS.out _ (Below.refl w3.heap.size w3).drew)
            clear hK K hH0
            try simp only [Act.put, List.setIfInBounds_toArray, List.set_cons_zero, List.set_cons_succ]
            refine wpAnyH_ready (rs := [14]) (by kernel_rfl) (by simp) ?_
            refine AllReadyH.cons (by simp only [List.getElem?_toArray, List.getElem?_cons_zero, List.getElem?_cons_succ]; rfl) (fun K hK => ?_) AllReadyH.nil
            go_simp
            go_at_call 45
            have hS := (‹Below _ w3 _ ∧ _›).1
            (with_reducible refine (LA.out _ hS).mono ?_)
            rintro e w' ⟨rfl, rfl⟩
            clear hS
            try go_wp2_with fail
            refine hK.out _ _ ?_ (fun hH9 => ?_)
            · (try dsimp only); (first | assumption | exact KS.out _ (Below.refl w3.heap.size w3).drew)
            clear hK K hH8
            try simp only [Act.put, List.setIfInBounds_toArray, List.set_cons_zero, List.set_cons_succ]
            refine wpAnyH_ready (rs := [15]) (by kernel_rfl) (by simp) ?_
            refine AllReadyH.cons (by simp only [List.getElem?_toArray, List.getElem?_cons_zero, List.getElem?_cons_succ]; rfl) (fun K hK => ?_) AllReadyH.nil
            go_simp
            go_at_call 48
            have hS := (‹Below _ w3 _ ∧ _›).1
            (with_reducible refine (SH.out _ hS).mono ?_)
            rintro e w5 ⟨rfl, hb5⟩
            have hS' := KS.out _ (hS.trans (hb5.mono (by first | exact hS.size | (have h1 := hS.size; have h2 := HB6.out; omega))))
            try (have hLZ := LZ.out.keep hb5; clear LZ; have LZ := hid hLZ; clear hLZ)
            clear hb5 hS
            try go_wp2_with fail
            refine hK.out _ _ ?_ (fun hH10 => ?_)
            · (try dsimp only); (first | assumption | exact KS.out _ (Below.refl w3.heap.size w3).drew)
            clear hK K hH9
            try simp only [Act.put, List.setIfInBounds_toArray, List.set_cons_zero, List.set_cons_succ]
            refine wpAnyH_take (i := 16) (v := ?_) (by simp only [List.getElem?_toArray, List.getElem?_cons_zero, List.getElem?_cons_succ]; rfl) (by kernel_rfl) (by kernel_rfl) (by kernel_rfl) (fun _ _ _ h => h) (Or.inl ⟨by rfl, ?_⟩) (by assumption) ?_
            rotate_left
            · intro w hSw; (try dsimp only at hSw); go_simp; (try with_reducible rfl)
            try simp only [Act.put, List.setIfInBounds_toArray, List.set_cons_zero, List.set_cons_succ]
            refine wpAnyH_take (i := 17) (v := ?_) (by simp only [List.getElem?_toArray, List.getElem?_cons_zero, List.getElem?_cons_succ]; rfl) (by kernel_rfl) (by kernel_rfl) (by kernel_rfl) (fun _ _ _ h => h) (Or.inl ⟨by rfl, ?_⟩) (by assumption) ?_
            rotate_left
            · intro w hSw; (try dsimp only at hSw); go_simp; (try with_reducible rfl)
            try simp only [Act.put, List.setIfInBounds_toArray, List.set_cons_zero, List.set_cons_succ]
            refine wpAnyH_take (i := 18) (v := ?_) (by simp only [List.getElem?_toArray, List.getElem?_cons_zero, List.getElem?_cons_succ]; rfl) (by kernel_rfl) (by kernel_rfl) (by kernel_rfl) (fun _ _ _ h => h) (Or.inl ⟨by rfl, ?_⟩) (by assumption) ?_
            rotate_left
            · intro w hSw; (try dsimp only at hSw); go_simp; (try with_reducible rfl)
            try simp only [Act.put, List.setIfInBounds_toArray, List.set_cons_zero, List.set_cons_succ]
            refine wpAnyH_ready (rs := [20]) (by kernel_rfl) (by simp) ?_
            refine AllReadyH.cons (by simp only [List.getElem?_toArray, List.getElem?_cons_zero, List.getElem?_cons_succ]; rfl) (fun K hK => ?_) AllReadyH.nil
            have hS := (‹Below _ w3 _ ∧ _›).1
            refine wp_store_mid 80 _ _ rfl _ 0 (vals8 fn).toArray rfl rfl (LZ.out.there8 fn) Try.infoWorld (vals8_one fn) ?_
            have hS' := KS.out _ (Below.setCells' HBN.out (vals8 fn) 0 hS)
            have LN := hid (LZ.out.setAll (vs := vals8 fn) rfl)
            clear hS
            first
              | (generalize w5.setCells b6 0 (vals8 fn) = wz at *; have LN2 : Hid (Loc wz b6 80 (vals8 fn)) := by with_reducible exact LN)
              | (generalize w6.setCells b6 0 (vals8 fn) = wz at *; have LN2 : Hid (Loc wz b6 80 (vals8 fn)) := by with_reducible exact LN)
            refine hK.out _ _ ?_ (fun hH11 => ?_)
            · (try dsimp only); (first | assumption | exact KS.out _ (Below.refl w3.heap.size w3).drew)
            clear hK K hH10
            try simp only [Act.put]
            refine wpAnyH_take (i := 21) (v := ?_) (by simp only [List.getElem?_toArray, List.getElem?_cons_zero, List.getElem?_cons_succ]; rfl) (by kernel_rfl) (by kernel_rfl) (by kernel_rfl) (fun _ _ _ h => h) (Or.inl ⟨by rfl, ?_⟩) (by assumption) ?_
            rotate_left
            · intro w hSw; (try dsimp only at hSw); go_simp; (try with_reducible rfl)
            try simp only [Act.put, List.setIfInBounds_toArray, List.set_cons_zero, List.set_cons_succ]
            refine wpAnyH_done (by kernel_rfl) ?_ _
            refine NoPanic.normal ?_
            exact HJ b6 wz ⟨(‹Below _ w3 wz ∧ _›).1, LN2.out⟩
            -- END 26
          · skip
            obtain ⟨hb, hLn⟩ := hS
            have BN := hid (HB3.out.below' hb)
            have WN := hid (HW3.out.below hb)
            have NN := hid (HN3.out.below hb)
            have MN := hid hLn
            have LAn := hid (LA.out _ hb)
            have r0 := (HL3.out.below hb).1.cell 0
            simp only [List.getElem?_cons_zero] at r0
            have r1 := (HV3.out.below hb).cells.1
            clear hb hLn HB3 HW3 HN3 KS LA SH HL3 HV3
            rcases HC.out with ⟨rfl, rfl, rfl, hwhy⟩ | ⟨rfl, rfl, rfl, rfl, hws⟩
            · clear HC
              have hgo : (ke ≠ 0) ∨ (ke = 0 ∧ wt = false) ∨ (ke = 0 ∧ wt = true ∧ keep < 200) := by
                by_cases h0 : ke = 0
                · right
                  cases hw : wt with
                  | false => exact .inl ⟨h0, rfl⟩
                  | true =>
                    right
                    refine ⟨h0, rfl, ?_⟩
                    have h1 := HWT.out
                    rw [hw] at h1
                    rcases hwhy with h | h | h
                    · exact absurd h0 h
                    · rw [h] at h1; cases h1
                    · exact h
                · exact .inl h0
              have HG := hid hgo
              clear hgo hwhy
              go_wp2_with fail
              refine LAn.out.mono ?_
              rintro e w' ⟨rfl, rfl⟩
              rcases HG.out with h0 | ⟨rfl, rfl⟩ | ⟨rfl, rfl, h2⟩
              · have h0' : (ke == 0) = false := by simpa using h0
                have h0'' : (ke != 0) = true := by simpa using h0
                clear HG h0
                go_wp2_with (first
                  | refine wpList_load_vals rfl (.tmp 10) rfl b4 rfl _ WN.out.1 ?_
                  | refine wpList_load_vals rfl (.tmp 19) rfl bn rfl _ MN.out ?_
                  | refine wpList_eq_vals rfl (.tmp 173) (.tmp 174) _ rfl _ rfl rfl ?_)
                go_ret
                exact ⟨rfl, B1.out.trans (BN.out.below.mono B1.out.size)⟩
              · clear HG
                go_wp2_with (first
                  | refine wpList_load_vals rfl (.tmp 10) rfl b4 rfl _ WN.out.1 ?_
                  | refine wpList_load_vals rfl (.tmp 19) rfl bn rfl _ MN.out ?_
                  | refine wpList_eq_vals rfl (.tmp 173) (.tmp 174) _ rfl _ rfl rfl ?_)
                go_ret
                exact ⟨rfl, B1.out.trans (BN.out.below.mono B1.out.size)⟩
              · clear HG
                go_wp2_with (first
                  | refine wpList_load_vals rfl (.tmp 10) rfl b4 rfl _ WN.out.1 ?_
                  | refine wpList_load_vals rfl (.tmp 19) rfl bn rfl _ MN.out ?_
                  | refine wpList_eq_vals rfl (.tmp 173) (.tmp 174) _ rfl _ rfl rfl ?_)
                go_ret
                exact ⟨rfl, B1.out.trans (BN.out.below.mono B1.out.size)⟩
            · have hwt : wt = true := by
                have h1 := HWT.out
                rw [← h1, decide_eq_true_iff]
                exact List.length_pos_iff.2 hws
              subst hwt
              clear HC hws
              have hk0 : (((L : Int) + 1) == 0) = false := by rw [beq_eq_false_iff_ne]; omega
              have hL0 : 0 ≤ (L : Int) := by omega
              go_wp2_with fail
              refine LAn.out.mono ?_
              rintro e w' ⟨rfl, rfl⟩
              go_wp2_with (first
                | refine wpList_load_vals rfl (.tmp 14) rfl b6 rfl _ NN.out.1 ?_
                | refine wpList_load_vals rfl (.tmp 19) rfl bn rfl _ MN.out ?_
                | refine wpList_eq_vals rfl (.tmp 210) (.tmp 211) _ rfl _ rfl rfl ?_)
              go_ret
              exact ⟨rfl, B1.out.trans (BN.out.below.mono B1.out.size)⟩

end Go.Proofs.Ytoiobhcgpajogac
