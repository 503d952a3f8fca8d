/- The walk of HallClears. -/
import Derived.Test.YtoiobhcgpajogacLaw07a
import Derived.Test.YtoiobhcgpajogacHallS
import Derived.Test.YtoiobhcgpajogacHallT
namespace Go.Proofs.Ytoiobhcgpajogac
open Go.RowKit

theorem listDGo_len {T : Tab} : ∀ (ks : List Nat) (D : Ded) (out : List Ent), (listDGo T ks D out).1.1.length ≤ out.length + ks.length
  | [], D, out => by simp [listDGo]
  | k :: ks, D, out => by
    rw [listDGo]
    split
    · simp
    · have h := listDGo_len (T := T) ks (getD D T k).2 (if (getD D T k).1.1.there then out ++ [⟨k, (getD D T k).1.1⟩] else out)
      have h2 : (if (getD D T k).1.1.there then out ++ [⟨(k : Int), (getD D T k).1.1⟩] else out).length ≤ out.length + 1 := by split <;> simp
      simp only [List.length_cons]
      omega

theorem listD_len8 (D : Ded) (T : Tab) (f u : Int) : (listD D T f u).1.1.length ≤ 8 := by
  unfold listD
  split
  · simp
  · have h := listDGo_len (T := T) ((List.range (u.toNat + 1)).drop f.toNat) D []
    simp only [List.length_drop, List.length_range, List.length_nil] at h
    omega

theorem doH_len (H : Ht) (x : St) : (doH H x).1.l.length ≤ 8 := by
  unfold doH
  split
  · simp [Evt.of]
  split
  · simp [Evt.of]
  split
  · simp [Evt.of]
  split
  · simp [Evt.of]
  split
  · unfold beginH
    split
    · simp [Evt.of]
    · split <;> simp [Evt.of]
  · unfold deedO
    split
    · simp [Evt.of]
    · unfold deedH
      split
      · simp
      split
      · simp [Evt.of]
      split
      · simp [Evt.of]
      split
      · exact listD_len8 _ _ _ _
      repeat' split
      all_goals simp [Evt.of]

theorem doH_clear {H G : Ht} (h : Rel H G) (hT : H.v.tab.Ok) {x : St} (h8 : x.kind = 8) : Rel (doH H x).2 G := by
  unfold doH
  rw [if_neg (by omega), if_pos h8]
  exact h.clear hT

theorem HallAt.deeds {w : World} {g : Nat → Nat} {p h : Nat} {H : Ht} (k : HallAt w g p h H) : ∀ s, s < 5 → ∀ D, H.seats s = some D → D.Ok := by
  obtain ⟨vp, ds, k⟩ := k
  exact fun s hs D hD => (k.deed s hs D hD).1

theorem Evo.drew' {lo hi : Nat} {g g' : Nat → Nat} {w w' : World} (h : Evo lo hi g g' w w') : Evo lo hi g g' w w'.drew := ⟨h.os, h.tape, h.output, h.size, h.col, h.same⟩

set_option maxHeartbeats 16000000 in
set_option maxRecDepth 100000 in
theorem walk_HallClears (a : Option Addr) (cap : Nat) (l : List St) (w : World) (hl : l.length ≤ 9223372036854775807) (hA : StepsAt w a l) :
    Calls Try.prog 12 #[.slice a l.length cap] w (TruePost w) := by
  have HA := hid hA
  clear hA
  go_enter Try.func12, Try.ntmps12
  go_wp2_with fail
  (with_reducible refine (law_hallBegun w).mono ?_)
  rintro e w1 ⟨rfl, hb⟩
  have B1 := hid hb
  clear hb
  go_wp2_with fail
  (with_reducible refine (law_greatSteps a cap l w1 hl (HA.out.below B1.out)).mono ?_)
  rintro e w1' ⟨rfl, rfl⟩
  cases hg : greatS l with
  | true =>
    clear hg
    go_wp2
    go_ret
    exact ⟨rfl, B1.out⟩
  | false =>
  obtain ⟨h200, h100⟩ := greatS_false hg
  have H100 := hid h100
  have SA := hid (HA.out.below B1.out)
  clear hg h100 HA
  go_wp2_with fail
  refine (hall_New (fun _ => 0) 1 w1).mono ?_
  rintro e w2 ⟨h, g2, rfl, hE, -, hH⟩
  have B2 := hid ((Base.start w1).step hE (by omega))
  have H2 := hid hH
  clear hE hH
  go_wp2_with fail
  refine (hall_New g2 20 w2).mono ?_
  rintro e w2b ⟨hg, g2b, rfl, hE, -, hHg⟩
  have B2b := hid (B2.out.step hE (by omega))
  have H2b := hid (H2.out.frame hE (by omega))
  have G2b := hid hHg
  clear hE hHg B2 H2
  go_wp2_with fail
  go_loopw [5] (fun i wr => ∃ (k : Nat) (g : Nat → Nat) (H G : Ht), k ≤ l.length ∧ i = .int .i64 k ∧ Hid (HallAt wr g 1 h H) ∧ Hid (HallAt wr g 20 hg G) ∧ Hid (Base w1.heap.size w1 g wr) ∧ Hid (Rel H G)) (fun i _ => l.length - (intOf i).toNat)
  case atStart => exact ⟨0, g2b, Ht.new, Ht.new, Nat.zero_le _, rfl, H2b, G2b, B2b, hid Rel.start⟩
  case round =>
    clear H2b G2b B2b
    obtain ⟨k, g, H, G, hk, rfl, HH, HG, HB, HR⟩ := hrel
    by_cases hlt : k < l.length
    · obtain ⟨b1, o1, rfl, hbb, v1⟩ := SA.out.facts (by omega)
      obtain ⟨p0, p1, p2, p3, p4, p5, p6, p7, -⟩ := v1 k hlt
      have hx100 := H100.out l[k] (List.getElem_mem _)
      have P0 := (HB.out.cell (p := ⟨b1, _, none⟩) hbb).trans p0
      have P1 := (HB.out.cell (p := ⟨b1, _, none⟩) hbb).trans p1
      have P2 := (HB.out.cell (p := ⟨b1, _, none⟩) hbb).trans p2
      have P3 := (HB.out.cell (p := ⟨b1, _, none⟩) hbb).trans p3
      have P4 := (HB.out.cell (p := ⟨b1, _, none⟩) hbb).trans p4
      have P5 := (HB.out.cell (p := ⟨b1, _, none⟩) hbb).trans p5
      have P6 := (HB.out.cell (p := ⟨b1, _, none⟩) hbb).trans p6
      have P7 := (HB.out.cell (p := ⟨b1, _, none⟩) hbb).trans p7
      have hki : (k : Int) < (l.length : Int) := by omega
      have hk0 : (0 : Int) ≤ (k : Int) := by omega
      generalize l[k] = x at *
      have hxm : x.bytes.size ≤ maxLen := by unfold maxLen; omega
      clear v1
      by_cases hk8 : x.kind = 8
      · have q8 : (x.kind == 8) = true := by simpa using hk8
        have RR := hid (doH_clear HR.out HH.out.ok.2 hk8)
        clear hk8
        go_wp2_with fail
        refine (hall_Do g 1 h H x wr hxm HH.out).mono ?_
        rintro e w3 ⟨a3, c3, g3, rfl, hH3, hE3, hs3, -⟩
        have H3 := hid hH3
        have E3 := hid hE3
        have B3 := hid (HB.out.step hE3 (by omega))
        have G3 := hid (HG.out.frame hE3 (by omega))
        clear hH3 hE3 hs3 P0 P1 P2 P3 P4 P5 P6 P7 HH HG
        generalize doH H x = y at *
        obtain ⟨ye, Y2⟩ := y
        obtain ⟨yc, yn, yv, yl⟩ := ye
        have Q0 := (B3.out.cell (p := ⟨b1, _, none⟩) hbb).trans p0
        have hb1 : b1 < w3.heap.size := Nat.lt_of_lt_of_le hbb B3.out.size
        clear p0 p1 p2 p3 p4 p5 p6 p7
        go_wp2_with fail
        have EA := Evo.alloc g3 60 w3 (.cells #[.int .i64 yc, .int .i64 yn, .bool yv.there, .string yv.bytes, .slice a3 yl.length c3] 103)
        go_roundw
        case rel => exact ⟨k + 1, _, Y2, G, by omega, by go_num, hid (H3.out.frame EA (by omega)), hid (G3.out.frame EA (by omega)), hid (B3.out.step EA (by omega)), RR⟩
        case measure => simp [intOf]; omega
      · have q8 : (x.kind == 8) = false := by simpa using hk8
        have BO := hid (doH_both HR.out HH.out.ok.1 HH.out.ok.2 HG.out.ok.2 HH.out.deeds x hk8)
        have LEN := hid (doH_len H x)
        clear hk8
        go_wp2_with fail
        refine (hall_Do g 1 h H x wr hxm HH.out).mono ?_
        rintro e w3 ⟨a3, c3, g3, rfl, hH3, hE3, hs3, hn3⟩
        have H3 := hid hH3
        have E3 := hid hE3
        have S3 := hid hs3
        have N3 := hid hn3
        have B3 := hid (HB.out.step hE3 (by omega))
        clear hH3 hE3 hs3 hn3 P0 P1 P2 P3 P4 P5 P6 P7 HH
        generalize doH H x = y at *
        obtain ⟨ye, Y2⟩ := y
        obtain ⟨yc, yn, yv, yl⟩ := ye
        have Q0 := (B3.out.cell (p := ⟨b1, _, none⟩) hbb).trans p0
        have hb1 : b1 < w3.heap.size := Nat.lt_of_lt_of_le hbb B3.out.size
        have PP := hid (show (w1.cell? ⟨b1, o1 + k * 8, none⟩ = some (.int .i64 x.kind) ∧ w1.cell? ⟨b1, o1 + k * 8 + 1, none⟩ = some (.int .i64 x.s) ∧ w1.cell? ⟨b1, o1 + k * 8 + 2, none⟩ = some (.int .i64 x.mode) ∧ w1.cell? ⟨b1, o1 + k * 8 + 3, none⟩ = some (.int .i64 x.at_) ∧ w1.cell? ⟨b1, o1 + k * 8 + 4, none⟩ = some (.int .i64 x.key) ∧ w1.cell? ⟨b1, o1 + k * 8 + 5, none⟩ = some (.int .i64 x.to_) ∧ w1.cell? ⟨b1, o1 + k * 8 + 6, none⟩ = some (.int .i64 x.keep) ∧ w1.cell? ⟨b1, o1 + k * 8 + 7, none⟩ = some (.string x.bytes)) from ⟨p0, p1, p2, p3, p4, p5, p6, p7⟩)
        clear p0 p1 p2 p3 p4 p5 p6 p7
        by_cases hc : yc = 12
        · have q12 : (yc == 12) = true := by simpa using hc
          have RO := hid (BO.out.old hc)
          clear hc BO
          have G3 := hid (HG.out.frame E3.out (by omega))
          clear HG
          go_wp2_with fail
          have EA := Evo.alloc g3 60 w3 (.cells #[.int .i64 yc, .int .i64 yn, .bool yv.there, .string yv.bytes, .slice a3 yl.length c3] 103)
          go_roundw
          case rel => exact ⟨k + 1, _, Y2, G, by omega, by go_num, hid (H3.out.frame EA (by omega)), hid (G3.out.frame EA (by omega)), hid (B3.out.step EA (by omega)), RO⟩
          case measure => simp [intOf]; omega
        · have q12 : (yc == 12) = false := by simpa using hc
          obtain ⟨hsame, hrel2⟩ := BO.out.same hc
          obtain ⟨Z2, hz⟩ : ∃ Z2, doH G x = (⟨yc, yn, yv, yl⟩, Z2) := ⟨(doH G x).2, Prod.ext hsame rfl⟩
          rw [hz] at hrel2
          have RZ := hid hrel2
          have HZ := hid hz
          clear hc BO hsame hrel2 hz
          try go_upto_region 12 with (fail)
          have hA := Evo.alloc g3 40 w3 (.cells #[.int .i64 yc, .int .i64 yn, .bool yv.there, .string yv.bytes, .slice a3 yl.length c3] 103)
          have E4 := hid ((E3.out.trans (hA.none (Nat.le_refl _))).drew')
          have hAD := hA.drew'
          have H4 := hid (H3.out.frame hAD (by omega))
          have G4 := hid (HG.out.frame (E4.out.paint 40) (by omega))
          have B4 := hid (B3.out.step hAD (by omega))
          have hL := (LocC.new g3 40 w3 103 [.int .i64 yc, .int .i64 yn, .bool yv.there, .string yv.bytes, .slice a3 yl.length c3])
          have L4 : Hid (LocC (w3.alloc (.cells #[.int .i64 yc, .int .i64 yn, .bool yv.there, .string yv.bytes, .slice a3 yl.length c3] 103)).drew (paint (extc g3 w3 40) wr 40) 40 w3.heap.size 103 [.int .i64 yc, .int .i64 yn, .bool yv.there, .string yv.bytes, .slice a3 yl.length c3]) := hid ⟨hL.1, by unfold paint; split; exact hL.2; rfl⟩
          have T4 := hid (sliceAt_below S3.out (((Below.refl _ _).alloc (Nat.le_refl _) (.cells #[.int .i64 yc, .int .i64 yn, .bool yv.there, .string yv.bytes, .slice a3 yl.length c3] 103)).drew))
          clear hA hAD hL E3 H3 HG B3 S3 Q0
          generalize extc g3 w3 40 = g4 at *
          generalize hw4 : w3.alloc (.cells #[.int .i64 yc, .int .i64 yn, .bool yv.there, .string yv.bytes, .slice a3 yl.length c3] 103) = w4 at *
          have hb1' : b1 < w4.heap.size := by rw [← hw4]; simp; omega
          clear hw4
          generalize w3.heap.size = b6 at *
          obtain ⟨vp, ds, C4⟩ := H4.out
          obtain ⟨r0, t, tb, V4⟩ := C4.top
          have r1 := V4.cells.1
          have hS4 : (w4.drew.cell? ⟨b6, 0, none⟩ = some (.int .i64 yc) ∧ w4.drew.cell? ⟨b6, 1, none⟩ = some (.int .i64 yn) ∧ w4.drew.cell? ⟨b6, 2, none⟩ = some (.bool yv.there) ∧ w4.drew.cell? ⟨b6, 3, none⟩ = some (.string yv.bytes) ∧ w4.drew.cell? ⟨b6, 4, none⟩ = some (.slice a3 yl.length c3) ∧ w4.drew.cell? ⟨b1, o1 + k * 8, none⟩ = some (.int .i64 x.kind) ∧ w4.drew.cell? ⟨b1, o1 + k * 8 + 1, none⟩ = some (.int .i64 x.s) ∧ w4.drew.cell? ⟨b1, o1 + k * 8 + 2, none⟩ = some (.int .i64 x.mode) ∧ w4.drew.cell? ⟨b1, o1 + k * 8 + 3, none⟩ = some (.int .i64 x.at_) ∧ w4.drew.cell? ⟨b1, o1 + k * 8 + 4, none⟩ = some (.int .i64 x.key) ∧ w4.drew.cell? ⟨b1, o1 + k * 8 + 5, none⟩ = some (.int .i64 x.to_) ∧ w4.drew.cell? ⟨b1, o1 + k * 8 + 6, none⟩ = some (.int .i64 x.keep) ∧ w4.drew.cell? ⟨b1, o1 + k * 8 + 7, none⟩ = some (.string x.bytes) ∧ w4.drew.cell? ⟨h, 0, none⟩ = some (.pointer (some ⟨vp, 0, none⟩)) ∧ w4.drew.cell? ⟨vp, 0, none⟩ = some (.pointer (some ⟨t, 0, none⟩))) := ⟨L4.out.1.cell 0, L4.out.1.cell 1, L4.out.1.cell 2, L4.out.1.cell 3, L4.out.1.cell 4, (B4.out.cell (p := ⟨b1, _, none⟩) hbb).trans PP.out.1, (B4.out.cell (p := ⟨b1, _, none⟩) hbb).trans PP.out.2.1, (B4.out.cell (p := ⟨b1, _, none⟩) hbb).trans PP.out.2.2.1, (B4.out.cell (p := ⟨b1, _, none⟩) hbb).trans PP.out.2.2.2.1, (B4.out.cell (p := ⟨b1, _, none⟩) hbb).trans PP.out.2.2.2.2.1, (B4.out.cell (p := ⟨b1, _, none⟩) hbb).trans PP.out.2.2.2.2.2.1, (B4.out.cell (p := ⟨b1, _, none⟩) hbb).trans PP.out.2.2.2.2.2.2.1, (B4.out.cell (p := ⟨b1, _, none⟩) hbb).trans PP.out.2.2.2.2.2.2.2, r0, r1⟩
          have CC4 := hid C4
          have VV4 := hid V4
          have HS4 := hid hS4
          clear C4 V4 r0 r1 hS4
          -- REGION 12
          refine wp_region_noPanic ?_
          refine wp_region_held_drew (S := (fun W : World => W.cell? ⟨b6, 0, none⟩ = some (.int .i64 yc) ∧ W.cell? ⟨b6, 1, none⟩ = some (.int .i64 yn) ∧ W.cell? ⟨b6, 2, none⟩ = some (.bool yv.there) ∧ W.cell? ⟨b6, 3, none⟩ = some (.string yv.bytes) ∧ W.cell? ⟨b6, 4, none⟩ = some (.slice a3 yl.length c3) ∧ W.cell? ⟨b1, o1 + k * 8, none⟩ = some (.int .i64 x.kind) ∧ W.cell? ⟨b1, o1 + k * 8 + 1, none⟩ = some (.int .i64 x.s) ∧ W.cell? ⟨b1, o1 + k * 8 + 2, none⟩ = some (.int .i64 x.mode) ∧ W.cell? ⟨b1, o1 + k * 8 + 3, none⟩ = some (.int .i64 x.at_) ∧ W.cell? ⟨b1, o1 + k * 8 + 4, none⟩ = some (.int .i64 x.key) ∧ W.cell? ⟨b1, o1 + k * 8 + 5, none⟩ = some (.int .i64 x.to_) ∧ W.cell? ⟨b1, o1 + k * 8 + 6, none⟩ = some (.int .i64 x.keep) ∧ W.cell? ⟨b1, o1 + k * 8 + 7, none⟩ = some (.string x.bytes) ∧ W.cell? ⟨h, 0, none⟩ = some (.pointer (some ⟨vp, 0, none⟩)) ∧ W.cell? ⟨vp, 0, none⟩ = some (.pointer (some ⟨t, 0, none⟩)))) (by kernel_rfl) ?_ (fun hH0 => ?_)
          · (try dsimp only); (first | exact HS4.out | assumption)
          refine wpAnyH_take (i := 0) (v := ?_) (by simp only [List.getElem?_toArray, List.getElem?_cons_zero]; rfl) (by kernel_rfl) (by kernel_rfl) (by kernel_rfl) (fun _ _ _ h => h) (Or.inl ⟨by rfl, ?_⟩) (by assumption) ?_
          rotate_left
          · intro w hSw; (try dsimp only at hSw); go_simp; (try with_reducible rfl)
          try simp only [Act.put, List.setIfInBounds_toArray, List.set_cons_zero, List.set_cons_succ]
          refine wpAnyH_take (i := 1) (v := ?_) (by simp only [List.getElem?_toArray, List.getElem?_cons_zero, List.getElem?_cons_succ]; rfl) (by kernel_rfl) (by kernel_rfl) (by kernel_rfl) (fun _ _ _ h => h) (Or.inl ⟨by rfl, ?_⟩) (by assumption) ?_
          rotate_left
          · intro w hSw; (try dsimp only at hSw); go_simp; (try with_reducible rfl)
          try simp only [Act.put, List.setIfInBounds_toArray, List.set_cons_zero, List.set_cons_succ]
          refine wpAnyH_take (i := 2) (v := ?_) (by simp only [List.getElem?_toArray, List.getElem?_cons_zero, List.getElem?_cons_succ]; rfl) (by kernel_rfl) (by kernel_rfl) (by kernel_rfl) (fun _ _ _ h => h) (Or.inl ⟨by rfl, ?_⟩) (by assumption) ?_
          rotate_left
          · intro w hSw; (try dsimp only at hSw); go_simp; (try with_reducible rfl)
          try simp only [Act.put, List.setIfInBounds_toArray, List.set_cons_zero, List.set_cons_succ]
          refine wpAnyH_take (i := 3) (v := ?_) (by simp only [List.getElem?_toArray, List.getElem?_cons_zero, List.getElem?_cons_succ]; rfl) (by kernel_rfl) (by kernel_rfl) (by kernel_rfl) (fun _ _ _ h => h) (Or.inl ⟨by rfl, ?_⟩) (by assumption) ?_
          rotate_left
          · intro w hSw; (try dsimp only at hSw); go_simp; (try with_reducible rfl)
          try simp only [Act.put, List.setIfInBounds_toArray, List.set_cons_zero, List.set_cons_succ]
          refine wpAnyH_take (i := 4) (v := ?_) (by simp only [List.getElem?_toArray, List.getElem?_cons_zero, List.getElem?_cons_succ]; rfl) (by kernel_rfl) (by kernel_rfl) (by kernel_rfl) (fun _ _ _ h => h) (Or.inl ⟨by rfl, ?_⟩) (by assumption) ?_
          rotate_left
          · intro w hSw; (try dsimp only at hSw); go_simp; (try with_reducible rfl)
          try simp only [Act.put, List.setIfInBounds_toArray, List.set_cons_zero, List.set_cons_succ]
          refine wpAnyH_take (i := 5) (v := ?_) (by simp only [List.getElem?_toArray, List.getElem?_cons_zero, List.getElem?_cons_succ]; rfl) (by kernel_rfl) (by kernel_rfl) (by kernel_rfl) (fun _ _ _ h => h) (Or.inl ⟨by rfl, ?_⟩) (by assumption) ?_
          rotate_left
          · intro w hSw; (try dsimp only at hSw); go_simp; (try with_reducible rfl)
          try simp only [Act.put, List.setIfInBounds_toArray, List.set_cons_zero, List.set_cons_succ]
          refine wpAnyH_ready (rs := [6]) (by kernel_rfl) (by simp) ?_
          refine AllReadyH.cons (by simp only [List.getElem?_toArray, List.getElem?_cons_zero, List.getElem?_cons_succ]; rfl) (fun K hK => ?_) AllReadyH.nil
          go_simp
          go_at_call 61
          have hd := hall_Do (paint g4 wr 40) 20 hg G x w4.drew hxm G4.out
          rw [HZ.out] at hd
          (with_reducible refine hd.mono ?_)
          clear hd
          rintro e w5 ⟨a5, c5, g5, rfl, hH5, hE5, hs5, -⟩
          obtain ⟨g6, hX6, hZ6, hB6⟩ := two_step (c := 40) HB.out E4.out H4.out hE5 hH5 (by omega) (by omega) (by omega)
          have T5 := hid (told_stays T4.out N3.out hE5 (by omega))
          have S5 := hid hs5
          have hC5 := CC4.out.frame (hE5.mix (Or.inr (by omega))) (by omega)
          have hV5 := VV4.out.frame (hE5.mix (Or.inr (by omega))) (by omega)
          have L5 := hid (L4.out.frame hE5 (by omega))
          have B5 := hid hB6
          have X5 := hid hX6
          have Z5 := hid hZ6
          have CC5 := hid hC5
          have VV5 := hid hV5
          have r0 := hC5.top.1
          have r1 := hV5.cells.1
          have hS5 : (w5.cell? ⟨b6, 0, none⟩ = some (.int .i64 yc) ∧ w5.cell? ⟨b6, 1, none⟩ = some (.int .i64 yn) ∧ w5.cell? ⟨b6, 2, none⟩ = some (.bool yv.there) ∧ w5.cell? ⟨b6, 3, none⟩ = some (.string yv.bytes) ∧ w5.cell? ⟨b6, 4, none⟩ = some (.slice a3 yl.length c3) ∧ w5.cell? ⟨b1, o1 + k * 8, none⟩ = some (.int .i64 x.kind) ∧ w5.cell? ⟨b1, o1 + k * 8 + 1, none⟩ = some (.int .i64 x.s) ∧ w5.cell? ⟨b1, o1 + k * 8 + 2, none⟩ = some (.int .i64 x.mode) ∧ w5.cell? ⟨b1, o1 + k * 8 + 3, none⟩ = some (.int .i64 x.at_) ∧ w5.cell? ⟨b1, o1 + k * 8 + 4, none⟩ = some (.int .i64 x.key) ∧ w5.cell? ⟨b1, o1 + k * 8 + 5, none⟩ = some (.int .i64 x.to_) ∧ w5.cell? ⟨b1, o1 + k * 8 + 6, none⟩ = some (.int .i64 x.keep) ∧ w5.cell? ⟨b1, o1 + k * 8 + 7, none⟩ = some (.string x.bytes) ∧ w5.cell? ⟨h, 0, none⟩ = some (.pointer (some ⟨vp, 0, none⟩)) ∧ w5.cell? ⟨vp, 0, none⟩ = some (.pointer (some ⟨t, 0, none⟩))) := ⟨L5.out.1.cell 0, L5.out.1.cell 1, L5.out.1.cell 2, L5.out.1.cell 3, L5.out.1.cell 4, (B5.out.cell (p := ⟨b1, _, none⟩) hbb).trans PP.out.1, (B5.out.cell (p := ⟨b1, _, none⟩) hbb).trans PP.out.2.1, (B5.out.cell (p := ⟨b1, _, none⟩) hbb).trans PP.out.2.2.1, (B5.out.cell (p := ⟨b1, _, none⟩) hbb).trans PP.out.2.2.2.1, (B5.out.cell (p := ⟨b1, _, none⟩) hbb).trans PP.out.2.2.2.2.1, (B5.out.cell (p := ⟨b1, _, none⟩) hbb).trans PP.out.2.2.2.2.2.1, (B5.out.cell (p := ⟨b1, _, none⟩) hbb).trans PP.out.2.2.2.2.2.2.1, (B5.out.cell (p := ⟨b1, _, none⟩) hbb).trans PP.out.2.2.2.2.2.2.2, r0, r1⟩
          clear hH5 hE5 hs5 hX6 hZ6 hB6 hC5 hV5 r0 r1
          try go_wp2_with fail
          refine hK.out _ _ ?_ (fun hH1 => ?_)
          · (try dsimp only); (first | exact HS4.out | assumption)
          clear hK K hH0
          try simp only [Act.put, List.setIfInBounds_toArray, List.set_cons_zero, List.set_cons_succ]
          refine wpAnyH_ready (rs := [7]) (by kernel_rfl) (by simp) ?_
          refine AllReadyH.cons (by simp only [List.getElem?_toArray, List.getElem?_cons_zero, List.getElem?_cons_succ]; rfl) (fun K hK => ?_) AllReadyH.nil
          go_simp
          go_at_call 66
          (with_reducible refine (ref_SameEvent yc yn yv yl a3 a5 c3 c5 _ (Nat.le_trans LEN.out (by omega)) T5.out S5.out).mono ?_)
          rintro e w6 ⟨rfl, hb6⟩
          have L6 := hid (L5.out.below hb6)
          have B6 := hid (B5.out.below' hb6)
          have X6 := hid (X5.out.below hb6)
          have Z6 := hid (Z5.out.below hb6)
          have hC6 := CC5.out.below hb6
          have hV6 := VV5.out.below hb6
          obtain ⟨vp2, ds2, hZC⟩ := Z6.out
          obtain ⟨q0, t2, tb2, hZV⟩ := hZC.top
          have q1 := hZV.cells.1
          have TX6 := hid hV6.2.2.1
          have TZ6 := hid hZV.2.2.1
          have r0 := hC6.top.1
          have r1 := hV6.cells.1
          have HLA := hid RZ.out.suf.1.symm
          have hS6 : (w6.cell? ⟨b6, 0, none⟩ = some (.int .i64 yc) ∧ w6.cell? ⟨b6, 1, none⟩ = some (.int .i64 yn) ∧ w6.cell? ⟨b6, 2, none⟩ = some (.bool yv.there) ∧ w6.cell? ⟨b6, 3, none⟩ = some (.string yv.bytes) ∧ w6.cell? ⟨b6, 4, none⟩ = some (.slice a3 yl.length c3) ∧ w6.cell? ⟨b1, o1 + k * 8, none⟩ = some (.int .i64 x.kind) ∧ w6.cell? ⟨b1, o1 + k * 8 + 1, none⟩ = some (.int .i64 x.s) ∧ w6.cell? ⟨b1, o1 + k * 8 + 2, none⟩ = some (.int .i64 x.mode) ∧ w6.cell? ⟨b1, o1 + k * 8 + 3, none⟩ = some (.int .i64 x.at_) ∧ w6.cell? ⟨b1, o1 + k * 8 + 4, none⟩ = some (.int .i64 x.key) ∧ w6.cell? ⟨b1, o1 + k * 8 + 5, none⟩ = some (.int .i64 x.to_) ∧ w6.cell? ⟨b1, o1 + k * 8 + 6, none⟩ = some (.int .i64 x.keep) ∧ w6.cell? ⟨b1, o1 + k * 8 + 7, none⟩ = some (.string x.bytes) ∧ w6.cell? ⟨h, 0, none⟩ = some (.pointer (some ⟨vp, 0, none⟩)) ∧ w6.cell? ⟨vp, 0, none⟩ = some (.pointer (some ⟨t, 0, none⟩))) := ⟨L6.out.1.cell 0, L6.out.1.cell 1, L6.out.1.cell 2, L6.out.1.cell 3, L6.out.1.cell 4, (B6.out.cell (p := ⟨b1, _, none⟩) hbb).trans PP.out.1, (B6.out.cell (p := ⟨b1, _, none⟩) hbb).trans PP.out.2.1, (B6.out.cell (p := ⟨b1, _, none⟩) hbb).trans PP.out.2.2.1, (B6.out.cell (p := ⟨b1, _, none⟩) hbb).trans PP.out.2.2.2.1, (B6.out.cell (p := ⟨b1, _, none⟩) hbb).trans PP.out.2.2.2.2.1, (B6.out.cell (p := ⟨b1, _, none⟩) hbb).trans PP.out.2.2.2.2.2.1, (B6.out.cell (p := ⟨b1, _, none⟩) hbb).trans PP.out.2.2.2.2.2.2.1, (B6.out.cell (p := ⟨b1, _, none⟩) hbb).trans PP.out.2.2.2.2.2.2.2, r0, r1⟩
          clear hb6 hC6 hV6 hZC hZV r0 r1
          try go_wp2_with fail
          refine hK.out _ _ ?_ (fun hH2 => ?_)
          · (try dsimp only); (first | exact HS4.out | assumption)
          clear hK K hH1
          try simp only [Act.put, List.setIfInBounds_toArray, List.set_cons_zero, List.set_cons_succ]
          refine wpAnyH_take (i := 8) (v := ?_) (by simp only [List.getElem?_toArray, List.getElem?_cons_zero, List.getElem?_cons_succ]; rfl) (by kernel_rfl) (by kernel_rfl) (by kernel_rfl) (fun _ _ _ h => h) (Or.inl ⟨by rfl, ?_⟩) (by assumption) ?_
          rotate_left
          · intro w hSw; (try dsimp only at hSw); go_simp; (try with_reducible rfl)
          try simp only [Act.put, List.setIfInBounds_toArray, List.set_cons_zero, List.set_cons_succ]
          refine wpAnyH_take (i := 9) (v := ?_) (by simp only [List.getElem?_toArray, List.getElem?_cons_zero, List.getElem?_cons_succ]; rfl) (by kernel_rfl) (by kernel_rfl) (by kernel_rfl) (fun _ _ _ h => h) (Or.inl ⟨by rfl, ?_⟩) (by assumption) ?_
          rotate_left
          · intro w hSw; (try dsimp only at hSw); go_simp; (try with_reducible rfl)
          try simp only [Act.put, List.setIfInBounds_toArray, List.set_cons_zero, List.set_cons_succ]
          refine wpAnyH_take (i := 10) (v := ?_) (by simp only [List.getElem?_toArray, List.getElem?_cons_zero, List.getElem?_cons_succ]; rfl) (by kernel_rfl) (by kernel_rfl) (by kernel_rfl) (fun _ _ _ h => h) (Or.inl ⟨by rfl, ?_⟩) (by assumption) ?_
          rotate_left
          · intro w hSw; (try dsimp only at hSw); go_simp; (try with_reducible rfl)
          try simp only [Act.put, List.setIfInBounds_toArray, List.set_cons_zero, List.set_cons_succ]
          refine wpAnyH_take (i := 11) (v := ?_) (by simp only [List.getElem?_toArray, List.getElem?_cons_zero, List.getElem?_cons_succ]; rfl) (by kernel_rfl) (by kernel_rfl) (by kernel_rfl) (fun _ _ _ h => h) (Or.inl ⟨by rfl, ?_⟩) (by assumption) ?_
          rotate_left
          · intro w hSw; (try dsimp only at hSw); go_simp; (try with_reducible rfl)
          try simp only [Act.put, List.setIfInBounds_toArray, List.set_cons_zero, List.set_cons_succ]
          refine wpAnyH_take (i := 12) (v := ?_) (by simp only [List.getElem?_toArray, List.getElem?_cons_zero, List.getElem?_cons_succ]; rfl) (by kernel_rfl) (by kernel_rfl) (by kernel_rfl) (fun _ _ _ h => h) (Or.inl ⟨by rfl, ?_⟩) (by assumption) ?_
          rotate_left
          · intro w hSw; (try dsimp only at hSw); go_simp; (try with_reducible rfl)
          try simp only [Act.put, List.setIfInBounds_toArray, List.set_cons_zero, List.set_cons_succ]
          refine wpAnyH_take (i := 13) (v := ?_) (by simp only [List.getElem?_toArray, List.getElem?_cons_zero, List.getElem?_cons_succ]; rfl) (by kernel_rfl) (by kernel_rfl) (by kernel_rfl) (fun _ _ _ h => h) (Or.inl ⟨by rfl, ?_⟩) (by assumption) ?_
          rotate_left
          · intro w hSw; (try dsimp only at hSw); go_simp; (try with_reducible rfl)
          try simp only [Act.put, List.setIfInBounds_toArray, List.set_cons_zero, List.set_cons_succ]
          refine wpAnyH_take (i := 14) (v := ?_) (by simp only [List.getElem?_toArray, List.getElem?_cons_zero, List.getElem?_cons_succ]; rfl) (by kernel_rfl) (by kernel_rfl) (by kernel_rfl) (fun _ _ _ h => h) (Or.inl ⟨by rfl, ?_⟩) (by assumption) ?_
          rotate_left
          · intro w hSw; (try dsimp only at hSw); go_simp; (try with_reducible rfl)
          try simp only [Act.put, List.setIfInBounds_toArray, List.set_cons_zero, List.set_cons_succ]
          refine wpAnyH_take (i := 15) (v := ?_) (by simp only [List.getElem?_toArray, List.getElem?_cons_zero, List.getElem?_cons_succ]; rfl) (by kernel_rfl) (by kernel_rfl) (by kernel_rfl) (fun _ _ _ h => h) (Or.inl ⟨by rfl, ?_⟩) (by assumption) ?_
          rotate_left
          · intro w hSw; (try dsimp only at hSw); go_simp; (try with_reducible rfl)
          try simp only [Act.put, List.setIfInBounds_toArray, List.set_cons_zero, List.set_cons_succ]
          refine wpAnyH_take (i := 16) (v := ?_) (by simp only [List.getElem?_toArray, List.getElem?_cons_zero, List.getElem?_cons_succ]; rfl) (by kernel_rfl) (by kernel_rfl) (by kernel_rfl) (fun _ _ _ h => h) (Or.inl ⟨by rfl, ?_⟩) (by assumption) ?_
          rotate_left
          · intro w hSw; (try dsimp only at hSw); go_simp; (try with_reducible rfl)
          try simp only [Act.put, List.setIfInBounds_toArray, List.set_cons_zero, List.set_cons_succ]
          refine wpAnyH_take (i := 18) (v := ?_) (by simp only [List.getElem?_toArray, List.getElem?_cons_zero, List.getElem?_cons_succ]; rfl) (by kernel_rfl) (by kernel_rfl) (by kernel_rfl) (fun _ _ _ h => h) (Or.inl ⟨by rfl, ?_⟩) (by assumption) ?_
          rotate_left
          · intro w hSw; (try dsimp only at hSw); go_simp; (try with_reducible rfl)
          try simp only [Act.put, List.setIfInBounds_toArray, List.set_cons_zero, List.set_cons_succ]
          refine wpAnyH_take (i := 19) (v := ?_) (by simp only [List.getElem?_toArray, List.getElem?_cons_zero, List.getElem?_cons_succ]; rfl) (by kernel_rfl) (by kernel_rfl) (by kernel_rfl) (fun _ _ _ h => h) (Or.inl ⟨by rfl, ?_⟩) (by assumption) ?_
          rotate_left
          · intro w hSw; (try dsimp only at hSw); go_simp; (try with_reducible rfl)
          try simp only [Act.put, List.setIfInBounds_toArray, List.set_cons_zero, List.set_cons_succ]
          refine wpAnyH_take (i := 20) (v := ?_) (by simp only [List.getElem?_toArray, List.getElem?_cons_zero, List.getElem?_cons_succ]; rfl) (by kernel_rfl) (by kernel_rfl) (by kernel_rfl) (fun _ _ _ h => h) (Or.inl ⟨by rfl, ?_⟩) (by assumption) ?_
          rotate_left
          · intro w hSw; (try dsimp only at hSw); go_simp; (try with_reducible rfl)
          try simp only [Act.put, List.setIfInBounds_toArray, List.set_cons_zero, List.set_cons_succ]
          refine wpAnyH_ready (rs := [17, 21]) (by kernel_rfl) (by simp) ?_
          refine AllReadyH.cons (by simp only [List.getElem?_toArray, List.getElem?_cons_zero, List.getElem?_cons_succ]; rfl) (fun K hK => ?_) ?_
          · skip
            go_simp
            go_at_call 45
            (with_reducible refine (table_Last _ _ t Y2.v.tab _ TX6.out).mono ?_)
            rintro e w' ⟨rfl, rfl⟩
            try rw [HLA.out]
            try go_wp2_with fail
            refine hK.out _ _ ?_ (fun hH3 => ?_)
            · (try dsimp only); (first | exact HS4.out | assumption)
            clear hK K hH2
            try simp only [Act.put, List.setIfInBounds_toArray, List.set_cons_zero, List.set_cons_succ]
            refine wpAnyH_ready (rs := [21]) (by kernel_rfl) (by simp) ?_
            refine AllReadyH.cons (by simp only [List.getElem?_toArray, List.getElem?_cons_zero, List.getElem?_cons_succ]; rfl) (fun K hK => ?_) AllReadyH.nil
            go_simp
            refine hK.out _ _ ?_ (fun hH4 => ?_)
            · (try dsimp only); (first | exact HS4.out | assumption)
            clear hK K hH3
            try simp only [Act.put, List.setIfInBounds_toArray, List.set_cons_zero, List.set_cons_succ]
            refine wpAnyH_take (i := 22) (v := ?_) (by simp only [List.getElem?_toArray, List.getElem?_cons_zero, List.getElem?_cons_succ]; rfl) (by kernel_rfl) (by kernel_rfl) (by kernel_rfl) (fun _ _ _ h => h) (Or.inl ⟨by rfl, ?_⟩) (by assumption) ?_
            rotate_left
            · intro w hSw; (try dsimp only at hSw); go_simp; (try with_reducible rfl)
            try simp only [Act.put, List.setIfInBounds_toArray, List.set_cons_zero, List.set_cons_succ]
            refine wpAnyH_take (i := 23) (v := ?_) (by simp only [List.getElem?_toArray, List.getElem?_cons_zero, List.getElem?_cons_succ]; rfl) (by kernel_rfl) (by kernel_rfl) (by kernel_rfl) (fun _ _ _ h => h) (Or.inl ⟨by rfl, ?_⟩) (by assumption) ?_
            rotate_left
            · intro w hSw; (try dsimp only at hSw); go_simp; (try with_reducible rfl)
            try simp only [Act.put, List.setIfInBounds_toArray, List.set_cons_zero, List.set_cons_succ]
            refine wpAnyH_ready (rs := [24]) (by kernel_rfl) (by simp) ?_
            refine AllReadyH.cons (by simp only [List.getElem?_toArray, List.getElem?_cons_zero, List.getElem?_cons_succ]; rfl) (fun K hK => ?_) AllReadyH.nil
            go_simp
            refine hK.out _ _ ?_ (fun hH5 => ?_)
            · (try dsimp only); (first | exact HS4.out | assumption)
            clear hK K hH4
            try simp only [Act.put, List.setIfInBounds_toArray, List.set_cons_zero, List.set_cons_succ]
            refine wpAnyH_ready (rs := [25]) (by kernel_rfl) (by simp) ?_
            refine AllReadyH.cons (by simp only [List.getElem?_toArray, List.getElem?_cons_zero, List.getElem?_cons_succ]; rfl) (fun K hK => ?_) AllReadyH.nil
            go_simp
            go_at_call 45
            (with_reducible refine (table_Last _ _ t2 Z2.v.tab _ TZ6.out).mono ?_)
            rintro e w' ⟨rfl, rfl⟩
            try rw [HLA.out]
            try go_wp2_with fail
            refine hK.out _ _ ?_ (fun hH6 => ?_)
            · (try dsimp only); (first | exact HS4.out | assumption)
            clear hK K hH5
            try simp only [Act.put, List.setIfInBounds_toArray, List.set_cons_zero, List.set_cons_succ]
            refine wpAnyH_take (i := 26) (v := ?_) (by simp only [List.getElem?_toArray, List.getElem?_cons_zero, List.getElem?_cons_succ]; rfl) (by kernel_rfl) (by kernel_rfl) (by kernel_rfl) (fun _ _ _ h => h) (Or.inl ⟨by rfl, ?_⟩) (by assumption) ?_
            rotate_left
            · intro w hSw; (try dsimp only at hSw); go_simp; (try with_reducible rfl)
            try simp only [Act.put, List.setIfInBounds_toArray, List.set_cons_zero, List.set_cons_succ]
            refine wpAnyH_take (i := 27) (v := ?_) (by simp only [List.getElem?_toArray, List.getElem?_cons_zero, List.getElem?_cons_succ]; rfl) (by kernel_rfl) (by kernel_rfl) (by kernel_rfl) (fun _ _ _ h => h) (Or.inl ⟨by rfl, ?_⟩) (by assumption) ?_
            rotate_left
            · intro w hSw; (try dsimp only at hSw); go_simp; (try with_reducible rfl)
            try simp only [Act.put, List.setIfInBounds_toArray, List.set_cons_zero, List.set_cons_succ]
            refine wpAnyH_done (by kernel_rfl) ?_ _
            refine NoPanic.normal ?_
            go_wp2
            go_roundw
            case rel => exact ⟨k + 1, g6, Y2, Z2, by omega, by go_num, X6, Z6, B6, RZ⟩
            case measure => simp [intOf]; omega
          refine AllReadyH.cons (by simp only [List.getElem?_toArray, List.getElem?_cons_zero, List.getElem?_cons_succ]; rfl) (fun K hK => ?_) AllReadyH.nil
          go_simp
          refine hK.out _ _ ?_ (fun hH7 => ?_)
          · (try dsimp only); (first | exact HS4.out | assumption)
          clear hK K hH2
          try simp only [Act.put, List.setIfInBounds_toArray, List.set_cons_zero, List.set_cons_succ]
          refine wpAnyH_take (i := 22) (v := ?_) (by simp only [List.getElem?_toArray, List.getElem?_cons_zero, List.getElem?_cons_succ]; rfl) (by kernel_rfl) (by kernel_rfl) (by kernel_rfl) (fun _ _ _ h => h) (Or.inl ⟨by rfl, ?_⟩) (by assumption) ?_
          rotate_left
          · intro w hSw; (try dsimp only at hSw); go_simp; (try with_reducible rfl)
          try simp only [Act.put, List.setIfInBounds_toArray, List.set_cons_zero, List.set_cons_succ]
          refine wpAnyH_take (i := 23) (v := ?_) (by simp only [List.getElem?_toArray, List.getElem?_cons_zero, List.getElem?_cons_succ]; rfl) (by kernel_rfl) (by kernel_rfl) (by kernel_rfl) (fun _ _ _ h => h) (Or.inl ⟨by rfl, ?_⟩) (by assumption) ?_
          rotate_left
          · intro w hSw; (try dsimp only at hSw); go_simp; (try with_reducible rfl)
          try simp only [Act.put, List.setIfInBounds_toArray, List.set_cons_zero, List.set_cons_succ]
          refine wpAnyH_ready (rs := [17, 24]) (by kernel_rfl) (by simp) ?_
          refine AllReadyH.cons (by simp only [List.getElem?_toArray, List.getElem?_cons_zero, List.getElem?_cons_succ]; rfl) (fun K hK => ?_) ?_
          · skip
            go_simp
            go_at_call 45
            (with_reducible refine (table_Last _ _ t Y2.v.tab _ TX6.out).mono ?_)
            rintro e w' ⟨rfl, rfl⟩
            try rw [HLA.out]
            try go_wp2_with fail
            refine hK.out _ _ ?_ (fun hH8 => ?_)
            · (try dsimp only); (first | exact HS4.out | assumption)
            clear hK K hH7
            try simp only [Act.put, List.setIfInBounds_toArray, List.set_cons_zero, List.set_cons_succ]
            refine wpAnyH_ready (rs := [24]) (by kernel_rfl) (by simp) ?_
            refine AllReadyH.cons (by simp only [List.getElem?_toArray, List.getElem?_cons_zero, List.getElem?_cons_succ]; rfl) (fun K hK => ?_) AllReadyH.nil
            go_simp
            refine hK.out _ _ ?_ (fun hH9 => ?_)
            · (try dsimp only); (first | exact HS4.out | assumption)
            clear hK K hH8
            try simp only [Act.put, List.setIfInBounds_toArray, List.set_cons_zero, List.set_cons_succ]
            refine wpAnyH_ready (rs := [25]) (by kernel_rfl) (by simp) ?_
            refine AllReadyH.cons (by simp only [List.getElem?_toArray, List.getElem?_cons_zero, List.getElem?_cons_succ]; rfl) (fun K hK => ?_) AllReadyH.nil
            go_simp
            go_at_call 45
            (with_reducible refine (table_Last _ _ t2 Z2.v.tab _ TZ6.out).mono ?_)
            rintro e w' ⟨rfl, rfl⟩
            try rw [HLA.out]
            try go_wp2_with fail
            refine hK.out _ _ ?_ (fun hH10 => ?_)
            · (try dsimp only); (first | exact HS4.out | assumption)
            clear hK K hH9
            try simp only [Act.put, List.setIfInBounds_toArray, List.set_cons_zero, List.set_cons_succ]
            refine wpAnyH_take (i := 26) (v := ?_) (by simp only [List.getElem?_toArray, List.getElem?_cons_zero, List.getElem?_cons_succ]; rfl) (by kernel_rfl) (by kernel_rfl) (by kernel_rfl) (fun _ _ _ h => h) (Or.inl ⟨by rfl, ?_⟩) (by assumption) ?_
            rotate_left
            · intro w hSw; (try dsimp only at hSw); go_simp; (try with_reducible rfl)
            try simp only [Act.put, List.setIfInBounds_toArray, List.set_cons_zero, List.set_cons_succ]
            refine wpAnyH_take (i := 27) (v := ?_) (by simp only [List.getElem?_toArray, List.getElem?_cons_zero, List.getElem?_cons_succ]; rfl) (by kernel_rfl) (by kernel_rfl) (by kernel_rfl) (fun _ _ _ h => h) (Or.inl ⟨by rfl, ?_⟩) (by assumption) ?_
            rotate_left
            · intro w hSw; (try dsimp only at hSw); go_simp; (try with_reducible rfl)
            try simp only [Act.put, List.setIfInBounds_toArray, List.set_cons_zero, List.set_cons_succ]
            refine wpAnyH_done (by kernel_rfl) ?_ _
            refine NoPanic.normal ?_
            go_wp2
            go_roundw
            case rel => exact ⟨k + 1, g6, Y2, Z2, by omega, by go_num, X6, Z6, B6, RZ⟩
            case measure => simp [intOf]; omega
          refine AllReadyH.cons (by simp only [List.getElem?_toArray, List.getElem?_cons_zero, List.getElem?_cons_succ]; rfl) (fun K hK => ?_) AllReadyH.nil
          go_simp
          refine hK.out _ _ ?_ (fun hH11 => ?_)
          · (try dsimp only); (first | exact HS4.out | assumption)
          clear hK K hH7
          try simp only [Act.put, List.setIfInBounds_toArray, List.set_cons_zero, List.set_cons_succ]
          refine wpAnyH_ready (rs := [17]) (by kernel_rfl) (by simp) ?_
          refine AllReadyH.cons (by simp only [List.getElem?_toArray, List.getElem?_cons_zero, List.getElem?_cons_succ]; rfl) (fun K hK => ?_) AllReadyH.nil
          go_simp
          go_at_call 45
          (with_reducible refine (table_Last _ _ t Y2.v.tab _ TX6.out).mono ?_)
          rintro e w' ⟨rfl, rfl⟩
          try rw [HLA.out]
          try go_wp2_with fail
          refine hK.out _ _ ?_ (fun hH12 => ?_)
          · (try dsimp only); (first | exact HS4.out | assumption)
          clear hK K hH11
          try simp only [Act.put, List.setIfInBounds_toArray, List.set_cons_zero, List.set_cons_succ]
          refine wpAnyH_ready (rs := [25]) (by kernel_rfl) (by simp) ?_
          refine AllReadyH.cons (by simp only [List.getElem?_toArray, List.getElem?_cons_zero, List.getElem?_cons_succ]; rfl) (fun K hK => ?_) AllReadyH.nil
          go_simp
          go_at_call 45
          (with_reducible refine (table_Last _ _ t2 Z2.v.tab _ TZ6.out).mono ?_)
          rintro e w' ⟨rfl, rfl⟩
          try rw [HLA.out]
          try go_wp2_with fail
          refine hK.out _ _ ?_ (fun hH13 => ?_)
          · (try dsimp only); (first | exact HS4.out | assumption)
          clear hK K hH12
          try simp only [Act.put, List.setIfInBounds_toArray, List.set_cons_zero, List.set_cons_succ]
          refine wpAnyH_take (i := 26) (v := ?_) (by simp only [List.getElem?_toArray, List.getElem?_cons_zero, List.getElem?_cons_succ]; rfl) (by kernel_rfl) (by kernel_rfl) (by kernel_rfl) (fun _ _ _ h => h) (Or.inl ⟨by rfl, ?_⟩) (by assumption) ?_
          rotate_left
          · intro w hSw; (try dsimp only at hSw); go_simp; (try with_reducible rfl)
          try simp only [Act.put, List.setIfInBounds_toArray, List.set_cons_zero, List.set_cons_succ]
          refine wpAnyH_take (i := 27) (v := ?_) (by simp only [List.getElem?_toArray, List.getElem?_cons_zero, List.getElem?_cons_succ]; rfl) (by kernel_rfl) (by kernel_rfl) (by kernel_rfl) (fun _ _ _ h => h) (Or.inl ⟨by rfl, ?_⟩) (by assumption) ?_
          rotate_left
          · intro w hSw; (try dsimp only at hSw); go_simp; (try with_reducible rfl)
          try simp only [Act.put, List.setIfInBounds_toArray, List.set_cons_zero, List.set_cons_succ]
          refine wpAnyH_done (by kernel_rfl) ?_ _
          refine NoPanic.normal ?_
          go_wp2
          go_roundw
          case rel => exact ⟨k + 1, g6, Y2, Z2, by omega, by go_num, X6, Z6, B6, RZ⟩
          case measure => simp [intOf]; omega
          -- END 12
    · have hge : (l.length : Int) ≤ (k : Int) := by omega
      clear SA
      try go_upto_region 14 with (fail)
      obtain ⟨vp, ds, C⟩ := HH.out
      obtain ⟨vp2, ds2, C2⟩ := HG.out
      have hlen : H.v.log.bytes.length ≤ 3000 := by
        obtain ⟨t, b, hV⟩ := C.vault
        exact hV.1.1.2.2.1
      have VL := hid (fun W (hb : Below wr.heap.size wr W) => vault_Log g (1 + 1) vp H.v W ((C.vault).below hb))
      have VL2 := hid (fun W (hb : Below wr.heap.size wr W) => vault_Log g (20 + 1) vp2 G.v W ((C2.vault).below hb))
      rw [HR.out.log] at VL2
      have KS := hid (fun W (hb : Below wr.heap.size wr W) => (⟨hb, (C.below hb).top.1, (C2.below hb).top.1⟩ : Below wr.heap.size wr W ∧ W.cell? ⟨h, 0, none⟩ = some (.pointer (some ⟨vp, 0, none⟩)) ∧ W.cell? ⟨hg, 0, none⟩ = some (.pointer (some ⟨vp2, 0, none⟩))))
      clear C C2
      generalize H.v.log.bytes = byt at *
      -- REGION 14
      refine wp_region_noPanic ?_
      refine wp_region_held_drew (S := (fun W' : World => Below wr.heap.size wr W' ∧ W'.cell? ⟨h, 0, none⟩ = some (.pointer (some ⟨vp, 0, none⟩)) ∧ W'.cell? ⟨hg, 0, none⟩ = some (.pointer (some ⟨vp2, 0, none⟩)))) (by kernel_rfl) ?_ (fun hH0 => ?_)
      · (try dsimp only); (first | assumption | exact KS.out _ (Below.refl wr.heap.size wr).drew)
      refine wpAnyH_take (i := 0) (v := ?_) (by simp only [List.getElem?_toArray, List.getElem?_cons_zero]; rfl) (by kernel_rfl) (by kernel_rfl) (by kernel_rfl) (fun _ _ _ h => h) (Or.inl ⟨by rfl, ?_⟩) (by assumption) ?_
      rotate_left
      · intro w hSw; (try dsimp only at hSw); go_simp; (try with_reducible rfl)
      try simp only [Act.put, List.setIfInBounds_toArray, List.set_cons_zero, List.set_cons_succ]
      refine wpAnyH_take (i := 1) (v := ?_) (by simp only [List.getElem?_toArray, List.getElem?_cons_zero, List.getElem?_cons_succ]; rfl) (by kernel_rfl) (by kernel_rfl) (by kernel_rfl) (fun _ _ _ h => h) (Or.inl ⟨by rfl, ?_⟩) (by assumption) ?_
      rotate_left
      · intro w hSw; (try dsimp only at hSw); go_simp; (try with_reducible rfl)
      try simp only [Act.put, List.setIfInBounds_toArray, List.set_cons_zero, List.set_cons_succ]
      refine wpAnyH_take (i := 2) (v := ?_) (by simp only [List.getElem?_toArray, List.getElem?_cons_zero, List.getElem?_cons_succ]; rfl) (by kernel_rfl) (by kernel_rfl) (by kernel_rfl) (fun _ _ _ h => h) (Or.inl ⟨by rfl, ?_⟩) (by assumption) ?_
      rotate_left
      · intro w hSw; (try dsimp only at hSw); go_simp; (try with_reducible rfl)
      try simp only [Act.put, List.setIfInBounds_toArray, List.set_cons_zero, List.set_cons_succ]
      refine wpAnyH_take (i := 3) (v := ?_) (by simp only [List.getElem?_toArray, List.getElem?_cons_zero, List.getElem?_cons_succ]; rfl) (by kernel_rfl) (by kernel_rfl) (by kernel_rfl) (fun _ _ _ h => h) (Or.inl ⟨by rfl, ?_⟩) (by assumption) ?_
      rotate_left
      · intro w hSw; (try dsimp only at hSw); go_simp; (try with_reducible rfl)
      try simp only [Act.put, List.setIfInBounds_toArray, List.set_cons_zero, List.set_cons_succ]
      refine wpAnyH_take (i := 6) (v := ?_) (by simp only [List.getElem?_toArray, List.getElem?_cons_zero, List.getElem?_cons_succ]; rfl) (by kernel_rfl) (by kernel_rfl) (by kernel_rfl) (fun _ _ _ h => h) (Or.inl ⟨by rfl, ?_⟩) (by assumption) ?_
      rotate_left
      · intro w hSw; (try dsimp only at hSw); go_simp; (try with_reducible rfl)
      try simp only [Act.put, List.setIfInBounds_toArray, List.set_cons_zero, List.set_cons_succ]
      refine wpAnyH_take (i := 7) (v := ?_) (by simp only [List.getElem?_toArray, List.getElem?_cons_zero, List.getElem?_cons_succ]; rfl) (by kernel_rfl) (by kernel_rfl) (by kernel_rfl) (fun _ _ _ h => h) (Or.inl ⟨by rfl, ?_⟩) (by assumption) ?_
      rotate_left
      · intro w hSw; (try dsimp only at hSw); go_simp; (try with_reducible rfl)
      try simp only [Act.put, List.setIfInBounds_toArray, List.set_cons_zero, List.set_cons_succ]
      refine wpAnyH_take (i := 8) (v := ?_) (by simp only [List.getElem?_toArray, List.getElem?_cons_zero, List.getElem?_cons_succ]; rfl) (by kernel_rfl) (by kernel_rfl) (by kernel_rfl) (fun _ _ _ h => h) (Or.inl ⟨by rfl, ?_⟩) (by assumption) ?_
      rotate_left
      · intro w hSw; (try dsimp only at hSw); go_simp; (try with_reducible rfl)
      try simp only [Act.put, List.setIfInBounds_toArray, List.set_cons_zero, List.set_cons_succ]
      refine wpAnyH_take (i := 9) (v := ?_) (by simp only [List.getElem?_toArray, List.getElem?_cons_zero, List.getElem?_cons_succ]; rfl) (by kernel_rfl) (by kernel_rfl) (by kernel_rfl) (fun _ _ _ h => h) (Or.inl ⟨by rfl, ?_⟩) (by assumption) ?_
      rotate_left
      · intro w hSw; (try dsimp only at hSw); go_simp; (try with_reducible rfl)
      try simp only [Act.put, List.setIfInBounds_toArray, List.set_cons_zero, List.set_cons_succ]
      refine wpAnyH_ready (rs := [4]) (by kernel_rfl) (by simp) ?_
      refine AllReadyH.cons (by simp only [List.getElem?_toArray, List.getElem?_cons_zero, List.getElem?_cons_succ]; rfl) (fun K hK => ?_) AllReadyH.nil
      go_simp
      go_at_call 47
      have hS := (‹Below wr.heap.size wr _ ∧ _›).1
      (with_reducible refine (VL.out _ hS).mono ?_)
      rintro e w5 ⟨a5, c5, rfl, hx5, hb5, -⟩
      have hc5 := conv_sliceAt w5 a5 c5 _ hx5.2
      have HX5 := hid hx5.2
      try (have hd6 := conv_sliceAt w5 a6 c6 _ (sliceAt_below HX6.out hb5))
      have hS' := KS.out _ (hS.trans (hb5.mono hS.size))
      clear hx5 hb5 hS
      try go_wp2_with fail
      refine hK.out _ _ ?_ (fun hH1 => ?_)
      · (try dsimp only); (first | assumption | exact KS.out _ (Below.refl wr.heap.size wr).drew)
      clear hK K hH0
      try simp only [Act.put, List.setIfInBounds_toArray, List.set_cons_zero, List.set_cons_succ]
      refine wpAnyH_ready (rs := [5, 10]) (by kernel_rfl) (by simp) ?_
      refine AllReadyH.cons (by simp only [List.getElem?_toArray, List.getElem?_cons_zero, List.getElem?_cons_succ]; rfl) (fun K hK => ?_) ?_
      · skip
        go_simp
        refine hK.out _ _ ?_ (fun hH2 => ?_)
        · (try dsimp only); (first | assumption | exact KS.out _ (Below.refl wr.heap.size wr).drew)
        clear hK K hH1
        try simp only [Act.put, List.setIfInBounds_toArray, List.set_cons_zero, List.set_cons_succ]
        refine wpAnyH_ready (rs := [10]) (by kernel_rfl) (by simp) ?_
        refine AllReadyH.cons (by simp only [List.getElem?_toArray, List.getElem?_cons_zero, List.getElem?_cons_succ]; rfl) (fun K hK => ?_) AllReadyH.nil
        go_simp
        go_at_call 47
        have hS := (‹Below wr.heap.size wr _ ∧ _›).1
        (with_reducible refine (VL2.out _ hS).mono ?_)
        rintro e w6 ⟨a6, c6, rfl, hx6, hb6, -⟩
        have hc6 := conv_sliceAt w6 a6 c6 _ hx6.2
        have HX6 := hid hx6.2
        try (have hd5 := conv_sliceAt w6 a5 c5 _ (sliceAt_below HX5.out hb6))
        have hS' := KS.out _ (hS.trans (hb6.mono hS.size))
        clear hx6 hb6 hS
        try go_wp2_with fail
        refine hK.out _ _ ?_ (fun hH3 => ?_)
        · (try dsimp only); (first | assumption | exact KS.out _ (Below.refl wr.heap.size wr).drew)
        clear hK K hH2
        try simp only [Act.put, List.setIfInBounds_toArray, List.set_cons_zero, List.set_cons_succ]
        refine wpAnyH_ready (rs := [11]) (by kernel_rfl) (by simp) ?_
        refine AllReadyH.cons (by simp only [List.getElem?_toArray, List.getElem?_cons_zero, List.getElem?_cons_succ]; rfl) (fun K hK => ?_) AllReadyH.nil
        go_simp
        refine hK.out _ _ ?_ (fun hH4 => ?_)
        · (try dsimp only); (first | assumption | exact KS.out _ (Below.refl wr.heap.size wr).drew)
        clear hK K hH3
        try simp only [Act.put, List.setIfInBounds_toArray, List.set_cons_zero, List.set_cons_succ]
        refine wpAnyH_take (i := 12) (v := ?_) (by simp only [List.getElem?_toArray, List.getElem?_cons_zero, List.getElem?_cons_succ]; rfl) (by kernel_rfl) (by kernel_rfl) (by kernel_rfl) (fun _ _ _ h => h) (Or.inl ⟨by rfl, ?_⟩) (by assumption) ?_
        rotate_left
        · intro w hSw; (try dsimp only at hSw); go_simp; (try with_reducible rfl)
        try simp only [Act.put, List.setIfInBounds_toArray, List.set_cons_zero, List.set_cons_succ]
        refine wpAnyH_take (i := 13) (v := ?_) (by simp only [List.getElem?_toArray, List.getElem?_cons_zero, List.getElem?_cons_succ]; rfl) (by kernel_rfl) (by kernel_rfl) (by kernel_rfl) (fun _ _ _ h => h) (Or.inl ⟨by rfl, ?_⟩) (by assumption) ?_
        rotate_left
        · intro w hSw; (try dsimp only at hSw); go_simp; (try with_reducible rfl)
        try simp only [Act.put, List.setIfInBounds_toArray, List.set_cons_zero, List.set_cons_succ]
        refine wpAnyH_done (by kernel_rfl) ?_ _
        refine NoPanic.normal ?_
        go_wp2
        go_ret
        exact ⟨rfl, B1.out.trans ((HB.out.below' (‹Below wr.heap.size wr _ ∧ _›).1).below.mono B1.out.size)⟩
      refine AllReadyH.cons (by simp only [List.getElem?_toArray, List.getElem?_cons_zero, List.getElem?_cons_succ]; rfl) (fun K hK => ?_) AllReadyH.nil
      go_simp
      go_at_call 47
      have hS := (‹Below wr.heap.size wr _ ∧ _›).1
      (with_reducible refine (VL2.out _ hS).mono ?_)
      rintro e w6 ⟨a6, c6, rfl, hx6, hb6, -⟩
      have hc6 := conv_sliceAt w6 a6 c6 _ hx6.2
      have HX6 := hid hx6.2
      try (have hd5 := conv_sliceAt w6 a5 c5 _ (sliceAt_below HX5.out hb6))
      have hS' := KS.out _ (hS.trans (hb6.mono hS.size))
      clear hx6 hb6 hS
      try go_wp2_with fail
      refine hK.out _ _ ?_ (fun hH5 => ?_)
      · (try dsimp only); (first | assumption | exact KS.out _ (Below.refl wr.heap.size wr).drew)
      clear hK K hH1
      try simp only [Act.put, List.setIfInBounds_toArray, List.set_cons_zero, List.set_cons_succ]
      refine wpAnyH_ready (rs := [5, 11]) (by kernel_rfl) (by simp) ?_
      refine AllReadyH.cons (by simp only [List.getElem?_toArray, List.getElem?_cons_zero, List.getElem?_cons_succ]; rfl) (fun K hK => ?_) ?_
      · skip
        go_simp
        refine hK.out _ _ ?_ (fun hH6 => ?_)
        · (try dsimp only); (first | assumption | exact KS.out _ (Below.refl wr.heap.size wr).drew)
        clear hK K hH5
        try simp only [Act.put, List.setIfInBounds_toArray, List.set_cons_zero, List.set_cons_succ]
        refine wpAnyH_ready (rs := [11]) (by kernel_rfl) (by simp) ?_
        refine AllReadyH.cons (by simp only [List.getElem?_toArray, List.getElem?_cons_zero, List.getElem?_cons_succ]; rfl) (fun K hK => ?_) AllReadyH.nil
        go_simp
        refine hK.out _ _ ?_ (fun hH7 => ?_)
        · (try dsimp only); (first | assumption | exact KS.out _ (Below.refl wr.heap.size wr).drew)
        clear hK K hH6
        try simp only [Act.put, List.setIfInBounds_toArray, List.set_cons_zero, List.set_cons_succ]
        refine wpAnyH_take (i := 12) (v := ?_) (by simp only [List.getElem?_toArray, List.getElem?_cons_zero, List.getElem?_cons_succ]; rfl) (by kernel_rfl) (by kernel_rfl) (by kernel_rfl) (fun _ _ _ h => h) (Or.inl ⟨by rfl, ?_⟩) (by assumption) ?_
        rotate_left
        · intro w hSw; (try dsimp only at hSw); go_simp; (try with_reducible rfl)
        try simp only [Act.put, List.setIfInBounds_toArray, List.set_cons_zero, List.set_cons_succ]
        refine wpAnyH_take (i := 13) (v := ?_) (by simp only [List.getElem?_toArray, List.getElem?_cons_zero, List.getElem?_cons_succ]; rfl) (by kernel_rfl) (by kernel_rfl) (by kernel_rfl) (fun _ _ _ h => h) (Or.inl ⟨by rfl, ?_⟩) (by assumption) ?_
        rotate_left
        · intro w hSw; (try dsimp only at hSw); go_simp; (try with_reducible rfl)
        try simp only [Act.put, List.setIfInBounds_toArray, List.set_cons_zero, List.set_cons_succ]
        refine wpAnyH_done (by kernel_rfl) ?_ _
        refine NoPanic.normal ?_
        go_wp2
        go_ret
        exact ⟨rfl, B1.out.trans ((HB.out.below' (‹Below wr.heap.size wr _ ∧ _›).1).below.mono B1.out.size)⟩
      refine AllReadyH.cons (by simp only [List.getElem?_toArray, List.getElem?_cons_zero, List.getElem?_cons_succ]; rfl) (fun K hK => ?_) AllReadyH.nil
      go_simp
      refine hK.out _ _ ?_ (fun hH8 => ?_)
      · (try dsimp only); (first | assumption | exact KS.out _ (Below.refl wr.heap.size wr).drew)
      clear hK K hH5
      try simp only [Act.put, List.setIfInBounds_toArray, List.set_cons_zero, List.set_cons_succ]
      refine wpAnyH_ready (rs := [5]) (by kernel_rfl) (by simp) ?_
      refine AllReadyH.cons (by simp only [List.getElem?_toArray, List.getElem?_cons_zero, List.getElem?_cons_succ]; rfl) (fun K hK => ?_) AllReadyH.nil
      go_simp
      refine hK.out _ _ ?_ (fun hH9 => ?_)
      · (try dsimp only); (first | assumption | exact KS.out _ (Below.refl wr.heap.size wr).drew)
      clear hK K hH8
      try simp only [Act.put, List.setIfInBounds_toArray, List.set_cons_zero, List.set_cons_succ]
      refine wpAnyH_take (i := 12) (v := ?_) (by simp only [List.getElem?_toArray, List.getElem?_cons_zero, List.getElem?_cons_succ]; rfl) (by kernel_rfl) (by kernel_rfl) (by kernel_rfl) (fun _ _ _ h => h) (Or.inl ⟨by rfl, ?_⟩) (by assumption) ?_
      rotate_left
      · intro w hSw; (try dsimp only at hSw); go_simp; (try with_reducible rfl)
      try simp only [Act.put, List.setIfInBounds_toArray, List.set_cons_zero, List.set_cons_succ]
      refine wpAnyH_take (i := 13) (v := ?_) (by simp only [List.getElem?_toArray, List.getElem?_cons_zero, List.getElem?_cons_succ]; rfl) (by kernel_rfl) (by kernel_rfl) (by kernel_rfl) (fun _ _ _ h => h) (Or.inl ⟨by rfl, ?_⟩) (by assumption) ?_
      rotate_left
      · intro w hSw; (try dsimp only at hSw); go_simp; (try with_reducible rfl)
      try simp only [Act.put, List.setIfInBounds_toArray, List.set_cons_zero, List.set_cons_succ]
      refine wpAnyH_done (by kernel_rfl) ?_ _
      refine NoPanic.normal ?_
      go_wp2
      go_ret
      exact ⟨rfl, B1.out.trans ((HB.out.below' (‹Below wr.heap.size wr _ ∧ _›).1).below.mono B1.out.size)⟩
      -- END 14

end Go.Proofs.Ytoiobhcgpajogac
