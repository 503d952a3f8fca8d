/- The walk of HallDoes. -/
import Derived.Test.YtoiobhcgpajogacLaw07a
import Derived.Test.YtoiobhcgpajogacCourt4
import Derived.Test.YtoiobhcgpajogacReg
namespace Go.Proofs.Ytoiobhcgpajogac
open Go.RowKit

set_option maxHeartbeats 16000000 in
set_option maxRecDepth 100000 in
theorem walk_HallDoes (a : Option Addr) (cap : Nat) (l : List St) (w : World) (hl : l.length ≤ 9223372036854775807) (hA : StepsAt w a l) :
    Calls Try.prog 14 #[.slice a l.length cap] w (TruePost w) := by
  have HA := hid hA
  clear hA
  go_enter Try.func14, Try.ntmps14
  go_wp2_with fail
  (with_reducible refine (law_hallBegun w).mono ?_)
  rintro e w1 ⟨rfl, hb⟩
  have B1 := hid hb
  clear hb
  go_wp2_with fail
  (with_reducible refine (law_greatSteps a cap l w1 hl (HA.out.below B1.out)).mono ?_)
  rintro e w1' ⟨rfl, rfl⟩
  cases hg : greatS l with
  | true =>
    clear hg
    go_wp2
    go_ret
    exact ⟨rfl, B1.out⟩
  | false =>
  obtain ⟨h200, h100⟩ := greatS_false hg
  have H100 := hid h100
  have SA := hid (HA.out.below B1.out)
  clear hg h100 HA
  go_wp2_with fail
  refine (hall_New (fun _ => 0) 1 w1).mono ?_
  rintro e w2 ⟨h, g2, rfl, hE, -, hH⟩
  have B2 := hid ((Base.start w1).step hE (by omega))
  have H2 := hid hH
  clear hE hH
  go_wp2_with fail
  refine (court_New g2 20 w2).mono ?_
  rintro e w2b ⟨c, g2b, rfl, hE, -, hC⟩
  have B2b := hid (B2.out.step hE (by omega))
  have H2b := hid (H2.out.frame hE (by omega))
  have C2b := hid hC
  clear hE hC B2 H2
  go_wp2_with fail
  go_loopw [5] (fun i wr => ∃ (k : Nat) (g : Nat → Nat) (H : Ht), k ≤ l.length ∧ i = .int .i64 k ∧ Hid (HallAt wr g 1 h H) ∧ Hid (CourtAt wr g 20 c (8 * k) H) ∧ Hid (Base w1.heap.size w1 g wr)) (fun i _ => l.length - (intOf i).toNat)
  case atStart => exact ⟨0, g2b, Ht.new, Nat.zero_le _, rfl, H2b, C2b, B2b⟩
  case round =>
    clear H2b C2b B2b
    obtain ⟨k, g, H, hk, rfl, HH, HC, HB⟩ := hrel
    by_cases hlt : k < l.length
    · obtain ⟨b1, o1, rfl, hbb, v1⟩ := SA.out.facts (by omega)
      obtain ⟨p0, p1, p2, p3, p4, p5, p6, p7, -⟩ := v1 k hlt
      have hx100 := H100.out l[k] (List.getElem_mem _)
      have P0 := (HB.out.cell (p := ⟨b1, _, none⟩) hbb).trans p0
      have P1 := (HB.out.cell (p := ⟨b1, _, none⟩) hbb).trans p1
      have P2 := (HB.out.cell (p := ⟨b1, _, none⟩) hbb).trans p2
      have P3 := (HB.out.cell (p := ⟨b1, _, none⟩) hbb).trans p3
      have P4 := (HB.out.cell (p := ⟨b1, _, none⟩) hbb).trans p4
      have P5 := (HB.out.cell (p := ⟨b1, _, none⟩) hbb).trans p5
      have P6 := (HB.out.cell (p := ⟨b1, _, none⟩) hbb).trans p6
      have P7 := (HB.out.cell (p := ⟨b1, _, none⟩) hbb).trans p7
      have hki : (k : Int) < (l.length : Int) := by omega
      have hk0 : (0 : Int) ≤ (k : Int) := by omega
      generalize l[k] = x at *
      have hxm : x.bytes.size ≤ maxLen := by unfold maxLen; omega
      clear v1
      have PP := hid (show (w1.cell? ⟨b1, o1 + k * 8, none⟩ = some (.int .i64 x.kind) ∧ w1.cell? ⟨b1, o1 + k * 8 + 1, none⟩ = some (.int .i64 x.s) ∧ w1.cell? ⟨b1, o1 + k * 8 + 2, none⟩ = some (.int .i64 x.mode) ∧ w1.cell? ⟨b1, o1 + k * 8 + 3, none⟩ = some (.int .i64 x.at_) ∧ w1.cell? ⟨b1, o1 + k * 8 + 4, none⟩ = some (.int .i64 x.key) ∧ w1.cell? ⟨b1, o1 + k * 8 + 5, none⟩ = some (.int .i64 x.to_) ∧ w1.cell? ⟨b1, o1 + k * 8 + 6, none⟩ = some (.int .i64 x.keep) ∧ w1.cell? ⟨b1, o1 + k * 8 + 7, none⟩ = some (.string x.bytes)) from ⟨p0, p1, p2, p3, p4, p5, p6, p7⟩)
      clear p0 p1 p2 p3 p4 p5 p6 p7
      have hN8 : 8 * k + 8 < 1000000 := by omega
      have HDO := hid (fun W (q : HallAt W g 1 h H) => hall_Do g 1 h H x W hxm q)
      have CDO := hid (fun gg W (q : CourtAt W gg 20 c (8 * k) H) => court_Do gg 20 c (8 * k) H x W hN8 hxm q)
      have LEN := hid (doH_told H x)
      have HHd := hid (HH.out.below (Below.refl _ _).drew)
      have HCd := hid (HC.out.below (Below.refl _ _).drew)
      have HBd := hid HB.out.drew
      have hS0 : wr.drew.cell? ⟨b1, o1 + k * 8, none⟩ = some (.int .i64 x.kind) ∧ wr.drew.cell? ⟨b1, o1 + k * 8 + 1, none⟩ = some (.int .i64 x.s) ∧ wr.drew.cell? ⟨b1, o1 + k * 8 + 2, none⟩ = some (.int .i64 x.mode) ∧ wr.drew.cell? ⟨b1, o1 + k * 8 + 3, none⟩ = some (.int .i64 x.at_) ∧ wr.drew.cell? ⟨b1, o1 + k * 8 + 4, none⟩ = some (.int .i64 x.key) ∧ wr.drew.cell? ⟨b1, o1 + k * 8 + 5, none⟩ = some (.int .i64 x.to_) ∧ wr.drew.cell? ⟨b1, o1 + k * 8 + 6, none⟩ = some (.int .i64 x.keep) ∧ wr.drew.cell? ⟨b1, o1 + k * 8 + 7, none⟩ = some (.string x.bytes) := ⟨P0, P1, P2, P3, P4, P5, P6, P7⟩
      generalize doH H x = y at *
      obtain ⟨ye, Y2⟩ := y
      obtain ⟨yc, yn, yv, yl⟩ := ye
      clear HH HC HB P0 P1 P2 P3 P4 P5 P6 P7
      go_wp2_with fail
      -- REGION 9
      refine wp_region_noPanic ?_
      refine wp_region_held_drew (S := (fun W : World => W.cell? ⟨b1, o1 + k * 8, none⟩ = some (.int .i64 x.kind) ∧ W.cell? ⟨b1, o1 + k * 8 + 1, none⟩ = some (.int .i64 x.s) ∧ W.cell? ⟨b1, o1 + k * 8 + 2, none⟩ = some (.int .i64 x.mode) ∧ W.cell? ⟨b1, o1 + k * 8 + 3, none⟩ = some (.int .i64 x.at_) ∧ W.cell? ⟨b1, o1 + k * 8 + 4, none⟩ = some (.int .i64 x.key) ∧ W.cell? ⟨b1, o1 + k * 8 + 5, none⟩ = some (.int .i64 x.to_) ∧ W.cell? ⟨b1, o1 + k * 8 + 6, none⟩ = some (.int .i64 x.keep) ∧ W.cell? ⟨b1, o1 + k * 8 + 7, none⟩ = some (.string x.bytes))) (by kernel_rfl) ?_ (fun hH0 => ?_)
      · (try dsimp only); (first | assumption)
      refine wpAnyH_take (i := 0) (v := ?_) (by simp only [List.getElem?_toArray, List.getElem?_cons_zero]; rfl) (by kernel_rfl) (by kernel_rfl) (by kernel_rfl) (fun _ _ _ h => h) (Or.inl ⟨by rfl, ?_⟩) (by assumption) ?_
      rotate_left
      · intro w hSw; (try dsimp only at hSw); go_simp; (try with_reducible rfl)
      try simp only [Act.put, List.setIfInBounds_toArray, List.set_cons_zero, List.set_cons_succ]
      refine wpAnyH_take (i := 1) (v := ?_) (by simp only [List.getElem?_toArray, List.getElem?_cons_zero, List.getElem?_cons_succ]; rfl) (by kernel_rfl) (by kernel_rfl) (by kernel_rfl) (fun _ _ _ h => h) (Or.inl ⟨by rfl, ?_⟩) (by assumption) ?_
      rotate_left
      · intro w hSw; (try dsimp only at hSw); go_simp; (try with_reducible rfl)
      try simp only [Act.put, List.setIfInBounds_toArray, List.set_cons_zero, List.set_cons_succ]
      refine wpAnyH_take (i := 2) (v := ?_) (by simp only [List.getElem?_toArray, List.getElem?_cons_zero, List.getElem?_cons_succ]; rfl) (by kernel_rfl) (by kernel_rfl) (by kernel_rfl) (fun _ _ _ h => h) (Or.inl ⟨by rfl, ?_⟩) (by assumption) ?_
      rotate_left
      · intro w hSw; (try dsimp only at hSw); go_simp; (try with_reducible rfl)
      try simp only [Act.put, List.setIfInBounds_toArray, List.set_cons_zero, List.set_cons_succ]
      refine wpAnyH_take (i := 3) (v := ?_) (by simp only [List.getElem?_toArray, List.getElem?_cons_zero, List.getElem?_cons_succ]; rfl) (by kernel_rfl) (by kernel_rfl) (by kernel_rfl) (fun _ _ _ h => h) (Or.inl ⟨by rfl, ?_⟩) (by assumption) ?_
      rotate_left
      · intro w hSw; (try dsimp only at hSw); go_simp; (try with_reducible rfl)
      try simp only [Act.put, List.setIfInBounds_toArray, List.set_cons_zero, List.set_cons_succ]
      refine wpAnyH_take (i := 4) (v := ?_) (by simp only [List.getElem?_toArray, List.getElem?_cons_zero, List.getElem?_cons_succ]; rfl) (by kernel_rfl) (by kernel_rfl) (by kernel_rfl) (fun _ _ _ h => h) (Or.inl ⟨by rfl, ?_⟩) (by assumption) ?_
      rotate_left
      · intro w hSw; (try dsimp only at hSw); go_simp; (try with_reducible rfl)
      try simp only [Act.put, List.setIfInBounds_toArray, List.set_cons_zero, List.set_cons_succ]
      refine wpAnyH_take (i := 6) (v := ?_) (by simp only [List.getElem?_toArray, List.getElem?_cons_zero, List.getElem?_cons_succ]; rfl) (by kernel_rfl) (by kernel_rfl) (by kernel_rfl) (fun _ _ _ h => h) (Or.inl ⟨by rfl, ?_⟩) (by assumption) ?_
      rotate_left
      · intro w hSw; (try dsimp only at hSw); go_simp; (try with_reducible rfl)
      try simp only [Act.put, List.setIfInBounds_toArray, List.set_cons_zero, List.set_cons_succ]
      refine wpAnyH_take (i := 7) (v := ?_) (by simp only [List.getElem?_toArray, List.getElem?_cons_zero, List.getElem?_cons_succ]; rfl) (by kernel_rfl) (by kernel_rfl) (by kernel_rfl) (fun _ _ _ h => h) (Or.inl ⟨by rfl, ?_⟩) (by assumption) ?_
      rotate_left
      · intro w hSw; (try dsimp only at hSw); go_simp; (try with_reducible rfl)
      try simp only [Act.put, List.setIfInBounds_toArray, List.set_cons_zero, List.set_cons_succ]
      refine wpAnyH_take (i := 8) (v := ?_) (by simp only [List.getElem?_toArray, List.getElem?_cons_zero, List.getElem?_cons_succ]; rfl) (by kernel_rfl) (by kernel_rfl) (by kernel_rfl) (fun _ _ _ h => h) (Or.inl ⟨by rfl, ?_⟩) (by assumption) ?_
      rotate_left
      · intro w hSw; (try dsimp only at hSw); go_simp; (try with_reducible rfl)
      try simp only [Act.put, List.setIfInBounds_toArray, List.set_cons_zero, List.set_cons_succ]
      refine wpAnyH_take (i := 9) (v := ?_) (by simp only [List.getElem?_toArray, List.getElem?_cons_zero, List.getElem?_cons_succ]; rfl) (by kernel_rfl) (by kernel_rfl) (by kernel_rfl) (fun _ _ _ h => h) (Or.inl ⟨by rfl, ?_⟩) (by assumption) ?_
      rotate_left
      · intro w hSw; (try dsimp only at hSw); go_simp; (try with_reducible rfl)
      try simp only [Act.put, List.setIfInBounds_toArray, List.set_cons_zero, List.set_cons_succ]
      refine wpAnyH_take (i := 10) (v := ?_) (by simp only [List.getElem?_toArray, List.getElem?_cons_zero, List.getElem?_cons_succ]; rfl) (by kernel_rfl) (by kernel_rfl) (by kernel_rfl) (fun _ _ _ h => h) (Or.inl ⟨by rfl, ?_⟩) (by assumption) ?_
      rotate_left
      · intro w hSw; (try dsimp only at hSw); go_simp; (try with_reducible rfl)
      try simp only [Act.put, List.setIfInBounds_toArray, List.set_cons_zero, List.set_cons_succ]
      refine wpAnyH_ready (rs := [5]) (by kernel_rfl) (by simp) ?_
      refine AllReadyH.cons (by simp only [List.getElem?_toArray, List.getElem?_cons_zero, List.getElem?_cons_succ]; rfl) (fun K hK => ?_) AllReadyH.nil
      go_simp
      go_at_call 61
      (with_reducible refine (HDO.out wr.drew HHd.out).mono ?_)
      rintro e w3 ⟨a3, c3, g3, rfl, hH3, hE3, hs3, hn3⟩
      have H3 := hid hH3
      have E3 := hid hE3
      have S3 := hid hs3
      have N3 := hid hn3
      have B3 := hid (HBd.out.step hE3 (by omega))
      have hS3 : w3.cell? ⟨b1, o1 + k * 8, none⟩ = some (.int .i64 x.kind) ∧ w3.cell? ⟨b1, o1 + k * 8 + 1, none⟩ = some (.int .i64 x.s) ∧ w3.cell? ⟨b1, o1 + k * 8 + 2, none⟩ = some (.int .i64 x.mode) ∧ w3.cell? ⟨b1, o1 + k * 8 + 3, none⟩ = some (.int .i64 x.at_) ∧ w3.cell? ⟨b1, o1 + k * 8 + 4, none⟩ = some (.int .i64 x.key) ∧ w3.cell? ⟨b1, o1 + k * 8 + 5, none⟩ = some (.int .i64 x.to_) ∧ w3.cell? ⟨b1, o1 + k * 8 + 6, none⟩ = some (.int .i64 x.keep) ∧ w3.cell? ⟨b1, o1 + k * 8 + 7, none⟩ = some (.string x.bytes) := ⟨(B3.out.cell (p := ⟨b1, _, none⟩) hbb).trans PP.out.1, (B3.out.cell (p := ⟨b1, _, none⟩) hbb).trans PP.out.2.1, (B3.out.cell (p := ⟨b1, _, none⟩) hbb).trans PP.out.2.2.1, (B3.out.cell (p := ⟨b1, _, none⟩) hbb).trans PP.out.2.2.2.1, (B3.out.cell (p := ⟨b1, _, none⟩) hbb).trans PP.out.2.2.2.2.1, (B3.out.cell (p := ⟨b1, _, none⟩) hbb).trans PP.out.2.2.2.2.2.1, (B3.out.cell (p := ⟨b1, _, none⟩) hbb).trans PP.out.2.2.2.2.2.2.1, (B3.out.cell (p := ⟨b1, _, none⟩) hbb).trans PP.out.2.2.2.2.2.2.2⟩
      clear hH3 hE3 hs3 hn3 HDO hS0
      try go_wp2_with fail
      refine hK.out _ _ ?_ (fun hH1 => ?_)
      · (try dsimp only); (first | assumption)
      clear hK K hH0
      try simp only [Act.put, List.setIfInBounds_toArray, List.set_cons_zero, List.set_cons_succ]
      refine wpAnyH_ready (rs := [11]) (by kernel_rfl) (by simp) ?_
      refine AllReadyH.cons (by simp only [List.getElem?_toArray, List.getElem?_cons_zero, List.getElem?_cons_succ]; rfl) (fun K hK => ?_) AllReadyH.nil
      go_simp
      go_at_call 68
      (with_reducible refine (CDO.out (paint g3 wr.drew 60) w3 (HCd.out.frame (E3.out.paint 60) (by omega))).mono ?_)
      rintro e w5 ⟨a5, c5, g5, rfl, hC5, hE5, hs5, -⟩
      obtain ⟨g6, hX6, hZ6, hB6⟩ := two_stepC (c := 60) HBd.out E3.out H3.out hE5 hC5 (by omega) (by omega) (by omega)
      have T5 := hid (told_staysC S3.out N3.out hE5 (by omega))
      have S5 := hid hs5
      have X5 := hid hX6
      have Z5 := hid hZ6
      have B5 := hid hB6
      have hS5 : w5.cell? ⟨b1, o1 + k * 8, none⟩ = some (.int .i64 x.kind) ∧ w5.cell? ⟨b1, o1 + k * 8 + 1, none⟩ = some (.int .i64 x.s) ∧ w5.cell? ⟨b1, o1 + k * 8 + 2, none⟩ = some (.int .i64 x.mode) ∧ w5.cell? ⟨b1, o1 + k * 8 + 3, none⟩ = some (.int .i64 x.at_) ∧ w5.cell? ⟨b1, o1 + k * 8 + 4, none⟩ = some (.int .i64 x.key) ∧ w5.cell? ⟨b1, o1 + k * 8 + 5, none⟩ = some (.int .i64 x.to_) ∧ w5.cell? ⟨b1, o1 + k * 8 + 6, none⟩ = some (.int .i64 x.keep) ∧ w5.cell? ⟨b1, o1 + k * 8 + 7, none⟩ = some (.string x.bytes) := ⟨(B5.out.cell (p := ⟨b1, _, none⟩) hbb).trans PP.out.1, (B5.out.cell (p := ⟨b1, _, none⟩) hbb).trans PP.out.2.1, (B5.out.cell (p := ⟨b1, _, none⟩) hbb).trans PP.out.2.2.1, (B5.out.cell (p := ⟨b1, _, none⟩) hbb).trans PP.out.2.2.2.1, (B5.out.cell (p := ⟨b1, _, none⟩) hbb).trans PP.out.2.2.2.2.1, (B5.out.cell (p := ⟨b1, _, none⟩) hbb).trans PP.out.2.2.2.2.2.1, (B5.out.cell (p := ⟨b1, _, none⟩) hbb).trans PP.out.2.2.2.2.2.2.1, (B5.out.cell (p := ⟨b1, _, none⟩) hbb).trans PP.out.2.2.2.2.2.2.2⟩
      clear hC5 hE5 hs5 hX6 hZ6 hB6 CDO H3 E3 S3 N3 B3 HHd HCd HBd
      try go_wp2_with fail
      refine hK.out _ _ ?_ (fun hH2 => ?_)
      · (try dsimp only); (first | assumption)
      clear hK K hH1
      try simp only [Act.put, List.setIfInBounds_toArray, List.set_cons_zero, List.set_cons_succ]
      refine wpAnyH_ready (rs := [12]) (by kernel_rfl) (by simp) ?_
      refine AllReadyH.cons (by simp only [List.getElem?_toArray, List.getElem?_cons_zero, List.getElem?_cons_succ]; rfl) (fun K hK => ?_) AllReadyH.nil
      go_simp
      go_at_call 66
      (with_reducible refine (ref_SameEvent yc yn yv yl a3 a5 c3 c5 _ (Nat.le_trans LEN.out (by omega)) T5.out S5.out).mono ?_)
      rintro e w6 ⟨rfl, hb6⟩
      have X6 := hid (X5.out.below hb6)
      have Z6 := hid (Z5.out.below hb6)
      have B6 := hid (B5.out.below' hb6)
      have hS6 : w6.cell? ⟨b1, o1 + k * 8, none⟩ = some (.int .i64 x.kind) ∧ w6.cell? ⟨b1, o1 + k * 8 + 1, none⟩ = some (.int .i64 x.s) ∧ w6.cell? ⟨b1, o1 + k * 8 + 2, none⟩ = some (.int .i64 x.mode) ∧ w6.cell? ⟨b1, o1 + k * 8 + 3, none⟩ = some (.int .i64 x.at_) ∧ w6.cell? ⟨b1, o1 + k * 8 + 4, none⟩ = some (.int .i64 x.key) ∧ w6.cell? ⟨b1, o1 + k * 8 + 5, none⟩ = some (.int .i64 x.to_) ∧ w6.cell? ⟨b1, o1 + k * 8 + 6, none⟩ = some (.int .i64 x.keep) ∧ w6.cell? ⟨b1, o1 + k * 8 + 7, none⟩ = some (.string x.bytes) := ⟨(B6.out.cell (p := ⟨b1, _, none⟩) hbb).trans PP.out.1, (B6.out.cell (p := ⟨b1, _, none⟩) hbb).trans PP.out.2.1, (B6.out.cell (p := ⟨b1, _, none⟩) hbb).trans PP.out.2.2.1, (B6.out.cell (p := ⟨b1, _, none⟩) hbb).trans PP.out.2.2.2.1, (B6.out.cell (p := ⟨b1, _, none⟩) hbb).trans PP.out.2.2.2.2.1, (B6.out.cell (p := ⟨b1, _, none⟩) hbb).trans PP.out.2.2.2.2.2.1, (B6.out.cell (p := ⟨b1, _, none⟩) hbb).trans PP.out.2.2.2.2.2.2.1, (B6.out.cell (p := ⟨b1, _, none⟩) hbb).trans PP.out.2.2.2.2.2.2.2⟩
      obtain ⟨vp, ds, hXC⟩ := X6.out
      obtain ⟨r0, t, tb, hXV⟩ := hXC.top
      have r1 := hXV.cells.1
      obtain ⟨hok, s, dsc, hZC⟩ := Z6.out
      have q0 := hZC.top.1
      have q1 := hZC.sheet.n.1
      have LAF := hid (fun W (hb : Below w6.heap.size w6 W) => table_Last g6 (1 + 1 + 1) t Y2.v.tab W (hXV.2.2.1.below hb))
      have TFI := hid (fun W (hb : Below w6.heap.size w6 W) => table_First g6 (1 + 1 + 1) t Y2.v.tab W (hXV.2.2.1.below hb))
      have SFI := hid (fun W (hb : Below w6.heap.size w6 W) => sheet_First g6 (20 + 4) s Y2.v.tab W (hZC.sheet.below hb))
      have HLE := hid (fun W (hb : Below w6.heap.size w6 W) => hall_Least g6 1 h Y2 W (X6.out.below hb))
      have CLE := hid (fun W (hb : Below w6.heap.size w6 W) => court_Least g6 20 c s dsc _ Y2.v.tab Y2.v.log Y2.seats W (hZC.below hb))
      rw [show leastGo Y2.v.tab Y2.seats 5 = leastH Y2 from rfl] at CLE
      have KS := hid (fun W (hb : Below w6.heap.size w6 W) => (⟨⟨((hid (B6.out.below' hb)).out.cell (p := ⟨b1, _, none⟩) hbb).trans PP.out.1, ((hid (B6.out.below' hb)).out.cell (p := ⟨b1, _, none⟩) hbb).trans PP.out.2.1, ((hid (B6.out.below' hb)).out.cell (p := ⟨b1, _, none⟩) hbb).trans PP.out.2.2.1, ((hid (B6.out.below' hb)).out.cell (p := ⟨b1, _, none⟩) hbb).trans PP.out.2.2.2.1, ((hid (B6.out.below' hb)).out.cell (p := ⟨b1, _, none⟩) hbb).trans PP.out.2.2.2.2.1, ((hid (B6.out.below' hb)).out.cell (p := ⟨b1, _, none⟩) hbb).trans PP.out.2.2.2.2.2.1, ((hid (B6.out.below' hb)).out.cell (p := ⟨b1, _, none⟩) hbb).trans PP.out.2.2.2.2.2.2.1, ((hid (B6.out.below' hb)).out.cell (p := ⟨b1, _, none⟩) hbb).trans PP.out.2.2.2.2.2.2.2⟩, hb, (hXC.below hb).top.1, (hXV.below hb).cells.1, (hZC.below hb).top.1, (hZC.below hb).sheet.n.1⟩ : (W.cell? ⟨b1, o1 + k * 8, none⟩ = some (.int .i64 x.kind) ∧ W.cell? ⟨b1, o1 + k * 8 + 1, none⟩ = some (.int .i64 x.s) ∧ W.cell? ⟨b1, o1 + k * 8 + 2, none⟩ = some (.int .i64 x.mode) ∧ W.cell? ⟨b1, o1 + k * 8 + 3, none⟩ = some (.int .i64 x.at_) ∧ W.cell? ⟨b1, o1 + k * 8 + 4, none⟩ = some (.int .i64 x.key) ∧ W.cell? ⟨b1, o1 + k * 8 + 5, none⟩ = some (.int .i64 x.to_) ∧ W.cell? ⟨b1, o1 + k * 8 + 6, none⟩ = some (.int .i64 x.keep) ∧ W.cell? ⟨b1, o1 + k * 8 + 7, none⟩ = some (.string x.bytes)) ∧ Below w6.heap.size w6 W ∧ W.cell? ⟨h, 0, none⟩ = some (.pointer (some ⟨vp, 0, none⟩)) ∧ W.cell? ⟨vp, 0, none⟩ = some (.pointer (some ⟨t, 0, none⟩)) ∧ W.cell? ⟨c, 0, none⟩ = some (.pointer (some ⟨s, 0, none⟩)) ∧ W.cell? ⟨s, 8, none⟩ = some (.int .i64 Y2.v.tab.last)))
      have hT6 : (w6.cell? ⟨b1, o1 + k * 8, none⟩ = some (.int .i64 x.kind) ∧ w6.cell? ⟨b1, o1 + k * 8 + 1, none⟩ = some (.int .i64 x.s) ∧ w6.cell? ⟨b1, o1 + k * 8 + 2, none⟩ = some (.int .i64 x.mode) ∧ w6.cell? ⟨b1, o1 + k * 8 + 3, none⟩ = some (.int .i64 x.at_) ∧ w6.cell? ⟨b1, o1 + k * 8 + 4, none⟩ = some (.int .i64 x.key) ∧ w6.cell? ⟨b1, o1 + k * 8 + 5, none⟩ = some (.int .i64 x.to_) ∧ w6.cell? ⟨b1, o1 + k * 8 + 6, none⟩ = some (.int .i64 x.keep) ∧ w6.cell? ⟨b1, o1 + k * 8 + 7, none⟩ = some (.string x.bytes)) ∧ Below w6.heap.size w6 w6 ∧ w6.cell? ⟨h, 0, none⟩ = some (.pointer (some ⟨vp, 0, none⟩)) ∧ w6.cell? ⟨vp, 0, none⟩ = some (.pointer (some ⟨t, 0, none⟩)) ∧ w6.cell? ⟨c, 0, none⟩ = some (.pointer (some ⟨s, 0, none⟩)) ∧ w6.cell? ⟨s, 8, none⟩ = some (.int .i64 Y2.v.tab.last) := KS.out w6 (Below.refl _ _)
      clear hb6 hXC hXV hZC r0 r1 q0 q1 T5 S5 X5 Z5 hok
      try go_wp2_with fail
      refine hK.out _ _ ?_ (fun hH3 => ?_)
      · (try dsimp only); (first | assumption)
      clear hK K hH2
      try simp only [Act.put, List.setIfInBounds_toArray, List.set_cons_zero, List.set_cons_succ]
      have hT6b : (fun W : World => (W.cell? ⟨b1, o1 + k * 8, none⟩ = some (.int .i64 x.kind) ∧ W.cell? ⟨b1, o1 + k * 8 + 1, none⟩ = some (.int .i64 x.s) ∧ W.cell? ⟨b1, o1 + k * 8 + 2, none⟩ = some (.int .i64 x.mode) ∧ W.cell? ⟨b1, o1 + k * 8 + 3, none⟩ = some (.int .i64 x.at_) ∧ W.cell? ⟨b1, o1 + k * 8 + 4, none⟩ = some (.int .i64 x.key) ∧ W.cell? ⟨b1, o1 + k * 8 + 5, none⟩ = some (.int .i64 x.to_) ∧ W.cell? ⟨b1, o1 + k * 8 + 6, none⟩ = some (.int .i64 x.keep) ∧ W.cell? ⟨b1, o1 + k * 8 + 7, none⟩ = some (.string x.bytes)) ∧ Below w6.heap.size w6 W ∧ W.cell? ⟨h, 0, none⟩ = some (.pointer (some ⟨vp, 0, none⟩)) ∧ W.cell? ⟨vp, 0, none⟩ = some (.pointer (some ⟨t, 0, none⟩)) ∧ W.cell? ⟨c, 0, none⟩ = some (.pointer (some ⟨s, 0, none⟩)) ∧ W.cell? ⟨s, 8, none⟩ = some (.int .i64 Y2.v.tab.last)) w6 := hT6
      refine wpAnyH_grow (S' := fun W : World => (W.cell? ⟨b1, o1 + k * 8, none⟩ = some (.int .i64 x.kind) ∧ W.cell? ⟨b1, o1 + k * 8 + 1, none⟩ = some (.int .i64 x.s) ∧ W.cell? ⟨b1, o1 + k * 8 + 2, none⟩ = some (.int .i64 x.mode) ∧ W.cell? ⟨b1, o1 + k * 8 + 3, none⟩ = some (.int .i64 x.at_) ∧ W.cell? ⟨b1, o1 + k * 8 + 4, none⟩ = some (.int .i64 x.key) ∧ W.cell? ⟨b1, o1 + k * 8 + 5, none⟩ = some (.int .i64 x.to_) ∧ W.cell? ⟨b1, o1 + k * 8 + 6, none⟩ = some (.int .i64 x.keep) ∧ W.cell? ⟨b1, o1 + k * 8 + 7, none⟩ = some (.string x.bytes)) ∧ Below w6.heap.size w6 W ∧ W.cell? ⟨h, 0, none⟩ = some (.pointer (some ⟨vp, 0, none⟩)) ∧ W.cell? ⟨vp, 0, none⟩ = some (.pointer (some ⟨t, 0, none⟩)) ∧ W.cell? ⟨c, 0, none⟩ = some (.pointer (some ⟨s, 0, none⟩)) ∧ W.cell? ⟨s, 8, none⟩ = some (.int .i64 Y2.v.tab.last)) (fun _ h => h.1) ?_
      clear hT6 hS6
      refine wpAnyH_take (i := 13) (v := ?_) (by simp only [List.getElem?_toArray, List.getElem?_cons_zero, List.getElem?_cons_succ]; rfl) (by kernel_rfl) (by kernel_rfl) (by kernel_rfl) (fun _ _ _ h => h) (Or.inl ⟨by rfl, ?_⟩) (by assumption) ?_
      rotate_left
      · intro w hSw; (try dsimp only at hSw); go_simp; (try with_reducible rfl)
      try simp only [Act.put, List.setIfInBounds_toArray, List.set_cons_zero, List.set_cons_succ]
      refine wpAnyH_take (i := 14) (v := ?_) (by simp only [List.getElem?_toArray, List.getElem?_cons_zero, List.getElem?_cons_succ]; rfl) (by kernel_rfl) (by kernel_rfl) (by kernel_rfl) (fun _ _ _ h => h) (Or.inl ⟨by rfl, ?_⟩) (by assumption) ?_
      rotate_left
      · intro w hSw; (try dsimp only at hSw); go_simp; (try with_reducible rfl)
      try simp only [Act.put, List.setIfInBounds_toArray, List.set_cons_zero, List.set_cons_succ]
      refine wpAnyH_take (i := 15) (v := ?_) (by simp only [List.getElem?_toArray, List.getElem?_cons_zero, List.getElem?_cons_succ]; rfl) (by kernel_rfl) (by kernel_rfl) (by kernel_rfl) (fun _ _ _ h => h) (Or.inl ⟨by rfl, ?_⟩) (by assumption) ?_
      rotate_left
      · intro w hSw; (try dsimp only at hSw); go_simp; (try with_reducible rfl)
      try simp only [Act.put, List.setIfInBounds_toArray, List.set_cons_zero, List.set_cons_succ]
      refine wpAnyH_take (i := 16) (v := ?_) (by simp only [List.getElem?_toArray, List.getElem?_cons_zero, List.getElem?_cons_succ]; rfl) (by kernel_rfl) (by kernel_rfl) (by kernel_rfl) (fun _ _ _ h => h) (Or.inl ⟨by rfl, ?_⟩) (by assumption) ?_
      rotate_left
      · intro w hSw; (try dsimp only at hSw); go_simp; (try with_reducible rfl)
      try simp only [Act.put, List.setIfInBounds_toArray, List.set_cons_zero, List.set_cons_succ]
      refine wpAnyH_take (i := 17) (v := ?_) (by simp only [List.getElem?_toArray, List.getElem?_cons_zero, List.getElem?_cons_succ]; rfl) (by kernel_rfl) (by kernel_rfl) (by kernel_rfl) (fun _ _ _ h => h) (Or.inl ⟨by rfl, ?_⟩) (by assumption) ?_
      rotate_left
      · intro w hSw; (try dsimp only at hSw); go_simp; (try with_reducible rfl)
      try simp only [Act.put, List.setIfInBounds_toArray, List.set_cons_zero, List.set_cons_succ]
      refine wpAnyH_take (i := 18) (v := ?_) (by simp only [List.getElem?_toArray, List.getElem?_cons_zero, List.getElem?_cons_succ]; rfl) (by kernel_rfl) (by kernel_rfl) (by kernel_rfl) (fun _ _ _ h => h) (Or.inl ⟨by rfl, ?_⟩) (by assumption) ?_
      rotate_left
      · intro w hSw; (try dsimp only at hSw); go_simp; (try with_reducible rfl)
      try simp only [Act.put, List.setIfInBounds_toArray, List.set_cons_zero, List.set_cons_succ]
      refine wpAnyH_take (i := 19) (v := ?_) (by simp only [List.getElem?_toArray, List.getElem?_cons_zero, List.getElem?_cons_succ]; rfl) (by kernel_rfl) (by kernel_rfl) (by kernel_rfl) (fun _ _ _ h => h) (Or.inl ⟨by rfl, ?_⟩) (by assumption) ?_
      rotate_left
      · intro w hSw; (try dsimp only at hSw); go_simp; (try with_reducible rfl)
      try simp only [Act.put, List.setIfInBounds_toArray, List.set_cons_zero, List.set_cons_succ]
      refine wpAnyH_take (i := 20) (v := ?_) (by simp only [List.getElem?_toArray, List.getElem?_cons_zero, List.getElem?_cons_succ]; rfl) (by kernel_rfl) (by kernel_rfl) (by kernel_rfl) (fun _ _ _ h => h) (Or.inl ⟨by rfl, ?_⟩) (by assumption) ?_
      rotate_left
      · intro w hSw; (try dsimp only at hSw); go_simp; (try with_reducible rfl)
      try simp only [Act.put, List.setIfInBounds_toArray, List.set_cons_zero, List.set_cons_succ]
      refine wpAnyH_take (i := 21) (v := ?_) (by simp only [List.getElem?_toArray, List.getElem?_cons_zero, List.getElem?_cons_succ]; rfl) (by kernel_rfl) (by kernel_rfl) (by kernel_rfl) (fun _ _ _ h => h) (Or.inl ⟨by rfl, ?_⟩) (by assumption) ?_
      rotate_left
      · intro w hSw; (try dsimp only at hSw); go_simp; (try with_reducible rfl)
      try simp only [Act.put, List.setIfInBounds_toArray, List.set_cons_zero, List.set_cons_succ]
      refine wpAnyH_take (i := 23) (v := ?_) (by simp only [List.getElem?_toArray, List.getElem?_cons_zero, List.getElem?_cons_succ]; rfl) (by kernel_rfl) (by kernel_rfl) (by kernel_rfl) (fun _ _ _ h => h) (Or.inl ⟨by rfl, ?_⟩) (by assumption) ?_
      rotate_left
      · intro w hSw; (try dsimp only at hSw); go_simp; (try with_reducible rfl)
      try simp only [Act.put, List.setIfInBounds_toArray, List.set_cons_zero, List.set_cons_succ]
      refine wpAnyH_take (i := 24) (v := ?_) (by simp only [List.getElem?_toArray, List.getElem?_cons_zero, List.getElem?_cons_succ]; rfl) (by kernel_rfl) (by kernel_rfl) (by kernel_rfl) (fun _ _ _ h => h) (Or.inl ⟨by rfl, ?_⟩) (by assumption) ?_
      rotate_left
      · intro w hSw; (try dsimp only at hSw); go_simp; (try with_reducible rfl)
      try simp only [Act.put, List.setIfInBounds_toArray, List.set_cons_zero, List.set_cons_succ]
      refine wpAnyH_take (i := 25) (v := ?_) (by simp only [List.getElem?_toArray, List.getElem?_cons_zero, List.getElem?_cons_succ]; rfl) (by kernel_rfl) (by kernel_rfl) (by kernel_rfl) (fun _ _ _ h => h) (Or.inl ⟨by rfl, ?_⟩) (by assumption) ?_
      rotate_left
      · intro w hSw; (try dsimp only at hSw); go_simp; (try with_reducible rfl)
      try simp only [Act.put, List.setIfInBounds_toArray, List.set_cons_zero, List.set_cons_succ]
      refine wpAnyH_take (i := 26) (v := ?_) (by simp only [List.getElem?_toArray, List.getElem?_cons_zero, List.getElem?_cons_succ]; rfl) (by kernel_rfl) (by kernel_rfl) (by kernel_rfl) (fun _ _ _ h => h) (Or.inl ⟨by rfl, ?_⟩) (by assumption) ?_
      rotate_left
      · intro w hSw; (try dsimp only at hSw); go_simp; (try with_reducible rfl)
      try simp only [Act.put, List.setIfInBounds_toArray, List.set_cons_zero, List.set_cons_succ]
      refine wpAnyH_take (i := 27) (v := ?_) (by simp only [List.getElem?_toArray, List.getElem?_cons_zero, List.getElem?_cons_succ]; rfl) (by kernel_rfl) (by kernel_rfl) (by kernel_rfl) (fun _ _ _ h => h) (Or.inl ⟨by rfl, ?_⟩) (by assumption) ?_
      rotate_left
      · intro w hSw; (try dsimp only at hSw); go_simp; (try with_reducible rfl)
      try simp only [Act.put, List.setIfInBounds_toArray, List.set_cons_zero, List.set_cons_succ]
      refine wpAnyH_take (i := 28) (v := ?_) (by simp only [List.getElem?_toArray, List.getElem?_cons_zero, List.getElem?_cons_succ]; rfl) (by kernel_rfl) (by kernel_rfl) (by kernel_rfl) (fun _ _ _ h => h) (Or.inl ⟨by rfl, ?_⟩) (by assumption) ?_
      rotate_left
      · intro w hSw; (try dsimp only at hSw); go_simp; (try with_reducible rfl)
      try simp only [Act.put, List.setIfInBounds_toArray, List.set_cons_zero, List.set_cons_succ]
      refine wpAnyH_take (i := 29) (v := ?_) (by simp only [List.getElem?_toArray, List.getElem?_cons_zero, List.getElem?_cons_succ]; rfl) (by kernel_rfl) (by kernel_rfl) (by kernel_rfl) (fun _ _ _ h => h) (Or.inl ⟨by rfl, ?_⟩) (by assumption) ?_
      rotate_left
      · intro w hSw; (try dsimp only at hSw); go_simp; (try with_reducible rfl)
      try simp only [Act.put, List.setIfInBounds_toArray, List.set_cons_zero, List.set_cons_succ]
      refine wpAnyH_ready (rs := [22]) (by kernel_rfl) (by simp) ?_
      refine AllReadyH.cons (by simp only [List.getElem?_toArray, List.getElem?_cons_zero, List.getElem?_cons_succ]; rfl) (fun K hK => ?_) AllReadyH.nil
      go_simp
      go_at_call 45
      have hS := (‹_ ∧ Below w6.heap.size w6 _ ∧ _›).2.1
      (with_reducible refine (LAF.out _ hS).mono ?_)
      rintro e w' ⟨rfl, rfl⟩
      clear hS
      try go_wp2_with fail
      refine hK.out _ _ ?_ (fun hH4 => ?_)
      · (try dsimp only); (first | assumption)
      clear hK K hH3
      try simp only [Act.put, List.setIfInBounds_toArray, List.set_cons_zero, List.set_cons_succ]
      refine wpAnyH_take (i := 30) (v := ?_) (by simp only [List.getElem?_toArray, List.getElem?_cons_zero, List.getElem?_cons_succ]; rfl) (by kernel_rfl) (by kernel_rfl) (by kernel_rfl) (fun _ _ _ h => h) (Or.inl ⟨by rfl, ?_⟩) (by assumption) ?_
      rotate_left
      · intro w hSw; (try dsimp only at hSw); go_simp; (try with_reducible rfl)
      try simp only [Act.put, List.setIfInBounds_toArray, List.set_cons_zero, List.set_cons_succ]
      refine wpAnyH_take (i := 31) (v := ?_) (by simp only [List.getElem?_toArray, List.getElem?_cons_zero, List.getElem?_cons_succ]; rfl) (by kernel_rfl) (by kernel_rfl) (by kernel_rfl) (fun _ _ _ h => h) (Or.inl ⟨by rfl, ?_⟩) (by assumption) ?_
      rotate_left
      · intro w hSw; (try dsimp only at hSw); go_simp; (try with_reducible rfl)
      try simp only [Act.put, List.setIfInBounds_toArray, List.set_cons_zero, List.set_cons_succ]
      refine wpAnyH_take (i := 32) (v := ?_) (by simp only [List.getElem?_toArray, List.getElem?_cons_zero, List.getElem?_cons_succ]; rfl) (by kernel_rfl) (by kernel_rfl) (by kernel_rfl) (fun _ _ _ h => h) (Or.inl ⟨by rfl, ?_⟩) (by assumption) ?_
      rotate_left
      · intro w hSw; (try dsimp only at hSw); go_simp; (try with_reducible rfl)
      try simp only [Act.put, List.setIfInBounds_toArray, List.set_cons_zero, List.set_cons_succ]
      refine wpAnyH_take (i := 33) (v := ?_) (by simp only [List.getElem?_toArray, List.getElem?_cons_zero, List.getElem?_cons_succ]; rfl) (by kernel_rfl) (by kernel_rfl) (by kernel_rfl) (fun _ _ _ h => h) (Or.inl ⟨by rfl, ?_⟩) (by assumption) ?_
      rotate_left
      · intro w hSw; (try dsimp only at hSw); go_simp; (try with_reducible rfl)
      try simp only [Act.put, List.setIfInBounds_toArray, List.set_cons_zero, List.set_cons_succ]
      refine wpAnyH_take (i := 34) (v := ?_) (by simp only [List.getElem?_toArray, List.getElem?_cons_zero, List.getElem?_cons_succ]; rfl) (by kernel_rfl) (by kernel_rfl) (by kernel_rfl) (fun _ _ _ h => h) (Or.inl ⟨by rfl, ?_⟩) (by assumption) ?_
      rotate_left
      · intro w hSw; (try dsimp only at hSw); go_simp; (try with_reducible rfl)
      try simp only [Act.put, List.setIfInBounds_toArray, List.set_cons_zero, List.set_cons_succ]
      refine wpAnyH_take (i := 35) (v := ?_) (by simp only [List.getElem?_toArray, List.getElem?_cons_zero, List.getElem?_cons_succ]; rfl) (by kernel_rfl) (by kernel_rfl) (by kernel_rfl) (fun _ _ _ h => h) (Or.inl ⟨by rfl, ?_⟩) (by assumption) ?_
      rotate_left
      · intro w hSw; (try dsimp only at hSw); go_simp; (try with_reducible rfl)
      try simp only [Act.put, List.setIfInBounds_toArray, List.set_cons_zero, List.set_cons_succ]
      refine wpAnyH_take (i := 36) (v := ?_) (by simp only [List.getElem?_toArray, List.getElem?_cons_zero, List.getElem?_cons_succ]; rfl) (by kernel_rfl) (by kernel_rfl) (by kernel_rfl) (fun _ _ _ h => h) (Or.inl ⟨by rfl, ?_⟩) (by assumption) ?_
      rotate_left
      · intro w hSw; (try dsimp only at hSw); go_simp; (try with_reducible rfl)
      try simp only [Act.put, List.setIfInBounds_toArray, List.set_cons_zero, List.set_cons_succ]
      refine wpAnyH_take (i := 37) (v := ?_) (by simp only [List.getElem?_toArray, List.getElem?_cons_zero, List.getElem?_cons_succ]; rfl) (by kernel_rfl) (by kernel_rfl) (by kernel_rfl) (fun _ _ _ h => h) (Or.inl ⟨by rfl, ?_⟩) (by assumption) ?_
      rotate_left
      · intro w hSw; (try dsimp only at hSw); go_simp; (try with_reducible rfl)
      try simp only [Act.put, List.setIfInBounds_toArray, List.set_cons_zero, List.set_cons_succ]
      refine wpAnyH_take (i := 38) (v := ?_) (by simp only [List.getElem?_toArray, List.getElem?_cons_zero, List.getElem?_cons_succ]; rfl) (by kernel_rfl) (by kernel_rfl) (by kernel_rfl) (fun _ _ _ h => h) (Or.inl ⟨by rfl, ?_⟩) (by assumption) ?_
      rotate_left
      · intro w hSw; (try dsimp only at hSw); go_simp; (try with_reducible rfl)
      try simp only [Act.put, List.setIfInBounds_toArray, List.set_cons_zero, List.set_cons_succ]
      refine wpAnyH_take (i := 39) (v := ?_) (by simp only [List.getElem?_toArray, List.getElem?_cons_zero, List.getElem?_cons_succ]; rfl) (by kernel_rfl) (by kernel_rfl) (by kernel_rfl) (fun _ _ _ h => h) (Or.inl ⟨by rfl, ?_⟩) (by assumption) ?_
      rotate_left
      · intro w hSw; (try dsimp only at hSw); go_simp; (try with_reducible rfl)
      try simp only [Act.put, List.setIfInBounds_toArray, List.set_cons_zero, List.set_cons_succ]
      refine wpAnyH_take (i := 41) (v := ?_) (by simp only [List.getElem?_toArray, List.getElem?_cons_zero, List.getElem?_cons_succ]; rfl) (by kernel_rfl) (by kernel_rfl) (by kernel_rfl) (fun _ _ _ h => h) (Or.inl ⟨by rfl, ?_⟩) (by assumption) ?_
      rotate_left
      · intro w hSw; (try dsimp only at hSw); go_simp; (try with_reducible rfl)
      try simp only [Act.put, List.setIfInBounds_toArray, List.set_cons_zero, List.set_cons_succ]
      refine wpAnyH_take (i := 42) (v := ?_) (by simp only [List.getElem?_toArray, List.getElem?_cons_zero, List.getElem?_cons_succ]; rfl) (by kernel_rfl) (by kernel_rfl) (by kernel_rfl) (fun _ _ _ h => h) (Or.inl ⟨by rfl, ?_⟩) (by assumption) ?_
      rotate_left
      · intro w hSw; (try dsimp only at hSw); go_simp; (try with_reducible rfl)
      try simp only [Act.put, List.setIfInBounds_toArray, List.set_cons_zero, List.set_cons_succ]
      refine wpAnyH_take (i := 43) (v := ?_) (by simp only [List.getElem?_toArray, List.getElem?_cons_zero, List.getElem?_cons_succ]; rfl) (by kernel_rfl) (by kernel_rfl) (by kernel_rfl) (fun _ _ _ h => h) (Or.inl ⟨by rfl, ?_⟩) (by assumption) ?_
      rotate_left
      · intro w hSw; (try dsimp only at hSw); go_simp; (try with_reducible rfl)
      try simp only [Act.put, List.setIfInBounds_toArray, List.set_cons_zero, List.set_cons_succ]
      refine wpAnyH_take (i := 44) (v := ?_) (by simp only [List.getElem?_toArray, List.getElem?_cons_zero, List.getElem?_cons_succ]; rfl) (by kernel_rfl) (by kernel_rfl) (by kernel_rfl) (fun _ _ _ h => h) (Or.inl ⟨by rfl, ?_⟩) (by assumption) ?_
      rotate_left
      · intro w hSw; (try dsimp only at hSw); go_simp; (try with_reducible rfl)
      try simp only [Act.put, List.setIfInBounds_toArray, List.set_cons_zero, List.set_cons_succ]
      refine wpAnyH_ready (rs := [40]) (by kernel_rfl) (by simp) ?_
      refine AllReadyH.cons (by simp only [List.getElem?_toArray, List.getElem?_cons_zero, List.getElem?_cons_succ]; rfl) (fun K hK => ?_) AllReadyH.nil
      go_simp
      go_at_call 46
      have hS := (‹_ ∧ Below w6.heap.size w6 _ ∧ _›).2.1
      (with_reducible refine (TFI.out _ hS).mono ?_)
      rintro e w7 ⟨rfl, hb7⟩
      have hT7 := KS.out w7 (hS.trans (hb7.mono hS.size))
      clear hS hb7
      try go_wp2_with fail
      refine hK.out _ _ ?_ (fun hH5 => ?_)
      · (try dsimp only); (first | assumption)
      clear hK K hH4
      try simp only [Act.put, List.setIfInBounds_toArray, List.set_cons_zero, List.set_cons_succ]
      refine wpAnyH_ready (rs := [45]) (by kernel_rfl) (by simp) ?_
      refine AllReadyH.cons (by simp only [List.getElem?_toArray, List.getElem?_cons_zero, List.getElem?_cons_succ]; rfl) (fun K hK => ?_) AllReadyH.nil
      go_simp
      go_at_call 69
      have hS := (‹_ ∧ Below w6.heap.size w6 _ ∧ _›).2.1
      (with_reducible refine (SFI.out _ hS).mono ?_)
      rintro e w8 ⟨rfl, hb8⟩
      have hT8 := KS.out w8 (hS.trans (hb8.mono hS.size))
      clear hS hb8
      try go_wp2_with fail
      refine hK.out _ _ ?_ (fun hH6 => ?_)
      · (try dsimp only); (first | assumption)
      clear hK K hH5
      try simp only [Act.put, List.setIfInBounds_toArray, List.set_cons_zero, List.set_cons_succ]
      refine wpAnyH_take (i := 46) (v := ?_) (by simp only [List.getElem?_toArray, List.getElem?_cons_zero, List.getElem?_cons_succ]; rfl) (by kernel_rfl) (by kernel_rfl) (by kernel_rfl) (fun _ _ _ h => h) (Or.inl ⟨by rfl, ?_⟩) (by assumption) ?_
      rotate_left
      · intro w hSw; (try dsimp only at hSw); go_simp; (try with_reducible rfl)
      try simp only [Act.put, List.setIfInBounds_toArray, List.set_cons_zero, List.set_cons_succ]
      refine wpAnyH_take (i := 47) (v := ?_) (by simp only [List.getElem?_toArray, List.getElem?_cons_zero, List.getElem?_cons_succ]; rfl) (by kernel_rfl) (by kernel_rfl) (by kernel_rfl) (fun _ _ _ h => h) (Or.inl ⟨by rfl, ?_⟩) (by assumption) ?_
      rotate_left
      · intro w hSw; (try dsimp only at hSw); go_simp; (try with_reducible rfl)
      try simp only [Act.put, List.setIfInBounds_toArray, List.set_cons_zero, List.set_cons_succ]
      refine wpAnyH_take (i := 48) (v := ?_) (by simp only [List.getElem?_toArray, List.getElem?_cons_zero, List.getElem?_cons_succ]; rfl) (by kernel_rfl) (by kernel_rfl) (by kernel_rfl) (fun _ _ _ h => h) (Or.inl ⟨by rfl, ?_⟩) (by assumption) ?_
      rotate_left
      · intro w hSw; (try dsimp only at hSw); go_simp; (try with_reducible rfl)
      try simp only [Act.put, List.setIfInBounds_toArray, List.set_cons_zero, List.set_cons_succ]
      refine wpAnyH_take (i := 49) (v := ?_) (by simp only [List.getElem?_toArray, List.getElem?_cons_zero, List.getElem?_cons_succ]; rfl) (by kernel_rfl) (by kernel_rfl) (by kernel_rfl) (fun _ _ _ h => h) (Or.inl ⟨by rfl, ?_⟩) (by assumption) ?_
      rotate_left
      · intro w hSw; (try dsimp only at hSw); go_simp; (try with_reducible rfl)
      try simp only [Act.put, List.setIfInBounds_toArray, List.set_cons_zero, List.set_cons_succ]
      refine wpAnyH_take (i := 51) (v := ?_) (by simp only [List.getElem?_toArray, List.getElem?_cons_zero, List.getElem?_cons_succ]; rfl) (by kernel_rfl) (by kernel_rfl) (by kernel_rfl) (fun _ _ _ h => h) (Or.inl ⟨by rfl, ?_⟩) (by assumption) ?_
      rotate_left
      · intro w hSw; (try dsimp only at hSw); go_simp; (try with_reducible rfl)
      try simp only [Act.put, List.setIfInBounds_toArray, List.set_cons_zero, List.set_cons_succ]
      refine wpAnyH_ready (rs := [50]) (by kernel_rfl) (by simp) ?_
      refine AllReadyH.cons (by simp only [List.getElem?_toArray, List.getElem?_cons_zero, List.getElem?_cons_succ]; rfl) (fun K hK => ?_) AllReadyH.nil
      go_simp
      go_at_call 65
      have hS := (‹_ ∧ Below w6.heap.size w6 _ ∧ _›).2.1
      refine (HLE.out _ hS).mono ?_
      rintro e w' ⟨rfl, rfl⟩
      clear hS
      try go_wp2_with fail
      refine hK.out _ _ ?_ (fun hH7 => ?_)
      · (try dsimp only); (first | assumption)
      clear hK K hH6
      try simp only [Act.put, List.setIfInBounds_toArray, List.set_cons_zero, List.set_cons_succ]
      refine wpAnyH_ready (rs := [52]) (by kernel_rfl) (by simp) ?_
      refine AllReadyH.cons (by simp only [List.getElem?_toArray, List.getElem?_cons_zero, List.getElem?_cons_succ]; rfl) (fun K hK => ?_) AllReadyH.nil
      go_simp
      go_at_call 70
      have hS := (‹_ ∧ Below w6.heap.size w6 _ ∧ _›).2.1
      refine (CLE.out _ hS).mono ?_
      rintro e w' ⟨rfl, rfl⟩
      clear hS
      try go_wp2_with fail
      refine hK.out _ _ ?_ (fun hH8 => ?_)
      · (try dsimp only); (first | assumption)
      clear hK K hH7
      try simp only [Act.put, List.setIfInBounds_toArray, List.set_cons_zero, List.set_cons_succ]
      refine wpAnyH_take (i := 53) (v := ?_) (by simp only [List.getElem?_toArray, List.getElem?_cons_zero, List.getElem?_cons_succ]; rfl) (by kernel_rfl) (by kernel_rfl) (by kernel_rfl) (fun _ _ _ h => h) (Or.inl ⟨by rfl, ?_⟩) (by assumption) ?_
      rotate_left
      · intro w hSw; (try dsimp only at hSw); go_simp; (try with_reducible rfl)
      try simp only [Act.put, List.setIfInBounds_toArray, List.set_cons_zero, List.set_cons_succ]
      refine wpAnyH_take (i := 54) (v := ?_) (by simp only [List.getElem?_toArray, List.getElem?_cons_zero, List.getElem?_cons_succ]; rfl) (by kernel_rfl) (by kernel_rfl) (by kernel_rfl) (fun _ _ _ h => h) (Or.inl ⟨by rfl, ?_⟩) (by assumption) ?_
      rotate_left
      · intro w hSw; (try dsimp only at hSw); go_simp; (try with_reducible rfl)
      try simp only [Act.put, List.setIfInBounds_toArray, List.set_cons_zero, List.set_cons_succ]
      refine wpAnyH_take (i := 55) (v := ?_) (by simp only [List.getElem?_toArray, List.getElem?_cons_zero, List.getElem?_cons_succ]; rfl) (by kernel_rfl) (by kernel_rfl) (by kernel_rfl) (fun _ _ _ h => h) (Or.inl ⟨by rfl, ?_⟩) (by assumption) ?_
      rotate_left
      · intro w hSw; (try dsimp only at hSw); go_simp; (try with_reducible rfl)
      try simp only [Act.put, List.setIfInBounds_toArray, List.set_cons_zero, List.set_cons_succ]
      refine wpAnyH_take (i := 56) (v := ?_) (by simp only [List.getElem?_toArray, List.getElem?_cons_zero, List.getElem?_cons_succ]; rfl) (by kernel_rfl) (by kernel_rfl) (by kernel_rfl) (fun _ _ _ h => h) (Or.inl ⟨by rfl, ?_⟩) (by assumption) ?_
      rotate_left
      · intro w hSw; (try dsimp only at hSw); go_simp; (try with_reducible rfl)
      try simp only [Act.put, List.setIfInBounds_toArray, List.set_cons_zero, List.set_cons_succ]
      refine wpAnyH_take (i := 57) (v := ?_) (by simp only [List.getElem?_toArray, List.getElem?_cons_zero, List.getElem?_cons_succ]; rfl) (by kernel_rfl) (by kernel_rfl) (by kernel_rfl) (fun _ _ _ h => h) (Or.inl ⟨by rfl, ?_⟩) (by assumption) ?_
      rotate_left
      · intro w hSw; (try dsimp only at hSw); go_simp; (try with_reducible rfl)
      try simp only [Act.put, List.setIfInBounds_toArray, List.set_cons_zero, List.set_cons_succ]
      refine wpAnyH_take (i := 58) (v := ?_) (by simp only [List.getElem?_toArray, List.getElem?_cons_zero, List.getElem?_cons_succ]; rfl) (by kernel_rfl) (by kernel_rfl) (by kernel_rfl) (fun _ _ _ h => h) (Or.inl ⟨by rfl, ?_⟩) (by assumption) ?_
      rotate_left
      · intro w hSw; (try dsimp only at hSw); go_simp; (try with_reducible rfl)
      try simp only [Act.put, List.setIfInBounds_toArray, List.set_cons_zero, List.set_cons_succ]
      refine wpAnyH_take (i := 59) (v := ?_) (by simp only [List.getElem?_toArray, List.getElem?_cons_zero, List.getElem?_cons_succ]; rfl) (by kernel_rfl) (by kernel_rfl) (by kernel_rfl) (fun _ _ _ h => h) (Or.inl ⟨by rfl, ?_⟩) (by assumption) ?_
      rotate_left
      · intro w hSw; (try dsimp only at hSw); go_simp; (try with_reducible rfl)
      try simp only [Act.put, List.setIfInBounds_toArray, List.set_cons_zero, List.set_cons_succ]
      refine wpAnyH_take (i := 60) (v := ?_) (by simp only [List.getElem?_toArray, List.getElem?_cons_zero, List.getElem?_cons_succ]; rfl) (by kernel_rfl) (by kernel_rfl) (by kernel_rfl) (fun _ _ _ h => h) (Or.inl ⟨by rfl, ?_⟩) (by assumption) ?_
      rotate_left
      · intro w hSw; (try dsimp only at hSw); go_simp; (try with_reducible rfl)
      try simp only [Act.put, List.setIfInBounds_toArray, List.set_cons_zero, List.set_cons_succ]
      refine wpAnyH_take (i := 62) (v := ?_) (by simp only [List.getElem?_toArray, List.getElem?_cons_zero, List.getElem?_cons_succ]; rfl) (by kernel_rfl) (by kernel_rfl) (by kernel_rfl) (fun _ _ _ h => h) (Or.inl ⟨by rfl, ?_⟩) (by assumption) ?_
      rotate_left
      · intro w hSw; (try dsimp only at hSw); go_simp; (try with_reducible rfl)
      try simp only [Act.put, List.setIfInBounds_toArray, List.set_cons_zero, List.set_cons_succ]
      refine wpAnyH_take (i := 63) (v := ?_) (by simp only [List.getElem?_toArray, List.getElem?_cons_zero, List.getElem?_cons_succ]; rfl) (by kernel_rfl) (by kernel_rfl) (by kernel_rfl) (fun _ _ _ h => h) (Or.inl ⟨by rfl, ?_⟩) (by assumption) ?_
      rotate_left
      · intro w hSw; (try dsimp only at hSw); go_simp; (try with_reducible rfl)
      try simp only [Act.put, List.setIfInBounds_toArray, List.set_cons_zero, List.set_cons_succ]
      refine wpAnyH_take (i := 64) (v := ?_) (by simp only [List.getElem?_toArray, List.getElem?_cons_zero, List.getElem?_cons_succ]; rfl) (by kernel_rfl) (by kernel_rfl) (by kernel_rfl) (fun _ _ _ h => h) (Or.inl ⟨by rfl, ?_⟩) (by assumption) ?_
      rotate_left
      · intro w hSw; (try dsimp only at hSw); go_simp; (try with_reducible rfl)
      try simp only [Act.put, List.setIfInBounds_toArray, List.set_cons_zero, List.set_cons_succ]
      refine wpAnyH_take (i := 65) (v := ?_) (by simp only [List.getElem?_toArray, List.getElem?_cons_zero, List.getElem?_cons_succ]; rfl) (by kernel_rfl) (by kernel_rfl) (by kernel_rfl) (fun _ _ _ h => h) (Or.inl ⟨by rfl, ?_⟩) (by assumption) ?_
      rotate_left
      · intro w hSw; (try dsimp only at hSw); go_simp; (try with_reducible rfl)
      try simp only [Act.put, List.setIfInBounds_toArray, List.set_cons_zero, List.set_cons_succ]
      refine wpAnyH_take (i := 66) (v := ?_) (by simp only [List.getElem?_toArray, List.getElem?_cons_zero, List.getElem?_cons_succ]; rfl) (by kernel_rfl) (by kernel_rfl) (by kernel_rfl) (fun _ _ _ h => h) (Or.inl ⟨by rfl, ?_⟩) (by assumption) ?_
      rotate_left
      · intro w hSw; (try dsimp only at hSw); go_simp; (try with_reducible rfl)
      try simp only [Act.put, List.setIfInBounds_toArray, List.set_cons_zero, List.set_cons_succ]
      refine wpAnyH_ready (rs := [61]) (by kernel_rfl) (by simp) ?_
      refine AllReadyH.cons (by simp only [List.getElem?_toArray, List.getElem?_cons_zero, List.getElem?_cons_succ]; rfl) (fun K hK => ?_) AllReadyH.nil
      go_simp
      go_at_call 71
      refine (hall_Seat x.s _).mono ?_
      rintro e w' ⟨rfl, rfl⟩
      try go_wp2_with fail
      refine hK.out _ _ ?_ (fun hH9 => ?_)
      · (try dsimp only); (first | assumption)
      clear hK K hH8
      try simp only [Act.put, List.setIfInBounds_toArray, List.set_cons_zero, List.set_cons_succ]
      refine wpAnyH_ready (rs := [67]) (by kernel_rfl) (by simp) ?_
      refine AllReadyH.cons (by simp only [List.getElem?_toArray, List.getElem?_cons_zero, List.getElem?_cons_succ]; rfl) (fun K hK => ?_) AllReadyH.nil
      go_simp
      go_at_call 63
      refine (ref_Seat x.s _).mono ?_
      rintro e w' ⟨rfl, rfl⟩
      try go_wp2_with fail
      refine hK.out _ _ ?_ (fun hH10 => ?_)
      · (try dsimp only); (first | assumption)
      clear hK K hH9
      try simp only [Act.put, List.setIfInBounds_toArray, List.set_cons_zero, List.set_cons_succ]
      refine wpAnyH_take (i := 68) (v := ?_) (by simp only [List.getElem?_toArray, List.getElem?_cons_zero, List.getElem?_cons_succ]; rfl) (by kernel_rfl) (by kernel_rfl) (by kernel_rfl) (fun _ _ _ h => h) (Or.inl ⟨by rfl, ?_⟩) (by assumption) ?_
      rotate_left
      · intro w hSw; (try dsimp only at hSw); go_simp; (try with_reducible rfl)
      try simp only [Act.put, List.setIfInBounds_toArray, List.set_cons_zero, List.set_cons_succ]
      refine wpAnyH_take (i := 69) (v := ?_) (by simp only [List.getElem?_toArray, List.getElem?_cons_zero, List.getElem?_cons_succ]; rfl) (by kernel_rfl) (by kernel_rfl) (by kernel_rfl) (fun _ _ _ h => h) (Or.inl ⟨by rfl, ?_⟩) (by assumption) ?_
      rotate_left
      · intro w hSw; (try dsimp only at hSw); go_simp; (try with_reducible rfl)
      try simp only [Act.put, List.setIfInBounds_toArray, List.set_cons_zero, List.set_cons_succ]
      refine wpAnyH_done (by kernel_rfl) ?_ _
      refine NoPanic.normal ?_
      skip
      -- END 9
      have hB8 := (‹_ ∧ Below w6.heap.size w6 _ ∧ _›).2.1
      have X8 := hid (X6.out.below hB8)
      have Z8 := hid (Z6.out.below hB8)
      have B8 := hid (B6.out.below' hB8)
      clear hB8 X6 Z6 B6 KS LAF TFI SFI HLE CLE hT7 hT8 hT6b LEN PP
      go_wp2_with fail
      go_loopw [6] (fun i wr2 => ∃ z : Int, -1 ≤ z ∧ z ≤ 6 ∧ i = .int .i64 z ∧ Hid (Below w8.heap.size w8 wr2)) (fun i _ => (6 - intOf i).toNat)
      case atStart => exact ⟨-1, by omega, by omega, rfl, hid (Below.refl _ _)⟩
      case round => as_aux_lemma =>
        obtain ⟨z, hz1, hz6, rfl, HB2⟩ := hrel
        have XR := hid (X8.out.below HB2.out)
        have ZR := hid (Z8.out.below HB2.out)
        obtain ⟨vp2, ds2, hXC⟩ := XR.out
        obtain ⟨hok2, s2, dsc2, hZC⟩ := ZR.out
        by_cases hz5 : z ≤ 5
        · have SE := hid (ref_Seat z wr)
          have DE := hid (hall_Deed g6 1 h vp2 ds2 Y2 z wr hXC)
          have BQ := hid (fun m => quietOf (fun m => hall_Busy g6 1 h Y2 z (wr.drewN m) (XR.out.below (below_drewN _ _))) m)
          cases hsb : isSeatB z with
          | false =>
            rw [hsb] at SE
            simp only [hsb, Bool.false_eq_true, if_false] at DE
            simp only [hsb, Bool.false_and] at BQ
            clear hsb hXC hZC hok2
            go_wp2_with fail
            refine SE.out.mono ?_
            rintro e w' ⟨rfl, rfl⟩
            go_wp2_with fail
            refine DE.out.mono ?_
            rintro e w' ⟨rfl, rfl⟩
            go_wp2_with fail
            go_quiet ((go_at_call 60; exact BQ.out _))
            go_wp2
            go_roundw
            case rel => exact ⟨z + 1, by omega, by omega, rfl, hid (below_dN HB2.out _)⟩
            case measure => simp [intOf]; omega
          | true =>
            obtain ⟨n, hn, rfl⟩ := seat_nat hsb
            simp only [hsb, if_true, Int.toNat_natCast] at DE
            simp only [hsb, Bool.true_and, Int.toNat_natCast] at BQ
            rw [hsb] at SE
            obtain ⟨s1, -⟩ := hZC.seat hn
            have c0 := hZC.top.1
            have hclt := hZC.top.2.2
            have hn0 : (0 : Int) ≤ (n : Int) := by omega
            have hn5 : (n : Int) < 5 := by omega
            cases hd : Y2.seats n with
            | none =>
              rw [show seatP dsc2 Y2.seats n = .pointer none by unfold seatP; rw [hd]] at s1
              rw [show seatP ds2 Y2.seats n = .pointer none by unfold seatP; rw [hd]] at DE
              simp only [hd, Option.isSome_none] at BQ
              clear hsb hXC hZC hok2 hd
              go_wp2_with fail
              refine SE.out.mono ?_
              rintro e w' ⟨rfl, rfl⟩
              go_wp2_with fail
              refine DE.out.mono ?_
              rintro e w' ⟨rfl, rfl⟩
              go_wp2_with fail
              go_quiet ((go_at_call 60; exact BQ.out _))
              go_wp2
              go_roundw
              case rel => exact ⟨n + 1, by omega, by omega, rfl, hid (below_dN HB2.out _)⟩
              case measure => simp [intOf]; omega
            | some D =>
              have dd := hXC.deed n hn D hd
              obtain ⟨wb1, wb0, wbl⟩ := (hZC.work n hn D hd).beg
              have MQ := hid (fun m => quietOf (fun m => deed_Mode g6 (1 + 12 + n) (ds2 n) D (wr.drewN m) (dd.below (below_drewN _ _))) m)
              have AQ := hid (fun m => quietOf (fun m => deed_At g6 (1 + 12 + n) (ds2 n) D (wr.drewN m) (dd.below (below_drewN _ _))) m)
              rw [show seatP dsc2 Y2.seats n = .pointer (some ⟨dsc2 n, 0, none⟩) by unfold seatP; rw [hd]] at s1
              rw [show seatP ds2 Y2.seats n = .pointer (some ⟨ds2 n, 0, none⟩) by unfold seatP; rw [hd]] at DE
              simp only [hd, Option.isSome_some] at BQ
              clear hsb hXC hZC hok2 hd dd
              go_wp2_with fail
              refine SE.out.mono ?_
              rintro e w' ⟨rfl, rfl⟩
              go_wp2_with fail
              refine DE.out.mono ?_
              rintro e w' ⟨rfl, rfl⟩
              go_wp2_with fail
              go_quiet ((first | (go_at_call 60; exact BQ.out _) | (go_at_call 38; exact MQ.out _) | (go_at_call 39; exact AQ.out _)))
              go_wp2
              go_roundw
              case rel => exact ⟨n + 1, by omega, by omega, rfl, hid (below_dN HB2.out _)⟩
              case measure => simp [intOf]; omega
        · obtain rfl : z = 6 := by omega
          have B9 := hid (B8.out.below' HB2.out)
          clear hXC hZC hok2 X8 Z8 B8 HB2 hz1 hz5 hz6
          generalize wr = w9 at *
          go_wp2_with fail
          go_loopw [9] (fun i wr3 => ∃ z : Int, -1 ≤ z ∧ z ≤ 9 ∧ i = .int .i64 z ∧ Hid (Below w9.heap.size w9 wr3)) (fun i _ => (9 - intOf i).toNat)
          case atStart => exact ⟨-1, by omega, by omega, rfl, hid (Below.refl _ _)⟩
          case round => as_aux_lemma =>
            obtain ⟨z, hz1, hz9, rfl, HB3⟩ := hrel
            generalize wr = wa at *
            have XA := hid (XR.out.below HB3.out)
            have ZA := hid (ZR.out.below HB3.out)
            have BA := hid (B9.out.below' HB3.out)
            by_cases hz8 : z ≤ 8
            · obtain ⟨vp3, ds3, hXC⟩ := XA.out
              obtain ⟨r0, t3, tb3, hXV⟩ := hXC.top
              obtain ⟨hok3, s3, dsc3, hZC⟩ := ZA.out
              have KS21 := hid (fun W (hb : Below wa.heap.size wa W) => (⟨hb, (hXC.below hb).top.1, (hXV.below hb).cells.1, (hZC.below hb).top.1, (hZC.below hb).sheet.n.1⟩ : Below wa.heap.size wa W ∧ W.cell? ⟨h, 0, none⟩ = some (.pointer (some ⟨vp3, 0, none⟩)) ∧ W.cell? ⟨vp3, 0, none⟩ = some (.pointer (some ⟨t3, 0, none⟩)) ∧ W.cell? ⟨c, 0, none⟩ = some (.pointer (some ⟨s3, 0, none⟩)) ∧ W.cell? ⟨s3, 8, none⟩ = some (.int .i64 Y2.v.tab.last)))
              have RD21 := hid (fun W (hb : Below wa.heap.size wa W) => table_Read g6 (1 + 1 + 1) t3 Y2.v.tab W z Y2.v.tab.last (hXV.2.2.1.below hb))
              have SR := hid (fun W (hb : Below wa.heap.size wa W) => sheet_Read g6 (20 + 4) s3 Y2.v.tab W z Y2.v.tab.last (hZC.sheet.below hb))
              have TSI := hid (fun W (hb : Below wa.heap.size wa W) => table_Since g6 (1 + 1 + 1) t3 Y2.v.tab W z (hXV.2.2.1.below hb))
              have SSI := hid (fun W (hb : Below wa.heap.size wa W) => sheet_Since g6 (20 + 4) s3 Y2.v.tab W z (hZC.sheet.below hb))
              generalize readT Y2.v.tab z Y2.v.tab.last = rd at *
              obtain ⟨rv, rc⟩ := rd
              generalize sinceT Y2.v.tab z = sn at *
              clear hXC hXV hZC hok3 r0
              go_wp2_with fail
              refine' join2 (fun (b : Nat) W => Below wa.heap.size wa W ∧ Loc W b 39 [.bool rv.there, .string rv.bytes]) _ (fun HJ21 => ?_) (fun bn21 wn21 hS21 => ?_)
              rotate_left
              · skip
                -- REGION 21
                refine wp_region_noPanic ?_
                refine wp_region_held_drew (S := (fun W' : World => Below wa.heap.size wa W' ∧ W'.cell? ⟨h, 0, none⟩ = some (.pointer (some ⟨vp3, 0, none⟩)) ∧ W'.cell? ⟨vp3, 0, none⟩ = some (.pointer (some ⟨t3, 0, none⟩)) ∧ W'.cell? ⟨c, 0, none⟩ = some (.pointer (some ⟨s3, 0, none⟩)) ∧ W'.cell? ⟨s3, 8, none⟩ = some (.int .i64 Y2.v.tab.last))) (by kernel_rfl) ?_ (fun hH0 => ?_)
                · (try dsimp only); (first | assumption | exact KS21.out _ (Below.refl wa.heap.size wa).drew)
                refine wpAnyH_take (i := 0) (v := ?_) (by simp only [List.getElem?_toArray, List.getElem?_cons_zero]; rfl) (by kernel_rfl) (by kernel_rfl) (by kernel_rfl) (fun _ _ _ h => h) (Or.inl ⟨by rfl, ?_⟩) (by assumption) ?_
                rotate_left
                · intro w hSw; (try dsimp only at hSw); go_simp; (try with_reducible rfl)
                try simp only [Act.put, List.setIfInBounds_toArray, List.set_cons_zero, List.set_cons_succ]
                refine wpAnyH_take (i := 1) (v := ?_) (by simp only [List.getElem?_toArray, List.getElem?_cons_zero, List.getElem?_cons_succ]; rfl) (by kernel_rfl) (by kernel_rfl) (by kernel_rfl) (fun _ _ _ h => h) (Or.inl ⟨by rfl, ?_⟩) (by assumption) ?_
                rotate_left
                · intro w hSw; (try dsimp only at hSw); go_simp; (try with_reducible rfl)
                try simp only [Act.put, List.setIfInBounds_toArray, List.set_cons_zero, List.set_cons_succ]
                refine wpAnyH_take (i := 2) (v := ?_) (by simp only [List.getElem?_toArray, List.getElem?_cons_zero, List.getElem?_cons_succ]; rfl) (by kernel_rfl) (by kernel_rfl) (by kernel_rfl) (fun _ _ _ h => h) (Or.inl ⟨by rfl, ?_⟩) (by assumption) ?_
                rotate_left
                · intro w hSw; (try dsimp only at hSw); go_simp; (try with_reducible rfl)
                try simp only [Act.put, List.setIfInBounds_toArray, List.set_cons_zero, List.set_cons_succ]
                refine wpAnyH_take (i := 3) (v := ?_) (by simp only [List.getElem?_toArray, List.getElem?_cons_zero, List.getElem?_cons_succ]; rfl) (by kernel_rfl) (by kernel_rfl) (by kernel_rfl) (fun _ _ _ h => h) (Or.inl ⟨by rfl, ?_⟩) (by assumption) ?_
                rotate_left
                · intro w hSw; (try dsimp only at hSw); go_simp; (try with_reducible rfl)
                try simp only [Act.put, List.setIfInBounds_toArray, List.set_cons_zero, List.set_cons_succ]
                refine wpAnyH_take (i := 4) (v := ?_) (by simp only [List.getElem?_toArray, List.getElem?_cons_zero, List.getElem?_cons_succ]; rfl) (by kernel_rfl) (by kernel_rfl) (by kernel_rfl) (fun _ _ _ h => h) (Or.inl ⟨by rfl, ?_⟩) (by assumption) ?_
                rotate_left
                · intro w hSw; (try dsimp only at hSw); go_simp; (try with_reducible rfl)
                try simp only [Act.put, List.setIfInBounds_toArray, List.set_cons_zero, List.set_cons_succ]
                refine wpAnyH_take (i := 5) (v := ?_) (by simp only [List.getElem?_toArray, List.getElem?_cons_zero, List.getElem?_cons_succ]; rfl) (by kernel_rfl) (by kernel_rfl) (by kernel_rfl) (fun _ _ _ h => h) (Or.inl ⟨by rfl, ?_⟩) (by assumption) ?_
                rotate_left
                · intro w hSw; (try dsimp only at hSw); go_simp; (try with_reducible rfl)
                try simp only [Act.put, List.setIfInBounds_toArray, List.set_cons_zero, List.set_cons_succ]
                refine wpAnyH_take (i := 6) (v := ?_) (by simp only [List.getElem?_toArray, List.getElem?_cons_zero, List.getElem?_cons_succ]; rfl) (by kernel_rfl) (by kernel_rfl) (by kernel_rfl) (fun _ _ _ h => h) (Or.inl ⟨by rfl, ?_⟩) (by assumption) ?_
                rotate_left
                · intro w hSw; (try dsimp only at hSw); go_simp; (try with_reducible rfl)
                try simp only [Act.put, List.setIfInBounds_toArray, List.set_cons_zero, List.set_cons_succ]
                refine wpAnyH_take (i := 7) (v := ?_) (by simp only [List.getElem?_toArray, List.getElem?_cons_zero, List.getElem?_cons_succ]; rfl) (by kernel_rfl) (by kernel_rfl) (by kernel_rfl) (fun _ _ _ h => h) (Or.inl ⟨by rfl, ?_⟩) (by assumption) ?_
                rotate_left
                · intro w hSw; (try dsimp only at hSw); go_simp; (try with_reducible rfl)
                try simp only [Act.put, List.setIfInBounds_toArray, List.set_cons_zero, List.set_cons_succ]
                refine wpAnyH_take (i := 8) (v := ?_) (by simp only [List.getElem?_toArray, List.getElem?_cons_zero, List.getElem?_cons_succ]; rfl) (by kernel_rfl) (by kernel_rfl) (by kernel_rfl) (fun _ _ _ h => h) (Or.inl ⟨by rfl, ?_⟩) (by assumption) ?_
                rotate_left
                · intro w hSw; (try dsimp only at hSw); go_simp; (try with_reducible rfl)
                try simp only [Act.put, List.setIfInBounds_toArray, List.set_cons_zero, List.set_cons_succ]
                refine wpAnyH_take (i := 9) (v := ?_) (by simp only [List.getElem?_toArray, List.getElem?_cons_zero, List.getElem?_cons_succ]; rfl) (by kernel_rfl) (by kernel_rfl) (by kernel_rfl) (fun _ _ _ h => h) (Or.inl ⟨by rfl, ?_⟩) (by assumption) ?_
                rotate_left
                · intro w hSw; (try dsimp only at hSw); go_simp; (try with_reducible rfl)
                try simp only [Act.put, List.setIfInBounds_toArray, List.set_cons_zero, List.set_cons_succ]
                refine wpAnyH_take (i := 10) (v := ?_) (by simp only [List.getElem?_toArray, List.getElem?_cons_zero, List.getElem?_cons_succ]; rfl) (by kernel_rfl) (by kernel_rfl) (by kernel_rfl) (fun _ _ _ h => h) (Or.inl ⟨by rfl, ?_⟩) (by assumption) ?_
                rotate_left
                · intro w hSw; (try dsimp only at hSw); go_simp; (try with_reducible rfl)
                try simp only [Act.put, List.setIfInBounds_toArray, List.set_cons_zero, List.set_cons_succ]
                refine wpAnyH_take (i := 11) (v := ?_) (by simp only [List.getElem?_toArray, List.getElem?_cons_zero, List.getElem?_cons_succ]; rfl) (by kernel_rfl) (by kernel_rfl) (by kernel_rfl) (fun _ _ _ h => h) (Or.inl ⟨by rfl, ?_⟩) (by assumption) ?_
                rotate_left
                · intro w hSw; (try dsimp only at hSw); go_simp; (try with_reducible rfl)
                try simp only [Act.put, List.setIfInBounds_toArray, List.set_cons_zero, List.set_cons_succ]
                refine wpAnyH_take (i := 12) (v := ?_) (by simp only [List.getElem?_toArray, List.getElem?_cons_zero, List.getElem?_cons_succ]; rfl) (by kernel_rfl) (by kernel_rfl) (by kernel_rfl) (fun _ _ _ h => h) (Or.inl ⟨by rfl, ?_⟩) (by assumption) ?_
                rotate_left
                · intro w hSw; (try dsimp only at hSw); go_simp; (try with_reducible rfl)
                try simp only [Act.put, List.setIfInBounds_toArray, List.set_cons_zero, List.set_cons_succ]
                refine wpAnyH_take (i := 13) (v := ?_) (by simp only [List.getElem?_toArray, List.getElem?_cons_zero, List.getElem?_cons_succ]; rfl) (by kernel_rfl) (by kernel_rfl) (by kernel_rfl) (fun _ _ _ h => h) (Or.inl ⟨by rfl, ?_⟩) (by assumption) ?_
                rotate_left
                · intro w hSw; (try dsimp only at hSw); go_simp; (try with_reducible rfl)
                try simp only [Act.put, List.setIfInBounds_toArray, List.set_cons_zero, List.set_cons_succ]
                refine wpAnyH_take (i := 14) (v := ?_) (by simp only [List.getElem?_toArray, List.getElem?_cons_zero, List.getElem?_cons_succ]; rfl) (by kernel_rfl) (by kernel_rfl) (by kernel_rfl) (fun _ _ _ h => h) (Or.inl ⟨by rfl, ?_⟩) (by assumption) ?_
                rotate_left
                · intro w hSw; (try dsimp only at hSw); go_simp; (try with_reducible rfl)
                try simp only [Act.put, List.setIfInBounds_toArray, List.set_cons_zero, List.set_cons_succ]
                refine wpAnyH_ready (rs := [15, 19]) (by kernel_rfl) (by simp) ?_
                refine AllReadyH.cons (by simp only [List.getElem?_toArray, List.getElem?_cons_zero, List.getElem?_cons_succ]; rfl) (fun K hK => ?_) ?_
                · skip
                  go_simp
                  go_at_call 54
                  have hS := (‹Below _ wa _ ∧ _›).1
                  (with_reducible refine (RD21.out _ hS).mono ?_)
                  rintro e w5 ⟨rfl, hb5⟩
                  have hS' := KS21.out _ (hS.trans (hb5.mono (by first | exact hS.size | (have h1 := hS.size; have h2 := HB6.out; omega))))
                  try (have hLZ := LZ.out.keep hb5; clear LZ u0 u1 f0 f1 lz; have LZ := hid hLZ; clear hLZ; obtain ⟨u0, u1, f0, f1⟩ := LZ.out.two; have lz := LZ.out.lt)
                  clear hb5 hS
                  try go_wp2_with fail
                  refine hK.out _ _ ?_ (fun hH1 => ?_)
                  · (try dsimp only); (first | assumption | exact KS21.out _ (Below.refl wa.heap.size wa).drew)
                  clear hK K hH0
                  try simp only [Act.put, List.setIfInBounds_toArray, List.set_cons_zero, List.set_cons_succ]
                  refine wpAnyH_take (i := 16) (v := ?_) (by simp only [List.getElem?_toArray, List.getElem?_cons_zero, List.getElem?_cons_succ]; rfl) (by kernel_rfl) (by kernel_rfl) (by kernel_rfl) (fun _ _ _ h => h) (Or.inl ⟨by rfl, ?_⟩) (by assumption) ?_
                  rotate_left
                  · intro w hSw; (try dsimp only at hSw); go_simp; (try with_reducible rfl)
                  try simp only [Act.put, List.setIfInBounds_toArray, List.set_cons_zero, List.set_cons_succ]
                  refine wpAnyH_take (i := 17) (v := ?_) (by simp only [List.getElem?_toArray, List.getElem?_cons_zero, List.getElem?_cons_succ]; rfl) (by kernel_rfl) (by kernel_rfl) (by kernel_rfl) (fun _ _ _ h => h) (Or.inl ⟨by rfl, ?_⟩) (by assumption) ?_
                  rotate_left
                  · intro w hSw; (try dsimp only at hSw); go_simp; (try with_reducible rfl)
                  try simp only [Act.put, List.setIfInBounds_toArray, List.set_cons_zero, List.set_cons_succ]
                  refine wpAnyH_take (i := 18) (v := ?_) (by simp only [List.getElem?_toArray, List.getElem?_cons_zero, List.getElem?_cons_succ]; rfl) (by kernel_rfl) (by kernel_rfl) (by kernel_rfl) (fun _ _ _ h => h) (Or.inl ⟨by rfl, ?_⟩) (by assumption) ?_
                  rotate_left
                  · intro w hSw; (try dsimp only at hSw); go_simp; (try with_reducible rfl)
                  try simp only [Act.put, List.setIfInBounds_toArray, List.set_cons_zero, List.set_cons_succ]
                  refine wpAnyH_ready (rs := [19]) (by kernel_rfl) (by simp) ?_
                  refine AllReadyH.cons (by simp only [List.getElem?_toArray, List.getElem?_cons_zero, List.getElem?_cons_succ]; rfl) (fun K hK => ?_) AllReadyH.nil
                  go_simp
                  have hS := (‹Below _ wa _ ∧ _›).1
                  first
                    | (have LZ : Hid (Loc (w5.alloc (.cells #[.bool false, .string ⟨#[]⟩] 39)) w5.heap.size 39 [.bool false, .string ⟨#[]⟩]) := hid (Loc.new w5 39 [.bool false, .string ⟨#[]⟩]); have HBN := hid hS.size; have hS' := KS21.out (w5.alloc (.cells #[.bool false, .string ⟨#[]⟩] 39)) (hS.alloc hS.size _); clear hS; generalize w5.alloc (.cells #[.bool false, .string ⟨#[]⟩] 39) = w6 at *; generalize w5.heap.size = b6 at *; obtain ⟨u0, u1, f0, f1⟩ := LZ.out.two; have lz := LZ.out.lt)
                    | (have LZ : Hid (Loc (wa.alloc (.cells #[.bool false, .string ⟨#[]⟩] 39)).drew wa.heap.size 39 [.bool false, .string ⟨#[]⟩]) := hid (Loc.new wa 39 [.bool false, .string ⟨#[]⟩]); have HBN := hid (Nat.le_refl wa.heap.size); have hS' := KS21.out (wa.alloc (.cells #[.bool false, .string ⟨#[]⟩] 39)).drew (((Below.refl wa.heap.size wa).alloc (Nat.le_refl _) _).drew); clear hS; generalize (wa.alloc (.cells #[.bool false, .string ⟨#[]⟩] 39)).drew = w6 at *; generalize hb6 : wa.heap.size = b6 at *; have HB6 := hid hb6; clear hb6; obtain ⟨u0, u1, f0, f1⟩ := LZ.out.two; have lz := LZ.out.lt)
                  try go_wp2_with fail
                  refine hK.out _ _ ?_ (fun hH2 => ?_)
                  · (try dsimp only); (first | assumption | exact KS21.out _ (Below.refl wa.heap.size wa).drew)
                  clear hK K hH1
                  try simp only [Act.put, List.setIfInBounds_toArray, List.set_cons_zero, List.set_cons_succ]
                  refine wpAnyH_ready (rs := [20]) (by kernel_rfl) (by simp) ?_
                  refine AllReadyH.cons (by simp only [List.getElem?_toArray, List.getElem?_cons_zero, List.getElem?_cons_succ]; rfl) (fun K hK => ?_) AllReadyH.nil
                  go_simp
                  have hS := (‹Below _ wa _ ∧ _›).1
                  have LN := hid ((LZ.out.set 0 (.bool rv.there)).set 1 (.string rv.bytes))
                  first
                    | (have hS' := KS21.out ((w5.setCell ⟨b6, 0, none⟩ (.bool rv.there)).setCell ⟨b6, 1, none⟩ (.string rv.bytes)) ((hS.setCell HBN.out _).setCell HBN.out _); generalize (w5.setCell ⟨b6, 0, none⟩ (.bool rv.there)).setCell ⟨b6, 1, none⟩ (.string rv.bytes) = wz at *; have LN2 : Hid (Loc wz b6 39 (List.set (List.set [.bool false, .string ⟨#[]⟩] 0 (.bool rv.there)) 1 (.string rv.bytes))) := by with_reducible exact LN)
                    | (have hS' := KS21.out ((w6.setCell ⟨b6, 0, none⟩ (.bool rv.there)).setCell ⟨b6, 1, none⟩ (.string rv.bytes)) ((hS.setCell HBN.out _).setCell HBN.out _); generalize (w6.setCell ⟨b6, 0, none⟩ (.bool rv.there)).setCell ⟨b6, 1, none⟩ (.string rv.bytes) = wz at *; have LN2 : Hid (Loc wz b6 39 (List.set (List.set [.bool false, .string ⟨#[]⟩] 0 (.bool rv.there)) 1 (.string rv.bytes))) := by with_reducible exact LN)
                  clear hS
                  try go_wp2_with fail
                  refine hK.out _ _ ?_ (fun hH3 => ?_)
                  · (try dsimp only); (first | assumption | exact KS21.out _ (Below.refl wa.heap.size wa).drew)
                  clear hK K hH2
                  try simp only [Act.put, List.setIfInBounds_toArray, List.set_cons_zero, List.set_cons_succ]
                  refine wpAnyH_take (i := 21) (v := ?_) (by simp only [List.getElem?_toArray, List.getElem?_cons_zero, List.getElem?_cons_succ]; rfl) (by kernel_rfl) (by kernel_rfl) (by kernel_rfl) (fun _ _ _ h => h) (Or.inl ⟨by rfl, ?_⟩) (by assumption) ?_
                  rotate_left
                  · intro w hSw; (try dsimp only at hSw); go_simp; (try with_reducible rfl)
                  try simp only [Act.put, List.setIfInBounds_toArray, List.set_cons_zero, List.set_cons_succ]
                  refine wpAnyH_done (by kernel_rfl) ?_ _
                  refine NoPanic.normal ?_
                  exact HJ21 b6 wz ⟨(‹Below _ wa wz ∧ _›).1, LN2.out⟩
                refine AllReadyH.cons (by simp only [List.getElem?_toArray, List.getElem?_cons_zero, List.getElem?_cons_succ]; rfl) (fun K hK => ?_) AllReadyH.nil
                go_simp
                have hS := (‹Below _ wa _ ∧ _›).1
                first
                  | (have LZ : Hid (Loc (w5.alloc (.cells #[.bool false, .string ⟨#[]⟩] 39)) w5.heap.size 39 [.bool false, .string ⟨#[]⟩]) := hid (Loc.new w5 39 [.bool false, .string ⟨#[]⟩]); have HBN := hid hS.size; have hS' := KS21.out (w5.alloc (.cells #[.bool false, .string ⟨#[]⟩] 39)) (hS.alloc hS.size _); clear hS; generalize w5.alloc (.cells #[.bool false, .string ⟨#[]⟩] 39) = w6 at *; generalize w5.heap.size = b6 at *; obtain ⟨u0, u1, f0, f1⟩ := LZ.out.two; have lz := LZ.out.lt)
                  | (have LZ : Hid (Loc (wa.alloc (.cells #[.bool false, .string ⟨#[]⟩] 39)).drew wa.heap.size 39 [.bool false, .string ⟨#[]⟩]) := hid (Loc.new wa 39 [.bool false, .string ⟨#[]⟩]); have HBN := hid (Nat.le_refl wa.heap.size); have hS' := KS21.out (wa.alloc (.cells #[.bool false, .string ⟨#[]⟩] 39)).drew (((Below.refl wa.heap.size wa).alloc (Nat.le_refl _) _).drew); clear hS; generalize (wa.alloc (.cells #[.bool false, .string ⟨#[]⟩] 39)).drew = w6 at *; generalize hb6 : wa.heap.size = b6 at *; have HB6 := hid hb6; clear hb6; obtain ⟨u0, u1, f0, f1⟩ := LZ.out.two; have lz := LZ.out.lt)
                try go_wp2_with fail
                refine hK.out _ _ ?_ (fun hH4 => ?_)
                · (try dsimp only); (first | assumption | exact KS21.out _ (Below.refl wa.heap.size wa).drew)
                clear hK K hH0
                try simp only [Act.put, List.setIfInBounds_toArray, List.set_cons_zero, List.set_cons_succ]
                refine wpAnyH_ready (rs := [15]) (by kernel_rfl) (by simp) ?_
                refine AllReadyH.cons (by simp only [List.getElem?_toArray, List.getElem?_cons_zero, List.getElem?_cons_succ]; rfl) (fun K hK => ?_) AllReadyH.nil
                go_simp
                go_at_call 54
                have hS := (‹Below _ wa _ ∧ _›).1
                (with_reducible refine (RD21.out _ hS).mono ?_)
                rintro e w5 ⟨rfl, hb5⟩
                have hS' := KS21.out _ (hS.trans (hb5.mono (by first | exact hS.size | (have h1 := hS.size; have h2 := HB6.out; omega))))
                try (have hLZ := LZ.out.keep hb5; clear LZ u0 u1 f0 f1 lz; have LZ := hid hLZ; clear hLZ; obtain ⟨u0, u1, f0, f1⟩ := LZ.out.two; have lz := LZ.out.lt)
                clear hb5 hS
                try go_wp2_with fail
                refine hK.out _ _ ?_ (fun hH5 => ?_)
                · (try dsimp only); (first | assumption | exact KS21.out _ (Below.refl wa.heap.size wa).drew)
                clear hK K hH4
                try simp only [Act.put, List.setIfInBounds_toArray, List.set_cons_zero, List.set_cons_succ]
                refine wpAnyH_take (i := 16) (v := ?_) (by simp only [List.getElem?_toArray, List.getElem?_cons_zero, List.getElem?_cons_succ]; rfl) (by kernel_rfl) (by kernel_rfl) (by kernel_rfl) (fun _ _ _ h => h) (Or.inl ⟨by rfl, ?_⟩) (by assumption) ?_
                rotate_left
                · intro w hSw; (try dsimp only at hSw); go_simp; (try with_reducible rfl)
                try simp only [Act.put, List.setIfInBounds_toArray, List.set_cons_zero, List.set_cons_succ]
                refine wpAnyH_take (i := 17) (v := ?_) (by simp only [List.getElem?_toArray, List.getElem?_cons_zero, List.getElem?_cons_succ]; rfl) (by kernel_rfl) (by kernel_rfl) (by kernel_rfl) (fun _ _ _ h => h) (Or.inl ⟨by rfl, ?_⟩) (by assumption) ?_
                rotate_left
                · intro w hSw; (try dsimp only at hSw); go_simp; (try with_reducible rfl)
                try simp only [Act.put, List.setIfInBounds_toArray, List.set_cons_zero, List.set_cons_succ]
                refine wpAnyH_take (i := 18) (v := ?_) (by simp only [List.getElem?_toArray, List.getElem?_cons_zero, List.getElem?_cons_succ]; rfl) (by kernel_rfl) (by kernel_rfl) (by kernel_rfl) (fun _ _ _ h => h) (Or.inl ⟨by rfl, ?_⟩) (by assumption) ?_
                rotate_left
                · intro w hSw; (try dsimp only at hSw); go_simp; (try with_reducible rfl)
                try simp only [Act.put, List.setIfInBounds_toArray, List.set_cons_zero, List.set_cons_succ]
                refine wpAnyH_ready (rs := [20]) (by kernel_rfl) (by simp) ?_
                refine AllReadyH.cons (by simp only [List.getElem?_toArray, List.getElem?_cons_zero, List.getElem?_cons_succ]; rfl) (fun K hK => ?_) AllReadyH.nil
                go_simp
                have hS := (‹Below _ wa _ ∧ _›).1
                have LN := hid ((LZ.out.set 0 (.bool rv.there)).set 1 (.string rv.bytes))
                first
                  | (have hS' := KS21.out ((w5.setCell ⟨b6, 0, none⟩ (.bool rv.there)).setCell ⟨b6, 1, none⟩ (.string rv.bytes)) ((hS.setCell HBN.out _).setCell HBN.out _); generalize (w5.setCell ⟨b6, 0, none⟩ (.bool rv.there)).setCell ⟨b6, 1, none⟩ (.string rv.bytes) = wz at *; have LN2 : Hid (Loc wz b6 39 (List.set (List.set [.bool false, .string ⟨#[]⟩] 0 (.bool rv.there)) 1 (.string rv.bytes))) := by with_reducible exact LN)
                  | (have hS' := KS21.out ((w6.setCell ⟨b6, 0, none⟩ (.bool rv.there)).setCell ⟨b6, 1, none⟩ (.string rv.bytes)) ((hS.setCell HBN.out _).setCell HBN.out _); generalize (w6.setCell ⟨b6, 0, none⟩ (.bool rv.there)).setCell ⟨b6, 1, none⟩ (.string rv.bytes) = wz at *; have LN2 : Hid (Loc wz b6 39 (List.set (List.set [.bool false, .string ⟨#[]⟩] 0 (.bool rv.there)) 1 (.string rv.bytes))) := by with_reducible exact LN)
                clear hS
                try go_wp2_with fail
                refine hK.out _ _ ?_ (fun hH6 => ?_)
                · (try dsimp only); (first | assumption | exact KS21.out _ (Below.refl wa.heap.size wa).drew)
                clear hK K hH5
                try simp only [Act.put, List.setIfInBounds_toArray, List.set_cons_zero, List.set_cons_succ]
                refine wpAnyH_take (i := 21) (v := ?_) (by simp only [List.getElem?_toArray, List.getElem?_cons_zero, List.getElem?_cons_succ]; rfl) (by kernel_rfl) (by kernel_rfl) (by kernel_rfl) (fun _ _ _ h => h) (Or.inl ⟨by rfl, ?_⟩) (by assumption) ?_
                rotate_left
                · intro w hSw; (try dsimp only at hSw); go_simp; (try with_reducible rfl)
                try simp only [Act.put, List.setIfInBounds_toArray, List.set_cons_zero, List.set_cons_succ]
                refine wpAnyH_done (by kernel_rfl) ?_ _
                refine NoPanic.normal ?_
                exact HJ21 b6 wz ⟨(‹Below _ wa wz ∧ _›).1, LN2.out⟩
                -- END 21
              · skip
                obtain ⟨hb21, hL21⟩ := hS21
                have KS22 := hid (fun W (hb : Below wn21.heap.size wn21 W) => (⟨hb, (KS21.out W (hb21.trans (hb.mono hb21.size))).2⟩ : Below wn21.heap.size wn21 W ∧ W.cell? ⟨h, 0, none⟩ = some (.pointer (some ⟨vp3, 0, none⟩)) ∧ W.cell? ⟨vp3, 0, none⟩ = some (.pointer (some ⟨t3, 0, none⟩)) ∧ W.cell? ⟨c, 0, none⟩ = some (.pointer (some ⟨s3, 0, none⟩)) ∧ W.cell? ⟨s3, 8, none⟩ = some (.int .i64 Y2.v.tab.last)))
                have RD22 := hid (fun W (hb : Below wn21.heap.size wn21 W) => SR.out W (hb21.trans (hb.mono hb21.size)))
                have HB21 := hid hb21
                have HL21 := hid hL21
                clear hb21 hL21
                go_wp2_with fail
                refine' join2 (fun (b : Nat) W => Below wn21.heap.size wn21 W ∧ Loc W b 39 [.bool rv.there, .string rv.bytes]) _ (fun HJ22 => ?_) (fun bn22 wn22 hS22 => ?_)
                rotate_left
                · skip
                  -- REGION 22
                  refine wp_region_noPanic ?_
                  refine wp_region_held_drew (S := (fun W' : World => Below wn21.heap.size wn21 W' ∧ W'.cell? ⟨h, 0, none⟩ = some (.pointer (some ⟨vp3, 0, none⟩)) ∧ W'.cell? ⟨vp3, 0, none⟩ = some (.pointer (some ⟨t3, 0, none⟩)) ∧ W'.cell? ⟨c, 0, none⟩ = some (.pointer (some ⟨s3, 0, none⟩)) ∧ W'.cell? ⟨s3, 8, none⟩ = some (.int .i64 Y2.v.tab.last))) (by kernel_rfl) ?_ (fun hH0 => ?_)
                  · (try dsimp only); (first | assumption | exact KS22.out _ (Below.refl wn21.heap.size wn21).drew)
                  refine wpAnyH_take (i := 0) (v := ?_) (by simp only [List.getElem?_toArray, List.getElem?_cons_zero]; rfl) (by kernel_rfl) (by kernel_rfl) (by kernel_rfl) (fun _ _ _ h => h) (Or.inl ⟨by rfl, ?_⟩) (by assumption) ?_
                  rotate_left
                  · intro w hSw; (try dsimp only at hSw); go_simp; (try with_reducible rfl)
                  try simp only [Act.put, List.setIfInBounds_toArray, List.set_cons_zero, List.set_cons_succ]
                  refine wpAnyH_take (i := 1) (v := ?_) (by simp only [List.getElem?_toArray, List.getElem?_cons_zero, List.getElem?_cons_succ]; rfl) (by kernel_rfl) (by kernel_rfl) (by kernel_rfl) (fun _ _ _ h => h) (Or.inl ⟨by rfl, ?_⟩) (by assumption) ?_
                  rotate_left
                  · intro w hSw; (try dsimp only at hSw); go_simp; (try with_reducible rfl)
                  try simp only [Act.put, List.setIfInBounds_toArray, List.set_cons_zero, List.set_cons_succ]
                  refine wpAnyH_take (i := 2) (v := ?_) (by simp only [List.getElem?_toArray, List.getElem?_cons_zero, List.getElem?_cons_succ]; rfl) (by kernel_rfl) (by kernel_rfl) (by kernel_rfl) (fun _ _ _ h => h) (Or.inl ⟨by rfl, ?_⟩) (by assumption) ?_
                  rotate_left
                  · intro w hSw; (try dsimp only at hSw); go_simp; (try with_reducible rfl)
                  try simp only [Act.put, List.setIfInBounds_toArray, List.set_cons_zero, List.set_cons_succ]
                  refine wpAnyH_take (i := 3) (v := ?_) (by simp only [List.getElem?_toArray, List.getElem?_cons_zero, List.getElem?_cons_succ]; rfl) (by kernel_rfl) (by kernel_rfl) (by kernel_rfl) (fun _ _ _ h => h) (Or.inl ⟨by rfl, ?_⟩) (by assumption) ?_
                  rotate_left
                  · intro w hSw; (try dsimp only at hSw); go_simp; (try with_reducible rfl)
                  try simp only [Act.put, List.setIfInBounds_toArray, List.set_cons_zero, List.set_cons_succ]
                  refine wpAnyH_take (i := 4) (v := ?_) (by simp only [List.getElem?_toArray, List.getElem?_cons_zero, List.getElem?_cons_succ]; rfl) (by kernel_rfl) (by kernel_rfl) (by kernel_rfl) (fun _ _ _ h => h) (Or.inl ⟨by rfl, ?_⟩) (by assumption) ?_
                  rotate_left
                  · intro w hSw; (try dsimp only at hSw); go_simp; (try with_reducible rfl)
                  try simp only [Act.put, List.setIfInBounds_toArray, List.set_cons_zero, List.set_cons_succ]
                  refine wpAnyH_take (i := 5) (v := ?_) (by simp only [List.getElem?_toArray, List.getElem?_cons_zero, List.getElem?_cons_succ]; rfl) (by kernel_rfl) (by kernel_rfl) (by kernel_rfl) (fun _ _ _ h => h) (Or.inl ⟨by rfl, ?_⟩) (by assumption) ?_
                  rotate_left
                  · intro w hSw; (try dsimp only at hSw); go_simp; (try with_reducible rfl)
                  try simp only [Act.put, List.setIfInBounds_toArray, List.set_cons_zero, List.set_cons_succ]
                  refine wpAnyH_take (i := 6) (v := ?_) (by simp only [List.getElem?_toArray, List.getElem?_cons_zero, List.getElem?_cons_succ]; rfl) (by kernel_rfl) (by kernel_rfl) (by kernel_rfl) (fun _ _ _ h => h) (Or.inl ⟨by rfl, ?_⟩) (by assumption) ?_
                  rotate_left
                  · intro w hSw; (try dsimp only at hSw); go_simp; (try with_reducible rfl)
                  try simp only [Act.put, List.setIfInBounds_toArray, List.set_cons_zero, List.set_cons_succ]
                  refine wpAnyH_take (i := 7) (v := ?_) (by simp only [List.getElem?_toArray, List.getElem?_cons_zero, List.getElem?_cons_succ]; rfl) (by kernel_rfl) (by kernel_rfl) (by kernel_rfl) (fun _ _ _ h => h) (Or.inl ⟨by rfl, ?_⟩) (by assumption) ?_
                  rotate_left
                  · intro w hSw; (try dsimp only at hSw); go_simp; (try with_reducible rfl)
                  try simp only [Act.put, List.setIfInBounds_toArray, List.set_cons_zero, List.set_cons_succ]
                  refine wpAnyH_take (i := 8) (v := ?_) (by simp only [List.getElem?_toArray, List.getElem?_cons_zero, List.getElem?_cons_succ]; rfl) (by kernel_rfl) (by kernel_rfl) (by kernel_rfl) (fun _ _ _ h => h) (Or.inl ⟨by rfl, ?_⟩) (by assumption) ?_
                  rotate_left
                  · intro w hSw; (try dsimp only at hSw); go_simp; (try with_reducible rfl)
                  try simp only [Act.put, List.setIfInBounds_toArray, List.set_cons_zero, List.set_cons_succ]
                  refine wpAnyH_take (i := 9) (v := ?_) (by simp only [List.getElem?_toArray, List.getElem?_cons_zero, List.getElem?_cons_succ]; rfl) (by kernel_rfl) (by kernel_rfl) (by kernel_rfl) (fun _ _ _ h => h) (Or.inl ⟨by rfl, ?_⟩) (by assumption) ?_
                  rotate_left
                  · intro w hSw; (try dsimp only at hSw); go_simp; (try with_reducible rfl)
                  try simp only [Act.put, List.setIfInBounds_toArray, List.set_cons_zero, List.set_cons_succ]
                  refine wpAnyH_take (i := 10) (v := ?_) (by simp only [List.getElem?_toArray, List.getElem?_cons_zero, List.getElem?_cons_succ]; rfl) (by kernel_rfl) (by kernel_rfl) (by kernel_rfl) (fun _ _ _ h => h) (Or.inl ⟨by rfl, ?_⟩) (by assumption) ?_
                  rotate_left
                  · intro w hSw; (try dsimp only at hSw); go_simp; (try with_reducible rfl)
                  try simp only [Act.put, List.setIfInBounds_toArray, List.set_cons_zero, List.set_cons_succ]
                  refine wpAnyH_take (i := 11) (v := ?_) (by simp only [List.getElem?_toArray, List.getElem?_cons_zero, List.getElem?_cons_succ]; rfl) (by kernel_rfl) (by kernel_rfl) (by kernel_rfl) (fun _ _ _ h => h) (Or.inl ⟨by rfl, ?_⟩) (by assumption) ?_
                  rotate_left
                  · intro w hSw; (try dsimp only at hSw); go_simp; (try with_reducible rfl)
                  try simp only [Act.put, List.setIfInBounds_toArray, List.set_cons_zero, List.set_cons_succ]
                  refine wpAnyH_ready (rs := [12, 16]) (by kernel_rfl) (by simp) ?_
                  refine AllReadyH.cons (by simp only [List.getElem?_toArray, List.getElem?_cons_zero, List.getElem?_cons_succ]; rfl) (fun K hK => ?_) ?_
                  · skip
                    go_simp
                    go_at_call 72
                    have hS := (‹Below _ wn21 _ ∧ _›).1
                    (with_reducible refine (RD22.out _ hS).mono ?_)
                    rintro e w5 ⟨rfl, hb5⟩
                    have hS' := KS22.out _ (hS.trans (hb5.mono (by first | exact hS.size | (have h1 := hS.size; have h2 := HB6.out; omega))))
                    try (have hLZ := LZ.out.keep hb5; clear LZ u0 u1 f0 f1 lz; have LZ := hid hLZ; clear hLZ; obtain ⟨u0, u1, f0, f1⟩ := LZ.out.two; have lz := LZ.out.lt)
                    clear hb5 hS
                    try go_wp2_with fail
                    refine hK.out _ _ ?_ (fun hH1 => ?_)
                    · (try dsimp only); (first | assumption | exact KS22.out _ (Below.refl wn21.heap.size wn21).drew)
                    clear hK K hH0
                    try simp only [Act.put, List.setIfInBounds_toArray, List.set_cons_zero, List.set_cons_succ]
                    refine wpAnyH_take (i := 13) (v := ?_) (by simp only [List.getElem?_toArray, List.getElem?_cons_zero, List.getElem?_cons_succ]; rfl) (by kernel_rfl) (by kernel_rfl) (by kernel_rfl) (fun _ _ _ h => h) (Or.inl ⟨by rfl, ?_⟩) (by assumption) ?_
                    rotate_left
                    · intro w hSw; (try dsimp only at hSw); go_simp; (try with_reducible rfl)
                    try simp only [Act.put, List.setIfInBounds_toArray, List.set_cons_zero, List.set_cons_succ]
                    refine wpAnyH_take (i := 14) (v := ?_) (by simp only [List.getElem?_toArray, List.getElem?_cons_zero, List.getElem?_cons_succ]; rfl) (by kernel_rfl) (by kernel_rfl) (by kernel_rfl) (fun _ _ _ h => h) (Or.inl ⟨by rfl, ?_⟩) (by assumption) ?_
                    rotate_left
                    · intro w hSw; (try dsimp only at hSw); go_simp; (try with_reducible rfl)
                    try simp only [Act.put, List.setIfInBounds_toArray, List.set_cons_zero, List.set_cons_succ]
                    refine wpAnyH_take (i := 15) (v := ?_) (by simp only [List.getElem?_toArray, List.getElem?_cons_zero, List.getElem?_cons_succ]; rfl) (by kernel_rfl) (by kernel_rfl) (by kernel_rfl) (fun _ _ _ h => h) (Or.inl ⟨by rfl, ?_⟩) (by assumption) ?_
                    rotate_left
                    · intro w hSw; (try dsimp only at hSw); go_simp; (try with_reducible rfl)
                    try simp only [Act.put, List.setIfInBounds_toArray, List.set_cons_zero, List.set_cons_succ]
                    refine wpAnyH_ready (rs := [16]) (by kernel_rfl) (by simp) ?_
                    refine AllReadyH.cons (by simp only [List.getElem?_toArray, List.getElem?_cons_zero, List.getElem?_cons_succ]; rfl) (fun K hK => ?_) AllReadyH.nil
                    go_simp
                    have hS := (‹Below _ wn21 _ ∧ _›).1
                    first
                      | (have LZ : Hid (Loc (w5.alloc (.cells #[.bool false, .string ⟨#[]⟩] 39)) w5.heap.size 39 [.bool false, .string ⟨#[]⟩]) := hid (Loc.new w5 39 [.bool false, .string ⟨#[]⟩]); have HBN := hid hS.size; have hS' := KS22.out (w5.alloc (.cells #[.bool false, .string ⟨#[]⟩] 39)) (hS.alloc hS.size _); clear hS; generalize w5.alloc (.cells #[.bool false, .string ⟨#[]⟩] 39) = w6 at *; generalize w5.heap.size = b6 at *; obtain ⟨u0, u1, f0, f1⟩ := LZ.out.two; have lz := LZ.out.lt)
                      | (have LZ : Hid (Loc (wn21.alloc (.cells #[.bool false, .string ⟨#[]⟩] 39)).drew wn21.heap.size 39 [.bool false, .string ⟨#[]⟩]) := hid (Loc.new wn21 39 [.bool false, .string ⟨#[]⟩]); have HBN := hid (Nat.le_refl wn21.heap.size); have hS' := KS22.out (wn21.alloc (.cells #[.bool false, .string ⟨#[]⟩] 39)).drew (((Below.refl wn21.heap.size wn21).alloc (Nat.le_refl _) _).drew); clear hS; generalize (wn21.alloc (.cells #[.bool false, .string ⟨#[]⟩] 39)).drew = w6 at *; generalize hb6 : wn21.heap.size = b6 at *; have HB6 := hid hb6; clear hb6; obtain ⟨u0, u1, f0, f1⟩ := LZ.out.two; have lz := LZ.out.lt)
                    try go_wp2_with fail
                    refine hK.out _ _ ?_ (fun hH2 => ?_)
                    · (try dsimp only); (first | assumption | exact KS22.out _ (Below.refl wn21.heap.size wn21).drew)
                    clear hK K hH1
                    try simp only [Act.put, List.setIfInBounds_toArray, List.set_cons_zero, List.set_cons_succ]
                    refine wpAnyH_ready (rs := [17]) (by kernel_rfl) (by simp) ?_
                    refine AllReadyH.cons (by simp only [List.getElem?_toArray, List.getElem?_cons_zero, List.getElem?_cons_succ]; rfl) (fun K hK => ?_) AllReadyH.nil
                    go_simp
                    have hS := (‹Below _ wn21 _ ∧ _›).1
                    have LN := hid ((LZ.out.set 0 (.bool rv.there)).set 1 (.string rv.bytes))
                    first
                      | (have hS' := KS22.out ((w5.setCell ⟨b6, 0, none⟩ (.bool rv.there)).setCell ⟨b6, 1, none⟩ (.string rv.bytes)) ((hS.setCell HBN.out _).setCell HBN.out _); generalize (w5.setCell ⟨b6, 0, none⟩ (.bool rv.there)).setCell ⟨b6, 1, none⟩ (.string rv.bytes) = wz at *; have LN2 : Hid (Loc wz b6 39 (List.set (List.set [.bool false, .string ⟨#[]⟩] 0 (.bool rv.there)) 1 (.string rv.bytes))) := by with_reducible exact LN)
                      | (have hS' := KS22.out ((w6.setCell ⟨b6, 0, none⟩ (.bool rv.there)).setCell ⟨b6, 1, none⟩ (.string rv.bytes)) ((hS.setCell HBN.out _).setCell HBN.out _); generalize (w6.setCell ⟨b6, 0, none⟩ (.bool rv.there)).setCell ⟨b6, 1, none⟩ (.string rv.bytes) = wz at *; have LN2 : Hid (Loc wz b6 39 (List.set (List.set [.bool false, .string ⟨#[]⟩] 0 (.bool rv.there)) 1 (.string rv.bytes))) := by with_reducible exact LN)
                    clear hS
                    try go_wp2_with fail
                    refine hK.out _ _ ?_ (fun hH3 => ?_)
                    · (try dsimp only); (first | assumption | exact KS22.out _ (Below.refl wn21.heap.size wn21).drew)
                    clear hK K hH2
                    try simp only [Act.put, List.setIfInBounds_toArray, List.set_cons_zero, List.set_cons_succ]
                    refine wpAnyH_take (i := 18) (v := ?_) (by simp only [List.getElem?_toArray, List.getElem?_cons_zero, List.getElem?_cons_succ]; rfl) (by kernel_rfl) (by kernel_rfl) (by kernel_rfl) (fun _ _ _ h => h) (Or.inl ⟨by rfl, ?_⟩) (by assumption) ?_
                    rotate_left
                    · intro w hSw; (try dsimp only at hSw); go_simp; (try with_reducible rfl)
                    try simp only [Act.put, List.setIfInBounds_toArray, List.set_cons_zero, List.set_cons_succ]
                    refine wpAnyH_done (by kernel_rfl) ?_ _
                    refine NoPanic.normal ?_
                    exact HJ22 b6 wz ⟨(‹Below _ wn21 wz ∧ _›).1, LN2.out⟩
                  refine AllReadyH.cons (by simp only [List.getElem?_toArray, List.getElem?_cons_zero, List.getElem?_cons_succ]; rfl) (fun K hK => ?_) AllReadyH.nil
                  go_simp
                  have hS := (‹Below _ wn21 _ ∧ _›).1
                  first
                    | (have LZ : Hid (Loc (w5.alloc (.cells #[.bool false, .string ⟨#[]⟩] 39)) w5.heap.size 39 [.bool false, .string ⟨#[]⟩]) := hid (Loc.new w5 39 [.bool false, .string ⟨#[]⟩]); have HBN := hid hS.size; have hS' := KS22.out (w5.alloc (.cells #[.bool false, .string ⟨#[]⟩] 39)) (hS.alloc hS.size _); clear hS; generalize w5.alloc (.cells #[.bool false, .string ⟨#[]⟩] 39) = w6 at *; generalize w5.heap.size = b6 at *; obtain ⟨u0, u1, f0, f1⟩ := LZ.out.two; have lz := LZ.out.lt)
                    | (have LZ : Hid (Loc (wn21.alloc (.cells #[.bool false, .string ⟨#[]⟩] 39)).drew wn21.heap.size 39 [.bool false, .string ⟨#[]⟩]) := hid (Loc.new wn21 39 [.bool false, .string ⟨#[]⟩]); have HBN := hid (Nat.le_refl wn21.heap.size); have hS' := KS22.out (wn21.alloc (.cells #[.bool false, .string ⟨#[]⟩] 39)).drew (((Below.refl wn21.heap.size wn21).alloc (Nat.le_refl _) _).drew); clear hS; generalize (wn21.alloc (.cells #[.bool false, .string ⟨#[]⟩] 39)).drew = w6 at *; generalize hb6 : wn21.heap.size = b6 at *; have HB6 := hid hb6; clear hb6; obtain ⟨u0, u1, f0, f1⟩ := LZ.out.two; have lz := LZ.out.lt)
                  try go_wp2_with fail
                  refine hK.out _ _ ?_ (fun hH4 => ?_)
                  · (try dsimp only); (first | assumption | exact KS22.out _ (Below.refl wn21.heap.size wn21).drew)
                  clear hK K hH0
                  try simp only [Act.put, List.setIfInBounds_toArray, List.set_cons_zero, List.set_cons_succ]
                  refine wpAnyH_ready (rs := [12]) (by kernel_rfl) (by simp) ?_
                  refine AllReadyH.cons (by simp only [List.getElem?_toArray, List.getElem?_cons_zero, List.getElem?_cons_succ]; rfl) (fun K hK => ?_) AllReadyH.nil
                  go_simp
                  go_at_call 72
                  have hS := (‹Below _ wn21 _ ∧ _›).1
                  (with_reducible refine (RD22.out _ hS).mono ?_)
                  rintro e w5 ⟨rfl, hb5⟩
                  have hS' := KS22.out _ (hS.trans (hb5.mono (by first | exact hS.size | (have h1 := hS.size; have h2 := HB6.out; omega))))
                  try (have hLZ := LZ.out.keep hb5; clear LZ u0 u1 f0 f1 lz; have LZ := hid hLZ; clear hLZ; obtain ⟨u0, u1, f0, f1⟩ := LZ.out.two; have lz := LZ.out.lt)
                  clear hb5 hS
                  try go_wp2_with fail
                  refine hK.out _ _ ?_ (fun hH5 => ?_)
                  · (try dsimp only); (first | assumption | exact KS22.out _ (Below.refl wn21.heap.size wn21).drew)
                  clear hK K hH4
                  try simp only [Act.put, List.setIfInBounds_toArray, List.set_cons_zero, List.set_cons_succ]
                  refine wpAnyH_take (i := 13) (v := ?_) (by simp only [List.getElem?_toArray, List.getElem?_cons_zero, List.getElem?_cons_succ]; rfl) (by kernel_rfl) (by kernel_rfl) (by kernel_rfl) (fun _ _ _ h => h) (Or.inl ⟨by rfl, ?_⟩) (by assumption) ?_
                  rotate_left
                  · intro w hSw; (try dsimp only at hSw); go_simp; (try with_reducible rfl)
                  try simp only [Act.put, List.setIfInBounds_toArray, List.set_cons_zero, List.set_cons_succ]
                  refine wpAnyH_take (i := 14) (v := ?_) (by simp only [List.getElem?_toArray, List.getElem?_cons_zero, List.getElem?_cons_succ]; rfl) (by kernel_rfl) (by kernel_rfl) (by kernel_rfl) (fun _ _ _ h => h) (Or.inl ⟨by rfl, ?_⟩) (by assumption) ?_
                  rotate_left
                  · intro w hSw; (try dsimp only at hSw); go_simp; (try with_reducible rfl)
                  try simp only [Act.put, List.setIfInBounds_toArray, List.set_cons_zero, List.set_cons_succ]
                  refine wpAnyH_take (i := 15) (v := ?_) (by simp only [List.getElem?_toArray, List.getElem?_cons_zero, List.getElem?_cons_succ]; rfl) (by kernel_rfl) (by kernel_rfl) (by kernel_rfl) (fun _ _ _ h => h) (Or.inl ⟨by rfl, ?_⟩) (by assumption) ?_
                  rotate_left
                  · intro w hSw; (try dsimp only at hSw); go_simp; (try with_reducible rfl)
                  try simp only [Act.put, List.setIfInBounds_toArray, List.set_cons_zero, List.set_cons_succ]
                  refine wpAnyH_ready (rs := [17]) (by kernel_rfl) (by simp) ?_
                  refine AllReadyH.cons (by simp only [List.getElem?_toArray, List.getElem?_cons_zero, List.getElem?_cons_succ]; rfl) (fun K hK => ?_) AllReadyH.nil
                  go_simp
                  have hS := (‹Below _ wn21 _ ∧ _›).1
                  have LN := hid ((LZ.out.set 0 (.bool rv.there)).set 1 (.string rv.bytes))
                  first
                    | (have hS' := KS22.out ((w5.setCell ⟨b6, 0, none⟩ (.bool rv.there)).setCell ⟨b6, 1, none⟩ (.string rv.bytes)) ((hS.setCell HBN.out _).setCell HBN.out _); generalize (w5.setCell ⟨b6, 0, none⟩ (.bool rv.there)).setCell ⟨b6, 1, none⟩ (.string rv.bytes) = wz at *; have LN2 : Hid (Loc wz b6 39 (List.set (List.set [.bool false, .string ⟨#[]⟩] 0 (.bool rv.there)) 1 (.string rv.bytes))) := by with_reducible exact LN)
                    | (have hS' := KS22.out ((w6.setCell ⟨b6, 0, none⟩ (.bool rv.there)).setCell ⟨b6, 1, none⟩ (.string rv.bytes)) ((hS.setCell HBN.out _).setCell HBN.out _); generalize (w6.setCell ⟨b6, 0, none⟩ (.bool rv.there)).setCell ⟨b6, 1, none⟩ (.string rv.bytes) = wz at *; have LN2 : Hid (Loc wz b6 39 (List.set (List.set [.bool false, .string ⟨#[]⟩] 0 (.bool rv.there)) 1 (.string rv.bytes))) := by with_reducible exact LN)
                  clear hS
                  try go_wp2_with fail
                  refine hK.out _ _ ?_ (fun hH6 => ?_)
                  · (try dsimp only); (first | assumption | exact KS22.out _ (Below.refl wn21.heap.size wn21).drew)
                  clear hK K hH5
                  try simp only [Act.put, List.setIfInBounds_toArray, List.set_cons_zero, List.set_cons_succ]
                  refine wpAnyH_take (i := 18) (v := ?_) (by simp only [List.getElem?_toArray, List.getElem?_cons_zero, List.getElem?_cons_succ]; rfl) (by kernel_rfl) (by kernel_rfl) (by kernel_rfl) (fun _ _ _ h => h) (Or.inl ⟨by rfl, ?_⟩) (by assumption) ?_
                  rotate_left
                  · intro w hSw; (try dsimp only at hSw); go_simp; (try with_reducible rfl)
                  try simp only [Act.put, List.setIfInBounds_toArray, List.set_cons_zero, List.set_cons_succ]
                  refine wpAnyH_done (by kernel_rfl) ?_ _
                  refine NoPanic.normal ?_
                  exact HJ22 b6 wz ⟨(‹Below _ wn21 wz ∧ _›).1, LN2.out⟩
                  -- END 22
                · skip
                  obtain ⟨hb22, hL22⟩ := hS22
                  have HB22 := hid (HB21.out.trans (hb22.mono HB21.out.size))
                  have HL22 := hid hL22
                  have HL21b := hid (HL21.out.keep hb22)
                  have KS23 := hid (fun W (hb : Below wn22.heap.size wn22 W) => (⟨hb, ((KS22.out W (hb22.trans (hb.mono hb22.size))).2.1), ((KS22.out W (hb22.trans (hb.mono hb22.size))).2.2.1), ((KS22.out W (hb22.trans (hb.mono hb22.size))).2.2.2.1), ((KS22.out W (hb22.trans (hb.mono hb22.size))).2.2.2.2), (HL21b.out.keep hb).cell 0, (HL21b.out.keep hb).cell 1, (HL22.out.keep hb).cell 0, (HL22.out.keep hb).cell 1⟩ : Below wn22.heap.size wn22 W ∧ W.cell? ⟨h, 0, none⟩ = some (.pointer (some ⟨vp3, 0, none⟩)) ∧ W.cell? ⟨vp3, 0, none⟩ = some (.pointer (some ⟨t3, 0, none⟩)) ∧ W.cell? ⟨c, 0, none⟩ = some (.pointer (some ⟨s3, 0, none⟩)) ∧ W.cell? ⟨s3, 8, none⟩ = some (.int .i64 Y2.v.tab.last) ∧ W.cell? ⟨bn21, 0, none⟩ = some (.bool rv.there) ∧ W.cell? ⟨bn21, 1, none⟩ = some (.string rv.bytes) ∧ W.cell? ⟨bn22, 0, none⟩ = some (.bool rv.there) ∧ W.cell? ⟨bn22, 1, none⟩ = some (.string rv.bytes)))
                  have TS23 := hid (fun W (hb : Below wn22.heap.size wn22 W) => TSI.out W (HB22.out.trans (hb.mono HB22.out.size)))
                  have SS23 := hid (fun W (hb : Below wn22.heap.size wn22 W) => SSI.out W (HB22.out.trans (hb.mono HB22.out.size)))
                  clear hb22 hL22
                  go_wp2_with fail
                  -- REGION 23
                  refine wp_region_noPanic ?_
                  refine wp_region_held_drew (S := (fun W' : World => Below wn22.heap.size wn22 W' ∧ W'.cell? ⟨h, 0, none⟩ = some (.pointer (some ⟨vp3, 0, none⟩)) ∧ W'.cell? ⟨vp3, 0, none⟩ = some (.pointer (some ⟨t3, 0, none⟩)) ∧ W'.cell? ⟨c, 0, none⟩ = some (.pointer (some ⟨s3, 0, none⟩)) ∧ W'.cell? ⟨s3, 8, none⟩ = some (.int .i64 Y2.v.tab.last) ∧ W'.cell? ⟨bn21, 0, none⟩ = some (.bool rv.there) ∧ W'.cell? ⟨bn21, 1, none⟩ = some (.string rv.bytes) ∧ W'.cell? ⟨bn22, 0, none⟩ = some (.bool rv.there) ∧ W'.cell? ⟨bn22, 1, none⟩ = some (.string rv.bytes))) (by kernel_rfl) ?_ (fun hH0 => ?_)
                  · (try dsimp only); (first | assumption | exact KS23.out _ (Below.refl wn22.heap.size wn22).drew)
                  refine wpAnyH_take (i := 0) (v := ?_) (by simp only [List.getElem?_toArray, List.getElem?_cons_zero]; rfl) (by kernel_rfl) (by kernel_rfl) (by kernel_rfl) (fun _ _ _ h => h) (Or.inl ⟨by rfl, ?_⟩) (by assumption) ?_
                  rotate_left
                  · intro w hSw; (try dsimp only at hSw); go_simp; (try with_reducible rfl)
                  try simp only [Act.put, List.setIfInBounds_toArray, List.set_cons_zero, List.set_cons_succ]
                  refine wpAnyH_take (i := 1) (v := ?_) (by simp only [List.getElem?_toArray, List.getElem?_cons_zero, List.getElem?_cons_succ]; rfl) (by kernel_rfl) (by kernel_rfl) (by kernel_rfl) (fun _ _ _ h => h) (Or.inl ⟨by rfl, ?_⟩) (by assumption) ?_
                  rotate_left
                  · intro w hSw; (try dsimp only at hSw); go_simp; (try with_reducible rfl)
                  try simp only [Act.put, List.setIfInBounds_toArray, List.set_cons_zero, List.set_cons_succ]
                  refine wpAnyH_take (i := 2) (v := ?_) (by simp only [List.getElem?_toArray, List.getElem?_cons_zero, List.getElem?_cons_succ]; rfl) (by kernel_rfl) (by kernel_rfl) (by kernel_rfl) (fun _ _ _ h => h) (Or.inl ⟨by rfl, ?_⟩) (by assumption) ?_
                  rotate_left
                  · intro w hSw; (try dsimp only at hSw); go_simp; (try with_reducible rfl)
                  try simp only [Act.put, List.setIfInBounds_toArray, List.set_cons_zero, List.set_cons_succ]
                  refine wpAnyH_take (i := 3) (v := ?_) (by simp only [List.getElem?_toArray, List.getElem?_cons_zero, List.getElem?_cons_succ]; rfl) (by kernel_rfl) (by kernel_rfl) (by kernel_rfl) (fun _ _ _ h => h) (Or.inl ⟨by rfl, ?_⟩) (by assumption) ?_
                  rotate_left
                  · intro w hSw; (try dsimp only at hSw); go_simp; (try with_reducible rfl)
                  try simp only [Act.put, List.setIfInBounds_toArray, List.set_cons_zero, List.set_cons_succ]
                  refine wpAnyH_take (i := 4) (v := ?_) (by simp only [List.getElem?_toArray, List.getElem?_cons_zero, List.getElem?_cons_succ]; rfl) (by kernel_rfl) (by kernel_rfl) (by kernel_rfl) (fun _ _ _ h => h) (Or.inl ⟨by rfl, ?_⟩) (by assumption) ?_
                  rotate_left
                  · intro w hSw; (try dsimp only at hSw); go_simp; (try with_reducible rfl)
                  try simp only [Act.put, List.setIfInBounds_toArray, List.set_cons_zero, List.set_cons_succ]
                  refine wpAnyH_take (i := 5) (v := ?_) (by simp only [List.getElem?_toArray, List.getElem?_cons_zero, List.getElem?_cons_succ]; rfl) (by kernel_rfl) (by kernel_rfl) (by kernel_rfl) (fun _ _ _ h => h) (Or.inl ⟨by rfl, ?_⟩) (by assumption) ?_
                  rotate_left
                  · intro w hSw; (try dsimp only at hSw); go_simp; (try with_reducible rfl)
                  try simp only [Act.put, List.setIfInBounds_toArray, List.set_cons_zero, List.set_cons_succ]
                  refine wpAnyH_take (i := 6) (v := ?_) (by simp only [List.getElem?_toArray, List.getElem?_cons_zero, List.getElem?_cons_succ]; rfl) (by kernel_rfl) (by kernel_rfl) (by kernel_rfl) (fun _ _ _ h => h) (Or.inl ⟨by rfl, ?_⟩) (by assumption) ?_
                  rotate_left
                  · intro w hSw; (try dsimp only at hSw); go_simp; (try with_reducible rfl)
                  try simp only [Act.put, List.setIfInBounds_toArray, List.set_cons_zero, List.set_cons_succ]
                  refine wpAnyH_take (i := 7) (v := ?_) (by simp only [List.getElem?_toArray, List.getElem?_cons_zero, List.getElem?_cons_succ]; rfl) (by kernel_rfl) (by kernel_rfl) (by kernel_rfl) (fun _ _ _ h => h) (Or.inl ⟨by rfl, ?_⟩) (by assumption) ?_
                  rotate_left
                  · intro w hSw; (try dsimp only at hSw); go_simp; (try with_reducible rfl)
                  try simp only [Act.put, List.setIfInBounds_toArray, List.set_cons_zero, List.set_cons_succ]
                  refine wpAnyH_take (i := 8) (v := ?_) (by simp only [List.getElem?_toArray, List.getElem?_cons_zero, List.getElem?_cons_succ]; rfl) (by kernel_rfl) (by kernel_rfl) (by kernel_rfl) (fun _ _ _ h => h) (Or.inl ⟨by rfl, ?_⟩) (by assumption) ?_
                  rotate_left
                  · intro w hSw; (try dsimp only at hSw); go_simp; (try with_reducible rfl)
                  try simp only [Act.put, List.setIfInBounds_toArray, List.set_cons_zero, List.set_cons_succ]
                  refine wpAnyH_take (i := 9) (v := ?_) (by simp only [List.getElem?_toArray, List.getElem?_cons_zero, List.getElem?_cons_succ]; rfl) (by kernel_rfl) (by kernel_rfl) (by kernel_rfl) (fun _ _ _ h => h) (Or.inl ⟨by rfl, ?_⟩) (by assumption) ?_
                  rotate_left
                  · intro w hSw; (try dsimp only at hSw); go_simp; (try with_reducible rfl)
                  try simp only [Act.put, List.setIfInBounds_toArray, List.set_cons_zero, List.set_cons_succ]
                  refine wpAnyH_take (i := 10) (v := ?_) (by simp only [List.getElem?_toArray, List.getElem?_cons_zero, List.getElem?_cons_succ]; rfl) (by kernel_rfl) (by kernel_rfl) (by kernel_rfl) (fun _ _ _ h => h) (Or.inl ⟨by rfl, ?_⟩) (by assumption) ?_
                  rotate_left
                  · intro w hSw; (try dsimp only at hSw); go_simp; (try with_reducible rfl)
                  try simp only [Act.put, List.setIfInBounds_toArray, List.set_cons_zero, List.set_cons_succ]
                  refine wpAnyH_take (i := 11) (v := ?_) (by simp only [List.getElem?_toArray, List.getElem?_cons_zero, List.getElem?_cons_succ]; rfl) (by kernel_rfl) (by kernel_rfl) (by kernel_rfl) (fun _ _ _ h => h) (Or.inl ⟨by rfl, ?_⟩) (by assumption) ?_
                  rotate_left
                  · intro w hSw; (try dsimp only at hSw); go_simp; (try with_reducible rfl)
                  try simp only [Act.put, List.setIfInBounds_toArray, List.set_cons_zero, List.set_cons_succ]
                  refine wpAnyH_take (i := 12) (v := ?_) (by simp only [List.getElem?_toArray, List.getElem?_cons_zero, List.getElem?_cons_succ]; rfl) (by kernel_rfl) (by kernel_rfl) (by kernel_rfl) (fun _ _ _ h => h) (Or.inl ⟨by rfl, ?_⟩) (by assumption) ?_
                  rotate_left
                  · intro w hSw; (try dsimp only at hSw); go_simp; (try with_reducible rfl)
                  try simp only [Act.put, List.setIfInBounds_toArray, List.set_cons_zero, List.set_cons_succ]
                  refine wpAnyH_take (i := 13) (v := ?_) (by simp only [List.getElem?_toArray, List.getElem?_cons_zero, List.getElem?_cons_succ]; rfl) (by kernel_rfl) (by kernel_rfl) (by kernel_rfl) (fun _ _ _ h => h) (Or.inl ⟨by rfl, ?_⟩) (by assumption) ?_
                  rotate_left
                  · intro w hSw; (try dsimp only at hSw); go_simp; (try with_reducible rfl)
                  try simp only [Act.put, List.setIfInBounds_toArray, List.set_cons_zero, List.set_cons_succ]
                  refine wpAnyH_take (i := 14) (v := ?_) (by simp only [List.getElem?_toArray, List.getElem?_cons_zero, List.getElem?_cons_succ]; rfl) (by kernel_rfl) (by kernel_rfl) (by kernel_rfl) (fun _ _ _ h => h) (Or.inl ⟨by rfl, ?_⟩) (by assumption) ?_
                  rotate_left
                  · intro w hSw; (try dsimp only at hSw); go_simp; (try with_reducible rfl)
                  try simp only [Act.put, List.setIfInBounds_toArray, List.set_cons_zero, List.set_cons_succ]
                  refine wpAnyH_take (i := 15) (v := ?_) (by simp only [List.getElem?_toArray, List.getElem?_cons_zero, List.getElem?_cons_succ]; rfl) (by kernel_rfl) (by kernel_rfl) (by kernel_rfl) (fun _ _ _ h => h) (Or.inl ⟨by rfl, ?_⟩) (by assumption) ?_
                  rotate_left
                  · intro w hSw; (try dsimp only at hSw); go_simp; (try with_reducible rfl)
                  try simp only [Act.put, List.setIfInBounds_toArray, List.set_cons_zero, List.set_cons_succ]
                  refine wpAnyH_take (i := 16) (v := ?_) (by simp only [List.getElem?_toArray, List.getElem?_cons_zero, List.getElem?_cons_succ]; rfl) (by kernel_rfl) (by kernel_rfl) (by kernel_rfl) (fun _ _ _ h => h) (Or.inl ⟨by rfl, ?_⟩) (by assumption) ?_
                  rotate_left
                  · intro w hSw; (try dsimp only at hSw); go_simp; (try with_reducible rfl)
                  try simp only [Act.put, List.setIfInBounds_toArray, List.set_cons_zero, List.set_cons_succ]
                  refine wpAnyH_take (i := 18) (v := ?_) (by simp only [List.getElem?_toArray, List.getElem?_cons_zero, List.getElem?_cons_succ]; rfl) (by kernel_rfl) (by kernel_rfl) (by kernel_rfl) (fun _ _ _ h => h) (Or.inl ⟨by rfl, ?_⟩) (by assumption) ?_
                  rotate_left
                  · intro w hSw; (try dsimp only at hSw); go_simp; (try with_reducible rfl)
                  try simp only [Act.put, List.setIfInBounds_toArray, List.set_cons_zero, List.set_cons_succ]
                  refine wpAnyH_take (i := 19) (v := ?_) (by simp only [List.getElem?_toArray, List.getElem?_cons_zero, List.getElem?_cons_succ]; rfl) (by kernel_rfl) (by kernel_rfl) (by kernel_rfl) (fun _ _ _ h => h) (Or.inl ⟨by rfl, ?_⟩) (by assumption) ?_
                  rotate_left
                  · intro w hSw; (try dsimp only at hSw); go_simp; (try with_reducible rfl)
                  try simp only [Act.put, List.setIfInBounds_toArray, List.set_cons_zero, List.set_cons_succ]
                  refine wpAnyH_take (i := 20) (v := ?_) (by simp only [List.getElem?_toArray, List.getElem?_cons_zero, List.getElem?_cons_succ]; rfl) (by kernel_rfl) (by kernel_rfl) (by kernel_rfl) (fun _ _ _ h => h) (Or.inl ⟨by rfl, ?_⟩) (by assumption) ?_
                  rotate_left
                  · intro w hSw; (try dsimp only at hSw); go_simp; (try with_reducible rfl)
                  try simp only [Act.put, List.setIfInBounds_toArray, List.set_cons_zero, List.set_cons_succ]
                  refine wpAnyH_take (i := 21) (v := ?_) (by simp only [List.getElem?_toArray, List.getElem?_cons_zero, List.getElem?_cons_succ]; rfl) (by kernel_rfl) (by kernel_rfl) (by kernel_rfl) (fun _ _ _ h => h) (Or.inl ⟨by rfl, ?_⟩) (by assumption) ?_
                  rotate_left
                  · intro w hSw; (try dsimp only at hSw); go_simp; (try with_reducible rfl)
                  try simp only [Act.put, List.setIfInBounds_toArray, List.set_cons_zero, List.set_cons_succ]
                  refine wpAnyH_take (i := 22) (v := ?_) (by simp only [List.getElem?_toArray, List.getElem?_cons_zero, List.getElem?_cons_succ]; rfl) (by kernel_rfl) (by kernel_rfl) (by kernel_rfl) (fun _ _ _ h => h) (Or.inl ⟨by rfl, ?_⟩) (by assumption) ?_
                  rotate_left
                  · intro w hSw; (try dsimp only at hSw); go_simp; (try with_reducible rfl)
                  try simp only [Act.put, List.setIfInBounds_toArray, List.set_cons_zero, List.set_cons_succ]
                  refine wpAnyH_ready (rs := [17]) (by kernel_rfl) (by simp) ?_
                  refine AllReadyH.cons (by simp only [List.getElem?_toArray, List.getElem?_cons_zero, List.getElem?_cons_succ]; rfl) (fun K hK => ?_) AllReadyH.nil
                  go_simp
                  go_at_call 73
                  have hS := (‹Below wn22.heap.size wn22 _ ∧ _›).1
                  (with_reducible refine (TS23.out _ hS).mono ?_)
                  rintro e w7 ⟨rfl, hb7⟩
                  have hS' := KS23.out _ (hS.trans (hb7.mono hS.size))
                  clear hb7 hS
                  try go_wp2_with fail
                  refine hK.out _ _ ?_ (fun hH1 => ?_)
                  · (try dsimp only); (first | assumption | exact KS23.out _ (Below.refl wn22.heap.size wn22).drew)
                  clear hK K hH0
                  try simp only [Act.put, List.setIfInBounds_toArray, List.set_cons_zero, List.set_cons_succ]
                  refine wpAnyH_ready (rs := [23]) (by kernel_rfl) (by simp) ?_
                  refine AllReadyH.cons (by simp only [List.getElem?_toArray, List.getElem?_cons_zero, List.getElem?_cons_succ]; rfl) (fun K hK => ?_) AllReadyH.nil
                  go_simp
                  go_at_call 74
                  have hS := (‹Below wn22.heap.size wn22 _ ∧ _›).1
                  (with_reducible refine (SS23.out _ hS).mono ?_)
                  rintro e w7 ⟨rfl, hb7⟩
                  have hS' := KS23.out _ (hS.trans (hb7.mono hS.size))
                  clear hb7 hS
                  try go_wp2_with fail
                  refine hK.out _ _ ?_ (fun hH2 => ?_)
                  · (try dsimp only); (first | assumption | exact KS23.out _ (Below.refl wn22.heap.size wn22).drew)
                  clear hK K hH1
                  try simp only [Act.put, List.setIfInBounds_toArray, List.set_cons_zero, List.set_cons_succ]
                  refine wpAnyH_take (i := 24) (v := ?_) (by simp only [List.getElem?_toArray, List.getElem?_cons_zero, List.getElem?_cons_succ]; rfl) (by kernel_rfl) (by kernel_rfl) (by kernel_rfl) (fun _ _ _ h => h) (Or.inl ⟨by rfl, ?_⟩) (by assumption) ?_
                  rotate_left
                  · intro w hSw; (try dsimp only at hSw); go_simp; (try with_reducible rfl)
                  try simp only [Act.put, List.setIfInBounds_toArray, List.set_cons_zero, List.set_cons_succ]
                  refine wpAnyH_take (i := 25) (v := ?_) (by simp only [List.getElem?_toArray, List.getElem?_cons_zero, List.getElem?_cons_succ]; rfl) (by kernel_rfl) (by kernel_rfl) (by kernel_rfl) (fun _ _ _ h => h) (Or.inl ⟨by rfl, ?_⟩) (by assumption) ?_
                  rotate_left
                  · intro w hSw; (try dsimp only at hSw); go_simp; (try with_reducible rfl)
                  try simp only [Act.put, List.setIfInBounds_toArray, List.set_cons_zero, List.set_cons_succ]
                  refine wpAnyH_done (by kernel_rfl) ?_ _
                  refine NoPanic.normal ?_
                  skip
                  -- END 23
                  have hE := (‹Below wn22.heap.size wn22 _ ∧ _›).1
                  have HBE := hid (HB3.out.trans ((HB22.out.trans (hE.mono HB22.out.size)).mono HB3.out.size))
                  clear hE
                  go_wp2
                  go_roundw
                  case rel => exact ⟨z + 1, by omega, by omega, rfl, HBE⟩
                  case measure => simp [intOf]; omega
            · obtain rfl : z = 9 := by omega
              go_wp2
              go_roundw
              case rel => exact ⟨k + 1, g6, Y2, by omega, by go_num, XA, hid (by rw [show 8 * (k + 1) = 8 * k + 8 by omega]; exact ZA.out), BA⟩
              case measure => simp [intOf]; omega
    · as_aux_lemma =>
      have hge : (l.length : Int) ≤ (k : Int) := by omega
      clear SA
      try go_upto_region 25 with (fail)
      obtain ⟨vp, ds, C⟩ := HH.out
      obtain ⟨hok, s, dsc, CC⟩ := HC.out
      have hlen := hok.1.2.2.1
      have hcks := hok.1.1
      have h40 := hok.1.2.1
      have VL := hid (fun W (hb : Below wr.heap.size wr W) => vault_Log g (1 + 1) vp H.v W ((C.vault).below hb))
      have RB := hid (fun W (hb : Below wr.heap.size wr W) => roll_Bytes g 20 c H.v.log W hcks (by omega) (by omega) (CC.roll.below hb))
      have KS := hid (fun W (hb : Below wr.heap.size wr W) => (⟨hb, (C.below hb).top.1⟩ : Below wr.heap.size wr W ∧ W.cell? ⟨h, 0, none⟩ = some (.pointer (some ⟨vp, 0, none⟩))))
      clear C CC hok hcks h40
      generalize H.v.log.bytes = byt at *
      -- REGION 25
      refine wp_region_noPanic ?_
      refine wp_region_held_drew (S := (fun W' : World => Below wr.heap.size wr W' ∧ W'.cell? ⟨h, 0, none⟩ = some (.pointer (some ⟨vp, 0, none⟩)))) (by kernel_rfl) ?_ (fun hH0 => ?_)
      · (try dsimp only); (first | assumption | exact KS.out _ (Below.refl wr.heap.size wr).drew)
      refine wpAnyH_take (i := 0) (v := ?_) (by simp only [List.getElem?_toArray, List.getElem?_cons_zero]; rfl) (by kernel_rfl) (by kernel_rfl) (by kernel_rfl) (fun _ _ _ h => h) (Or.inl ⟨by rfl, ?_⟩) (by assumption) ?_
      rotate_left
      · intro w hSw; (try dsimp only at hSw); go_simp; (try with_reducible rfl)
      try simp only [Act.put, List.setIfInBounds_toArray, List.set_cons_zero, List.set_cons_succ]
      refine wpAnyH_take (i := 1) (v := ?_) (by simp only [List.getElem?_toArray, List.getElem?_cons_zero, List.getElem?_cons_succ]; rfl) (by kernel_rfl) (by kernel_rfl) (by kernel_rfl) (fun _ _ _ h => h) (Or.inl ⟨by rfl, ?_⟩) (by assumption) ?_
      rotate_left
      · intro w hSw; (try dsimp only at hSw); go_simp; (try with_reducible rfl)
      try simp only [Act.put, List.setIfInBounds_toArray, List.set_cons_zero, List.set_cons_succ]
      refine wpAnyH_take (i := 2) (v := ?_) (by simp only [List.getElem?_toArray, List.getElem?_cons_zero, List.getElem?_cons_succ]; rfl) (by kernel_rfl) (by kernel_rfl) (by kernel_rfl) (fun _ _ _ h => h) (Or.inl ⟨by rfl, ?_⟩) (by assumption) ?_
      rotate_left
      · intro w hSw; (try dsimp only at hSw); go_simp; (try with_reducible rfl)
      try simp only [Act.put, List.setIfInBounds_toArray, List.set_cons_zero, List.set_cons_succ]
      refine wpAnyH_take (i := 3) (v := ?_) (by simp only [List.getElem?_toArray, List.getElem?_cons_zero, List.getElem?_cons_succ]; rfl) (by kernel_rfl) (by kernel_rfl) (by kernel_rfl) (fun _ _ _ h => h) (Or.inl ⟨by rfl, ?_⟩) (by assumption) ?_
      rotate_left
      · intro w hSw; (try dsimp only at hSw); go_simp; (try with_reducible rfl)
      try simp only [Act.put, List.setIfInBounds_toArray, List.set_cons_zero, List.set_cons_succ]
      refine wpAnyH_take (i := 6) (v := ?_) (by simp only [List.getElem?_toArray, List.getElem?_cons_zero, List.getElem?_cons_succ]; rfl) (by kernel_rfl) (by kernel_rfl) (by kernel_rfl) (fun _ _ _ h => h) (Or.inl ⟨by rfl, ?_⟩) (by assumption) ?_
      rotate_left
      · intro w hSw; (try dsimp only at hSw); go_simp; (try with_reducible rfl)
      try simp only [Act.put, List.setIfInBounds_toArray, List.set_cons_zero, List.set_cons_succ]
      refine wpAnyH_take (i := 7) (v := ?_) (by simp only [List.getElem?_toArray, List.getElem?_cons_zero, List.getElem?_cons_succ]; rfl) (by kernel_rfl) (by kernel_rfl) (by kernel_rfl) (fun _ _ _ h => h) (Or.inl ⟨by rfl, ?_⟩) (by assumption) ?_
      rotate_left
      · intro w hSw; (try dsimp only at hSw); go_simp; (try with_reducible rfl)
      try simp only [Act.put, List.setIfInBounds_toArray, List.set_cons_zero, List.set_cons_succ]
      refine wpAnyH_take (i := 8) (v := ?_) (by simp only [List.getElem?_toArray, List.getElem?_cons_zero, List.getElem?_cons_succ]; rfl) (by kernel_rfl) (by kernel_rfl) (by kernel_rfl) (fun _ _ _ h => h) (Or.inl ⟨by rfl, ?_⟩) (by assumption) ?_
      rotate_left
      · intro w hSw; (try dsimp only at hSw); go_simp; (try with_reducible rfl)
      try simp only [Act.put, List.setIfInBounds_toArray, List.set_cons_zero, List.set_cons_succ]
      refine wpAnyH_ready (rs := [4]) (by kernel_rfl) (by simp) ?_
      refine AllReadyH.cons (by simp only [List.getElem?_toArray, List.getElem?_cons_zero, List.getElem?_cons_succ]; rfl) (fun K hK => ?_) AllReadyH.nil
      go_simp
      go_at_call 47
      have hS := (‹Below wr.heap.size wr _ ∧ _›).1
      (with_reducible refine (VL.out _ hS).mono ?_)
      rintro e w5 ⟨a5, c5, rfl, hx5, hb5, -⟩
      have hc5 := conv_sliceAt w5 a5 c5 _ hx5.2
      have HX5 := hid hx5.2
      try (have hd6 := conv_sliceAt w5 a6 c6 _ (sliceAt_below HX6.out hb5))
      have hS' := KS.out _ (hS.trans (hb5.mono hS.size))
      clear hx5 hb5 hS
      try go_wp2_with fail
      refine hK.out _ _ ?_ (fun hH1 => ?_)
      · (try dsimp only); (first | assumption | exact KS.out _ (Below.refl wr.heap.size wr).drew)
      clear hK K hH0
      try simp only [Act.put, List.setIfInBounds_toArray, List.set_cons_zero, List.set_cons_succ]
      refine wpAnyH_ready (rs := [5, 9]) (by kernel_rfl) (by simp) ?_
      refine AllReadyH.cons (by simp only [List.getElem?_toArray, List.getElem?_cons_zero, List.getElem?_cons_succ]; rfl) (fun K hK => ?_) ?_
      · skip
        go_simp
        refine hK.out _ _ ?_ (fun hH2 => ?_)
        · (try dsimp only); (first | assumption | exact KS.out _ (Below.refl wr.heap.size wr).drew)
        clear hK K hH1
        try simp only [Act.put, List.setIfInBounds_toArray, List.set_cons_zero, List.set_cons_succ]
        refine wpAnyH_ready (rs := [9]) (by kernel_rfl) (by simp) ?_
        refine AllReadyH.cons (by simp only [List.getElem?_toArray, List.getElem?_cons_zero, List.getElem?_cons_succ]; rfl) (fun K hK => ?_) AllReadyH.nil
        go_simp
        go_at_call 75
        have hS := (‹Below wr.heap.size wr _ ∧ _›).1
        (with_reducible refine (RB.out _ hS).mono ?_)
        rintro e w6 ⟨v6, n6, rfl, ho6, hb6⟩
        have hn6 : n6 = byt.length := by have := ho6.1; rw [byteCells_length] at this; omega
        subst hn6
        obtain ⟨a6, c6, rfl, hx6, hn6, -⟩ := BytesIn.of_row ho6
        have hc6 := conv_sliceAt w6 a6 c6 _ hx6.2
        have HX6 := hid hx6.2
        try (have hd5 := conv_sliceAt w6 a5 c5 _ (sliceAt_below HX5.out hb6))
        have hS' := KS.out _ (hS.trans (hb6.mono hS.size))
        clear hx6 hb6 hS ho6 hn6
        try go_wp2_with fail
        refine hK.out _ _ ?_ (fun hH3 => ?_)
        · (try dsimp only); (first | assumption | exact KS.out _ (Below.refl wr.heap.size wr).drew)
        clear hK K hH2
        try simp only [Act.put, List.setIfInBounds_toArray, List.set_cons_zero, List.set_cons_succ]
        refine wpAnyH_ready (rs := [10]) (by kernel_rfl) (by simp) ?_
        refine AllReadyH.cons (by simp only [List.getElem?_toArray, List.getElem?_cons_zero, List.getElem?_cons_succ]; rfl) (fun K hK => ?_) AllReadyH.nil
        go_simp
        refine hK.out _ _ ?_ (fun hH4 => ?_)
        · (try dsimp only); (first | assumption | exact KS.out _ (Below.refl wr.heap.size wr).drew)
        clear hK K hH3
        try simp only [Act.put, List.setIfInBounds_toArray, List.set_cons_zero, List.set_cons_succ]
        refine wpAnyH_take (i := 11) (v := ?_) (by simp only [List.getElem?_toArray, List.getElem?_cons_zero, List.getElem?_cons_succ]; rfl) (by kernel_rfl) (by kernel_rfl) (by kernel_rfl) (fun _ _ _ h => h) (Or.inl ⟨by rfl, ?_⟩) (by assumption) ?_
        rotate_left
        · intro w hSw; (try dsimp only at hSw); go_simp; (try with_reducible rfl)
        try simp only [Act.put, List.setIfInBounds_toArray, List.set_cons_zero, List.set_cons_succ]
        refine wpAnyH_take (i := 12) (v := ?_) (by simp only [List.getElem?_toArray, List.getElem?_cons_zero, List.getElem?_cons_succ]; rfl) (by kernel_rfl) (by kernel_rfl) (by kernel_rfl) (fun _ _ _ h => h) (Or.inl ⟨by rfl, ?_⟩) (by assumption) ?_
        rotate_left
        · intro w hSw; (try dsimp only at hSw); go_simp; (try with_reducible rfl)
        try simp only [Act.put, List.setIfInBounds_toArray, List.set_cons_zero, List.set_cons_succ]
        refine wpAnyH_done (by kernel_rfl) ?_ _
        refine NoPanic.normal ?_
        go_wp2
        go_ret
        exact ⟨rfl, B1.out.trans ((HB.out.below' (‹Below wr.heap.size wr _ ∧ _›).1).below.mono B1.out.size)⟩
      refine AllReadyH.cons (by simp only [List.getElem?_toArray, List.getElem?_cons_zero, List.getElem?_cons_succ]; rfl) (fun K hK => ?_) AllReadyH.nil
      go_simp
      go_at_call 75
      have hS := (‹Below wr.heap.size wr _ ∧ _›).1
      (with_reducible refine (RB.out _ hS).mono ?_)
      rintro e w6 ⟨v6, n6, rfl, ho6, hb6⟩
      have hn6 : n6 = byt.length := by have := ho6.1; rw [byteCells_length] at this; omega
      subst hn6
      obtain ⟨a6, c6, rfl, hx6, hn6, -⟩ := BytesIn.of_row ho6
      have hc6 := conv_sliceAt w6 a6 c6 _ hx6.2
      have HX6 := hid hx6.2
      try (have hd5 := conv_sliceAt w6 a5 c5 _ (sliceAt_below HX5.out hb6))
      have hS' := KS.out _ (hS.trans (hb6.mono hS.size))
      clear hx6 hb6 hS ho6 hn6
      try go_wp2_with fail
      refine hK.out _ _ ?_ (fun hH5 => ?_)
      · (try dsimp only); (first | assumption | exact KS.out _ (Below.refl wr.heap.size wr).drew)
      clear hK K hH1
      try simp only [Act.put, List.setIfInBounds_toArray, List.set_cons_zero, List.set_cons_succ]
      refine wpAnyH_ready (rs := [5, 10]) (by kernel_rfl) (by simp) ?_
      refine AllReadyH.cons (by simp only [List.getElem?_toArray, List.getElem?_cons_zero, List.getElem?_cons_succ]; rfl) (fun K hK => ?_) ?_
      · skip
        go_simp
        refine hK.out _ _ ?_ (fun hH6 => ?_)
        · (try dsimp only); (first | assumption | exact KS.out _ (Below.refl wr.heap.size wr).drew)
        clear hK K hH5
        try simp only [Act.put, List.setIfInBounds_toArray, List.set_cons_zero, List.set_cons_succ]
        refine wpAnyH_ready (rs := [10]) (by kernel_rfl) (by simp) ?_
        refine AllReadyH.cons (by simp only [List.getElem?_toArray, List.getElem?_cons_zero, List.getElem?_cons_succ]; rfl) (fun K hK => ?_) AllReadyH.nil
        go_simp
        refine hK.out _ _ ?_ (fun hH7 => ?_)
        · (try dsimp only); (first | assumption | exact KS.out _ (Below.refl wr.heap.size wr).drew)
        clear hK K hH6
        try simp only [Act.put, List.setIfInBounds_toArray, List.set_cons_zero, List.set_cons_succ]
        refine wpAnyH_take (i := 11) (v := ?_) (by simp only [List.getElem?_toArray, List.getElem?_cons_zero, List.getElem?_cons_succ]; rfl) (by kernel_rfl) (by kernel_rfl) (by kernel_rfl) (fun _ _ _ h => h) (Or.inl ⟨by rfl, ?_⟩) (by assumption) ?_
        rotate_left
        · intro w hSw; (try dsimp only at hSw); go_simp; (try with_reducible rfl)
        try simp only [Act.put, List.setIfInBounds_toArray, List.set_cons_zero, List.set_cons_succ]
        refine wpAnyH_take (i := 12) (v := ?_) (by simp only [List.getElem?_toArray, List.getElem?_cons_zero, List.getElem?_cons_succ]; rfl) (by kernel_rfl) (by kernel_rfl) (by kernel_rfl) (fun _ _ _ h => h) (Or.inl ⟨by rfl, ?_⟩) (by assumption) ?_
        rotate_left
        · intro w hSw; (try dsimp only at hSw); go_simp; (try with_reducible rfl)
        try simp only [Act.put, List.setIfInBounds_toArray, List.set_cons_zero, List.set_cons_succ]
        refine wpAnyH_done (by kernel_rfl) ?_ _
        refine NoPanic.normal ?_
        go_wp2
        go_ret
        exact ⟨rfl, B1.out.trans ((HB.out.below' (‹Below wr.heap.size wr _ ∧ _›).1).below.mono B1.out.size)⟩
      refine AllReadyH.cons (by simp only [List.getElem?_toArray, List.getElem?_cons_zero, List.getElem?_cons_succ]; rfl) (fun K hK => ?_) AllReadyH.nil
      go_simp
      refine hK.out _ _ ?_ (fun hH8 => ?_)
      · (try dsimp only); (first | assumption | exact KS.out _ (Below.refl wr.heap.size wr).drew)
      clear hK K hH5
      try simp only [Act.put, List.setIfInBounds_toArray, List.set_cons_zero, List.set_cons_succ]
      refine wpAnyH_ready (rs := [5]) (by kernel_rfl) (by simp) ?_
      refine AllReadyH.cons (by simp only [List.getElem?_toArray, List.getElem?_cons_zero, List.getElem?_cons_succ]; rfl) (fun K hK => ?_) AllReadyH.nil
      go_simp
      refine hK.out _ _ ?_ (fun hH9 => ?_)
      · (try dsimp only); (first | assumption | exact KS.out _ (Below.refl wr.heap.size wr).drew)
      clear hK K hH8
      try simp only [Act.put, List.setIfInBounds_toArray, List.set_cons_zero, List.set_cons_succ]
      refine wpAnyH_take (i := 11) (v := ?_) (by simp only [List.getElem?_toArray, List.getElem?_cons_zero, List.getElem?_cons_succ]; rfl) (by kernel_rfl) (by kernel_rfl) (by kernel_rfl) (fun _ _ _ h => h) (Or.inl ⟨by rfl, ?_⟩) (by assumption) ?_
      rotate_left
      · intro w hSw; (try dsimp only at hSw); go_simp; (try with_reducible rfl)
      try simp only [Act.put, List.setIfInBounds_toArray, List.set_cons_zero, List.set_cons_succ]
      refine wpAnyH_take (i := 12) (v := ?_) (by simp only [List.getElem?_toArray, List.getElem?_cons_zero, List.getElem?_cons_succ]; rfl) (by kernel_rfl) (by kernel_rfl) (by kernel_rfl) (fun _ _ _ h => h) (Or.inl ⟨by rfl, ?_⟩) (by assumption) ?_
      rotate_left
      · intro w hSw; (try dsimp only at hSw); go_simp; (try with_reducible rfl)
      try simp only [Act.put, List.setIfInBounds_toArray, List.set_cons_zero, List.set_cons_succ]
      refine wpAnyH_done (by kernel_rfl) ?_ _
      refine NoPanic.normal ?_
      go_wp2
      go_ret
      exact ⟨rfl, B1.out.trans ((HB.out.below' (‹Below wr.heap.size wr _ ∧ _›).1).below.mono B1.out.size)⟩
      -- END 25

end Go.Proofs.Ytoiobhcgpajogac
