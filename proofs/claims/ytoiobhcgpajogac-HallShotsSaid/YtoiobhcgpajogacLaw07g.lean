/- The walk of HallShots. -/
import Derived.Test.YtoiobhcgpajogacLaw07a
import Derived.Test.YtoiobhcgpajogacHallV
import Derived.Test.YtoiobhcgpajogacHallT
import Derived.Test.YtoiobhcgpajogacReg
namespace Go.Proofs.Ytoiobhcgpajogac
open Go.RowKit

/-- Five worlds, one behind the other. -/
def wl (W : Nat → Nat → Val) : List Value := vals8 (W 0) ++ (vals8 (W 1) ++ (vals8 (W 2) ++ (vals8 (W 3) ++ vals8 (W 4))))

theorem wl_get (W : Nat → Nat → Val) (n m : Nat) (hn : n < 5) (hm : m < 8) : (wl W)[n * 16 + m * 2]? = some (.bool (W n m).there) ∧ (wl W)[n * 16 + m * 2 + 1]? = some (.string (W n m).bytes) := by
  have h : n = 0 ∨ n = 1 ∨ n = 2 ∨ n = 3 ∨ n = 4 := by omega
  have h' : m = 0 ∨ m = 1 ∨ m = 2 ∨ m = 3 ∨ m = 4 ∨ m = 5 ∨ m = 6 ∨ m = 7 := by omega
  rcases h with rfl | rfl | rfl | rfl | rfl <;> rcases h' with rfl | rfl | rfl | rfl | rfl | rfl | rfl | rfl <;> exact ⟨rfl, rfl⟩

theorem wl_set (W : Nat → Nat → Val) (n m : Nat) (hn : n < 5) (hm : m < 8) (v : Val) : ((wl W).set (n * 16 + m * 2) (.bool v.there)).set (n * 16 + m * 2 + 1) (.string v.bytes) = wl (upd W n (upd (W n) m v)) := by
  have h : n = 0 ∨ n = 1 ∨ n = 2 ∨ n = 3 ∨ n = 4 := by omega
  have h' : m = 0 ∨ m = 1 ∨ m = 2 ∨ m = 3 ∨ m = 4 ∨ m = 5 ∨ m = 6 ∨ m = 7 := by omega
  rcases h with rfl | rfl | rfl | rfl | rfl <;> rcases h' with rfl | rfl | rfl | rfl | rfl | rfl | rfl | rfl <;> rfl

theorem wl_store (W : Nat → Nat → Val) (n : Nat) (hn : n < 5) (f : Nat → Val) : (wl W).take (n * 16) ++ vals8 f ++ (wl W).drop (n * 16 + 16) = wl (upd W n f) := by
  have h : n = 0 ∨ n = 1 ∨ n = 2 ∨ n = 3 ∨ n = 4 := by omega
  rcases h with rfl | rfl | rfl | rfl | rfl <;> rfl

theorem wl_there {w : World} {b n : Nat} {T : TypeId} {W : Nat → Nat → Val} (h : Loc w b T (wl W)) (hn : n < 5) (f : Nat → Val) : w.there b (n * 16) (vals8 f).toArray.size := fun j hj => by
  have hj' : j < 16 := hj
  exact ⟨by rw [h.cell, List.getElem?_eq_getElem (show n * 16 + j < (wl W).length from by show _ < 80; omega)]; rfl, h.free _⟩

theorem wl_stored {w : World} {g : Nat → Nat} {q b n : Nat} {T : TypeId} {W : Nat → Nat → Val} (h : LocC w g q b T (wl W)) (hn : n < 5) (f : Nat → Val) : LocC (w.setCells b (n * 16) (vals8 f)) g q b T (wl (upd W n f)) := by
  refine ⟨?_, h.2⟩
  rw [← wl_store W n hn f]
  exact Loc.setCells (vals8 f) (n * 16) w (wl W) h.1 (by show n * 16 + 16 ≤ 80; omega)

theorem evo_stores {g : Nat → Nat} {b q : Nat} (hq : g b = q) : ∀ (vs : List Value) (o : Nat) (w : World), Evo q (q + 1) g g w (w.setCells b o vs)
  | [], _, _ => Evo.refl _ _ _ _
  | v :: r, o, _ => (evo_store v hq).trans (evo_stores hq r (o + 1) _)

theorem wl_cells {w : World} {g : Nat → Nat} {q b : Nat} {T : TypeId} {W : Nat → Nat → Val} (h : LocC w g q b T (wl W)) (n m : Nat) (hn : n < 5) (hm : m < 8) : w.cell? ⟨b, n * 16 + m * 2, none⟩ = some (.bool (W n m).there) ∧ w.cell? ⟨b, n * 16 + m * 2 + 1, none⟩ = some (.string (W n m).bytes) ∧ w.frozen? ⟨b, n * 16 + m * 2, none⟩ = false ∧ w.frozen? ⟨b, n * 16 + m * 2 + 1, none⟩ = false :=
  ⟨(h.1.cell _).trans (wl_get W n m hn hm).1, (h.1.cell _).trans (wl_get W n m hn hm).2, h.1.free _, h.1.free _⟩

theorem wl_put {w : World} {g : Nat → Nat} {q b : Nat} {T : TypeId} {W : Nat → Nat → Val} (h : LocC w g q b T (wl W)) (n m : Nat) (hn : n < 5) (hm : m < 8) (v : Val) : LocC ((w.setCell ⟨b, n * 16 + m * 2, none⟩ (.bool v.there)).setCell ⟨b, n * 16 + m * 2 + 1, none⟩ (.string v.bytes)) g q b T (wl (upd W n (upd (W n) m v))) := by
  have := (h.set (n * 16 + m * 2) (.bool v.there)).set (n * 16 + m * 2 + 1) (.string v.bytes)
  rwa [wl_set W n m hn hm v] at this

theorem ref_SamePairs_eq2 (a1 a2 : Option Addr) (c1 c2 : Nat) (l : List Ent) (w : World) (hn : l.length ≤ 1000000) (h1 : SliceAt w a1 (encEnts l)) (h2 : SliceAt w a2 (encEnts l)) :
    Calls Try.prog 26 #[.slice a1 l.length c1, .slice a2 l.length c2] w (BoolPost true w) := by
  refine (ref_SamePairs a1 a2 c1 c2 l l w hn hn h1 h2).mono ?_
  rintro e w' ⟨b, rfl, hb, h⟩
  exact ⟨by rw [hb.2 rfl], h⟩

theorem listW_le (w : Nat → Val) (f t : Int) : ∀ n, (listW w f t n).length ≤ n
  | 0 => Nat.le_refl _
  | n + 1 => by
    have := listW_le w f t n
    rw [listW_succ, List.length_append]
    split <;> simp <;> omega

theorem wl_length (W : Nat → Nat → Val) : (wl W).length = 80 := rfl

theorem HallAt.deedsOk {w : World} {g : Nat → Nat} {p h : Nat} {H : Ht} (k : HallAt w g p h H) : ∀ s, s < 5 → ∀ D, H.seats s = some D → D.Ok := by
  obtain ⟨vp, ds, k⟩ := k
  exact fun s hs D hD => (k.deed s hs D hD).1

theorem seatB_nat {s : Nat} (h : s < 5) : isSeatB (s : Int) = true := by unfold isSeatB; simp; omega

theorem ref_IsSeat2 (s : Int) (w : World) : Calls Try.prog 63 #[.int .i64 s] w (fun e w' => e = .returned (.bool (isSeatB s)) ∧ w = w') := by
  unfold isSeatB
  by_cases h0 : s < 0
  · have e : (decide (0 ≤ s) && decide (s < 5)) = false := by simp; omega
    rw [e]
    clear e
    go_enter Try.func63, Try.ntmps63
    go_wp2
    go_ret
    exact ⟨rfl, rfl⟩
  · have h0' : 0 ≤ s := by omega
    by_cases h5 : s < 5
    · have e : (decide (0 ≤ s) && decide (s < 5)) = true := by simp; omega
      rw [e]
      clear e
      go_enter Try.func63, Try.ntmps63
      go_wp2
      go_ret
      exact ⟨rfl, rfl⟩
    · have e : (decide (0 ≤ s) && decide (s < 5)) = false := by simp; omega
      rw [e]
      have h5' : 5 ≤ s := by omega
      clear e
      go_enter Try.func63, Try.ntmps63
      go_wp2
      go_ret
      exact ⟨rfl, rfl⟩

set_option maxHeartbeats 16000000 in
set_option maxRecDepth 100000 in
theorem walk_HallShots (a : Option Addr) (cap : Nat) (l : List St) (w : World) (hl : l.length ≤ 9223372036854775807) (hA : StepsAt w a l) :
    Calls Try.prog 8 #[.slice a l.length cap] w (TruePost w) := by
  have HA := hid hA
  clear hA
  go_enter Try.func8, Try.ntmps8
  go_wp2_with fail
  (with_reducible refine (law_hallBegun w).mono ?_)
  rintro e w1 ⟨rfl, hb⟩
  have B1 := hid hb
  clear hb
  go_wp2_with fail
  (with_reducible refine (law_greatSteps a cap l w1 hl (HA.out.below B1.out)).mono ?_)
  rintro e w1' ⟨rfl, rfl⟩
  cases hg : greatS l with
  | true =>
    clear hg
    go_wp2
    go_ret
    exact ⟨rfl, B1.out⟩
  | false =>
  obtain ⟨h200, h100⟩ := greatS_false hg
  have H100 := hid h100
  have SA := hid (HA.out.below B1.out)
  clear hg h100 HA
  go_wp2_with fail
  refine (hall_New (fun _ => 0) 1 w1).mono ?_
  rintro e w2 ⟨h, g2, rfl, hE, -, hH⟩
  have B2 := hid ((Base.start w1).step hE (by omega))
  have H2 := hid hH
  clear hE hH
  try go_upto_region 7 with (fail)
  have hA3 := Evo.alloc g2 41 w2 (.cells Try.zeroCells99 99)
  have L3 : Hid (LocC (w2.alloc (.cells Try.zeroCells99 99)) (extc g2 w2 41) 41 w2.heap.size 99 (wl (fun _ _ => Val.zero))) := hid (LocC.new g2 41 w2 99 (wl fun _ _ => Val.zero))
  have H3 := hid (H2.out.frame hA3 (by omega))
  have B3 := hid (B2.out.step hA3 (by omega))
  clear hA3 H2 B2
  generalize w2.alloc (.cells Try.zeroCells99 99) = w3 at *
  generalize extc g2 w2 41 = g3 at *
  generalize w2.heap.size = bw at *
  go_wp2_with fail
  go_loopw [5] (fun i wr => ∃ (k : Nat) (g : Nat → Nat) (H : Ht) (WS : Nat → Nat → Val), k ≤ l.length ∧ i = .int .i64 k ∧ Hid (HallAt wr g 1 h H) ∧ Hid (Base w1.heap.size w1 g wr) ∧ Hid H.v.Sound ∧ Hid (BegsH H) ∧ Hid (LocC wr g 41 bw 99 (wl WS)) ∧ Hid (ShotH H WS)) (fun i _ => l.length - (intOf i).toNat)
  case atStart => exact ⟨0, g3, Ht.new, fun _ _ => Val.zero, Nat.zero_le _, rfl, H3, B3, hid Vt.new_sound, hid BegsH.start, L3, hid (ShotH.start _)⟩
  case round =>
    clear H3 B3 L3
    obtain ⟨k, g, H, WS, hk, rfl, HH, HB, HS, HBe, HL, SHO⟩ := hrel
    by_cases hlt : k < l.length
    · as_aux_lemma =>
      obtain ⟨b1, o1, rfl, hbb, v1⟩ := SA.out.facts (by omega)
      obtain ⟨p0, p1, p2, p3, p4, p5, p6, p7, -⟩ := v1 k hlt
      have hx100 := H100.out l[k] (List.getElem_mem _)
      have P0 := (HB.out.cell (p := ⟨b1, _, none⟩) hbb).trans p0
      have P1 := (HB.out.cell (p := ⟨b1, _, none⟩) hbb).trans p1
      have P2 := (HB.out.cell (p := ⟨b1, _, none⟩) hbb).trans p2
      have P3 := (HB.out.cell (p := ⟨b1, _, none⟩) hbb).trans p3
      have P4 := (HB.out.cell (p := ⟨b1, _, none⟩) hbb).trans p4
      have P5 := (HB.out.cell (p := ⟨b1, _, none⟩) hbb).trans p5
      have P6 := (HB.out.cell (p := ⟨b1, _, none⟩) hbb).trans p6
      have P7 := (HB.out.cell (p := ⟨b1, _, none⟩) hbb).trans p7
      have hki : (k : Int) < (l.length : Int) := by omega
      have hk0 : (0 : Int) ≤ (k : Int) := by omega
      generalize l[k] = x at *
      have hxm : x.bytes.size ≤ maxLen := by unfold maxLen; omega
      clear v1 p0 p1 p2 p3 p4 p5 p6 p7
      try go_upto_region 11 with (fail)
      have hA4 := Evo.alloc g 43 wr (.cells #[.int .i64 x.kind, .int .i64 x.s, .int .i64 x.mode, .int .i64 x.at_, .int .i64 x.key, .int .i64 x.to_, .int .i64 x.keep, .string x.bytes] 101)
      have S4 : Hid (LocC (wr.alloc (.cells #[.int .i64 x.kind, .int .i64 x.s, .int .i64 x.mode, .int .i64 x.at_, .int .i64 x.key, .int .i64 x.to_, .int .i64 x.keep, .string x.bytes] 101)) (extc g wr 43) 43 wr.heap.size 101 [.int .i64 x.kind, .int .i64 x.s, .int .i64 x.mode, .int .i64 x.at_, .int .i64 x.key, .int .i64 x.to_, .int .i64 x.keep, .string x.bytes]) := hid (LocC.new g 43 wr 101 [.int .i64 x.kind, .int .i64 x.s, .int .i64 x.mode, .int .i64 x.at_, .int .i64 x.key, .int .i64 x.to_, .int .i64 x.keep, .string x.bytes])
      have H4 := hid (HH.out.frame hA4 (by omega))
      have B4 := hid (HB.out.step hA4 (by omega))
      have L4 := hid (HL.out.frame hA4 (by omega))
      clear hA4 HH HB HL P0 P1 P2 P3 P4 P5 P6 P7
      generalize wr.alloc (.cells #[.int .i64 x.kind, .int .i64 x.s, .int .i64 x.mode, .int .i64 x.at_, .int .i64 x.key, .int .i64 x.to_, .int .i64 x.keep, .string x.bytes] 101) = w4 at *
      generalize extc g wr 43 = g4 at *
      generalize wr.heap.size = b6 at *
      obtain ⟨c0, c1, c2, c3, c4, c5, c6, c7⟩ : w4.cell? ⟨b6, 0, none⟩ = some (.int .i64 x.kind) ∧ w4.cell? ⟨b6, 1, none⟩ = some (.int .i64 x.s) ∧ w4.cell? ⟨b6, 2, none⟩ = some (.int .i64 x.mode) ∧ w4.cell? ⟨b6, 3, none⟩ = some (.int .i64 x.at_) ∧ w4.cell? ⟨b6, 4, none⟩ = some (.int .i64 x.key) ∧ w4.cell? ⟨b6, 5, none⟩ = some (.int .i64 x.to_) ∧ w4.cell? ⟨b6, 6, none⟩ = some (.int .i64 x.keep) ∧ w4.cell? ⟨b6, 7, none⟩ = some (.string x.bytes) := ⟨S4.out.1.cell 0, S4.out.1.cell 1, S4.out.1.cell 2, S4.out.1.cell 3, S4.out.1.cell 4, S4.out.1.cell 5, S4.out.1.cell 6, S4.out.1.cell 7⟩
      have BU := hid (hall_Busy g4 1 h H x.s w4 H4.out)
      have SC := hid (doH_shot H x)
      have SN := hid (doH_sound H4.out.ok.1 H4.out.ok.2 HS.out x)
      have BN := hid (doH_begs H4.out.ok.1 H4.out.ok.2 HS.out HBe.out H4.out.deedsOk x)
      have HTok := hid H4.out.ok.2
      have hy : Hid (∃ y, y = doH H x) := hid ⟨_, rfl⟩
      obtain ⟨y, hy⟩ := hy.out
      have HY := hid hy
      have DOC := hid (hall_Do g4 1 h H x w4 hxm H4.out)
      rw [← hy] at SC SN BN DOC
      clear hy
      go_wp2_with fail
      refine BU.out.mono ?_
      rintro e w' ⟨rfl, rfl⟩
      generalize hbz : (isSeatB x.s && (H.seats x.s.toNat).isSome) = bz at *
      have HBZ := hid hbz
      clear hbz BU
      go_wp2_with fail
      refine DOC.out.mono ?_
      rintro e w7 ⟨a7, c7', g7, rfl, hH7, hE7, hs7, hn7⟩
      have H7 := hid hH7
      have B7 := hid (B4.out.step hE7 (by omega))
      have L7 := hid (L4.out.frame hE7 (by omega))
      have S7 := hid (S4.out.frame hE7 (by omega))
      have T7 := hid hs7
      clear hH7 hE7 hs7 hn7 c0 c1 c2 c3 c4 c5 c6 c7 H4 B4 L4 S4 DOC
      obtain ⟨⟨yc, yn, yv, yl⟩, Y2⟩ := y
      go_upto_region 13 with (fail)
      have hA8 := Evo.alloc g7 43 w7 (.cells #[.int .i64 yc, .int .i64 yn, .bool yv.there, .string yv.bytes, .slice a7 yl.length c7'] 103)
      have E8 : Hid (LocC (w7.alloc (.cells #[.int .i64 yc, .int .i64 yn, .bool yv.there, .string yv.bytes, .slice a7 yl.length c7'] 103)) (extc g7 w7 43) 43 w7.heap.size 103 [.int .i64 yc, .int .i64 yn, .bool yv.there, .string yv.bytes, .slice a7 yl.length c7']) := hid (LocC.new g7 43 w7 103 _)
      have H8 := hid (H7.out.frame hA8 (by omega))
      have B8 := hid (B7.out.step hA8 (by omega))
      have L8 := hid (L7.out.frame hA8 (by omega))
      have S8 := hid (S7.out.frame hA8 (by omega))
      have T8 := hid (sliceAt_below T7.out ((Below.refl _ _).alloc (Nat.le_refl _) (.cells #[.int .i64 yc, .int .i64 yn, .bool yv.there, .string yv.bytes, .slice a7 yl.length c7'] 103)))
      clear hA8 H7 B7 L7 S7 T7
      generalize w7.alloc (.cells #[.int .i64 yc, .int .i64 yn, .bool yv.there, .string yv.bytes, .slice a7 yl.length c7'] 103) = w8 at *
      generalize extc g7 w7 43 = g8 at *
      generalize w7.heap.size = b8 at *
      obtain ⟨e0, e1, e2, e3, e4⟩ : w8.cell? ⟨b8, 0, none⟩ = some (.int .i64 yc) ∧ w8.cell? ⟨b8, 1, none⟩ = some (.int .i64 yn) ∧ w8.cell? ⟨b8, 2, none⟩ = some (.bool yv.there) ∧ w8.cell? ⟨b8, 3, none⟩ = some (.string yv.bytes) ∧ w8.cell? ⟨b8, 4, none⟩ = some (.slice a7 yl.length c7') := ⟨E8.out.1.cell 0, E8.out.1.cell 1, E8.out.1.cell 2, E8.out.1.cell 3, E8.out.1.cell 4⟩
      obtain ⟨c0, c1, c2, c3, c4, c5, c6, c7⟩ : w8.cell? ⟨b6, 0, none⟩ = some (.int .i64 x.kind) ∧ w8.cell? ⟨b6, 1, none⟩ = some (.int .i64 x.s) ∧ w8.cell? ⟨b6, 2, none⟩ = some (.int .i64 x.mode) ∧ w8.cell? ⟨b6, 3, none⟩ = some (.int .i64 x.at_) ∧ w8.cell? ⟨b6, 4, none⟩ = some (.int .i64 x.key) ∧ w8.cell? ⟨b6, 5, none⟩ = some (.int .i64 x.to_) ∧ w8.cell? ⟨b6, 6, none⟩ = some (.int .i64 x.keep) ∧ w8.cell? ⟨b6, 7, none⟩ = some (.string x.bytes) := ⟨S8.out.1.cell 0, S8.out.1.cell 1, S8.out.1.cell 2, S8.out.1.cell 3, S8.out.1.cell 4, S8.out.1.cell 5, S8.out.1.cell 6, S8.out.1.cell 7⟩
      by_cases hc0 : yc = 0
      · have q0 : (yc != 0) = false := by simpa using hc0
        have HC0 := hid hc0
        clear hc0
        by_cases h1 : x.kind = 1
        · have p1 : (x.kind == 1) = true := by simpa using h1
          as_aux_lemma =>
            have hcc : (doH H x).1.code = 0 := by rw [← HY.out]; exact HC0.out
            obtain ⟨n, hn, hxs⟩ := seat_nat (doH_seat hcc (by omega) (by omega))
            obtain ⟨D, hD, hw⟩ := shot_begin hn hxs hcc h1
            have hYY : (doH H x).2 = Y2 := by rw [← HY.out]
            have hnw := shot_new HS.out HBe.out SHO.out hn hxs (by rw [hYY]; exact H8.out.ok.2) (by rw [hYY]; exact SN.out) (by rw [hYY]; exact BN.out) hD hw
            rw [hYY] at hnw hD
            have hco := deed_codes H8.out.ok.2 SN.out BN.out hn hD
            obtain ⟨vp, ds, hC⟩ := H8.out
            have hdd := (hC.deed n hn D hD)
            have HDD := hid (by have := hall_Deed g8 1 h vp ds Y2 (n : Int) w8 hC; rw [seatB_nat hn, if_pos rfl, Int.toNat_natCast] at this; unfold seatP at this; rw [hD] at this; exact this : Calls Try.prog 62 #[.pointer (some ⟨h, 0, none⟩), .int .i64 (n : Int)] w8 (fun e w' => e = .returned (.pointer (some ⟨ds n, 0, none⟩)) ∧ w8 = w'))
            have SE := hid (by have := ref_IsSeat2 (n : Int) w8; rw [seatB_nat hn] at this; exact this : Calls Try.prog 63 #[.int .i64 (n : Int)] w8 (fun e w' => e = .returned (.bool true) ∧ w8 = w'))
            obtain ⟨r0, t8, tb8, hV8⟩ := hC.top
            have r1 := hV8.cells.1
            have AT := hid (fun W (hb : Below w8.heap.size w8 W) => deed_At g8 (1 + 12 + n) (ds n) D W (hdd.below hb))
            have SH := hid (fun W (hb : Below w8.heap.size w8 W) => (by
              have P := law_sheet g8 (1 + 1 + 1) t8 Y2.v.tab W D.beg (hV8.2.2.1.below hb)
              rw [hco] at P
              exact P : Calls Try.prog 48 #[.pointer (some ⟨t8, 0, none⟩), .int .i64 D.beg] W (SheetPost (sheetT Y2.v.tab D.beg) true W)))
            have KS := hid (fun W (hb : Below w8.heap.size w8 W) => (⟨hb, (hC.below hb).top.1, (hV8.below hb).cells.1⟩ : Below w8.heap.size w8 W ∧ W.cell? ⟨h, 0, none⟩ = some (.pointer (some ⟨vp, 0, none⟩)) ∧ W.cell? ⟨vp, 0, none⟩ = some (.pointer (some ⟨t8, 0, none⟩))))
            have NW := hid hnw
            have hn0 : (0 : Int) ≤ (n : Int) := by omega
            have hn5 : (n : Int) < 5 := by omega
            have HXS := hid hxs
            rw [hxs] at c1
            generalize sheetT Y2.v.tab D.beg = f at *
            clear hcc hxs hD hw hYY hnw hco hC hdd hV8 tb8 h1
            go_wp2_with fail
            refine HDD.out.mono ?_
            rintro e w' ⟨rfl, rfl⟩
            go_wp2_with fail
            refine SE.out.mono ?_
            rintro e w' ⟨rfl, rfl⟩
            go_wp2_with fail
            clear c0 c1 c2 c3 c4 c5 c6 c7 e0 e1 e2 e3 e4 E8 T8 HDD SE SC SHO HS HBe HY HC0 HTok HBZ q0 p1
            refine' join2 (fun (b : Nat) W => Below w8.heap.size w8 W ∧ Loc W b 80 (vals8 f)) _ (fun HJ => ?_) (fun bn wn hS => ?_)
            rotate_left
            · skip
              -- REGION 18
              refine wp_region_noPanic ?_
              refine wp_region_held_drew (S := (fun W' : World => Below w8.heap.size w8 W' ∧ W'.cell? ⟨h, 0, none⟩ = some (.pointer (some ⟨vp, 0, none⟩)) ∧ W'.cell? ⟨vp, 0, none⟩ = some (.pointer (some ⟨t8, 0, none⟩)))) (by kernel_rfl) ?_ (fun hH0 => ?_)
              · (try dsimp only); (first | assumption | exact KS.out _ (Below.refl w8.heap.size w8).drew)
              refine wpAnyH_take (i := 0) (v := ?_) (by simp only [List.getElem?_toArray, List.getElem?_cons_zero]; rfl) (by kernel_rfl) (by kernel_rfl) (by kernel_rfl) (fun _ _ _ h => h) (Or.inl ⟨by rfl, ?_⟩) (by assumption) ?_
              rotate_left
              · intro w hSw; (try dsimp only at hSw); go_simp; (try with_reducible rfl)
              try simp only [Act.put, List.setIfInBounds_toArray, List.set_cons_zero, List.set_cons_succ]
              refine wpAnyH_take (i := 1) (v := ?_) (by simp only [List.getElem?_toArray, List.getElem?_cons_zero, List.getElem?_cons_succ]; rfl) (by kernel_rfl) (by kernel_rfl) (by kernel_rfl) (fun _ _ _ h => h) (Or.inl ⟨by rfl, ?_⟩) (by assumption) ?_
              rotate_left
              · intro w hSw; (try dsimp only at hSw); go_simp; (try with_reducible rfl)
              try simp only [Act.put, List.setIfInBounds_toArray, List.set_cons_zero, List.set_cons_succ]
              refine wpAnyH_take (i := 2) (v := ?_) (by simp only [List.getElem?_toArray, List.getElem?_cons_zero, List.getElem?_cons_succ]; rfl) (by kernel_rfl) (by kernel_rfl) (by kernel_rfl) (fun _ _ _ h => h) (Or.inl ⟨by rfl, ?_⟩) (by assumption) ?_
              rotate_left
              · intro w hSw; (try dsimp only at hSw); go_simp; (try with_reducible rfl)
              try simp only [Act.put, List.setIfInBounds_toArray, List.set_cons_zero, List.set_cons_succ]
              refine wpAnyH_take (i := 3) (v := ?_) (by simp only [List.getElem?_toArray, List.getElem?_cons_zero, List.getElem?_cons_succ]; rfl) (by kernel_rfl) (by kernel_rfl) (by kernel_rfl) (fun _ _ _ h => h) (Or.inl ⟨by rfl, ?_⟩) (by assumption) ?_
              rotate_left
              · intro w hSw; (try dsimp only at hSw); go_simp; (try with_reducible rfl)
              try simp only [Act.put, List.setIfInBounds_toArray, List.set_cons_zero, List.set_cons_succ]
              refine wpAnyH_take (i := 4) (v := ?_) (by simp only [List.getElem?_toArray, List.getElem?_cons_zero, List.getElem?_cons_succ]; rfl) (by kernel_rfl) (by kernel_rfl) (by kernel_rfl) (fun _ _ _ h => h) (Or.inl ⟨by rfl, ?_⟩) (by assumption) ?_
              rotate_left
              · intro w hSw; (try dsimp only at hSw); go_simp; (try with_reducible rfl)
              try simp only [Act.put, List.setIfInBounds_toArray, List.set_cons_zero, List.set_cons_succ]
              refine wpAnyH_take (i := 5) (v := ?_) (by simp only [List.getElem?_toArray, List.getElem?_cons_zero, List.getElem?_cons_succ]; rfl) (by kernel_rfl) (by kernel_rfl) (by kernel_rfl) (fun _ _ _ h => h) (Or.inl ⟨by rfl, ?_⟩) (by assumption) ?_
              rotate_left
              · intro w hSw; (try dsimp only at hSw); go_simp; (try with_reducible rfl)
              try simp only [Act.put, List.setIfInBounds_toArray, List.set_cons_zero, List.set_cons_succ]
              refine wpAnyH_take (i := 6) (v := ?_) (by simp only [List.getElem?_toArray, List.getElem?_cons_zero, List.getElem?_cons_succ]; rfl) (by kernel_rfl) (by kernel_rfl) (by kernel_rfl) (fun _ _ _ h => h) (Or.inl ⟨by rfl, ?_⟩) (by assumption) ?_
              rotate_left
              · intro w hSw; (try dsimp only at hSw); go_simp; (try with_reducible rfl)
              try simp only [Act.put, List.setIfInBounds_toArray, List.set_cons_zero, List.set_cons_succ]
              refine wpAnyH_take (i := 7) (v := ?_) (by simp only [List.getElem?_toArray, List.getElem?_cons_zero, List.getElem?_cons_succ]; rfl) (by kernel_rfl) (by kernel_rfl) (by kernel_rfl) (fun _ _ _ h => h) (Or.inl ⟨by rfl, ?_⟩) (by assumption) ?_
              rotate_left
              · intro w hSw; (try dsimp only at hSw); go_simp; (try with_reducible rfl)
              try simp only [Act.put, List.setIfInBounds_toArray, List.set_cons_zero, List.set_cons_succ]
              refine wpAnyH_ready (rs := [8, 13]) (by kernel_rfl) (by simp) ?_
              refine AllReadyH.cons (by simp only [List.getElem?_toArray, List.getElem?_cons_zero, List.getElem?_cons_succ]; rfl) (fun K hK => ?_) ?_
              · skip
                go_simp
                go_at_call 39
                have hS := (‹Below _ w8 _ ∧ _›).1
                (with_reducible refine (AT.out _ hS).mono ?_)
                rintro e w' ⟨rfl, rfl⟩
                clear hS
                try go_wp2_with fail
                refine hK.out _ _ ?_ (fun hH1 => ?_)
                · (try dsimp only); (first | assumption | exact KS.out _ (Below.refl w8.heap.size w8).drew)
                clear hK K hH0
                try simp only [Act.put, List.setIfInBounds_toArray, List.set_cons_zero, List.set_cons_succ]
                refine wpAnyH_ready (rs := [9, 13]) (by kernel_rfl) (by simp) ?_
                refine AllReadyH.cons (by simp only [List.getElem?_toArray, List.getElem?_cons_zero, List.getElem?_cons_succ]; rfl) (fun K hK => ?_) ?_
                · skip
                  go_simp
                  go_at_call 48
                  have hS := (‹Below _ w8 _ ∧ _›).1
                  (with_reducible refine (SH.out _ hS).mono ?_)
                  rintro e w5 ⟨rfl, hb5⟩
                  have hS' := KS.out _ (hS.trans (hb5.mono (by first | exact hS.size | (have h1 := hS.size; have h2 := HB6.out; omega))))
                  try (have hLZ := LZ.out.keep hb5; clear LZ; have LZ := hid hLZ; clear hLZ)
                  clear hb5 hS
                  try go_wp2_with fail
                  refine hK.out _ _ ?_ (fun hH2 => ?_)
                  · (try dsimp only); (first | assumption | exact KS.out _ (Below.refl w8.heap.size w8).drew)
                  clear hK K hH1
                  try simp only [Act.put, List.setIfInBounds_toArray, List.set_cons_zero, List.set_cons_succ]
                  refine wpAnyH_take (i := 10) (v := ?_) (by simp only [List.getElem?_toArray, List.getElem?_cons_zero, List.getElem?_cons_succ]; rfl) (by kernel_rfl) (by kernel_rfl) (by kernel_rfl) (fun _ _ _ h => h) (Or.inl ⟨by rfl, ?_⟩) (by assumption) ?_
                  rotate_left
                  · intro w hSw; (try dsimp only at hSw); go_simp; (try with_reducible rfl)
                  try simp only [Act.put, List.setIfInBounds_toArray, List.set_cons_zero, List.set_cons_succ]
                  refine wpAnyH_take (i := 11) (v := ?_) (by simp only [List.getElem?_toArray, List.getElem?_cons_zero, List.getElem?_cons_succ]; rfl) (by kernel_rfl) (by kernel_rfl) (by kernel_rfl) (fun _ _ _ h => h) (Or.inl ⟨by rfl, ?_⟩) (by assumption) ?_
                  rotate_left
                  · intro w hSw; (try dsimp only at hSw); go_simp; (try with_reducible rfl)
                  try simp only [Act.put, List.setIfInBounds_toArray, List.set_cons_zero, List.set_cons_succ]
                  refine wpAnyH_take (i := 12) (v := ?_) (by simp only [List.getElem?_toArray, List.getElem?_cons_zero, List.getElem?_cons_succ]; rfl) (by kernel_rfl) (by kernel_rfl) (by kernel_rfl) (fun _ _ _ h => h) (Or.inl ⟨by rfl, ?_⟩) (by assumption) ?_
                  rotate_left
                  · intro w hSw; (try dsimp only at hSw); go_simp; (try with_reducible rfl)
                  try simp only [Act.put, List.setIfInBounds_toArray, List.set_cons_zero, List.set_cons_succ]
                  refine wpAnyH_ready (rs := [13]) (by kernel_rfl) (by simp) ?_
                  refine AllReadyH.cons (by simp only [List.getElem?_toArray, List.getElem?_cons_zero, List.getElem?_cons_succ]; rfl) (fun K hK => ?_) AllReadyH.nil
                  go_simp
                  have hS := (‹Below _ w8 _ ∧ _›).1
                  first
                    | (have LZ : Hid (Loc (w5.alloc (.cells #[.bool false, .string ⟨#[]⟩, .bool false, .string ⟨#[]⟩, .bool false, .string ⟨#[]⟩, .bool false, .string ⟨#[]⟩, .bool false, .string ⟨#[]⟩, .bool false, .string ⟨#[]⟩, .bool false, .string ⟨#[]⟩, .bool false, .string ⟨#[]⟩] 80)) w5.heap.size 80 (vals8 fun _ => Val.zero)) := hid (Loc.new w5 80 (vals8 fun _ => Val.zero)); have HBN := hid hS.size; have hS' := KS.out (w5.alloc (.cells #[.bool false, .string ⟨#[]⟩, .bool false, .string ⟨#[]⟩, .bool false, .string ⟨#[]⟩, .bool false, .string ⟨#[]⟩, .bool false, .string ⟨#[]⟩, .bool false, .string ⟨#[]⟩, .bool false, .string ⟨#[]⟩, .bool false, .string ⟨#[]⟩] 80)) (hS.alloc hS.size _); clear hS; generalize w5.alloc (.cells #[.bool false, .string ⟨#[]⟩, .bool false, .string ⟨#[]⟩, .bool false, .string ⟨#[]⟩, .bool false, .string ⟨#[]⟩, .bool false, .string ⟨#[]⟩, .bool false, .string ⟨#[]⟩, .bool false, .string ⟨#[]⟩, .bool false, .string ⟨#[]⟩] 80) = w6 at *; generalize w5.heap.size = b6 at *)
                    | (have LZ : Hid (Loc (w8.alloc (.cells #[.bool false, .string ⟨#[]⟩, .bool false, .string ⟨#[]⟩, .bool false, .string ⟨#[]⟩, .bool false, .string ⟨#[]⟩, .bool false, .string ⟨#[]⟩, .bool false, .string ⟨#[]⟩, .bool false, .string ⟨#[]⟩, .bool false, .string ⟨#[]⟩] 80)).drew w8.heap.size 80 (vals8 fun _ => Val.zero)) := hid (Loc.new w8 80 (vals8 fun _ => Val.zero)); have HBN := hid (Nat.le_refl w8.heap.size); have hS' := KS.out (w8.alloc (.cells #[.bool false, .string ⟨#[]⟩, .bool false, .string ⟨#[]⟩, .bool false, .string ⟨#[]⟩, .bool false, .string ⟨#[]⟩, .bool false, .string ⟨#[]⟩, .bool false, .string ⟨#[]⟩, .bool false, .string ⟨#[]⟩, .bool false, .string ⟨#[]⟩] 80)).drew (((Below.refl w8.heap.size w8).alloc (Nat.le_refl _) _).drew); clear hS; generalize (w8.alloc (.cells #[.bool false, .string ⟨#[]⟩, .bool false, .string ⟨#[]⟩, .bool false, .string ⟨#[]⟩, .bool false, .string ⟨#[]⟩, .bool false, .string ⟨#[]⟩, .bool false, .string ⟨#[]⟩, .bool false, .string ⟨#[]⟩, .bool false, .string ⟨#[]⟩] 80)).drew = w6 at *; generalize hb6 : w8.heap.size = b6 at *; have HB6 := hid hb6; clear hb6)
                  try go_wp2_with fail
                  refine hK.out _ _ ?_ (fun hH3 => ?_)
                  · (try dsimp only); (first | assumption | exact KS.out _ (Below.refl w8.heap.size w8).drew)
                  clear hK K hH2
                  try simp only [Act.put, List.setIfInBounds_toArray, List.set_cons_zero, List.set_cons_succ]
                  refine wpAnyH_ready (rs := [14]) (by kernel_rfl) (by simp) ?_
                  refine AllReadyH.cons (by simp only [List.getElem?_toArray, List.getElem?_cons_zero, List.getElem?_cons_succ]; rfl) (fun K hK => ?_) AllReadyH.nil
                  have hS := (‹Below _ w8 _ ∧ _›).1
                  refine wp_store_mid 80 _ _ rfl _ 0 (vals8 f).toArray rfl rfl (LZ.out.there8 f) Try.infoWorld (vals8_one f) ?_
                  have hS' := KS.out _ (Below.setCells' HBN.out (vals8 f) 0 hS)
                  have LN := hid (LZ.out.setAll (vs := vals8 f) rfl)
                  clear hS
                  first
                    | (generalize w5.setCells b6 0 (vals8 f) = wz at *; have LN2 : Hid (Loc wz b6 80 (vals8 f)) := by with_reducible exact LN)
                    | (generalize w6.setCells b6 0 (vals8 f) = wz at *; have LN2 : Hid (Loc wz b6 80 (vals8 f)) := by with_reducible exact LN)
                  refine hK.out _ _ ?_ (fun hH4 => ?_)
                  · (try dsimp only); (first | assumption | exact KS.out _ (Below.refl w8.heap.size w8).drew)
                  clear hK K hH3
                  try simp only [Act.put]
                  refine wpAnyH_take (i := 15) (v := ?_) (by simp only [List.getElem?_toArray, List.getElem?_cons_zero, List.getElem?_cons_succ]; rfl) (by kernel_rfl) (by kernel_rfl) (by kernel_rfl) (fun _ _ _ h => h) (Or.inl ⟨by rfl, ?_⟩) (by assumption) ?_
                  rotate_left
                  · intro w hSw; (try dsimp only at hSw); go_simp; (try with_reducible rfl)
                  try simp only [Act.put, List.setIfInBounds_toArray, List.set_cons_zero, List.set_cons_succ]
                  refine wpAnyH_done (by kernel_rfl) ?_ _
                  refine NoPanic.normal ?_
                  exact HJ b6 wz ⟨(‹Below _ w8 wz ∧ _›).1, LN2.out⟩
                refine AllReadyH.cons (by simp only [List.getElem?_toArray, List.getElem?_cons_zero, List.getElem?_cons_succ]; rfl) (fun K hK => ?_) AllReadyH.nil
                go_simp
                have hS := (‹Below _ w8 _ ∧ _›).1
                first
                  | (have LZ : Hid (Loc (w5.alloc (.cells #[.bool false, .string ⟨#[]⟩, .bool false, .string ⟨#[]⟩, .bool false, .string ⟨#[]⟩, .bool false, .string ⟨#[]⟩, .bool false, .string ⟨#[]⟩, .bool false, .string ⟨#[]⟩, .bool false, .string ⟨#[]⟩, .bool false, .string ⟨#[]⟩] 80)) w5.heap.size 80 (vals8 fun _ => Val.zero)) := hid (Loc.new w5 80 (vals8 fun _ => Val.zero)); have HBN := hid hS.size; have hS' := KS.out (w5.alloc (.cells #[.bool false, .string ⟨#[]⟩, .bool false, .string ⟨#[]⟩, .bool false, .string ⟨#[]⟩, .bool false, .string ⟨#[]⟩, .bool false, .string ⟨#[]⟩, .bool false, .string ⟨#[]⟩, .bool false, .string ⟨#[]⟩, .bool false, .string ⟨#[]⟩] 80)) (hS.alloc hS.size _); clear hS; generalize w5.alloc (.cells #[.bool false, .string ⟨#[]⟩, .bool false, .string ⟨#[]⟩, .bool false, .string ⟨#[]⟩, .bool false, .string ⟨#[]⟩, .bool false, .string ⟨#[]⟩, .bool false, .string ⟨#[]⟩, .bool false, .string ⟨#[]⟩, .bool false, .string ⟨#[]⟩] 80) = w6 at *; generalize w5.heap.size = b6 at *)
                  | (have LZ : Hid (Loc (w8.alloc (.cells #[.bool false, .string ⟨#[]⟩, .bool false, .string ⟨#[]⟩, .bool false, .string ⟨#[]⟩, .bool false, .string ⟨#[]⟩, .bool false, .string ⟨#[]⟩, .bool false, .string ⟨#[]⟩, .bool false, .string ⟨#[]⟩, .bool false, .string ⟨#[]⟩] 80)).drew w8.heap.size 80 (vals8 fun _ => Val.zero)) := hid (Loc.new w8 80 (vals8 fun _ => Val.zero)); have HBN := hid (Nat.le_refl w8.heap.size); have hS' := KS.out (w8.alloc (.cells #[.bool false, .string ⟨#[]⟩, .bool false, .string ⟨#[]⟩, .bool false, .string ⟨#[]⟩, .bool false, .string ⟨#[]⟩, .bool false, .string ⟨#[]⟩, .bool false, .string ⟨#[]⟩, .bool false, .string ⟨#[]⟩, .bool false, .string ⟨#[]⟩] 80)).drew (((Below.refl w8.heap.size w8).alloc (Nat.le_refl _) _).drew); clear hS; generalize (w8.alloc (.cells #[.bool false, .string ⟨#[]⟩, .bool false, .string ⟨#[]⟩, .bool false, .string ⟨#[]⟩, .bool false, .string ⟨#[]⟩, .bool false, .string ⟨#[]⟩, .bool false, .string ⟨#[]⟩, .bool false, .string ⟨#[]⟩, .bool false, .string ⟨#[]⟩] 80)).drew = w6 at *; generalize hb6 : w8.heap.size = b6 at *; have HB6 := hid hb6; clear hb6)
                try go_wp2_with fail
                refine hK.out _ _ ?_ (fun hH5 => ?_)
                · (try dsimp only); (first | assumption | exact KS.out _ (Below.refl w8.heap.size w8).drew)
                clear hK K hH1
                try simp only [Act.put, List.setIfInBounds_toArray, List.set_cons_zero, List.set_cons_succ]
                refine wpAnyH_ready (rs := [9]) (by kernel_rfl) (by simp) ?_
                refine AllReadyH.cons (by simp only [List.getElem?_toArray, List.getElem?_cons_zero, List.getElem?_cons_succ]; rfl) (fun K hK => ?_) AllReadyH.nil
                go_simp
                go_at_call 48
                have hS := (‹Below _ w8 _ ∧ _›).1
                (with_reducible refine (SH.out _ hS).mono ?_)
                rintro e w5 ⟨rfl, hb5⟩
                have hS' := KS.out _ (hS.trans (hb5.mono (by first | exact hS.size | (have h1 := hS.size; have h2 := HB6.out; omega))))
                try (have hLZ := LZ.out.keep hb5; clear LZ; have LZ := hid hLZ; clear hLZ)
                clear hb5 hS
                try go_wp2_with fail
                refine hK.out _ _ ?_ (fun hH6 => ?_)
                · (try dsimp only); (first | assumption | exact KS.out _ (Below.refl w8.heap.size w8).drew)
                clear hK K hH5
                try simp only [Act.put, List.setIfInBounds_toArray, List.set_cons_zero, List.set_cons_succ]
                refine wpAnyH_take (i := 10) (v := ?_) (by simp only [List.getElem?_toArray, List.getElem?_cons_zero, List.getElem?_cons_succ]; rfl) (by kernel_rfl) (by kernel_rfl) (by kernel_rfl) (fun _ _ _ h => h) (Or.inl ⟨by rfl, ?_⟩) (by assumption) ?_
                rotate_left
                · intro w hSw; (try dsimp only at hSw); go_simp; (try with_reducible rfl)
                try simp only [Act.put, List.setIfInBounds_toArray, List.set_cons_zero, List.set_cons_succ]
                refine wpAnyH_take (i := 11) (v := ?_) (by simp only [List.getElem?_toArray, List.getElem?_cons_zero, List.getElem?_cons_succ]; rfl) (by kernel_rfl) (by kernel_rfl) (by kernel_rfl) (fun _ _ _ h => h) (Or.inl ⟨by rfl, ?_⟩) (by assumption) ?_
                rotate_left
                · intro w hSw; (try dsimp only at hSw); go_simp; (try with_reducible rfl)
                try simp only [Act.put, List.setIfInBounds_toArray, List.set_cons_zero, List.set_cons_succ]
                refine wpAnyH_take (i := 12) (v := ?_) (by simp only [List.getElem?_toArray, List.getElem?_cons_zero, List.getElem?_cons_succ]; rfl) (by kernel_rfl) (by kernel_rfl) (by kernel_rfl) (fun _ _ _ h => h) (Or.inl ⟨by rfl, ?_⟩) (by assumption) ?_
                rotate_left
                · intro w hSw; (try dsimp only at hSw); go_simp; (try with_reducible rfl)
                try simp only [Act.put, List.setIfInBounds_toArray, List.set_cons_zero, List.set_cons_succ]
                refine wpAnyH_ready (rs := [14]) (by kernel_rfl) (by simp) ?_
                refine AllReadyH.cons (by simp only [List.getElem?_toArray, List.getElem?_cons_zero, List.getElem?_cons_succ]; rfl) (fun K hK => ?_) AllReadyH.nil
                have hS := (‹Below _ w8 _ ∧ _›).1
                refine wp_store_mid 80 _ _ rfl _ 0 (vals8 f).toArray rfl rfl (LZ.out.there8 f) Try.infoWorld (vals8_one f) ?_
                have hS' := KS.out _ (Below.setCells' HBN.out (vals8 f) 0 hS)
                have LN := hid (LZ.out.setAll (vs := vals8 f) rfl)
                clear hS
                first
                  | (generalize w5.setCells b6 0 (vals8 f) = wz at *; have LN2 : Hid (Loc wz b6 80 (vals8 f)) := by with_reducible exact LN)
                  | (generalize w6.setCells b6 0 (vals8 f) = wz at *; have LN2 : Hid (Loc wz b6 80 (vals8 f)) := by with_reducible exact LN)
                refine hK.out _ _ ?_ (fun hH7 => ?_)
                · (try dsimp only); (first | assumption | exact KS.out _ (Below.refl w8.heap.size w8).drew)
                clear hK K hH6
                try simp only [Act.put]
                refine wpAnyH_take (i := 15) (v := ?_) (by simp only [List.getElem?_toArray, List.getElem?_cons_zero, List.getElem?_cons_succ]; rfl) (by kernel_rfl) (by kernel_rfl) (by kernel_rfl) (fun _ _ _ h => h) (Or.inl ⟨by rfl, ?_⟩) (by assumption) ?_
                rotate_left
                · intro w hSw; (try dsimp only at hSw); go_simp; (try with_reducible rfl)
                try simp only [Act.put, List.setIfInBounds_toArray, List.set_cons_zero, List.set_cons_succ]
                refine wpAnyH_done (by kernel_rfl) ?_ _
                refine NoPanic.normal ?_
                exact HJ b6 wz ⟨(‹Below _ w8 wz ∧ _›).1, LN2.out⟩
              refine AllReadyH.cons (by simp only [List.getElem?_toArray, List.getElem?_cons_zero, List.getElem?_cons_succ]; rfl) (fun K hK => ?_) AllReadyH.nil
              go_simp
              have hS := (‹Below _ w8 _ ∧ _›).1
              first
                | (have LZ : Hid (Loc (w5.alloc (.cells #[.bool false, .string ⟨#[]⟩, .bool false, .string ⟨#[]⟩, .bool false, .string ⟨#[]⟩, .bool false, .string ⟨#[]⟩, .bool false, .string ⟨#[]⟩, .bool false, .string ⟨#[]⟩, .bool false, .string ⟨#[]⟩, .bool false, .string ⟨#[]⟩] 80)) w5.heap.size 80 (vals8 fun _ => Val.zero)) := hid (Loc.new w5 80 (vals8 fun _ => Val.zero)); have HBN := hid hS.size; have hS' := KS.out (w5.alloc (.cells #[.bool false, .string ⟨#[]⟩, .bool false, .string ⟨#[]⟩, .bool false, .string ⟨#[]⟩, .bool false, .string ⟨#[]⟩, .bool false, .string ⟨#[]⟩, .bool false, .string ⟨#[]⟩, .bool false, .string ⟨#[]⟩, .bool false, .string ⟨#[]⟩] 80)) (hS.alloc hS.size _); clear hS; generalize w5.alloc (.cells #[.bool false, .string ⟨#[]⟩, .bool false, .string ⟨#[]⟩, .bool false, .string ⟨#[]⟩, .bool false, .string ⟨#[]⟩, .bool false, .string ⟨#[]⟩, .bool false, .string ⟨#[]⟩, .bool false, .string ⟨#[]⟩, .bool false, .string ⟨#[]⟩] 80) = w6 at *; generalize w5.heap.size = b6 at *)
                | (have LZ : Hid (Loc (w8.alloc (.cells #[.bool false, .string ⟨#[]⟩, .bool false, .string ⟨#[]⟩, .bool false, .string ⟨#[]⟩, .bool false, .string ⟨#[]⟩, .bool false, .string ⟨#[]⟩, .bool false, .string ⟨#[]⟩, .bool false, .string ⟨#[]⟩, .bool false, .string ⟨#[]⟩] 80)).drew w8.heap.size 80 (vals8 fun _ => Val.zero)) := hid (Loc.new w8 80 (vals8 fun _ => Val.zero)); have HBN := hid (Nat.le_refl w8.heap.size); have hS' := KS.out (w8.alloc (.cells #[.bool false, .string ⟨#[]⟩, .bool false, .string ⟨#[]⟩, .bool false, .string ⟨#[]⟩, .bool false, .string ⟨#[]⟩, .bool false, .string ⟨#[]⟩, .bool false, .string ⟨#[]⟩, .bool false, .string ⟨#[]⟩, .bool false, .string ⟨#[]⟩] 80)).drew (((Below.refl w8.heap.size w8).alloc (Nat.le_refl _) _).drew); clear hS; generalize (w8.alloc (.cells #[.bool false, .string ⟨#[]⟩, .bool false, .string ⟨#[]⟩, .bool false, .string ⟨#[]⟩, .bool false, .string ⟨#[]⟩, .bool false, .string ⟨#[]⟩, .bool false, .string ⟨#[]⟩, .bool false, .string ⟨#[]⟩, .bool false, .string ⟨#[]⟩] 80)).drew = w6 at *; generalize hb6 : w8.heap.size = b6 at *; have HB6 := hid hb6; clear hb6)
              try go_wp2_with fail
              refine hK.out _ _ ?_ (fun hH8 => ?_)
              · (try dsimp only); (first | assumption | exact KS.out _ (Below.refl w8.heap.size w8).drew)
              clear hK K hH0
              try simp only [Act.put, List.setIfInBounds_toArray, List.set_cons_zero, List.set_cons_succ]
              refine wpAnyH_ready (rs := [8]) (by kernel_rfl) (by simp) ?_
              refine AllReadyH.cons (by simp only [List.getElem?_toArray, List.getElem?_cons_zero, List.getElem?_cons_succ]; rfl) (fun K hK => ?_) AllReadyH.nil
              go_simp
              go_at_call 39
              have hS := (‹Below _ w8 _ ∧ _›).1
              (with_reducible refine (AT.out _ hS).mono ?_)
              rintro e w' ⟨rfl, rfl⟩
              clear hS
              try go_wp2_with fail
              refine hK.out _ _ ?_ (fun hH9 => ?_)
              · (try dsimp only); (first | assumption | exact KS.out _ (Below.refl w8.heap.size w8).drew)
              clear hK K hH8
              try simp only [Act.put, List.setIfInBounds_toArray, List.set_cons_zero, List.set_cons_succ]
              refine wpAnyH_ready (rs := [9]) (by kernel_rfl) (by simp) ?_
              refine AllReadyH.cons (by simp only [List.getElem?_toArray, List.getElem?_cons_zero, List.getElem?_cons_succ]; rfl) (fun K hK => ?_) AllReadyH.nil
              go_simp
              go_at_call 48
              have hS := (‹Below _ w8 _ ∧ _›).1
              (with_reducible refine (SH.out _ hS).mono ?_)
              rintro e w5 ⟨rfl, hb5⟩
              have hS' := KS.out _ (hS.trans (hb5.mono (by first | exact hS.size | (have h1 := hS.size; have h2 := HB6.out; omega))))
              try (have hLZ := LZ.out.keep hb5; clear LZ; have LZ := hid hLZ; clear hLZ)
              clear hb5 hS
              try go_wp2_with fail
              refine hK.out _ _ ?_ (fun hH10 => ?_)
              · (try dsimp only); (first | assumption | exact KS.out _ (Below.refl w8.heap.size w8).drew)
              clear hK K hH9
              try simp only [Act.put, List.setIfInBounds_toArray, List.set_cons_zero, List.set_cons_succ]
              refine wpAnyH_take (i := 10) (v := ?_) (by simp only [List.getElem?_toArray, List.getElem?_cons_zero, List.getElem?_cons_succ]; rfl) (by kernel_rfl) (by kernel_rfl) (by kernel_rfl) (fun _ _ _ h => h) (Or.inl ⟨by rfl, ?_⟩) (by assumption) ?_
              rotate_left
              · intro w hSw; (try dsimp only at hSw); go_simp; (try with_reducible rfl)
              try simp only [Act.put, List.setIfInBounds_toArray, List.set_cons_zero, List.set_cons_succ]
              refine wpAnyH_take (i := 11) (v := ?_) (by simp only [List.getElem?_toArray, List.getElem?_cons_zero, List.getElem?_cons_succ]; rfl) (by kernel_rfl) (by kernel_rfl) (by kernel_rfl) (fun _ _ _ h => h) (Or.inl ⟨by rfl, ?_⟩) (by assumption) ?_
              rotate_left
              · intro w hSw; (try dsimp only at hSw); go_simp; (try with_reducible rfl)
              try simp only [Act.put, List.setIfInBounds_toArray, List.set_cons_zero, List.set_cons_succ]
              refine wpAnyH_take (i := 12) (v := ?_) (by simp only [List.getElem?_toArray, List.getElem?_cons_zero, List.getElem?_cons_succ]; rfl) (by kernel_rfl) (by kernel_rfl) (by kernel_rfl) (fun _ _ _ h => h) (Or.inl ⟨by rfl, ?_⟩) (by assumption) ?_
              rotate_left
              · intro w hSw; (try dsimp only at hSw); go_simp; (try with_reducible rfl)
              try simp only [Act.put, List.setIfInBounds_toArray, List.set_cons_zero, List.set_cons_succ]
              refine wpAnyH_ready (rs := [14]) (by kernel_rfl) (by simp) ?_
              refine AllReadyH.cons (by simp only [List.getElem?_toArray, List.getElem?_cons_zero, List.getElem?_cons_succ]; rfl) (fun K hK => ?_) AllReadyH.nil
              have hS := (‹Below _ w8 _ ∧ _›).1
              refine wp_store_mid 80 _ _ rfl _ 0 (vals8 f).toArray rfl rfl (LZ.out.there8 f) Try.infoWorld (vals8_one f) ?_
              have hS' := KS.out _ (Below.setCells' HBN.out (vals8 f) 0 hS)
              have LN := hid (LZ.out.setAll (vs := vals8 f) rfl)
              clear hS
              first
                | (generalize w5.setCells b6 0 (vals8 f) = wz at *; have LN2 : Hid (Loc wz b6 80 (vals8 f)) := by with_reducible exact LN)
                | (generalize w6.setCells b6 0 (vals8 f) = wz at *; have LN2 : Hid (Loc wz b6 80 (vals8 f)) := by with_reducible exact LN)
              refine hK.out _ _ ?_ (fun hH11 => ?_)
              · (try dsimp only); (first | assumption | exact KS.out _ (Below.refl w8.heap.size w8).drew)
              clear hK K hH10
              try simp only [Act.put]
              refine wpAnyH_take (i := 15) (v := ?_) (by simp only [List.getElem?_toArray, List.getElem?_cons_zero, List.getElem?_cons_succ]; rfl) (by kernel_rfl) (by kernel_rfl) (by kernel_rfl) (fun _ _ _ h => h) (Or.inl ⟨by rfl, ?_⟩) (by assumption) ?_
              rotate_left
              · intro w hSw; (try dsimp only at hSw); go_simp; (try with_reducible rfl)
              try simp only [Act.put, List.setIfInBounds_toArray, List.set_cons_zero, List.set_cons_succ]
              refine wpAnyH_done (by kernel_rfl) ?_ _
              refine NoPanic.normal ?_
              exact HJ b6 wz ⟨(‹Below _ w8 wz ∧ _›).1, LN2.out⟩
              -- END 18
            · skip
              obtain ⟨hb, hL⟩ := hS
              have AN := hid (H8.out.below hb)
              have BZ := hid (B8.out.below' hb)
              have LN := hid (L8.out.below hb)
              have ST := hid (S8.out.below hb)
              have MN := hid hL
              have k1 : wn.cell? ⟨b6, 1, none⟩ = some (.int .i64 (n : Int)) := (ST.out.1.cell 1).trans (by rw [← HXS.out]; rfl)
              clear hb hL
              go_wp2_with (first
                | refine wpList_load_vals rfl (.tmp 10) rfl bn rfl f MN.out ?_
                | (refine wpList_store_mid rfl 80 (.tmp 73) (.tmp 72) rfl bw (n * 16) (vals8 f).toArray rfl rfl (wl_there LN.out.1 hn f) Try.infoWorld (vals8_one f) ?_
                   have EZ := evo_stores LN.out.2 (vals8 f) (n * 16) wn
                   have LZ := hid (wl_stored LN.out hn f)
                   have HZ := hid (AN.out.frame EZ (by omega))
                   have BZ2 := hid (BZ.out.step EZ (by omega))
                   clear EZ
                   try with_reducible dsimp only [List.toArray_toList]
                   generalize wn.setCells bw (n * 16) (vals8 f) = wz at *))
              try go_wp2_with fail
              go_roundw
              case rel => exact ⟨k + 1, g8, Y2, _, by omega, by go_num, HZ, BZ2, SN, hid BN.out, LZ, NW⟩
              case measure => simp [intOf]; omega
        · have p1 : (x.kind == 1) = false := by simpa using h1
          cases bz with
          | false => as_aux_lemma =>
            have hkeep : (⟨yc, yn, yv, yl⟩ : Evt).code ≠ 0 ∨ (x.kind ≠ 1 ∧ x.kind ≠ 3 ∧ x.kind ≠ 4) := by
              right
              refine ⟨h1, fun h3 => ?_, fun h4 => ?_⟩
              all_goals
                have e : (doH H x).1.code = 0 := by rw [← HY.out]; exact HC0.out
                have hsb := doH_seat e (by omega) (by omega)
                obtain ⟨n, hn, hxs⟩ := seat_nat hsb
                obtain ⟨D, hD, -⟩ := doH_busy hn hxs e (by omega) (by omega) (by omega)
                have := HBZ.out
                rw [hxs, seatB_nat hn, Int.toNat_natCast, hD] at this
                cases this
            have HK := hid hkeep
            clear hkeep h1
            go_wp2
            go_roundw
            case rel => exact ⟨k + 1, g8, Y2, WS, by omega, by go_num, H8, B8, SN, BN, L8, hid (SHO.out.keep HS.out HBe.out SC.out HK.out)⟩
            case measure => simp [intOf]; omega
          | true => as_aux_lemma =>
            obtain ⟨n, hn, hxs, D, hD⟩ : ∃ n, n < 5 ∧ x.s = (n : Nat) ∧ ∃ D, H.seats n = some D := by
              have := HBZ.out
              rw [Bool.and_eq_true] at this
              obtain ⟨n, hn, hxs⟩ := seat_nat this.1
              refine ⟨n, hn, hxs, ?_⟩
              have h2 := this.2
              rw [hxs, Int.toNat_natCast] at h2
              exact Option.isSome_iff_exists.1 h2
            have HXS := hid hxs
            have SE := hid (by have := ref_IsSeat2 x.s w8; rw [hxs, seatB_nat hn] at this; exact this : Calls Try.prog 63 #[.int .i64 (n : Int)] w8 (fun e w' => e = .returned (.bool true) ∧ w8 = w'))
            have hn0 : (0 : Int) ≤ (n : Int) := by omega
            have hn5 : (n : Int) < 5 := by omega
            have hcod : Hid ((doH H x).1.code = 0) := hid (by rw [← HY.out]; exact HC0.out)
            rw [hxs] at c1
            clear hxs hD
            go_wp2_with fail
            refine SE.out.mono ?_
            rintro e w' ⟨rfl, rfl⟩
            by_cases h2 : x.kind = 2
            · have p2 : (x.kind == 2) = true := by simpa using h2
              obtain ⟨m, hm, hkey, hv⟩ := shot_get HTok.out HS.out HBe.out SHO.out hn HXS.out hcod.out h2
              have hv2 : yv = WS n m := by rw [← hv, ← HY.out]
              have IK := hid (ref_IsKey_in (m : Int) w8.drew (by omega))
              obtain ⟨d0, d1, -, -⟩ := wl_cells L8.out n m hn hm
              have hm0 : (0 : Int) ≤ (m : Int) := by omega
              have hm8 : (m : Int) < 8 := by omega
              rw [hkey] at c4
              rw [hv2] at e2 e3
              generalize WS n m = vv at *
              have HK := hid (show (⟨yc, yn, yv, yl⟩ : Evt).code ≠ 0 ∨ (x.kind ≠ 1 ∧ x.kind ≠ 3 ∧ x.kind ≠ 4) from .inr ⟨h1, by omega, by omega⟩)
              have H9 := hid (H8.out.below (Below.refl _ _).drew)
              have B9 := hid B8.out.drew
              have L9 := hid (show LocC w8.drew g8 41 bw 99 (wl WS) from L8.out)
              have hS0 : w8.drew.cell? ⟨b6, 4, none⟩ = some (.int .i64 m) ∧ w8.drew.cell? ⟨b8, 2, none⟩ = some (.bool vv.there) ∧ w8.drew.cell? ⟨b8, 3, none⟩ = some (.string vv.bytes) ∧ w8.drew.cell? ⟨bw, n * 16 + m * 2, none⟩ = some (.bool vv.there) ∧ w8.drew.cell? ⟨bw, n * 16 + m * 2 + 1, none⟩ = some (.string vv.bytes) := ⟨c4, e2, e3, d0, d1⟩
              clear h1 h2 hkey hv hv2 H8 B8 L8 c4 e2 e3 d0 d1
              go_wp2_with fail
              -- REGION 26
              refine wp_region_noPanic ?_
              refine wp_region_held_drew (S := (fun W' : World => W'.cell? ⟨b6, 4, none⟩ = some (.int .i64 m) ∧ W'.cell? ⟨b8, 2, none⟩ = some (.bool vv.there) ∧ W'.cell? ⟨b8, 3, none⟩ = some (.string vv.bytes) ∧ W'.cell? ⟨bw, n * 16 + m * 2, none⟩ = some (.bool vv.there) ∧ W'.cell? ⟨bw, n * 16 + m * 2 + 1, none⟩ = some (.string vv.bytes))) (by kernel_rfl) ?_ (fun hH0 => ?_)
              · (try dsimp only); (first | assumption | exact hS0)
              refine wpAnyH_take (i := 0) (v := ?_) (by simp only [List.getElem?_toArray, List.getElem?_cons_zero]; rfl) (by kernel_rfl) (by kernel_rfl) (by kernel_rfl) (fun _ _ _ h => h) (Or.inl ⟨by rfl, ?_⟩) (by assumption) ?_
              rotate_left
              · intro w hSw; (try dsimp only at hSw); go_simp; (try with_reducible rfl)
              try simp only [Act.put, List.setIfInBounds_toArray, List.set_cons_zero, List.set_cons_succ]
              refine wpAnyH_take (i := 1) (v := ?_) (by simp only [List.getElem?_toArray, List.getElem?_cons_zero, List.getElem?_cons_succ]; rfl) (by kernel_rfl) (by kernel_rfl) (by kernel_rfl) (fun _ _ _ h => h) (Or.inl ⟨by rfl, ?_⟩) (by assumption) ?_
              rotate_left
              · intro w hSw; (try dsimp only at hSw); go_simp; (try with_reducible rfl)
              try simp only [Act.put, List.setIfInBounds_toArray, List.set_cons_zero, List.set_cons_succ]
              refine wpAnyH_ready (rs := [2]) (by kernel_rfl) (by simp) ?_
              refine AllReadyH.cons (by simp only [List.getElem?_toArray, List.getElem?_cons_zero, List.getElem?_cons_succ]; rfl) (fun K hK => ?_) AllReadyH.nil
              go_simp
              go_at_call 52
              (with_reducible refine IK.out.mono ?_)
              rintro e w' ⟨rfl, rfl⟩
              try go_wp2_with fail
              refine hK.out _ _ ?_ (fun hH1 => ?_)
              · (try dsimp only); (first | assumption | exact hS0)
              clear hK K hH0
              try simp only [Act.put, List.setIfInBounds_toArray, List.set_cons_zero, List.set_cons_succ]
              refine wpAnyH_take (i := 3) (v := ?_) (by simp only [List.getElem?_toArray, List.getElem?_cons_zero, List.getElem?_cons_succ]; rfl) (by kernel_rfl) (by kernel_rfl) (by kernel_rfl) (fun _ _ _ h => h) (Or.inl ⟨by rfl, ?_⟩) (by assumption) ?_
              rotate_left
              · intro w hSw; (try dsimp only at hSw); go_simp; (try with_reducible rfl)
              try simp only [Act.put, List.setIfInBounds_toArray, List.set_cons_zero, List.set_cons_succ]
              refine wpAnyH_take (i := 4) (v := ?_) (by simp only [List.getElem?_toArray, List.getElem?_cons_zero, List.getElem?_cons_succ]; rfl) (by kernel_rfl) (by kernel_rfl) (by kernel_rfl) (fun _ _ _ h => h) (Or.inl ⟨by rfl, ?_⟩) (by assumption) ?_
              rotate_left
              · intro w hSw; (try dsimp only at hSw); go_simp; (try with_reducible rfl)
              try simp only [Act.put, List.setIfInBounds_toArray, List.set_cons_zero, List.set_cons_succ]
              refine wpAnyH_take (i := 5) (v := ?_) (by simp only [List.getElem?_toArray, List.getElem?_cons_zero, List.getElem?_cons_succ]; rfl) (by kernel_rfl) (by kernel_rfl) (by kernel_rfl) (fun _ _ _ h => h) (Or.inl ⟨by rfl, ?_⟩) (by assumption) ?_
              rotate_left
              · intro w hSw; (try dsimp only at hSw); go_simp; (try with_reducible rfl)
              try simp only [Act.put, List.setIfInBounds_toArray, List.set_cons_zero, List.set_cons_succ]
              refine wpAnyH_take (i := 6) (v := ?_) (by simp only [List.getElem?_toArray, List.getElem?_cons_zero, List.getElem?_cons_succ]; rfl) (by kernel_rfl) (by kernel_rfl) (by kernel_rfl) (fun _ _ _ h => h) (Or.inl ⟨by rfl, ?_⟩) (by assumption) ?_
              rotate_left
              · intro w hSw; (try dsimp only at hSw); go_simp; (try with_reducible rfl)
              try simp only [Act.put, List.setIfInBounds_toArray, List.set_cons_zero, List.set_cons_succ]
              refine wpAnyH_take (i := 7) (v := ?_) (by simp only [List.getElem?_toArray, List.getElem?_cons_zero, List.getElem?_cons_succ]; rfl) (by kernel_rfl) (by kernel_rfl) (by kernel_rfl) (fun _ _ _ h => h) (Or.inl ⟨by rfl, ?_⟩) (by assumption) ?_
              rotate_left
              · intro w hSw; (try dsimp only at hSw); go_simp; (try with_reducible rfl)
              try simp only [Act.put, List.setIfInBounds_toArray, List.set_cons_zero, List.set_cons_succ]
              refine wpAnyH_take (i := 8) (v := ?_) (by simp only [List.getElem?_toArray, List.getElem?_cons_zero, List.getElem?_cons_succ]; rfl) (by kernel_rfl) (by kernel_rfl) (by kernel_rfl) (fun _ _ _ h => h) (Or.inl ⟨by rfl, ?_⟩) (by assumption) ?_
              rotate_left
              · intro w hSw; (try dsimp only at hSw); go_simp; (try with_reducible rfl)
              try simp only [Act.put, List.setIfInBounds_toArray, List.set_cons_zero, List.set_cons_succ]
              refine wpAnyH_take (i := 9) (v := ?_) (by simp only [List.getElem?_toArray, List.getElem?_cons_zero, List.getElem?_cons_succ]; rfl) (by kernel_rfl) (by kernel_rfl) (by kernel_rfl) (fun _ _ _ h => h) (Or.inl ⟨by rfl, ?_⟩) (by assumption) ?_
              rotate_left
              · intro w hSw; (try dsimp only at hSw); go_simp; (try with_reducible rfl)
              try simp only [Act.put, List.setIfInBounds_toArray, List.set_cons_zero, List.set_cons_succ]
              refine wpAnyH_take (i := 10) (v := ?_) (by simp only [List.getElem?_toArray, List.getElem?_cons_zero, List.getElem?_cons_succ]; rfl) (by kernel_rfl) (by kernel_rfl) (by kernel_rfl) (fun _ _ _ h => h) (Or.inl ⟨by rfl, ?_⟩) (by assumption) ?_
              rotate_left
              · intro w hSw; (try dsimp only at hSw); go_simp; (try with_reducible rfl)
              try simp only [Act.put, List.setIfInBounds_toArray, List.set_cons_zero, List.set_cons_succ]
              refine wpAnyH_take (i := 11) (v := ?_) (by simp only [List.getElem?_toArray, List.getElem?_cons_zero, List.getElem?_cons_succ]; rfl) (by kernel_rfl) (by kernel_rfl) (by kernel_rfl) (fun _ _ _ h => h) (Or.inl ⟨by rfl, ?_⟩) (by assumption) ?_
              rotate_left
              · intro w hSw; (try dsimp only at hSw); go_simp; (try with_reducible rfl)
              try simp only [Act.put, List.setIfInBounds_toArray, List.set_cons_zero, List.set_cons_succ]
              refine wpAnyH_take (i := 12) (v := ?_) (by simp only [List.getElem?_toArray, List.getElem?_cons_zero, List.getElem?_cons_succ]; rfl) (by kernel_rfl) (by kernel_rfl) (by kernel_rfl) (fun _ _ _ h => h) (Or.inl ⟨by rfl, ?_⟩) (by assumption) ?_
              rotate_left
              · intro w hSw; (try dsimp only at hSw); go_simp; (try with_reducible rfl)
              try simp only [Act.put, List.setIfInBounds_toArray, List.set_cons_zero, List.set_cons_succ]
              refine wpAnyH_take (i := 13) (v := ?_) (by simp only [List.getElem?_toArray, List.getElem?_cons_zero, List.getElem?_cons_succ]; rfl) (by kernel_rfl) (by kernel_rfl) (by kernel_rfl) (fun _ _ _ h => h) (Or.inl ⟨by rfl, ?_⟩) (by assumption) ?_
              rotate_left
              · intro w hSw; (try dsimp only at hSw); go_simp; (try with_reducible rfl)
              try simp only [Act.put, List.setIfInBounds_toArray, List.set_cons_zero, List.set_cons_succ]
              refine wpAnyH_take (i := 14) (v := ?_) (by simp only [List.getElem?_toArray, List.getElem?_cons_zero, List.getElem?_cons_succ]; rfl) (by kernel_rfl) (by kernel_rfl) (by kernel_rfl) (fun _ _ _ h => h) (Or.inl ⟨by rfl, ?_⟩) (by assumption) ?_
              rotate_left
              · intro w hSw; (try dsimp only at hSw); go_simp; (try with_reducible rfl)
              try simp only [Act.put, List.setIfInBounds_toArray, List.set_cons_zero, List.set_cons_succ]
              refine wpAnyH_done (by kernel_rfl) ?_ _
              refine NoPanic.normal ?_
              rotate_left
              -- END 26
              go_wp2_with fail
              go_roundw
              case rel => exact ⟨k + 1, g8, Y2, WS, by omega, by go_num, H9, B9, SN, BN, L9, hid (SHO.out.keep HS.out HBe.out SC.out HK.out)⟩
              case measure => simp [intOf]; omega
            have p2 : (x.kind == 2) = false := by simpa using h2
            by_cases h3 : x.kind = 3
            · have p3 : (x.kind == 3) = true := by simpa using h3
              have hcc := hcod.out
              obtain ⟨m, hm, hkey, hsh⟩ := shot_put HS.out HBe.out SHO.out hn HXS.out hcc (v := ⟨true, x.bytes⟩) (.inl ⟨h3, rfl⟩)
              have hYY : (doH H x).2 = Y2 := by rw [← HY.out]
              rw [hYY] at hsh
              have SH := hid hsh
              have HKEY := hid hkey
              have IK := hid (ref_IsKey_in (m : Int) w8 (by omega))
              obtain ⟨d0, d1, fr0, fr1⟩ := wl_cells L8.out n m hn hm
              have hltw := L8.out.1.lt
              have hlts := S8.out.1.lt
              have hne : b6 ≠ bw := fun e => by have e1 := S8.out.2; have e2 := L8.out.2; rw [e, e2] at e1; omega
              have hm0 : (0 : Int) ≤ (m : Int) := by omega
              have hm8 : (m : Int) < 8 := by omega
              rw [hkey] at c4
              clear h1 h2 h3 hkey hsh hcc hYY
              go_wp2_with fail
              refine IK.out.mono ?_
              rintro e w' ⟨rfl, rfl⟩
              have hS0 : w8.drew.cell? ⟨b6, 4, none⟩ = some (.int .i64 m) ∧ b6 ≠ bw := ⟨c4, hne⟩
              clear c0 c1 c2 c3 c4 c5 c6 c7 e0 e1 e2 e3 e4 E8 IK T8
              go_wp2_with fail
              -- REGION 32k3
              refine wp_region_noPanic ?_
              refine wp_region_held_drew (S := (fun W' : World => W'.cell? ⟨b6, 4, none⟩ = some (.int .i64 m) ∧ b6 ≠ bw)) (by kernel_rfl) ?_ (fun hH0 => ?_)
              · (try dsimp only); (first | assumption | exact hS0)
              refine wpAnyH_take (i := 0) (v := ?_) (by simp only [List.getElem?_toArray, List.getElem?_cons_zero]; rfl) (by kernel_rfl) (by kernel_rfl) (by kernel_rfl) (fun _ _ _ h => h) (Or.inl ⟨by rfl, ?_⟩) (by assumption) ?_
              rotate_left
              · intro w hSw; (try dsimp only at hSw); go_simp; (try with_reducible rfl)
              try simp only [Act.put, List.setIfInBounds_toArray, List.set_cons_zero, List.set_cons_succ]
              refine wpAnyH_take (i := 1) (v := ?_) (by simp only [List.getElem?_toArray, List.getElem?_cons_zero, List.getElem?_cons_succ]; rfl) (by kernel_rfl) (by kernel_rfl) (by kernel_rfl) (fun _ _ _ h => h) (Or.inl ⟨by rfl, ?_⟩) (by assumption) ?_
              rotate_left
              · intro w hSw; (try dsimp only at hSw); go_simp; (try with_reducible rfl)
              try simp only [Act.put, List.setIfInBounds_toArray, List.set_cons_zero, List.set_cons_succ]
              refine wpAnyH_take (i := 2) (v := ?_) (by simp only [List.getElem?_toArray, List.getElem?_cons_zero, List.getElem?_cons_succ]; rfl) (by kernel_rfl) (by kernel_rfl) (by kernel_rfl) (fun _ _ _ h => h) (Or.inl ⟨by rfl, ?_⟩) (by assumption) ?_
              rotate_left
              · intro w hSw; (try dsimp only at hSw); go_simp; (try with_reducible rfl)
              try simp only [Act.put, List.setIfInBounds_toArray, List.set_cons_zero, List.set_cons_succ]
              refine wpAnyH_take (i := 3) (v := ?_) (by simp only [List.getElem?_toArray, List.getElem?_cons_zero, List.getElem?_cons_succ]; rfl) (by kernel_rfl) (by kernel_rfl) (by kernel_rfl) (fun _ _ _ h => h) (Or.inl ⟨by rfl, ?_⟩) (by assumption) ?_
              rotate_left
              · intro w hSw; (try dsimp only at hSw); go_simp; (try with_reducible rfl)
              try simp only [Act.put, List.setIfInBounds_toArray, List.set_cons_zero, List.set_cons_succ]
              refine wpAnyH_take (i := 4) (v := ?_) (by simp only [List.getElem?_toArray, List.getElem?_cons_zero, List.getElem?_cons_succ]; rfl) (by kernel_rfl) (by kernel_rfl) (by kernel_rfl) (fun _ _ _ h => h) (Or.inl ⟨by rfl, ?_⟩) (by assumption) ?_
              rotate_left
              · intro w hSw; (try dsimp only at hSw); go_simp; (try with_reducible rfl)
              try simp only [Act.put, List.setIfInBounds_toArray, List.set_cons_zero, List.set_cons_succ]
              refine wpAnyH_take (i := 5) (v := ?_) (by simp only [List.getElem?_toArray, List.getElem?_cons_zero, List.getElem?_cons_succ]; rfl) (by kernel_rfl) (by kernel_rfl) (by kernel_rfl) (fun _ _ _ h => h) (Or.inl ⟨by rfl, ?_⟩) (by assumption) ?_
              rotate_left
              · intro w hSw; (try dsimp only at hSw); go_simp; (try with_reducible rfl)
              try simp only [Act.put, List.setIfInBounds_toArray, List.set_cons_zero, List.set_cons_succ]
              refine wpAnyH_ready (rs := [6]) (by kernel_rfl) (by simp) ?_
              refine AllReadyH.cons (by simp only [List.getElem?_toArray, List.getElem?_cons_zero, List.getElem?_cons_succ]; rfl) (fun K hK => ?_) AllReadyH.nil
              go_simp
              have E9 : Evo 41 (41 + 1) g8 g8 w8 ((w8.setCell ⟨bw, n * 16 + m * 2, none⟩ (.bool false)).setCell ⟨bw, n * 16 + m * 2 + 1, none⟩ (.string ⟨#[]⟩)).drew := ((evo_store _ L8.out.2).trans (evo_store _ L8.out.2)).trans (Evo.drew _ _ _ _)
              have L9 : Hid (LocC ((w8.setCell ⟨bw, n * 16 + m * 2, none⟩ (.bool false)).setCell ⟨bw, n * 16 + m * 2 + 1, none⟩ (.string ⟨#[]⟩)).drew g8 41 bw 99 (wl (upd WS n (upd (WS n) m Val.zero)))) := hid (wl_put L8.out n m hn hm Val.zero)
              have H9 := hid (H8.out.frame E9 (by omega))
              have B9 := hid (B8.out.step E9 (by omega))
              have S9 := hid (S8.out.frame E9 (by omega))
              generalize ((w8.setCell ⟨bw, n * 16 + m * 2, none⟩ (.bool false)).setCell ⟨bw, n * 16 + m * 2 + 1, none⟩ (.string ⟨#[]⟩)).drew = w9 at *
              have hS' : w9.cell? ⟨b6, 4, none⟩ = some (.int .i64 m) ∧ b6 ≠ bw := ⟨(S9.out.1.cell 4).trans (by rw [← HKEY.out]; rfl), hne⟩
              clear E9 H8 B8 L8 S8 d0 d1 fr0 fr1
              try go_wp2_with fail
              refine hK.out _ _ ?_ (fun hH1 => ?_)
              · (try dsimp only); (first | assumption | exact hS0)
              clear hK K hH0
              try simp only [Act.put, List.setIfInBounds_toArray, List.set_cons_zero, List.set_cons_succ]
              refine wpAnyH_done (by kernel_rfl) ?_ _
              refine NoPanic.normal ?_
              rotate_left
              -- END 32k3
              clear hS0
              obtain ⟨k0, k4, k7⟩ : w9.cell? ⟨b6, 0, none⟩ = some (.int .i64 x.kind) ∧ w9.cell? ⟨b6, 4, none⟩ = some (.int .i64 m) ∧ w9.cell? ⟨b6, 7, none⟩ = some (.string x.bytes) := ⟨S9.out.1.cell 0, (S9.out.1.cell 4).trans (by rw [← HKEY.out]; rfl), S9.out.1.cell 7⟩
              have H9d := hid (H9.out.below (Below.refl _ _).drew)
              have B9d := hid B9.out.drew
              have L9d := hid (show LocC w9.drew g8 41 bw 99 (wl (upd WS n (upd (WS n) m Val.zero))) from L9.out)
              have S9d := hid (show LocC w9.drew g8 43 b6 101 [.int .i64 x.kind, .int .i64 x.s, .int .i64 x.mode, .int .i64 x.at_, .int .i64 x.key, .int .i64 x.to_, .int .i64 x.keep, .string x.bytes] from S9.out)
              have hS0 : w9.drew.cell? ⟨b6, 4, none⟩ = some (.int .i64 m) ∧ w9.drew.cell? ⟨b6, 7, none⟩ = some (.string x.bytes) := ⟨k4, k7⟩
              clear H9 B9 L9 S9 k4 k7
              go_wp2_with fail
              clear k0
              -- REGION 34
              refine wp_region_noPanic ?_
              refine wp_region_held_drew (S := (fun W' : World => W'.cell? ⟨b6, 4, none⟩ = some (.int .i64 m) ∧ W'.cell? ⟨b6, 7, none⟩ = some (.string x.bytes))) (by kernel_rfl) ?_ (fun hH0 => ?_)
              · (try dsimp only); (first | assumption | exact hS0)
              refine wpAnyH_take (i := 0) (v := ?_) (by simp only [List.getElem?_toArray, List.getElem?_cons_zero]; rfl) (by kernel_rfl) (by kernel_rfl) (by kernel_rfl) (fun _ _ _ h => h) (Or.inl ⟨by rfl, ?_⟩) (by assumption) ?_
              rotate_left
              · intro w hSw; (try dsimp only at hSw); go_simp; (try with_reducible rfl)
              try simp only [Act.put, List.setIfInBounds_toArray, List.set_cons_zero, List.set_cons_succ]
              refine wpAnyH_take (i := 1) (v := ?_) (by simp only [List.getElem?_toArray, List.getElem?_cons_zero, List.getElem?_cons_succ]; rfl) (by kernel_rfl) (by kernel_rfl) (by kernel_rfl) (fun _ _ _ h => h) (Or.inl ⟨by rfl, ?_⟩) (by assumption) ?_
              rotate_left
              · intro w hSw; (try dsimp only at hSw); go_simp; (try with_reducible rfl)
              try simp only [Act.put, List.setIfInBounds_toArray, List.set_cons_zero, List.set_cons_succ]
              refine wpAnyH_take (i := 2) (v := ?_) (by simp only [List.getElem?_toArray, List.getElem?_cons_zero, List.getElem?_cons_succ]; rfl) (by kernel_rfl) (by kernel_rfl) (by kernel_rfl) (fun _ _ _ h => h) (Or.inl ⟨by rfl, ?_⟩) (by assumption) ?_
              rotate_left
              · intro w hSw; (try dsimp only at hSw); go_simp; (try with_reducible rfl)
              try simp only [Act.put, List.setIfInBounds_toArray, List.set_cons_zero, List.set_cons_succ]
              refine wpAnyH_take (i := 3) (v := ?_) (by simp only [List.getElem?_toArray, List.getElem?_cons_zero, List.getElem?_cons_succ]; rfl) (by kernel_rfl) (by kernel_rfl) (by kernel_rfl) (fun _ _ _ h => h) (Or.inl ⟨by rfl, ?_⟩) (by assumption) ?_
              rotate_left
              · intro w hSw; (try dsimp only at hSw); go_simp; (try with_reducible rfl)
              try simp only [Act.put, List.setIfInBounds_toArray, List.set_cons_zero, List.set_cons_succ]
              refine wpAnyH_take (i := 4) (v := ?_) (by simp only [List.getElem?_toArray, List.getElem?_cons_zero, List.getElem?_cons_succ]; rfl) (by kernel_rfl) (by kernel_rfl) (by kernel_rfl) (fun _ _ _ h => h) (Or.inl ⟨by rfl, ?_⟩) (by assumption) ?_
              rotate_left
              · intro w hSw; (try dsimp only at hSw); go_simp; (try with_reducible rfl)
              try simp only [Act.put, List.setIfInBounds_toArray, List.set_cons_zero, List.set_cons_succ]
              refine wpAnyH_take (i := 6) (v := ?_) (by simp only [List.getElem?_toArray, List.getElem?_cons_zero, List.getElem?_cons_succ]; rfl) (by kernel_rfl) (by kernel_rfl) (by kernel_rfl) (fun _ _ _ h => h) (Or.inl ⟨by rfl, ?_⟩) (by assumption) ?_
              rotate_left
              · intro w hSw; (try dsimp only at hSw); go_simp; (try with_reducible rfl)
              try simp only [Act.put, List.setIfInBounds_toArray, List.set_cons_zero, List.set_cons_succ]
              refine wpAnyH_ready (rs := [5]) (by kernel_rfl) (by simp) ?_
              refine AllReadyH.cons (by simp only [List.getElem?_toArray, List.getElem?_cons_zero, List.getElem?_cons_succ]; rfl) (fun K hK => ?_) AllReadyH.nil
              go_simp
              go_at_call 56
              (with_reducible refine (law_has x.bytes w9.drew).mono ?_)
              rintro e w10 ⟨rfl, hb⟩
              have L10 := hid (L9d.out.below hb)
              have H10 := hid (H9d.out.below hb)
              have B10 := hid (B9d.out.below' hb)
              have S10 := hid (S9d.out.below hb)
              have hS' : w10.cell? ⟨b6, 4, none⟩ = some (.int .i64 m) ∧ w10.cell? ⟨b6, 7, none⟩ = some (.string x.bytes) := ⟨(S10.out.1.cell 4).trans (by rw [← HKEY.out]; rfl), S10.out.1.cell 7⟩
              obtain ⟨d0, d1, fr0, fr1⟩ := wl_cells L10.out n m hn hm
              have hltw := L10.out.1.lt
              clear hb hS0
              try go_wp2_with fail
              refine hK.out _ _ ?_ (fun hH1 => ?_)
              · (try dsimp only); (first | assumption | exact hS0)
              clear hK K hH0
              try simp only [Act.put, List.setIfInBounds_toArray, List.set_cons_zero, List.set_cons_succ]
              refine wpAnyH_take (i := 7) (v := ?_) (by simp only [List.getElem?_toArray, List.getElem?_cons_zero, List.getElem?_cons_succ]; rfl) (by kernel_rfl) (by kernel_rfl) (by kernel_rfl) (fun _ _ _ h => h) (Or.inl ⟨by rfl, ?_⟩) (by assumption) ?_
              rotate_left
              · intro w hSw; (try dsimp only at hSw); go_simp; (try with_reducible rfl)
              try simp only [Act.put, List.setIfInBounds_toArray, List.set_cons_zero, List.set_cons_succ]
              refine wpAnyH_ready (rs := [8]) (by kernel_rfl) (by simp) ?_
              refine AllReadyH.cons (by simp only [List.getElem?_toArray, List.getElem?_cons_zero, List.getElem?_cons_succ]; rfl) (fun K hK => ?_) AllReadyH.nil
              go_simp
              have E11 : Evo 41 (41 + 1) g8 g8 w10 ((w10.setCell ⟨bw, n * 16 + m * 2, none⟩ (.bool true)).setCell ⟨bw, n * 16 + m * 2 + 1, none⟩ (.string x.bytes)) := (evo_store _ L10.out.2).trans (evo_store _ L10.out.2)
              have L11 : Hid (LocC ((w10.setCell ⟨bw, n * 16 + m * 2, none⟩ (.bool true)).setCell ⟨bw, n * 16 + m * 2 + 1, none⟩ (.string x.bytes)) g8 41 bw 99 (wl (upd WS n (upd (WS n) m ⟨true, x.bytes⟩)))) := hid (by have := wl_put L10.out n m hn hm ⟨true, x.bytes⟩; rwa [upd_same, upd_upd, upd_upd] at this)
              have H11 := hid (H10.out.frame E11 (by omega))
              have B11 := hid (B10.out.step E11 (by omega))
              have S11 := hid (S10.out.frame E11 (by omega))
              generalize (w10.setCell ⟨bw, n * 16 + m * 2, none⟩ (.bool true)).setCell ⟨bw, n * 16 + m * 2 + 1, none⟩ (.string x.bytes) = w11 at *
              have hS' : w11.cell? ⟨b6, 4, none⟩ = some (.int .i64 m) ∧ w11.cell? ⟨b6, 7, none⟩ = some (.string x.bytes) := ⟨(S11.out.1.cell 4).trans (by rw [← HKEY.out]; rfl), S11.out.1.cell 7⟩
              clear E11 L10 H10 B10 S10 d0 d1 fr0 fr1
              try go_wp2_with fail
              refine hK.out _ _ ?_ (fun hH2 => ?_)
              · (try dsimp only); (first | assumption | exact hS0)
              clear hK K hH1
              try simp only [Act.put, List.setIfInBounds_toArray, List.set_cons_zero, List.set_cons_succ]
              refine wpAnyH_done (by kernel_rfl) ?_ _
              refine NoPanic.normal ?_
              rotate_left
              -- END 34
              generalize w9 = w9old at *
              have H9 := hid H11.out
              have B9 := hid B11.out
              have L9 := hid L11.out
              clear H11 B11 L11 S11
              generalize w11 = w9 at *
              go_wp2_with fail
              go_roundw
              case rel => exact ⟨k + 1, g8, Y2, _, by omega, by go_num, H9, B9, SN, BN, L9, SH⟩
              case measure => simp [intOf]; omega
            have p3 : (x.kind == 3) = false := by simpa using h3
            by_cases h4 : x.kind = 4
            · have p4 : (x.kind == 4) = true := by simpa using h4
              have hcc := hcod.out
              obtain ⟨m, hm, hkey, hsh⟩ := shot_put HS.out HBe.out SHO.out hn HXS.out hcc (v := Val.zero) (.inr ⟨h4, rfl⟩)
              have hYY : (doH H x).2 = Y2 := by rw [← HY.out]
              rw [hYY] at hsh
              have SH := hid hsh
              have HKEY := hid hkey
              have IK := hid (ref_IsKey_in (m : Int) w8 (by omega))
              obtain ⟨d0, d1, fr0, fr1⟩ := wl_cells L8.out n m hn hm
              have hltw := L8.out.1.lt
              have hlts := S8.out.1.lt
              have hne : b6 ≠ bw := fun e => by have e1 := S8.out.2; have e2 := L8.out.2; rw [e, e2] at e1; omega
              have hm0 : (0 : Int) ≤ (m : Int) := by omega
              have hm8 : (m : Int) < 8 := by omega
              rw [hkey] at c4
              clear h1 h2 h3 h4 hkey hsh hcc hYY
              go_wp2_with fail
              refine IK.out.mono ?_
              rintro e w' ⟨rfl, rfl⟩
              have hS0 : w8.drew.cell? ⟨b6, 4, none⟩ = some (.int .i64 m) ∧ b6 ≠ bw := ⟨c4, hne⟩
              clear c0 c1 c2 c3 c4 c5 c6 c7 e0 e1 e2 e3 e4 E8 IK T8
              go_wp2_with fail
              -- REGION 32k4
              refine wp_region_noPanic ?_
              refine wp_region_held_drew (S := (fun W' : World => W'.cell? ⟨b6, 4, none⟩ = some (.int .i64 m) ∧ b6 ≠ bw)) (by kernel_rfl) ?_ (fun hH0 => ?_)
              · (try dsimp only); (first | assumption | exact hS0)
              refine wpAnyH_take (i := 0) (v := ?_) (by simp only [List.getElem?_toArray, List.getElem?_cons_zero]; rfl) (by kernel_rfl) (by kernel_rfl) (by kernel_rfl) (fun _ _ _ h => h) (Or.inl ⟨by rfl, ?_⟩) (by assumption) ?_
              rotate_left
              · intro w hSw; (try dsimp only at hSw); go_simp; (try with_reducible rfl)
              try simp only [Act.put, List.setIfInBounds_toArray, List.set_cons_zero, List.set_cons_succ]
              refine wpAnyH_take (i := 1) (v := ?_) (by simp only [List.getElem?_toArray, List.getElem?_cons_zero, List.getElem?_cons_succ]; rfl) (by kernel_rfl) (by kernel_rfl) (by kernel_rfl) (fun _ _ _ h => h) (Or.inl ⟨by rfl, ?_⟩) (by assumption) ?_
              rotate_left
              · intro w hSw; (try dsimp only at hSw); go_simp; (try with_reducible rfl)
              try simp only [Act.put, List.setIfInBounds_toArray, List.set_cons_zero, List.set_cons_succ]
              refine wpAnyH_take (i := 2) (v := ?_) (by simp only [List.getElem?_toArray, List.getElem?_cons_zero, List.getElem?_cons_succ]; rfl) (by kernel_rfl) (by kernel_rfl) (by kernel_rfl) (fun _ _ _ h => h) (Or.inl ⟨by rfl, ?_⟩) (by assumption) ?_
              rotate_left
              · intro w hSw; (try dsimp only at hSw); go_simp; (try with_reducible rfl)
              try simp only [Act.put, List.setIfInBounds_toArray, List.set_cons_zero, List.set_cons_succ]
              refine wpAnyH_take (i := 3) (v := ?_) (by simp only [List.getElem?_toArray, List.getElem?_cons_zero, List.getElem?_cons_succ]; rfl) (by kernel_rfl) (by kernel_rfl) (by kernel_rfl) (fun _ _ _ h => h) (Or.inl ⟨by rfl, ?_⟩) (by assumption) ?_
              rotate_left
              · intro w hSw; (try dsimp only at hSw); go_simp; (try with_reducible rfl)
              try simp only [Act.put, List.setIfInBounds_toArray, List.set_cons_zero, List.set_cons_succ]
              refine wpAnyH_take (i := 4) (v := ?_) (by simp only [List.getElem?_toArray, List.getElem?_cons_zero, List.getElem?_cons_succ]; rfl) (by kernel_rfl) (by kernel_rfl) (by kernel_rfl) (fun _ _ _ h => h) (Or.inl ⟨by rfl, ?_⟩) (by assumption) ?_
              rotate_left
              · intro w hSw; (try dsimp only at hSw); go_simp; (try with_reducible rfl)
              try simp only [Act.put, List.setIfInBounds_toArray, List.set_cons_zero, List.set_cons_succ]
              refine wpAnyH_take (i := 5) (v := ?_) (by simp only [List.getElem?_toArray, List.getElem?_cons_zero, List.getElem?_cons_succ]; rfl) (by kernel_rfl) (by kernel_rfl) (by kernel_rfl) (fun _ _ _ h => h) (Or.inl ⟨by rfl, ?_⟩) (by assumption) ?_
              rotate_left
              · intro w hSw; (try dsimp only at hSw); go_simp; (try with_reducible rfl)
              try simp only [Act.put, List.setIfInBounds_toArray, List.set_cons_zero, List.set_cons_succ]
              refine wpAnyH_ready (rs := [6]) (by kernel_rfl) (by simp) ?_
              refine AllReadyH.cons (by simp only [List.getElem?_toArray, List.getElem?_cons_zero, List.getElem?_cons_succ]; rfl) (fun K hK => ?_) AllReadyH.nil
              go_simp
              have E9 : Evo 41 (41 + 1) g8 g8 w8 ((w8.setCell ⟨bw, n * 16 + m * 2, none⟩ (.bool false)).setCell ⟨bw, n * 16 + m * 2 + 1, none⟩ (.string ⟨#[]⟩)).drew := ((evo_store _ L8.out.2).trans (evo_store _ L8.out.2)).trans (Evo.drew _ _ _ _)
              have L9 : Hid (LocC ((w8.setCell ⟨bw, n * 16 + m * 2, none⟩ (.bool false)).setCell ⟨bw, n * 16 + m * 2 + 1, none⟩ (.string ⟨#[]⟩)).drew g8 41 bw 99 (wl (upd WS n (upd (WS n) m Val.zero)))) := hid (wl_put L8.out n m hn hm Val.zero)
              have H9 := hid (H8.out.frame E9 (by omega))
              have B9 := hid (B8.out.step E9 (by omega))
              have S9 := hid (S8.out.frame E9 (by omega))
              generalize ((w8.setCell ⟨bw, n * 16 + m * 2, none⟩ (.bool false)).setCell ⟨bw, n * 16 + m * 2 + 1, none⟩ (.string ⟨#[]⟩)).drew = w9 at *
              have hS' : w9.cell? ⟨b6, 4, none⟩ = some (.int .i64 m) ∧ b6 ≠ bw := ⟨(S9.out.1.cell 4).trans (by rw [← HKEY.out]; rfl), hne⟩
              clear E9 H8 B8 L8 S8 d0 d1 fr0 fr1
              try go_wp2_with fail
              refine hK.out _ _ ?_ (fun hH1 => ?_)
              · (try dsimp only); (first | assumption | exact hS0)
              clear hK K hH0
              try simp only [Act.put, List.setIfInBounds_toArray, List.set_cons_zero, List.set_cons_succ]
              refine wpAnyH_done (by kernel_rfl) ?_ _
              refine NoPanic.normal ?_
              rotate_left
              -- END 32k4
              clear hS0
              obtain ⟨k0, -⟩ : w9.cell? ⟨b6, 0, none⟩ = some (.int .i64 x.kind) ∧ True := ⟨S9.out.1.cell 0, trivial⟩
              go_wp2_with fail
              go_roundw
              case rel => exact ⟨k + 1, g8, Y2, _, by omega, by go_num, H9, B9, SN, BN, L9, SH⟩
              case measure => simp [intOf]; omega
            have p4 : (x.kind == 4) = false := by simpa using h4
            by_cases h5 : x.kind = 5
            · have p5 : (x.kind == 5) = true := by simpa using h5
              have hcc := hcod.out
              have hls := shot_list HTok.out HS.out HBe.out SHO.out hn HXS.out hcc h5
              have hyl : yl = listW (WS n) x.key x.to_ 8 := by rw [← hls, ← HY.out]
              have KEEP := hid (SHO.out.keep HS.out HBe.out SC.out (show (⟨yc, yn, yv, yl⟩ : Evt).code ≠ 0 ∨ (x.kind ≠ 1 ∧ x.kind ≠ 3 ∧ x.kind ≠ 4) from .inr ⟨h1, h3, h4⟩))
              have HYL := hid hyl
              have HSU := hid (fun m => listW_succ (WS n) x.key x.to_ m)
              have HLE := hid (fun m => listW_le (WS n) x.key x.to_ m)
              obtain ⟨i0, hi, hz0, hz1, hz2⟩ := info_parts Try.infoPair
              have N0 := hid (World.ownsRow_nil w8 w8.heap.size 87 3)
              clear h1 h2 h3 h4 h5 hcc hls hyl
              go_wp2_with fail
              clear c0 c1 c2 c3 c4 c5 c6 c7 e0 e1 e2 e3 e4
              go_loopw [13, 14] (fun o i wr => ∃ m : Nat, m ≤ 8 ∧ i = .int .i64 m ∧ Hid (wr.ownsRow w8.heap.size 87 3 o (listW (WS n) x.key x.to_ m).length (encEnts (listW (WS n) x.key x.to_ m))) ∧ Hid (Below w8.heap.size w8 wr)) (fun _ i _ => 8 - (intOf i).toNat)
              case atStart => exact ⟨0, by omega, rfl, N0, hid (Below.refl _ _)⟩
              case round =>
                obtain ⟨m, hm, rfl, HO, HB⟩ := hrel
                clear N0
                by_cases hm8 : m < 8
                · obtain ⟨s4, s5⟩ : wr.cell? ⟨b6, 4, none⟩ = some (.int .i64 x.key) ∧ wr.cell? ⟨b6, 5, none⟩ = some (.int .i64 x.to_) := ⟨(S8.out.below HB.out).1.cell 4, (S8.out.below HB.out).1.cell 5⟩
                  obtain ⟨d0, d1, -, -⟩ := wl_cells (L8.out.below HB.out) n m hn hm8
                  have hst := HSU.out m
                  have hle := HLE.out m
                  have hmi : (m : Int) < 8 := by omega
                  have hm0 : (0 : Int) ≤ (m : Int) := by omega
                  obtain ⟨ao, co, rfl, -, -⟩ := ownsRow.sliceAt HO.out
                  generalize listW (WS n) x.key x.to_ m = out at *
                  have q1 : out.length + 1 ≤ maxLen := by unfold maxLen; omega
                  have q2 : (out.length + 1) * 32 ≤ 140737488355328 := by omega
                  generalize WS n m = v at *
                  have no : ¬ (x.key ≤ (m : Int) ∧ (m : Int) ≤ x.to_ ∧ v.there = true) → listW (WS n) x.key x.to_ (m + 1) = out := fun h => by rw [hst, if_neg h, List.append_nil]
                  by_cases z1 : x.key ≤ (m : Int)
                  · by_cases z2 : (m : Int) ≤ x.to_
                    · cases hv : v.there with
                      | true =>
                        rw [if_pos ⟨z1, z2, hv⟩] at hst
                        rw [hv] at d0
                        have HST := hid hst
                        have hwz := HB.out.size
                        clear hst no
                        generalize hye : (⟨(m : Int), v⟩ : Ent) = ye at *
                        have hye2 : encEnt ye = [.int .i64 m, .bool true, .string v.bytes] := by subst hye; unfold encEnt; rw [hv]
                        have HYE := hid hye2
                        clear hye hye2 hv
                        go_wp2_with (refine wpList_append_own _ rfl (.tmp 152) (.tmp 160) 35 rfl w8.heap.size 87 i0 (.agg #[.int .i64 0, .bool false, .string ByteArray.empty]) 3 32 Try.underlying35 hi hz0 hz1 hz2 rfl (by decide) (.slice ao out.length co) out.length (encEnts out) rfl (HO.out.alloc _) ⟨wr.heap.size, 0, none⟩ 1 1 (encEnt ye) rfl (by rw [HYE.out]; rfl) ?c1 (encEnt_one _) q1 q2 ?c5 ?_)
                        case c1 => rw [HYE.out]; exact cells_new wr [.int .i64 m, .bool true, .string v.bytes] 87
                        case c5 => simp; omega
                        intro v' w9 hown' hgrow _
                        have HB2 := hid ((HB.out.alloc HB.out.size (.cells #[.int .i64 m, .bool true, .string v.bytes] 87)).grown hgrow (by simp; omega) (fun j hj => (HO.out.lt j hj).1))
                        have HO2 := hid (show w9.ownsRow w8.heap.size 87 3 v' (out ++ [ye]).length (encEnts (out ++ [ye])) by rw [encEnts_append, List.length_append]; simpa [encEnts] using hown')
                        clear hown' hgrow
                        go_wp2_with fail
                        go_roundw
                        case rel => exact ⟨m + 1, by omega, by go_num, hid (by rw [HST.out]; exact HO2.out), HB2⟩
                        case measure => simp [intOf]; omega
                      | false =>
                        rw [hv] at d0
                        have NO := hid (no (fun h => by rw [hv] at h; cases h.2.2))
                        clear no hst hv
                        go_wp2_with fail
                        go_roundw
                        case rel => exact ⟨m + 1, by omega, by go_num, hid (by rw [NO.out]; exact HO.out), HB⟩
                        case measure => simp [intOf]; omega
                    · have NO := hid (no (fun h => z2 h.2.1))
                      have z2' : x.to_ < (m : Int) := by omega
                      clear no hst
                      go_wp2_with fail
                      go_roundw
                      case rel => exact ⟨m + 1, by omega, by go_num, hid (by rw [NO.out]; exact HO.out), HB⟩
                      case measure => simp [intOf]; omega
                  · have NO := hid (no (fun h => z1 h.1))
                    have z1' : (m : Int) < x.key := by omega
                    clear no hst
                    go_wp2_with fail
                    go_roundw
                    case rel => exact ⟨m + 1, by omega, by go_num, hid (by rw [NO.out]; exact HO.out), HB⟩
                    case measure => simp [intOf]; omega
                · obtain rfl : m = 8 := by omega
                  obtain ⟨a, cap, rfl, hs, hb⟩ := ownsRow.sliceAt HO.out
                  have e4 : wr.cell? ⟨b8, 4, none⟩ = some (.slice a7 yl.length c7') := (E8.out.below HB.out).1.cell 4
                  have hl8 : yl.length ≤ 1000000 := by rw [HYL.out]; have := HLE.out 8; omega
                  have HS9 := hid hs
                  rw [← HYL.out] at HS9
                  have SP := hid (ref_SamePairs_eq2 a a7 cap c7' yl wr hl8 HS9.out (sliceAt_below T8.out HB.out))
                  have hll : (listW (WS n) x.key x.to_ 8).length = yl.length := by rw [HYL.out]
                  rw [hll]
                  clear hs hb hll hl8
                  go_wp2_with fail
                  clear HO e4 HSU HLE HYL HS9
                  refine SP.out.mono ?_
                  rintro e w9 ⟨rfl, hb⟩
                  have HB9 := hid (HB.out.trans (hb.mono HB.out.size))
                  clear hb HB
                  go_wp2_with fail
                  go_roundw
                  case rel => exact ⟨k + 1, g8, Y2, WS, by omega, by go_num, hid (H8.out.below HB9.out), hid (B8.out.below' HB9.out), SN, BN, hid (L8.out.below HB9.out), KEEP⟩
                  case measure => simp [intOf]; omega
            have p5 : (x.kind == 5) = false := by simpa using h5
            have HK := hid (show (⟨yc, yn, yv, yl⟩ : Evt).code ≠ 0 ∨ (x.kind ≠ 1 ∧ x.kind ≠ 3 ∧ x.kind ≠ 4) from .inr ⟨h1, h3, h4⟩)
            clear h1 h2 h3 h4 h5
            go_wp2
            go_roundw
            case rel => exact ⟨k + 1, g8, Y2, WS, by omega, by go_num, H8, B8, SN, BN, L8, hid (SHO.out.keep HS.out HBe.out SC.out HK.out)⟩
            case measure => simp [intOf]; omega
      · have q0 : (yc != 0) = true := by simpa using hc0
        have HK := hid (show (⟨yc, yn, yv, yl⟩ : Evt).code ≠ 0 ∨ (x.kind ≠ 1 ∧ x.kind ≠ 3 ∧ x.kind ≠ 4) from .inl hc0)
        clear hc0
        go_wp2
        go_roundw
        case rel => exact ⟨k + 1, g8, Y2, WS, by omega, by go_num, H8, B8, SN, BN, L8, hid (SHO.out.keep HS.out HBe.out SC.out HK.out)⟩
        case measure => simp [intOf]; omega
    · as_aux_lemma =>
      have hge : (l.length : Int) ≤ (k : Int) := by omega
      clear SA
      go_wp2
      go_ret
      exact ⟨rfl, B1.out.trans (HB.out.below.mono B1.out.size)⟩

end Go.Proofs.Ytoiobhcgpajogac
