/- The walks of a hall: begin, done. -/
import Derived.Test.YtoiobhcgpajogaaGreatDoorHall2
import Derived.Deep.RegionHeld3
namespace Go.Proofs.YtoiobhcgpajogaaGreatDoor
open Go.RowKit

theorem Beg.start2 (w : World) (g : Nat → Nat) (p : Nat) (x : St) : Beg w g p w.heap.size (w.heap.size + 1) x (extc (extc g w (p + 17)) (w.alloc (.cells #[.int .i64 x.kind, .int .i64 x.s, .int .i64 x.mode, .int .i64 x.at_, .int .i64 x.key, .int .i64 x.to_, .int .i64 x.keep, .string x.bytes] 97)) (p + 17)) ((w.alloc (.cells #[.int .i64 x.kind, .int .i64 x.s, .int .i64 x.mode, .int .i64 x.at_, .int .i64 x.key, .int .i64 x.to_, .int .i64 x.keep, .string x.bytes] 97)).alloc (.cells #[.int .i64 0, .int .i64 0, .bool false, .string ⟨#[]⟩, .slice none 0 0] 102)) ∧
    Evo 0 0 g (extc (extc g w (p + 17)) (w.alloc (.cells #[.int .i64 x.kind, .int .i64 x.s, .int .i64 x.mode, .int .i64 x.at_, .int .i64 x.key, .int .i64 x.to_, .int .i64 x.keep, .string x.bytes] 97)) (p + 17)) w ((w.alloc (.cells #[.int .i64 x.kind, .int .i64 x.s, .int .i64 x.mode, .int .i64 x.at_, .int .i64 x.key, .int .i64 x.to_, .int .i64 x.keep, .string x.bytes] 97)).alloc (.cells #[.int .i64 0, .int .i64 0, .bool false, .string ⟨#[]⟩, .slice none 0 0] 102)) := Beg.start w g p x

theorem beginV_some {T : Tab} {m a c : Int} {D : Ded} (h : beginV T m a = (some D, c)) : c = 0 := by
  unfold beginV at h
  by_cases h1 : m < 1 ∨ 3 < m
  · rw [if_pos h1] at h; cases h
  · rw [if_neg h1] at h
    generalize (if m = 3 then a else (T.last : Int)) = b at h
    by_cases h2 : b < 0 ∨ (T.last : Int) < b
    · rw [if_pos h2] at h; cases h
    · rw [if_neg h2] at h
      by_cases h3 : b < firstT T
      · rw [if_pos h3] at h; cases h
      · rw [if_neg h3] at h
        exact (Prod.mk.inj h).2.symm

theorem beginV_none {T : Tab} {m a c : Int} (h : beginV T m a = (none, c)) : c ≠ 0 := by
  unfold beginV at h
  by_cases h1 : m < 1 ∨ 3 < m
  · rw [if_pos h1] at h; cases h; decide
  · rw [if_neg h1] at h
    generalize (if m = 3 then a else (T.last : Int)) = b at h
    by_cases h2 : b < 0 ∨ (T.last : Int) < b
    · rw [if_pos h2] at h; cases h; decide
    · rw [if_neg h2] at h
      by_cases h3 : b < firstT T
      · rw [if_pos h3] at h; cases h; decide
      · rw [if_neg h3] at h; cases h

theorem Evo.of_same {lo hi : Nat} {g : Nat → Nat} {w w' : World} (h : Below w.heap.size w w') : Evo lo hi g g w w' := ⟨h.os, h.tape, h.output, h.size, fun _ _ => rfl, fun k hk _ => h.block k hk⟩

theorem evL_cells {w : World} {g : Nat → Nat} {q be : Nat} (h : LocC w g q be 102 evL) : w.cell? ⟨be, 0, none⟩ = some (.int .i64 0) ∧ w.cell? ⟨be, 1, none⟩ = some (.int .i64 0) ∧ w.cell? ⟨be, 2, none⟩ = some (.bool false) ∧ w.cell? ⟨be, 3, none⟩ = some (.string ⟨#[]⟩) ∧ w.cell? ⟨be, 4, none⟩ = some (.slice none 0 0) ∧
    w.frozen? ⟨be, 0, none⟩ = false ∧ w.frozen? ⟨be, 1, none⟩ = false ∧ w.frozen? ⟨be, 2, none⟩ = false ∧ w.frozen? ⟨be, 3, none⟩ = false ∧ w.frozen? ⟨be, 4, none⟩ = false :=
  ⟨h.1.cell 0, h.1.cell 1, h.1.cell 2, h.1.cell 3, h.1.cell 4, h.1.free 0, h.1.free 1, h.1.free 2, h.1.free 3, h.1.free 4⟩

set_option maxHeartbeats 8000000 in
set_option maxRecDepth 100000 in
theorem hall_begin (g : Nat → Nat) (p h : Nat) (H : Ht) (x : St) (n : Nat) (w : World) (hn : n < 5) (hs : x.s = n) (hH : HallAt w g p h H) :
    Calls Tryz.prog 122 #[.pointer (some ⟨h, 0, none⟩), .agg #[.int .i64 x.kind, .int .i64 x.s, .int .i64 x.mode, .int .i64 x.at_, .int .i64 x.key, .int .i64 x.to_, .int .i64 x.keep, .string x.bytes]] w (EvPost g p h (beginH H x) w) := by
  obtain ⟨vp, ds, hC⟩ := hH
  have HC := hid hC
  have hn0 : (0 : Int) ≤ (n : Int) := by omega
  have hn5 : (n : Int) < 5 := by omega
  have HXS := hid hs
  have EX := hid (show beginH H x = if (H.seats x.s.toNat).isSome then (Evt.of 8 0, H) else match beginV H.v.tab x.mode x.at_ with
    | (none, c) => (Evt.of c 0, H)
    | (some D, c) => (Evt.of c 0, ⟨H.v, upd H.seats x.s.toNat (some D)⟩) from rfl)
  rw [hs, Int.toNat_natCast] at EX
  generalize beginH H x = y at *
  clear hC hs
  go_enter Tryz.func122, Tryz.ntmps122
  go_upto_region 1 with (fail)
  obtain ⟨hB, hE0⟩ := Beg.start2 w g p x
  have HB := hid hB
  have HE0 := hid hE0
  clear hB hE0
  generalize extc (extc g w (p + 17)) (w.alloc (.cells #[.int .i64 x.kind, .int .i64 x.s, .int .i64 x.mode, .int .i64 x.at_, .int .i64 x.key, .int .i64 x.to_, .int .i64 x.keep, .string x.bytes] 97)) (p + 17) = g2 at *
  generalize (w.alloc (.cells #[.int .i64 x.kind, .int .i64 x.s, .int .i64 x.mode, .int .i64 x.at_, .int .i64 x.key, .int .i64 x.to_, .int .i64 x.keep, .string x.bytes] 97)).alloc (.cells #[.int .i64 0, .int .i64 0, .bool false, .string ⟨#[]⟩, .slice none 0 0] 102) = w2 at *
  generalize w.heap.size + 1 = be at *
  generalize w.heap.size = bx at *
  have C2 := hid (HC.out.frame HE0.out (by omega))
  have m1 : w2.cell? ⟨bx, 1, none⟩ = some (.int .i64 n) := by have := HB.out.arg.1.cell 1; rw [← HXS.out]; exact this
  have m2 : w2.cell? ⟨bx, 2, none⟩ = some (.int .i64 x.mode) := HB.out.arg.1.cell 2
  have m3 : w2.cell? ⟨bx, 3, none⟩ = some (.int .i64 x.at_) := HB.out.arg.1.cell 3
  obtain ⟨s1, s2, hlt⟩ := C2.out.seat hn
  cases hd : H.seats n with
  | some D0 =>
    rw [show seatP ds H.seats n = .pointer (some ⟨ds n, 0, none⟩) by unfold seatP; rw [hd]] at s1
    have Y := hid (show y = (Evt.of 8 0, H) by rw [EX.out, hd]; rfl)
    clear hd EX m2 m3
    go_wp2_with fail
    go_quiet (fail)
    have C3 := hid (C2.out.below (below_drewN w2 nq))
    have E3 := hid (evo_drewN HB.out.evo nq)
    have V3 := hid (LocC.drewN HB.out.ev nq)
    obtain ⟨e0, e1, e2, e3, e4, f0, f1, f2, f3, f4⟩ := evL_cells V3.out
    generalize w2.drewN nq = w3 at *
    clear s1 s2 m1 C2
    go_wp2
    refine bodyPost_ret (v := .agg #[.int .i64 8, .int .i64 0, .bool false, .string ByteArray.empty, .slice none 0 0]) (by simp [results, Tryz.results122, go_sem, e0, e1, e2, e3, e4] <;> rfl) rfl (EvPost.done _ _ _ _ _ (by rw [Y.out]; exact ⟨vp, ds, C3.out⟩) E3.out HB.out.newe HB.out.ev.2 (a := none) (cap := 0) (by rw [Y.out]; exact .inl rfl) (by intro ad h; cases h) (by rw [Y.out]; rfl))
  | none =>
    rw [show seatP ds H.seats n = .pointer none by unfold seatP; rw [hd]] at s1
    have EX2 := hid (show y = match beginV H.v.tab x.mode x.at_ with
      | (none, c) => (Evt.of c 0, H)
      | (some D, c) => (Evt.of c 0, ⟨H.v, upd H.seats n (some D)⟩) by rw [EX.out, hd]; rfl)
    clear hd EX
    go_wp2_with fail
    go_quiet (fail)
    have C3 := hid (C2.out.below (below_drewN w2 nq))
    have E3 := hid (evo_drewN HB.out.evo nq)
    have V3 := hid (LocC.drewN HB.out.ev nq)
    have X3 := hid (LocC.drewN HB.out.arg nq)
    have n1 : (w2.drewN nq).cell? ⟨bx, 1, none⟩ = some (.int .i64 n) := m1
    have n2 : (w2.drewN nq).cell? ⟨bx, 2, none⟩ = some (.int .i64 x.mode) := m2
    have n3 : (w2.drewN nq).cell? ⟨bx, 3, none⟩ = some (.int .i64 x.at_) := m3
    generalize w2.drewN nq = w3 at *
    clear s1 s2 m1 m2 m3 C2
    obtain ⟨c0, hv0⟩ := C3.out.top
    have PB := hid (fun W (hb : Below w3.heap.size w3 W) => vault_Begin g2 (p + 1) vp H.v (p + 12 + n) x.mode x.at_ W (C3.out.vault.below hb))
    have KS := hid (fun W (hb : Below w3.heap.size w3 W) => (⟨hb, (C3.out.below hb).top.1, X3.out.below hb⟩ : Below w3.heap.size w3 W ∧ W.cell? ⟨h, 0, none⟩ = some (.pointer (some ⟨vp, 0, none⟩)) ∧ LocC W g2 (p + 17) bx 97 (stL x)))
    have KT := hid (fun W (hb : Below w3.heap.size w3 W) => (⟨hb, (C3.out.below hb).top.1, (X3.out.below hb).1.cell 2, (X3.out.below hb).1.cell 3⟩ : Below w3.heap.size w3 W ∧ W.cell? ⟨h, 0, none⟩ = some (.pointer (some ⟨vp, 0, none⟩)) ∧ W.cell? ⟨bx, 2, none⟩ = some (.int .i64 x.mode) ∧ W.cell? ⟨bx, 3, none⟩ = some (.int .i64 x.at_)))
    have BS := hid (fun D c hh => beginV_some (T := H.v.tab) (m := x.mode) (a := x.at_) (c := c) (D := D) hh)
    have NZ := hid (fun c hh => beginV_none (T := H.v.tab) (m := x.mode) (a := x.at_) (c := c) hh)
    clear hv0 KS
    generalize hbv : beginV H.v.tab x.mode x.at_ = bv at *
    clear hbv
    obtain ⟨o, c⟩ := bv
    cases o with
    | none =>
      have Y := hid (show y = (Evt.of c 0, H) from EX2.out)
      have HNZ := hid (NZ.out c rfl)
      clear EX2 BS NZ
      go_wp2_with fail
      go_region_held3 (fun W' : World => Below w3.heap.size w3 W' ∧ W'.cell? ⟨h, 0, none⟩ = some (.pointer (some ⟨vp, 0, none⟩)) ∧ W'.cell? ⟨bx, 2, none⟩ = some (.int .i64 x.mode) ∧ W'.cell? ⟨bx, 3, none⟩ = some (.int .i64 x.at_))
        (first | assumption | exact KT.out _ (Below.refl _ _).drew)
        (first
          | (go_at_call 139; have hS := (‹Below w3.heap.size w3 _ ∧ _›).1; (with_reducible refine (PB.out _ hS).mono ?_); rintro e w4 ⟨hb, rfl⟩; have hS' := KT.out _ (hS.trans (hb.mono hS.size)); have hB4 := hid (hS.trans (hb.mono hS.size)); clear hb hS))
      have hc0 : c ≠ 0 := HNZ.out
      have hc0' : (c == 0) = false := by simpa using hc0
      have C4 := hid (C3.out.below hB4.out)
      have E4 := hid (E3.out.trans (Evo.of_same hB4.out))
      have V4 := hid (V3.out.below hB4.out)
      obtain ⟨e0, e1, e2, e3, e4, f0, f1, f2, f3, f4⟩ := evL_cells V4.out
      clear n1 n2 n3 c0 hS' hc0
      go_wp2
      refine bodyPost_ret (v := .agg #[.int .i64 c, .int .i64 0, .bool false, .string ByteArray.empty, .slice none 0 0]) (by simp [results, Tryz.results122, go_sem, e0, e1, e2, e3, e4] <;> rfl) rfl (EvPost.done _ _ _ _ _ (by rw [Y.out]; exact ⟨vp, ds, C4.out⟩) E4.out HB.out.newe HB.out.ev.2 (a := none) (cap := 0) (by rw [Y.out]; exact .inl rfl) (by intro ad h; cases h) (by rw [Y.out]; rfl))
    | some D =>
      obtain rfl := BS.out D c rfl
      have Y := hid (show y = (Evt.of 0 0, ⟨H.v, upd H.seats n (some D)⟩) from EX2.out)
      clear EX2 BS NZ
      go_wp2_with fail
      go_region_held3 (fun W' : World => Below w3.heap.size w3 W' ∧ W'.cell? ⟨h, 0, none⟩ = some (.pointer (some ⟨vp, 0, none⟩)) ∧ W'.cell? ⟨bx, 2, none⟩ = some (.int .i64 x.mode) ∧ W'.cell? ⟨bx, 3, none⟩ = some (.int .i64 x.at_))
        (first | assumption | exact KT.out _ (Below.refl _ _).drew)
        (first
          | (go_at_call 139; have hS := (‹Below w3.heap.size w3 _ ∧ _›).1; (with_reducible refine (PB.out _ hS).mono ?_); rintro e w4 ⟨hb, d, rfl, hdn, hdD⟩; have hS' := KT.out _ (hS.trans (hb.mono hS.size)); have hB4 := hid (hS.trans (hb.mono hS.size)); have hE4 := Evo.trans (Evo.of_same (lo := 0) (hi := 0) (g := g2) hS) (Evo.of_below (lo := 0) (hi := 0) g2 (p + 12 + n) hb); have HE4 := hid hE4; have D4 := hid hdD; clear hb hS hdn hdD hE4))
      generalize extc g2 w3.drew (p + 12 + n) = g4 at *
      have C4 := hid (C3.out.frame HE4.out (by omega))
      have E4 := hid (E3.out.trans (HE4.out.none (Nat.le_refl _)))
      have V4 := hid (V3.out.frame HE4.out (by omega))
      have X4 := hid (X3.out.frame HE4.out (by omega))
      obtain ⟨s1, s2, hlt4⟩ := C4.out.seat hn
      have m1 : w4.cell? ⟨bx, 1, none⟩ = some (.int .i64 n) := by have := X4.out.1.cell 1; rw [← HXS.out]; exact this
      obtain ⟨ss, hss⟩ : ∃ ss, seatP ds H.seats n = ss := ⟨_, rfl⟩
      rw [hss] at s1
      clear n1 n2 n3 c0 hS' hss
      go_wp2_with fail
      go_region
      all_goals
        have C5 := hid (C4.out.take hn D4.out)
        have ES : Evo p (p + 1) g4 g4 w4 (w4.setCell ⟨h, 1 + n, none⟩ (.pointer (some ⟨d, 0, none⟩))) := evo_store _ C4.out.loc.2
        have E5 := hid (E4.out.trans (ES.wide (Nat.le_refl _) (by omega)))
        have V5 := hid (V4.out.frame ES (by omega))
        clear ES s1 s2 m1 X4 C4 D4 V4
        generalize w4.setCell ⟨h, 1 + n, none⟩ (.pointer (some ⟨d, 0, none⟩)) = w5 at *
        have C6 := hid (C5.out.below (Below.refl _ _).drew)
        have E6 := hid (E5.out.trans (Evo.drew _ _ _ _))
        have V6 : Hid (LocC w5.drew g4 (p + 17) be 102 evL) := hid V5.out
        clear C5 E5 V5
        generalize w5.drew = w6 at *
        obtain ⟨e0, e1, e2, e3, e4, f0, f1, f2, f3, f4⟩ := evL_cells V6.out
        go_wp2
        refine bodyPost_ret (v := .agg #[.int .i64 0, .int .i64 0, .bool false, .string ByteArray.empty, .slice none 0 0]) (by simp [results, Tryz.results122, go_sem, e0, e1, e2, e3, e4] <;> rfl) rfl (EvPost.done _ _ _ _ _ (by rw [Y.out]; exact ⟨vp, _, C6.out⟩) E6.out HB.out.newe V6.out.2 (a := none) (cap := 0) (by rw [Y.out]; exact .inl rfl) (by intro ad h; cases h) (by rw [Y.out]; rfl))

set_option maxHeartbeats 8000000 in
set_option maxRecDepth 100000 in
theorem hall_done (g : Nat → Nat) (p h : Nat) (H : Ht) (n : Nat) (D : Ded) (w : World) (hn : n < 5) (hD : H.seats n = some D) (hH : HallAt w g p h H) :
    Calls Tryz.prog 143 #[.pointer (some ⟨h, 0, none⟩), .int .i64 n] w (EvPost g p h (Evt.of (commitV H.v D).1.2 (commitV H.v D).1.1, ⟨(commitV H.v D).2, upd H.seats n none⟩) w) := by
  obtain ⟨vp, ds, hC⟩ := hH
  have HC := hid hC
  have hn0 : (0 : Int) ≤ (n : Int) := by omega
  have hn5 : (n : Int) < 5 := by omega
  have HDD := hid hD
  have hsp : seatP ds H.seats n = .pointer (some ⟨ds n, 0, none⟩) := by unfold seatP; rw [hD]
  have CM := hid (fun g W (k : HallC W g p h vp ds H) => vault_Commit g (p + 1) vp H.v (p + 12 + n) (ds n) D W k.vault (k.deed n hn D hD))
  generalize commitV H.v D = z at *
  clear hC hD
  go_enter Tryz.func143, Tryz.ntmps143
  go_upto_region 1 with (fail)
  have hE0 := Evo.alloc g (p + 17) w (.cells #[.int .i64 0, .int .i64 0, .bool false, .string ⟨#[]⟩, .slice none 0 0] 102)
  have V2 := hid (LocC.new g (p + 17) w 102 evL)
  have E2 := hid (hE0.none (lo' := p) (hi' := p + 17) (Nat.le_refl _))
  have C2 := hid (HC.out.frame hE0 (by omega))
  have V2' : Hid (LocC (w.alloc (.cells #[.int .i64 0, .int .i64 0, .bool false, .string ⟨#[]⟩, .slice none 0 0] 102)) (extc g w (p + 17)) (p + 17) w.heap.size 102 evL) := V2
  have HNB := hid (show w.heap.size ≤ w.heap.size from Nat.le_refl _)
  clear hE0 V2
  generalize extc g w (p + 17) = g2 at *
  generalize w.alloc (.cells #[.int .i64 0, .int .i64 0, .bool false, .string ⟨#[]⟩, .slice none 0 0] 102) = w2 at *
  obtain ⟨be, hbe⟩ : ∃ be, w.heap.size = be := ⟨_, rfl⟩
  rw [hbe] at V2' ⊢
  have HBE := hid (show w.heap.size ≤ be by omega)
  clear hbe HNB
  obtain ⟨s1, s2, hlt⟩ := C2.out.seat hn
  rw [hsp] at s1
  obtain ⟨c0, -⟩ := C2.out.top
  go_wp2_with fail
  go_region_held3 (fun W' : World => W'.cell? ⟨h, 1 + n, none⟩ = some (.pointer (some ⟨ds n, 0, none⟩)) ∧ W'.cell? ⟨h, 0, none⟩ = some (.pointer (some ⟨vp, 0, none⟩)))
    (first | assumption | exact ⟨s1, c0⟩)
    (first
      | (go_at_call 160; (with_reducible refine (CM.out g2 _ (C2.out.below (Below.refl _ _).drew)).mono ?_); rintro e w3 ⟨rfl, g3, hV, hE⟩; have C3 := hid ((C2.out.below (Below.refl _ _).drew).withVault hE hV); have E3 := hid ((E2.out.trans (Evo.drew _ _ _ _)).trans (hE.wide (lo' := p) (hi' := p + 17) (by omega) (by omega))); have V3 := hid (LocC.frame (show LocC w2.drew g2 (p + 17) be 102 evL from V2'.out) hE (by omega)); have hS' : w3.cell? ⟨h, 1 + n, none⟩ = some (.pointer (some ⟨ds n, 0, none⟩)) ∧ w3.cell? ⟨h, 0, none⟩ = some (.pointer (some ⟨vp, 0, none⟩)) := ⟨(C3.out.seat hn).1.trans (by simp only; rw [hsp]), C3.out.top.1⟩; clear hV hE))
  obtain ⟨t1, t2, -⟩ := C3.out.seat hn
  obtain ⟨zz, V'⟩ := z
  obtain ⟨zn, zc⟩ := zz
  clear s1 s2 c0 hS' C2 V2' E2
  simp only at C3
  have hsp3 : seatP ds H.seats n = .pointer (some ⟨ds n, 0, none⟩) := hsp
  go_upto_region 3 with (fail)
  have C4 := hid (C3.out.drop hn)
  have ES : Evo p (p + 1) g3 g3 w3 (w3.setCell ⟨h, 1 + n, none⟩ (.pointer none)) := evo_store _ C3.out.loc.2
  have E4 := hid (E3.out.trans (ES.wide (Nat.le_refl _) (by omega)))
  have V4 := hid (V3.out.frame ES (by omega))
  clear ES t1 t2 C3 V3
  generalize w3.setCell ⟨h, 1 + n, none⟩ (.pointer none) = w4 at *
  obtain ⟨e0, e1, e2, e3, e4, f0, f1, f2, f3, f4⟩ := evL_cells V4.out
  go_wp2
  refine bodyPost_ret (v := .agg #[.int .i64 zc, .int .i64 zn, .bool false, .string ByteArray.empty, .slice none 0 0]) (by simp [results, Tryz.results143, go_sem, e0, e1, e2, e3, e4] <;> rfl) rfl (EvPost.done _ _ _ _ _ ⟨vp, _, C4.out⟩ E4.out HBE.out V4.out.2 (a := none) (cap := 0) (.inl rfl) (by intro ad h; cases h) rfl)

end Go.Proofs.YtoiobhcgpajogaaGreatDoor
