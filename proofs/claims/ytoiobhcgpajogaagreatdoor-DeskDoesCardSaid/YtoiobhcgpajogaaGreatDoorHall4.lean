/- The walk of a hall's deed: a step of a seat's deed. -/
import Derived.Test.YtoiobhcgpajogaaGreatDoorHall3
import Derived.Test.YtoiobhcgpajogaaGreatDoorWork4
import Derived.Deep.RegionHeld3
namespace Go.Proofs.YtoiobhcgpajogaaGreatDoor
open Go.RowKit

/-- In the midst of a step. -/
structure Mid (w : World) (g : Nat → Nat) (p h vp : Nat) (ds : Nat → Nat) (t b bx be : Nat) (x : St) (gg : Nat → Nat) (ww : World) (H : Ht) : Prop where
  hall : HallC ww gg p h vp ds H
  vc : VaultC ww gg (p + 1) vp t b H.v
  arg : LocC ww gg (p + 17) bx 97 (stL x)
  ev : LocC ww gg (p + 17) be 102 evL
  evo : Evo p (p + 17) g gg w ww

section
variable {w ww w' : World} {g gg g' : Nat → Nat} {p h vp t b bx be : Nat} {ds : Nat → Nat} {x : St} {H : Ht}
theorem Mid.frame {lo hi : Nat} (m : Mid w g p h vp ds t b bx be x gg ww H) (e : Evo lo hi gg g' ww w') (hc : p + 18 ≤ lo ∨ hi ≤ p) (he : Evo p (p + 17) g g' w w') : Mid w g p h vp ds t b bx be x g' w' H :=
  ⟨m.hall.frame e (by omega), m.vc.frame e (by omega), m.arg.frame e (by omega), m.ev.frame e (by omega), he⟩
theorem Mid.fresh (m : Mid w g p h vp ds t b bx be x gg ww H) (e : Evo 0 0 gg g' ww w') : Mid w g p h vp ds t b bx be x g' w' H := m.frame e (by omega) (m.evo.trans (e.none (Nat.le_refl _)))
theorem Mid.below (m : Mid w g p h vp ds t b bx be x gg ww H) (e : Below ww.heap.size ww w') : Mid w g p h vp ds t b bx be x gg w' H := m.fresh (Evo.of_same e)
theorem Mid.store (m : Mid w g p h vp ds t b bx be x gg ww H) {b6 : Nat} (hb : w.heap.size ≤ b6) (hg : gg b6 = p + 18) (i : Nat) (v : Value) : Mid w g p h vp ds t b bx be x gg (ww.setCell ⟨b6, i, none⟩ v) H :=
  m.frame (evo_store v hg) (by omega) (evo_storeNew m.evo hb v)
theorem Mid.deed (m : Mid w g p h vp ds t b bx be x gg ww H) {s : Nat} {D D' : Ded} (hs : s < 5) (hD : H.seats s = some D) (e : Evo (p + 12 + s) (p + 12 + s + 1) gg g' ww w') (d : DeedAt w' g' (p + 12 + s) (ds s) D') : Mid w g p h vp ds t b bx be x g' w' ⟨H.v, upd H.seats s (some D')⟩ :=
  ⟨m.hall.withDeed hs hD e d, m.vc.frame e (by omega), m.arg.frame e (by omega), m.ev.frame e (by omega), m.evo.trans (e.wide (by omega) (by omega))⟩
theorem Mid.cells (m : Mid w g p h vp ds t b bx be x gg ww H) : ww.cell? ⟨h, 0, none⟩ = some (.pointer (some ⟨vp, 0, none⟩)) ∧ ww.cell? ⟨vp, 0, none⟩ = some (.pointer (some ⟨t, 0, none⟩)) ∧ ww.cell? ⟨bx, 4, none⟩ = some (.int .i64 x.key) ∧ ww.cell? ⟨bx, 5, none⟩ = some (.int .i64 x.to_) ∧ ww.cell? ⟨bx, 6, none⟩ = some (.int .i64 x.keep) ∧ ww.cell? ⟨bx, 7, none⟩ = some (.string x.bytes) ∧ ww.cell? ⟨bx, 0, none⟩ = some (.int .i64 x.kind) ∧ ww.cell? ⟨bx, 1, none⟩ = some (.int .i64 x.s) :=
  ⟨m.hall.top.1, m.vc.cells.1, m.arg.1.cell 4, m.arg.1.cell 5, m.arg.1.cell 6, m.arg.1.cell 7, m.arg.1.cell 0, m.arg.1.cell 1⟩
end

theorem HallC.all {w : World} {g : Nat → Nat} {p h vp : Nat} {ds : Nat → Nat} {H : Ht} (k : HallC w g p h vp ds H) :
    HallC (((((w.setCell ⟨h, 1, none⟩ (.pointer none)).setCell ⟨h, 2, none⟩ (.pointer none)).setCell ⟨h, 3, none⟩ (.pointer none)).setCell ⟨h, 4, none⟩ (.pointer none)).setCell ⟨h, 5, none⟩ (.pointer none)) g p h vp ds ⟨H.v, fun _ => none⟩ ∧
    Evo p (p + 1) g g w (((((w.setCell ⟨h, 1, none⟩ (.pointer none)).setCell ⟨h, 2, none⟩ (.pointer none)).setCell ⟨h, 3, none⟩ (.pointer none)).setCell ⟨h, 4, none⟩ (.pointer none)).setCell ⟨h, 5, none⟩ (.pointer none)) := by
  have s0 : Evo p (p + 1) g g w (w.setCell ⟨h, 1, none⟩ (.pointer none)) := evo_store _ k.loc.2
  have S := (((s0.trans (evo_store (i := 2) (.pointer none) k.loc.2)).trans (evo_store (i := 3) (.pointer none) k.loc.2)).trans (evo_store (i := 4) (.pointer none) k.loc.2)).trans (evo_store (i := 5) (.pointer none) k.loc.2)
  refine ⟨⟨?_, k.vault.frame S (by omega), fun s _ D hD => by cases hD⟩, S⟩
  exact ((((k.loc.set 1 _).set 2 _).set 3 _).set 4 _).set 5 _

set_option maxHeartbeats 8000000 in
set_option maxRecDepth 100000 in
theorem hall_deed (g : Nat → Nat) (p h : Nat) (H : Ht) (x : St) (n : Nat) (w : World) (hn : n < 5) (hs : x.s = n) (hbs : x.bytes.size ≤ maxLen) (hH : HallAt w g p h H) :
    Calls Tryz.prog 123 #[.pointer (some ⟨h, 0, none⟩), .agg #[.int .i64 x.kind, .int .i64 x.s, .int .i64 x.mode, .int .i64 x.at_, .int .i64 x.key, .int .i64 x.to_, .int .i64 x.keep, .string x.bytes]] w (EvPost g p h (deedO H x (H.seats n)) w) := by
  obtain ⟨vp, ds, hC⟩ := hH
  have HC := hid hC
  have hn0 : (0 : Int) ≤ (n : Int) := by omega
  have hn5 : (n : Int) < 5 := by omega
  have HXS := hid hs
  have HSN := hid (show x.s.toNat = n by rw [hs]; rfl)
  obtain ⟨y, hy⟩ : ∃ y, y = (deedO H x (H.seats n)) := ⟨_, rfl⟩
  rw [← hy]
  have EX := hid hy
  clear hC hs hy
  go_enter Tryz.func123, Tryz.ntmps123
  go_upto_region 1 with (fail)
  obtain ⟨hB, hE0⟩ := Beg.start2 w g p x
  have HB := hid hB
  have HE0 := hid hE0
  clear hB hE0
  generalize extc (extc g w (p + 17)) (w.alloc (.cells #[.int .i64 x.kind, .int .i64 x.s, .int .i64 x.mode, .int .i64 x.at_, .int .i64 x.key, .int .i64 x.to_, .int .i64 x.keep, .string x.bytes] 97)) (p + 17) = g2 at *
  generalize (w.alloc (.cells #[.int .i64 x.kind, .int .i64 x.s, .int .i64 x.mode, .int .i64 x.at_, .int .i64 x.key, .int .i64 x.to_, .int .i64 x.keep, .string x.bytes] 97)).alloc (.cells #[.int .i64 0, .int .i64 0, .bool false, .string ⟨#[]⟩, .slice none 0 0] 102) = w2 at *
  generalize w.heap.size + 1 = be at *
  generalize w.heap.size = bx at *
  have C2 := hid (HC.out.frame HE0.out (by omega))
  obtain ⟨hd0, t, b, hvc⟩ := C2.out.top
  have M2 : Hid (Mid w g p h vp ds t b bx be x g2 w2 H) := hid ⟨C2.out, hvc, HB.out.arg, HB.out.ev, HB.out.evo⟩
  clear hd0 hvc C2 HE0
  obtain ⟨-, -, -, -, -, -, -, m1⟩ := M2.out.cells
  rw [HXS.out] at m1
  obtain ⟨s1, s2, hlt⟩ := M2.out.hall.seat hn
  cases hd : H.seats n with
  | none =>
    rw [show seatP ds H.seats n = .pointer none by unfold seatP; rw [hd]] at s1
    have Y := hid (show y = (Evt.of 7 0, H) by rw [EX.out, hd]; rfl)
    clear hd EX
    go_wp2_with fail
    go_quiet (fail)
    have M3 := hid (M2.out.below (below_drewN w2 nq))
    generalize w2.drewN nq = w3 at *
    clear s1 s2 m1 M2
    obtain ⟨e0, e1, e2, e3, e4, f0, f1, f2, f3, f4⟩ := evL_cells M3.out.ev
    go_wp2
    refine bodyPost_ret (v := .agg #[.int .i64 7, .int .i64 0, .bool false, .string ByteArray.empty, .slice none 0 0]) (by simp [results, Tryz.results123, go_sem, e0, e1, e2, e3, e4] <;> rfl) rfl (EvPost.done _ _ _ _ _ (by rw [Y.out]; exact ⟨vp, ds, M3.out.hall⟩) M3.out.evo HB.out.newe M3.out.ev.2 (a := none) (cap := 0) (by rw [Y.out]; exact .inl rfl) (by intro ad h; cases h) (by rw [Y.out]; rfl))
  | some D =>
    rw [show seatP ds H.seats n = .pointer (some ⟨ds n, 0, none⟩) by unfold seatP; rw [hd]] at s1
    have EX2 := hid (show y = deedH H x D by rw [EX.out, hd]; rfl)
    have HD := hid hd
    clear hd EX
    go_wp2_with fail
    go_quiet (fail)
    have M3 := hid (M2.out.below (below_drewN w2 nq))
    generalize w2.drewN nq = w3 at *
    clear s1 s2 m1 M2
    obtain ⟨-, -, -, -, -, -, k0, -⟩ := M3.out.cells
    by_cases h2 : x.kind = 2
    · have Y := hid (show y = (⟨(getD D H.v.tab x.key).1.2, 0, (getD D H.v.tab x.key).1.1, []⟩, ⟨H.v, upd H.seats n (some (getD D H.v.tab x.key).2)⟩) by rw [EX2.out]; unfold deedH; rw [if_pos h2, HSN.out])
      rw [h2] at k0
      have GET := hid (fun gg W (k : Mid w g p h vp ds t b bx be x gg W H) => deed_Get gg (p + 12 + n) (ds n) D gg (p + 1 + 1) t H.v.tab x.key W (k.hall.deed n hn D HD.out) k.vc.2.2.1)
      generalize getD D H.v.tab x.key = z at *
      obtain ⟨⟨zv, zc⟩, zD⟩ := z
      clear h2 EX2
      go_wp2_with fail
      clear k0
      -- REGION 6
      refine wp_region_noPanic ?_
      refine wp_region_held_drew (S := (fun W' : World => W'.cell? ⟨h, 0, none⟩ = some (.pointer (some ⟨vp, 0, none⟩)) ∧ W'.cell? ⟨vp, 0, none⟩ = some (.pointer (some ⟨t, 0, none⟩)) ∧ W'.cell? ⟨bx, 4, none⟩ = some (.int .i64 x.key))) (by kernel_rfl) ?_ (fun hH0 => ?_)
      · (try dsimp only); (first | assumption | exact ⟨M3.out.cells.1, M3.out.cells.2.1, M3.out.cells.2.2.1⟩)
      refine wpAnyH_take (i := 0) (v := ?_) (by simp only [List.getElem?_toArray, List.getElem?_cons_zero]; rfl) (by kernel_rfl) (by kernel_rfl) (by kernel_rfl) (fun _ _ _ h => h) (Or.inl ⟨by rfl, ?_⟩) (by assumption) ?_
      rotate_left
      · intro w hSw; (try dsimp only at hSw); go_simp; (try with_reducible rfl)
      try simp only [Act.put, List.setIfInBounds_toArray, List.set_cons_zero, List.set_cons_succ]
      refine wpAnyH_take (i := 1) (v := ?_) (by simp only [List.getElem?_toArray, List.getElem?_cons_zero, List.getElem?_cons_succ]; rfl) (by kernel_rfl) (by kernel_rfl) (by kernel_rfl) (fun _ _ _ h => h) (Or.inl ⟨by rfl, ?_⟩) (by assumption) ?_
      rotate_left
      · intro w hSw; (try dsimp only at hSw); go_simp; (try with_reducible rfl)
      try simp only [Act.put, List.setIfInBounds_toArray, List.set_cons_zero, List.set_cons_succ]
      refine wpAnyH_take (i := 2) (v := ?_) (by simp only [List.getElem?_toArray, List.getElem?_cons_zero, List.getElem?_cons_succ]; rfl) (by kernel_rfl) (by kernel_rfl) (by kernel_rfl) (fun _ _ _ h => h) (Or.inl ⟨by rfl, ?_⟩) (by assumption) ?_
      rotate_left
      · intro w hSw; (try dsimp only at hSw); go_simp; (try with_reducible rfl)
      try simp only [Act.put, List.setIfInBounds_toArray, List.set_cons_zero, List.set_cons_succ]
      refine wpAnyH_take (i := 3) (v := ?_) (by simp only [List.getElem?_toArray, List.getElem?_cons_zero, List.getElem?_cons_succ]; rfl) (by kernel_rfl) (by kernel_rfl) (by kernel_rfl) (fun _ _ _ h => h) (Or.inl ⟨by rfl, ?_⟩) (by assumption) ?_
      rotate_left
      · intro w hSw; (try dsimp only at hSw); go_simp; (try with_reducible rfl)
      try simp only [Act.put, List.setIfInBounds_toArray, List.set_cons_zero, List.set_cons_succ]
      refine wpAnyH_take (i := 4) (v := ?_) (by simp only [List.getElem?_toArray, List.getElem?_cons_zero, List.getElem?_cons_succ]; rfl) (by kernel_rfl) (by kernel_rfl) (by kernel_rfl) (fun _ _ _ h => h) (Or.inl ⟨by rfl, ?_⟩) (by assumption) ?_
      rotate_left
      · intro w hSw; (try dsimp only at hSw); go_simp; (try with_reducible rfl)
      try simp only [Act.put, List.setIfInBounds_toArray, List.set_cons_zero, List.set_cons_succ]
      refine wpAnyH_take (i := 5) (v := ?_) (by simp only [List.getElem?_toArray, List.getElem?_cons_zero, List.getElem?_cons_succ]; rfl) (by kernel_rfl) (by kernel_rfl) (by kernel_rfl) (fun _ _ _ h => h) (Or.inl ⟨by rfl, ?_⟩) (by assumption) ?_
      rotate_left
      · intro w hSw; (try dsimp only at hSw); go_simp; (try with_reducible rfl)
      try simp only [Act.put, List.setIfInBounds_toArray, List.set_cons_zero, List.set_cons_succ]
      refine wpAnyH_take (i := 6) (v := ?_) (by simp only [List.getElem?_toArray, List.getElem?_cons_zero, List.getElem?_cons_succ]; rfl) (by kernel_rfl) (by kernel_rfl) (by kernel_rfl) (fun _ _ _ h => h) (Or.inl ⟨by rfl, ?_⟩) (by assumption) ?_
      rotate_left
      · intro w hSw; (try dsimp only at hSw); go_simp; (try with_reducible rfl)
      try simp only [Act.put, List.setIfInBounds_toArray, List.set_cons_zero, List.set_cons_succ]
      refine wpAnyH_take (i := 7) (v := ?_) (by simp only [List.getElem?_toArray, List.getElem?_cons_zero, List.getElem?_cons_succ]; rfl) (by kernel_rfl) (by kernel_rfl) (by kernel_rfl) (fun _ _ _ h => h) (Or.inl ⟨by rfl, ?_⟩) (by assumption) ?_
      rotate_left
      · intro w hSw; (try dsimp only at hSw); go_simp; (try with_reducible rfl)
      try simp only [Act.put, List.setIfInBounds_toArray, List.set_cons_zero, List.set_cons_succ]
      refine wpAnyH_take (i := 8) (v := ?_) (by simp only [List.getElem?_toArray, List.getElem?_cons_zero, List.getElem?_cons_succ]; rfl) (by kernel_rfl) (by kernel_rfl) (by kernel_rfl) (fun _ _ _ h => h) (Or.inl ⟨by rfl, ?_⟩) (by assumption) ?_
      rotate_left
      · intro w hSw; (try dsimp only at hSw); go_simp; (try with_reducible rfl)
      try simp only [Act.put, List.setIfInBounds_toArray, List.set_cons_zero, List.set_cons_succ]
      refine wpAnyH_take (i := 9) (v := ?_) (by simp only [List.getElem?_toArray, List.getElem?_cons_zero, List.getElem?_cons_succ]; rfl) (by kernel_rfl) (by kernel_rfl) (by kernel_rfl) (fun _ _ _ h => h) (Or.inl ⟨by rfl, ?_⟩) (by assumption) ?_
      rotate_left
      · intro w hSw; (try dsimp only at hSw); go_simp; (try with_reducible rfl)
      try simp only [Act.put, List.setIfInBounds_toArray, List.set_cons_zero, List.set_cons_succ]
      refine wpAnyH_ready (rs := [10, 14]) (by kernel_rfl) (by simp) ?_
      refine AllReadyH.cons (by simp only [List.getElem?_toArray, List.getElem?_cons_zero, List.getElem?_cons_succ]; rfl) (fun K hK => ?_) ?_
      · skip
        go_simp
        go_at_call 140
        first
          | ((with_reducible refine (GET.out g2 w3.drew (M3.out.below (Below.refl _ _).drew)).mono ?_); rintro e w4 ⟨rfl, g4, hD4, hE4⟩; have M4 := hid ((M3.out.below (Below.refl _ _).drew).deed hn HD.out hE4 hD4); have hS' : w4.cell? ⟨h, 0, none⟩ = some (.pointer (some ⟨vp, 0, none⟩)) ∧ w4.cell? ⟨vp, 0, none⟩ = some (.pointer (some ⟨t, 0, none⟩)) ∧ w4.cell? ⟨bx, 4, none⟩ = some (.int .i64 x.key) := ⟨M4.out.cells.1, M4.out.cells.2.1, M4.out.cells.2.2.1⟩; clear hD4 hE4)
          | ((with_reducible refine (GET.out g5 w5 M5.out).mono ?_); rintro e w6 ⟨rfl, g6, hD6, hE6⟩; have M6 := hid (M5.out.deed hn HD.out hE6 hD6); have U6 := hid (U5.out.frame hE6 (by omega)); obtain ⟨u0, u1, v0, v1⟩ := U6.out.1.two; have hS' : w6.cell? ⟨h, 0, none⟩ = some (.pointer (some ⟨vp, 0, none⟩)) ∧ w6.cell? ⟨vp, 0, none⟩ = some (.pointer (some ⟨t, 0, none⟩)) ∧ w6.cell? ⟨bx, 4, none⟩ = some (.int .i64 x.key) := ⟨M6.out.cells.1, M6.out.cells.2.1, M6.out.cells.2.2.1⟩; clear hD6 hE6)
        try go_wp2_with fail
        refine hK.out _ _ ?_ (fun hH1 => ?_)
        · (try dsimp only); (first | assumption | exact ⟨M3.out.cells.1, M3.out.cells.2.1, M3.out.cells.2.2.1⟩)
        clear hK K hH0
        try simp only [Act.put, List.setIfInBounds_toArray, List.set_cons_zero, List.set_cons_succ]
        refine wpAnyH_take (i := 11) (v := ?_) (by simp only [List.getElem?_toArray, List.getElem?_cons_zero, List.getElem?_cons_succ]; rfl) (by kernel_rfl) (by kernel_rfl) (by kernel_rfl) (fun _ _ _ h => h) (Or.inl ⟨by rfl, ?_⟩) (by assumption) ?_
        rotate_left
        · intro w hSw; (try dsimp only at hSw); go_simp; (try with_reducible rfl)
        try simp only [Act.put, List.setIfInBounds_toArray, List.set_cons_zero, List.set_cons_succ]
        refine wpAnyH_take (i := 12) (v := ?_) (by simp only [List.getElem?_toArray, List.getElem?_cons_zero, List.getElem?_cons_succ]; rfl) (by kernel_rfl) (by kernel_rfl) (by kernel_rfl) (fun _ _ _ h => h) (Or.inl ⟨by rfl, ?_⟩) (by assumption) ?_
        rotate_left
        · intro w hSw; (try dsimp only at hSw); go_simp; (try with_reducible rfl)
        try simp only [Act.put, List.setIfInBounds_toArray, List.set_cons_zero, List.set_cons_succ]
        refine wpAnyH_take (i := 13) (v := ?_) (by simp only [List.getElem?_toArray, List.getElem?_cons_zero, List.getElem?_cons_succ]; rfl) (by kernel_rfl) (by kernel_rfl) (by kernel_rfl) (fun _ _ _ h => h) (Or.inl ⟨by rfl, ?_⟩) (by assumption) ?_
        rotate_left
        · intro w hSw; (try dsimp only at hSw); go_simp; (try with_reducible rfl)
        try simp only [Act.put, List.setIfInBounds_toArray, List.set_cons_zero, List.set_cons_succ]
        refine wpAnyH_ready (rs := [14]) (by kernel_rfl) (by simp) ?_
        refine AllReadyH.cons (by simp only [List.getElem?_toArray, List.getElem?_cons_zero, List.getElem?_cons_succ]; rfl) (fun K hK => ?_) AllReadyH.nil
        go_simp
        first
          | (have M5 := hid (M4.out.fresh (Evo.alloc g4 (p + 18) w4 (.cells #[.bool false, .string ⟨#[]⟩] 99))); have U5 := hid (LocC.new g4 (p + 18) w4 99 [.bool false, .string ⟨#[]⟩]); have HN5 := hid (show w.heap.size ≤ w4.heap.size from M4.out.evo.size); generalize extc g4 w4 (p + 18) = g6 at *; generalize w4.alloc (.cells #[.bool false, .string ⟨#[]⟩] 99) = w6 at *; generalize w4.heap.size = b6 at *; have M6 := hid M5.out; have U6 := hid U5.out; obtain ⟨u0, u1, v0, v1⟩ := U6.out.1.two; have hS' : w6.cell? ⟨h, 0, none⟩ = some (.pointer (some ⟨vp, 0, none⟩)) ∧ w6.cell? ⟨vp, 0, none⟩ = some (.pointer (some ⟨t, 0, none⟩)) ∧ w6.cell? ⟨bx, 4, none⟩ = some (.int .i64 x.key) := ⟨M6.out.cells.1, M6.out.cells.2.1, M6.out.cells.2.2.1⟩)
          | (have hM5 := (M3.out.fresh (Evo.alloc g2 (p + 18) w3 (.cells #[.bool false, .string ⟨#[]⟩] 99))).below (Below.refl _ _).drew; have M5 := hid hM5; have U5 : Hid (LocC (w3.alloc (.cells #[.bool false, .string ⟨#[]⟩] 99)).drew (extc g2 w3 (p + 18)) (p + 18) w3.heap.size 99 [.bool false, .string ⟨#[]⟩]) := hid (LocC.new g2 (p + 18) w3 99 [.bool false, .string ⟨#[]⟩]); have HN5 := hid (show w.heap.size ≤ w3.heap.size from M3.out.evo.size); clear hM5; generalize extc g2 w3 (p + 18) = g5 at *; generalize (w3.alloc (.cells #[.bool false, .string ⟨#[]⟩] 99)).drew = w5 at *; generalize w3.heap.size = b6 at *; have hS' : w5.cell? ⟨h, 0, none⟩ = some (.pointer (some ⟨vp, 0, none⟩)) ∧ w5.cell? ⟨vp, 0, none⟩ = some (.pointer (some ⟨t, 0, none⟩)) ∧ w5.cell? ⟨bx, 4, none⟩ = some (.int .i64 x.key) := ⟨M5.out.cells.1, M5.out.cells.2.1, M5.out.cells.2.2.1⟩)
        try go_wp2_with fail
        refine hK.out _ _ ?_ (fun hH2 => ?_)
        · (try dsimp only); (first | assumption | exact ⟨M3.out.cells.1, M3.out.cells.2.1, M3.out.cells.2.2.1⟩)
        clear hK K hH1
        try simp only [Act.put, List.setIfInBounds_toArray, List.set_cons_zero, List.set_cons_succ]
        refine wpAnyH_ready (rs := [15]) (by kernel_rfl) (by simp) ?_
        refine AllReadyH.cons (by simp only [List.getElem?_toArray, List.getElem?_cons_zero, List.getElem?_cons_succ]; rfl) (fun K hK => ?_) AllReadyH.nil
        go_simp
        have M7 := hid ((M6.out.store HN5.out U6.out.2 0 (.bool zv.there)).store HN5.out U6.out.2 1 (.string zv.bytes))
        have U7 := hid (show Loc ((w6.setCell ⟨b6, 0, none⟩ (.bool zv.there)).setCell ⟨b6, 1, none⟩ (.string zv.bytes)) b6 99 [.bool zv.there, .string zv.bytes] from (U6.out.1.set 0 _).set 1 _)
        generalize (w6.setCell ⟨b6, 0, none⟩ (.bool zv.there)).setCell ⟨b6, 1, none⟩ (.string zv.bytes) = w7 at *
        have hS' : w7.cell? ⟨h, 0, none⟩ = some (.pointer (some ⟨vp, 0, none⟩)) ∧ w7.cell? ⟨vp, 0, none⟩ = some (.pointer (some ⟨t, 0, none⟩)) ∧ w7.cell? ⟨bx, 4, none⟩ = some (.int .i64 x.key) := ⟨M7.out.cells.1, M7.out.cells.2.1, M7.out.cells.2.2.1⟩
        try go_wp2_with fail
        refine hK.out _ _ ?_ (fun hH3 => ?_)
        · (try dsimp only); (first | assumption | exact ⟨M3.out.cells.1, M3.out.cells.2.1, M3.out.cells.2.2.1⟩)
        clear hK K hH2
        try simp only [Act.put, List.setIfInBounds_toArray, List.set_cons_zero, List.set_cons_succ]
        refine wpAnyH_take (i := 16) (v := ?_) (by simp only [List.getElem?_toArray, List.getElem?_cons_zero, List.getElem?_cons_succ]; rfl) (by kernel_rfl) (by kernel_rfl) (by kernel_rfl) (fun _ _ _ h => h) (Or.inl ⟨by rfl, ?_⟩) (by assumption) ?_
        rotate_left
        · intro w hSw; (try dsimp only at hSw); go_simp; (try with_reducible rfl)
        try simp only [Act.put, List.setIfInBounds_toArray, List.set_cons_zero, List.set_cons_succ]
        refine wpAnyH_done (by kernel_rfl) ?_ _
        refine NoPanic.normal ?_
        obtain ⟨u0, u1, -⟩ := U7.out.two
        clear GET M3
        obtain ⟨e0, e1, e2, e3, e4, f0, f1, f2, f3, f4⟩ := evL_cells M7.out.ev
        go_wp2
        refine bodyPost_ret (v := .agg #[.int .i64 zc, .int .i64 0, .bool zv.there, .string zv.bytes, .slice none 0 0]) (by simp [results, Tryz.results123, go_sem, e0, e1, e2, e3, e4] <;> rfl) rfl (EvPost.done _ _ _ _ _ (by rw [Y.out]; exact ⟨vp, ds, M7.out.hall⟩) M7.out.evo HB.out.newe M7.out.ev.2 (a := none) (cap := 0) (by rw [Y.out]; exact .inl rfl) (by intro ad h; cases h) (by rw [Y.out]; rfl))
      refine AllReadyH.cons (by simp only [List.getElem?_toArray, List.getElem?_cons_zero, List.getElem?_cons_succ]; rfl) (fun K hK => ?_) AllReadyH.nil
      go_simp
      first
        | (have M5 := hid (M4.out.fresh (Evo.alloc g4 (p + 18) w4 (.cells #[.bool false, .string ⟨#[]⟩] 99))); have U5 := hid (LocC.new g4 (p + 18) w4 99 [.bool false, .string ⟨#[]⟩]); have HN5 := hid (show w.heap.size ≤ w4.heap.size from M4.out.evo.size); generalize extc g4 w4 (p + 18) = g6 at *; generalize w4.alloc (.cells #[.bool false, .string ⟨#[]⟩] 99) = w6 at *; generalize w4.heap.size = b6 at *; have M6 := hid M5.out; have U6 := hid U5.out; obtain ⟨u0, u1, v0, v1⟩ := U6.out.1.two; have hS' : w6.cell? ⟨h, 0, none⟩ = some (.pointer (some ⟨vp, 0, none⟩)) ∧ w6.cell? ⟨vp, 0, none⟩ = some (.pointer (some ⟨t, 0, none⟩)) ∧ w6.cell? ⟨bx, 4, none⟩ = some (.int .i64 x.key) := ⟨M6.out.cells.1, M6.out.cells.2.1, M6.out.cells.2.2.1⟩)
        | (have hM5 := (M3.out.fresh (Evo.alloc g2 (p + 18) w3 (.cells #[.bool false, .string ⟨#[]⟩] 99))).below (Below.refl _ _).drew; have M5 := hid hM5; have U5 : Hid (LocC (w3.alloc (.cells #[.bool false, .string ⟨#[]⟩] 99)).drew (extc g2 w3 (p + 18)) (p + 18) w3.heap.size 99 [.bool false, .string ⟨#[]⟩]) := hid (LocC.new g2 (p + 18) w3 99 [.bool false, .string ⟨#[]⟩]); have HN5 := hid (show w.heap.size ≤ w3.heap.size from M3.out.evo.size); clear hM5; generalize extc g2 w3 (p + 18) = g5 at *; generalize (w3.alloc (.cells #[.bool false, .string ⟨#[]⟩] 99)).drew = w5 at *; generalize w3.heap.size = b6 at *; have hS' : w5.cell? ⟨h, 0, none⟩ = some (.pointer (some ⟨vp, 0, none⟩)) ∧ w5.cell? ⟨vp, 0, none⟩ = some (.pointer (some ⟨t, 0, none⟩)) ∧ w5.cell? ⟨bx, 4, none⟩ = some (.int .i64 x.key) := ⟨M5.out.cells.1, M5.out.cells.2.1, M5.out.cells.2.2.1⟩)
      try go_wp2_with fail
      refine hK.out _ _ ?_ (fun hH4 => ?_)
      · (try dsimp only); (first | assumption | exact ⟨M3.out.cells.1, M3.out.cells.2.1, M3.out.cells.2.2.1⟩)
      clear hK K hH0
      try simp only [Act.put, List.setIfInBounds_toArray, List.set_cons_zero, List.set_cons_succ]
      refine wpAnyH_ready (rs := [10]) (by kernel_rfl) (by simp) ?_
      refine AllReadyH.cons (by simp only [List.getElem?_toArray, List.getElem?_cons_zero, List.getElem?_cons_succ]; rfl) (fun K hK => ?_) AllReadyH.nil
      go_simp
      go_at_call 140
      first
        | ((with_reducible refine (GET.out g2 w3.drew (M3.out.below (Below.refl _ _).drew)).mono ?_); rintro e w4 ⟨rfl, g4, hD4, hE4⟩; have M4 := hid ((M3.out.below (Below.refl _ _).drew).deed hn HD.out hE4 hD4); have hS' : w4.cell? ⟨h, 0, none⟩ = some (.pointer (some ⟨vp, 0, none⟩)) ∧ w4.cell? ⟨vp, 0, none⟩ = some (.pointer (some ⟨t, 0, none⟩)) ∧ w4.cell? ⟨bx, 4, none⟩ = some (.int .i64 x.key) := ⟨M4.out.cells.1, M4.out.cells.2.1, M4.out.cells.2.2.1⟩; clear hD4 hE4)
        | ((with_reducible refine (GET.out g5 w5 M5.out).mono ?_); rintro e w6 ⟨rfl, g6, hD6, hE6⟩; have M6 := hid (M5.out.deed hn HD.out hE6 hD6); have U6 := hid (U5.out.frame hE6 (by omega)); obtain ⟨u0, u1, v0, v1⟩ := U6.out.1.two; have hS' : w6.cell? ⟨h, 0, none⟩ = some (.pointer (some ⟨vp, 0, none⟩)) ∧ w6.cell? ⟨vp, 0, none⟩ = some (.pointer (some ⟨t, 0, none⟩)) ∧ w6.cell? ⟨bx, 4, none⟩ = some (.int .i64 x.key) := ⟨M6.out.cells.1, M6.out.cells.2.1, M6.out.cells.2.2.1⟩; clear hD6 hE6)
      try go_wp2_with fail
      refine hK.out _ _ ?_ (fun hH5 => ?_)
      · (try dsimp only); (first | assumption | exact ⟨M3.out.cells.1, M3.out.cells.2.1, M3.out.cells.2.2.1⟩)
      clear hK K hH4
      try simp only [Act.put, List.setIfInBounds_toArray, List.set_cons_zero, List.set_cons_succ]
      refine wpAnyH_take (i := 11) (v := ?_) (by simp only [List.getElem?_toArray, List.getElem?_cons_zero, List.getElem?_cons_succ]; rfl) (by kernel_rfl) (by kernel_rfl) (by kernel_rfl) (fun _ _ _ h => h) (Or.inl ⟨by rfl, ?_⟩) (by assumption) ?_
      rotate_left
      · intro w hSw; (try dsimp only at hSw); go_simp; (try with_reducible rfl)
      try simp only [Act.put, List.setIfInBounds_toArray, List.set_cons_zero, List.set_cons_succ]
      refine wpAnyH_take (i := 12) (v := ?_) (by simp only [List.getElem?_toArray, List.getElem?_cons_zero, List.getElem?_cons_succ]; rfl) (by kernel_rfl) (by kernel_rfl) (by kernel_rfl) (fun _ _ _ h => h) (Or.inl ⟨by rfl, ?_⟩) (by assumption) ?_
      rotate_left
      · intro w hSw; (try dsimp only at hSw); go_simp; (try with_reducible rfl)
      try simp only [Act.put, List.setIfInBounds_toArray, List.set_cons_zero, List.set_cons_succ]
      refine wpAnyH_take (i := 13) (v := ?_) (by simp only [List.getElem?_toArray, List.getElem?_cons_zero, List.getElem?_cons_succ]; rfl) (by kernel_rfl) (by kernel_rfl) (by kernel_rfl) (fun _ _ _ h => h) (Or.inl ⟨by rfl, ?_⟩) (by assumption) ?_
      rotate_left
      · intro w hSw; (try dsimp only at hSw); go_simp; (try with_reducible rfl)
      try simp only [Act.put, List.setIfInBounds_toArray, List.set_cons_zero, List.set_cons_succ]
      refine wpAnyH_ready (rs := [15]) (by kernel_rfl) (by simp) ?_
      refine AllReadyH.cons (by simp only [List.getElem?_toArray, List.getElem?_cons_zero, List.getElem?_cons_succ]; rfl) (fun K hK => ?_) AllReadyH.nil
      go_simp
      have M7 := hid ((M6.out.store HN5.out U6.out.2 0 (.bool zv.there)).store HN5.out U6.out.2 1 (.string zv.bytes))
      have U7 := hid (show Loc ((w6.setCell ⟨b6, 0, none⟩ (.bool zv.there)).setCell ⟨b6, 1, none⟩ (.string zv.bytes)) b6 99 [.bool zv.there, .string zv.bytes] from (U6.out.1.set 0 _).set 1 _)
      generalize (w6.setCell ⟨b6, 0, none⟩ (.bool zv.there)).setCell ⟨b6, 1, none⟩ (.string zv.bytes) = w7 at *
      have hS' : w7.cell? ⟨h, 0, none⟩ = some (.pointer (some ⟨vp, 0, none⟩)) ∧ w7.cell? ⟨vp, 0, none⟩ = some (.pointer (some ⟨t, 0, none⟩)) ∧ w7.cell? ⟨bx, 4, none⟩ = some (.int .i64 x.key) := ⟨M7.out.cells.1, M7.out.cells.2.1, M7.out.cells.2.2.1⟩
      try go_wp2_with fail
      refine hK.out _ _ ?_ (fun hH6 => ?_)
      · (try dsimp only); (first | assumption | exact ⟨M3.out.cells.1, M3.out.cells.2.1, M3.out.cells.2.2.1⟩)
      clear hK K hH5
      try simp only [Act.put, List.setIfInBounds_toArray, List.set_cons_zero, List.set_cons_succ]
      refine wpAnyH_take (i := 16) (v := ?_) (by simp only [List.getElem?_toArray, List.getElem?_cons_zero, List.getElem?_cons_succ]; rfl) (by kernel_rfl) (by kernel_rfl) (by kernel_rfl) (fun _ _ _ h => h) (Or.inl ⟨by rfl, ?_⟩) (by assumption) ?_
      rotate_left
      · intro w hSw; (try dsimp only at hSw); go_simp; (try with_reducible rfl)
      try simp only [Act.put, List.setIfInBounds_toArray, List.set_cons_zero, List.set_cons_succ]
      refine wpAnyH_done (by kernel_rfl) ?_ _
      refine NoPanic.normal ?_
      obtain ⟨u0, u1, -⟩ := U7.out.two
      clear GET M3
      obtain ⟨e0, e1, e2, e3, e4, f0, f1, f2, f3, f4⟩ := evL_cells M7.out.ev
      go_wp2
      refine bodyPost_ret (v := .agg #[.int .i64 zc, .int .i64 0, .bool zv.there, .string zv.bytes, .slice none 0 0]) (by simp [results, Tryz.results123, go_sem, e0, e1, e2, e3, e4] <;> rfl) rfl (EvPost.done _ _ _ _ _ (by rw [Y.out]; exact ⟨vp, ds, M7.out.hall⟩) M7.out.evo HB.out.newe M7.out.ev.2 (a := none) (cap := 0) (by rw [Y.out]; exact .inl rfl) (by intro ad h; cases h) (by rw [Y.out]; rfl))
      -- END 6
    · have q2 : (x.kind == 2) = false := by simpa using h2
      by_cases h3 : x.kind = 3
      · have Y := hid (show y = (Evt.of (putD D x.key ⟨true, x.bytes⟩).1 0, ⟨H.v, upd H.seats n (some (putD D x.key ⟨true, x.bytes⟩).2)⟩) by rw [EX2.out]; unfold deedH; rw [if_neg h2, if_pos h3, HSN.out])
        rw [h3] at k0
        have PUT := hid (deed_Put g2 (p + 12 + n) (ds n) D x.key ⟨true, x.bytes⟩ w3 hbs (M3.out.hall.deed n hn D HD.out))
        generalize putD D x.key ⟨true, x.bytes⟩ = z at *
        obtain ⟨zc, zD⟩ := z
        obtain ⟨-, -, k4, -, -, k7, -, -⟩ := M3.out.cells
        clear h2 h3 q2 EX2
        go_wp2_with fail
        (with_reducible refine PUT.out.mono ?_)
        rintro e w4 ⟨rfl, g4, hD4, hE4⟩
        have M4 := hid (M3.out.deed hn HD.out hE4 hD4)
        clear hD4 hE4 PUT k4 k7 k0 M3
        obtain ⟨e0, e1, e2, e3, e4, f0, f1, f2, f3, f4⟩ := evL_cells M4.out.ev
        go_wp2
        refine bodyPost_ret (v := .agg #[.int .i64 zc, .int .i64 0, .bool false, .string ByteArray.empty, .slice none 0 0]) (by simp [results, Tryz.results123, go_sem, e0, e1, e2, e3, e4] <;> rfl) rfl (EvPost.done _ _ _ _ _ (by rw [Y.out]; exact ⟨vp, ds, M4.out.hall⟩) M4.out.evo HB.out.newe M4.out.ev.2 (a := none) (cap := 0) (by rw [Y.out]; exact .inl rfl) (by intro ad h; cases h) (by rw [Y.out]; rfl))
      · have q3 : (x.kind == 3) = false := by simpa using h3
        by_cases h4 : x.kind = 4
        · have Y := hid (show y = (Evt.of (putD D x.key Val.zero).1 0, ⟨H.v, upd H.seats n (some (putD D x.key Val.zero).2)⟩) by rw [EX2.out]; unfold deedH; rw [if_neg h2, if_neg h3, if_pos h4, HSN.out])
          rw [h4] at k0
          have PUT := hid (deed_Put g2 (p + 12 + n) (ds n) D x.key Val.zero w3 (by decide) (M3.out.hall.deed n hn D HD.out))
          generalize putD D x.key Val.zero = z at *
          obtain ⟨zc, zD⟩ := z
          obtain ⟨-, -, k4, -, -, k7, -, -⟩ := M3.out.cells
          clear h2 h3 h4 q2 q3 EX2
          go_wp2_with fail
          refine PUT.out.mono ?_
          rintro e w4 ⟨rfl, g4, hD4, hE4⟩
          have M4 := hid (M3.out.deed hn HD.out hE4 hD4)
          clear hD4 hE4 PUT k4 k7 k0 M3
          obtain ⟨e0, e1, e2, e3, e4, f0, f1, f2, f3, f4⟩ := evL_cells M4.out.ev
          go_wp2
          refine bodyPost_ret (v := .agg #[.int .i64 zc, .int .i64 0, .bool false, .string ByteArray.empty, .slice none 0 0]) (by simp [results, Tryz.results123, go_sem, e0, e1, e2, e3, e4] <;> rfl) rfl (EvPost.done _ _ _ _ _ (by rw [Y.out]; exact ⟨vp, ds, M4.out.hall⟩) M4.out.evo HB.out.newe M4.out.ev.2 (a := none) (cap := 0) (by rw [Y.out]; exact .inl rfl) (by intro ad h; cases h) (by rw [Y.out]; rfl))
        · have q4 : (x.kind == 4) = false := by simpa using h4
          by_cases h5 : x.kind = 5
          · have Y := hid (show y = (⟨(listD D H.v.tab x.key x.to_).1.2, 0, Val.zero, (listD D H.v.tab x.key x.to_).1.1⟩, ⟨H.v, upd H.seats n (some (listD D H.v.tab x.key x.to_).2)⟩) by rw [EX2.out]; unfold deedH; rw [if_neg h2, if_neg h3, if_neg h4, if_pos h5, HSN.out])
            rw [h5] at k0
            have LST := hid (deed_List g2 (p + 12 + n) (ds n) D (p + 1 + 1) t H.v.tab w3.drew x.key x.to_ (by omega) ((M3.out.below (Below.refl _ _).drew).hall.deed n hn D HD.out) (M3.out.below (Below.refl _ _).drew).vc.2.2.1)
            generalize listD D H.v.tab x.key x.to_ = z at *
            obtain ⟨⟨zl, zc⟩, zD⟩ := z
            obtain ⟨c0, c1, k4, k5, -, -, -, -⟩ := M3.out.cells
            clear h2 h3 h4 h5 q2 q3 q4 EX2
            go_wp2_with fail
            go_region_held3 (fun W' : World => W'.cell? ⟨h, 0, none⟩ = some (.pointer (some ⟨vp, 0, none⟩)) ∧ W'.cell? ⟨vp, 0, none⟩ = some (.pointer (some ⟨t, 0, none⟩)) ∧ W'.cell? ⟨bx, 4, none⟩ = some (.int .i64 x.key) ∧ W'.cell? ⟨bx, 5, none⟩ = some (.int .i64 x.to_))
              (first | assumption | exact ⟨c0, c1, k4, k5⟩)
              (first
                | (go_at_call 142; (with_reducible refine LST.out.mono ?_); rintro e w4 ⟨a4, c4, g4, rfl, hD4, hE4, hs4, hn4⟩; have M4 := hid ((M3.out.below (Below.refl _ _).drew).deed hn HD.out hE4 hD4); have S4 := hid hs4; have N4 := hid (fun ad (e : a4 = some ad) => (show ad.block ≠ be ∧ w.heap.size ≤ ad.block from ⟨by have h1 := (hn4 ad e).1; have h2 := (M3.out.below (Below.refl _ _).drew).ev.1.lt; omega, Nat.le_trans (M3.out.below (Below.refl _ _).drew).evo.size (hn4 ad e).1⟩)); have hS' : w4.cell? ⟨h, 0, none⟩ = some (.pointer (some ⟨vp, 0, none⟩)) ∧ w4.cell? ⟨vp, 0, none⟩ = some (.pointer (some ⟨t, 0, none⟩)) ∧ w4.cell? ⟨bx, 4, none⟩ = some (.int .i64 x.key) ∧ w4.cell? ⟨bx, 5, none⟩ = some (.int .i64 x.to_) := ⟨M4.out.cells.1, M4.out.cells.2.1, M4.out.cells.2.2.1, M4.out.cells.2.2.2.1⟩; clear hD4 hE4 hs4 hn4))
            clear hS' c0 c1 k4 k5 k0 LST M3
            obtain ⟨e0, e1, e2, e3, e4, f0, f1, f2, f3, f4⟩ := evL_cells M4.out.ev
            go_wp2
            refine bodyPost_ret (v := .agg #[.int .i64 zc, .int .i64 0, .bool false, .string ByteArray.empty, .slice a4 zl.length c4]) (by simp [results, Tryz.results123, go_sem, e0, e1, e2, e3, e4] <;> rfl) rfl (EvPost.done _ _ _ _ _ (by rw [Y.out]; exact ⟨vp, ds, M4.out.hall⟩) M4.out.evo HB.out.newe M4.out.ev.2 (a := a4) (cap := c4) (by rw [Y.out]; exact S4.out) N4.out (by rw [Y.out]; rfl))
          · have q5 : (x.kind == 5) = false := by simpa using h5
            by_cases h6 : x.kind = 6
            · have Y := hid (show y = (Evt.of (commitV H.v D).1.2 (commitV H.v D).1.1, ⟨(commitV H.v D).2, upd H.seats n none⟩) by rw [EX2.out]; unfold deedH; rw [if_neg h2, if_neg h3, if_neg h4, if_neg h5, if_pos h6, HSN.out])
              rw [h6] at k0
              have DON := hid (hall_done g2 p h H n D w3 hn HD.out ⟨vp, ds, M3.out.hall⟩)
              rw [← Y.out] at DON
              obtain ⟨-, -, -, -, -, -, -, k1⟩ := M3.out.cells
              rw [HXS.out] at k1
              have HYL := hid (show y.1.l = [] by rw [Y.out]; rfl)
              clear h2 h3 h4 h5 h6 q2 q3 q4 q5 EX2 Y
              go_wp2_with fail
              (with_reducible refine DON.out.mono ?_)
              rintro e w4 ⟨a4, c4, g4, rfl, hH4, hE4, hs4, hn4⟩
              have N4 := hid (fun ad e => Nat.le_trans M3.out.evo.size (hn4 ad e))
              have E4 := hid (M3.out.evo.trans hE4)
              have V4 := hid (M3.out.ev.frame hE4 (by omega))
              have H4 := hid hH4
              clear hH4 hE4 DON k1 k0 M3 hs4 hn4
              obtain ⟨e0, e1, e2, e3, e4, f0, f1, f2, f3, f4⟩ := evL_cells V4.out
              go_wp2
              refine bodyPost_ret (v := .agg #[.int .i64 y.1.code, .int .i64 y.1.n, .bool y.1.v.there, .string y.1.v.bytes, .slice a4 y.1.l.length c4]) (by simp [results, Tryz.results123, go_sem, e0, e1, e2, e3, e4] <;> rfl) rfl ?_
              have S5 := (((((evo_store (q := p + 17) (i := 0) (.int .i64 y.1.code) V4.out.2 : Evo (p + 17) (p + 17 + 1) g4 g4 w4 _).trans (evo_store (i := 1) (.int .i64 y.1.n) V4.out.2)).trans (evo_store (i := 2) (.bool y.1.v.there) V4.out.2)).trans (evo_store (i := 3) (.string y.1.v.bytes) V4.out.2)).trans (evo_store (i := 4) (.slice a4 y.1.l.length c4) V4.out.2))
              exact ⟨a4, c4, g4, rfl, H4.out.frame S5 (by omega), evo_storeNew (evo_storeNew (evo_storeNew (evo_storeNew (evo_storeNew E4.out HB.out.newe _) HB.out.newe _) HB.out.newe _) HB.out.newe _) HB.out.newe _, by rw [HYL.out]; exact .inl rfl, N4.out⟩
            · have q6 : (x.kind == 6) = false := by simpa using h6
              by_cases h10 : x.kind = 10
              · have Y := hid (show y = (Evt.of (tearV H.v D x.keep).1.2 (tearV H.v D x.keep).1.1, ⟨(tearV H.v D x.keep).2, fun _ => none⟩) by rw [EX2.out]; unfold deedH; rw [if_neg h2, if_neg h3, if_neg h4, if_neg h5, if_neg h6, if_pos h10])
                rw [h10] at k0
                have TEA := hid (vault_Tear g2 (p + 1) vp H.v (p + 12 + n) (ds n) D x.keep w3.drew (M3.out.below (Below.refl _ _).drew).hall.vault ((M3.out.below (Below.refl _ _).drew).hall.deed n hn D HD.out))
                generalize tearV H.v D x.keep = z at *
                obtain ⟨⟨zn, zc⟩, zV⟩ := z
                obtain ⟨c0, -, -, -, k6, -, -, -⟩ := M3.out.cells
                clear h2 h3 h4 h5 h6 h10 q2 q3 q4 q5 q6 EX2
                go_wp2_with fail
                go_region_held3 (fun W' : World => W'.cell? ⟨h, 0, none⟩ = some (.pointer (some ⟨vp, 0, none⟩)) ∧ W'.cell? ⟨bx, 6, none⟩ = some (.int .i64 x.keep))
                  (first | assumption | exact ⟨c0, k6⟩)
                  (first
                    | (go_at_call 144; (with_reducible refine TEA.out.mono ?_); rintro e w4 ⟨rfl, g4, hV4, hE4⟩; have C4 := hid ((M3.out.below (Below.refl _ _).drew).hall.withVault hE4 hV4); have E4 := hid ((M3.out.below (Below.refl _ _).drew).evo.trans (hE4.wide (lo' := p) (hi' := p + 17) (by omega) (by omega))); have V4 := hid ((M3.out.below (Below.refl _ _).drew).ev.frame hE4 (by omega)); have X4 := hid ((M3.out.below (Below.refl _ _).drew).arg.frame hE4 (by omega)); have hS' : w4.cell? ⟨h, 0, none⟩ = some (.pointer (some ⟨vp, 0, none⟩)) ∧ w4.cell? ⟨bx, 6, none⟩ = some (.int .i64 x.keep) := ⟨C4.out.top.1, X4.out.1.cell 6⟩; clear hV4 hE4))
                clear hS' c0 k6 k0 TEA M3 X4
                have l0 : w4.cell? ⟨h, 1, none⟩ = some (seatP ds H.seats 0) := (C4.out.seat (s := 0) (by omega)).1
                have l1 : w4.cell? ⟨h, 2, none⟩ = some (seatP ds H.seats 1) := (C4.out.seat (s := 1) (by omega)).1
                have l2 : w4.cell? ⟨h, 3, none⟩ = some (seatP ds H.seats 2) := (C4.out.seat (s := 2) (by omega)).1
                have l3 : w4.cell? ⟨h, 4, none⟩ = some (seatP ds H.seats 3) := (C4.out.seat (s := 3) (by omega)).1
                have l4 : w4.cell? ⟨h, 5, none⟩ = some (seatP ds H.seats 4) := (C4.out.seat (s := 4) (by omega)).1
                have r0 : w4.frozen? ⟨h, 1, none⟩ = false := C4.out.loc.1.free 1
                have r1 : w4.frozen? ⟨h, 2, none⟩ = false := C4.out.loc.1.free 2
                have r2 : w4.frozen? ⟨h, 3, none⟩ = false := C4.out.loc.1.free 3
                have r3 : w4.frozen? ⟨h, 4, none⟩ = false := C4.out.loc.1.free 4
                have r4 : w4.frozen? ⟨h, 5, none⟩ = false := C4.out.loc.1.free 5
                obtain ⟨hA5, hS5⟩ := C4.out.all
                have C5 := hid hA5
                have E5 := hid (E4.out.trans (hS5.wide (lo' := p) (hi' := p + 17) (Nat.le_refl _) (by omega)))
                have V5 := hid (V4.out.frame hS5 (by omega))
                clear hA5 hS5
                go_upto_region 20 with (fail)
                generalize ((((w4.setCell ⟨h, 1, none⟩ (.pointer none)).setCell ⟨h, 2, none⟩ (.pointer none)).setCell ⟨h, 3, none⟩ (.pointer none)).setCell ⟨h, 4, none⟩ (.pointer none)).setCell ⟨h, 5, none⟩ (.pointer none) = w5 at *
                clear l0 l1 l2 l3 l4 r0 r1 r2 r3 r4 C4 V4 E4
                obtain ⟨e0, e1, e2, e3, e4, f0, f1, f2, f3, f4⟩ := evL_cells V5.out
                go_wp2
                refine bodyPost_ret (v := .agg #[.int .i64 zc, .int .i64 zn, .bool false, .string ByteArray.empty, .slice none 0 0]) (by simp [results, Tryz.results123, go_sem, e0, e1, e2, e3, e4] <;> rfl) rfl (EvPost.done _ _ _ _ _ (by rw [Y.out]; exact ⟨vp, ds, C5.out⟩) E5.out HB.out.newe V5.out.2 (a := none) (cap := 0) (by rw [Y.out]; exact .inl rfl) (by intro ad h; cases h) (by rw [Y.out]; rfl))
              · have q10 : (x.kind == 10) = false := by simpa using h10
                have Y := hid (show y = (Evt.of 0 0, ⟨H.v, upd H.seats n none⟩) by rw [EX2.out]; unfold deedH; rw [if_neg h2, if_neg h3, if_neg h4, if_neg h5, if_neg h6, if_neg h10, HSN.out])
                obtain ⟨-, -, -, -, -, -, -, k1⟩ := M3.out.cells
                rw [HXS.out] at k1
                obtain ⟨s1, s2, hlt3⟩ := M3.out.hall.seat hn
                obtain ⟨ss, hss⟩ : ∃ ss, seatP ds H.seats n = ss := ⟨_, rfl⟩
                rw [hss] at s1
                clear h2 h3 h4 h5 h6 h10 EX2 hss
                go_wp2_with fail
                go_region
                all_goals
                  have C4 := hid (M3.out.hall.drop hn)
                  have ES : Evo p (p + 1) g2 g2 w3 (w3.setCell ⟨h, 1 + n, none⟩ (.pointer none)) := evo_store _ M3.out.hall.loc.2
                  have E4 := hid (M3.out.evo.trans (ES.wide (Nat.le_refl _) (by omega)))
                  have V4 := hid (M3.out.ev.frame ES (by omega))
                  clear ES s1 s2 k1 k0 M3
                  generalize w3.setCell ⟨h, 1 + n, none⟩ (.pointer none) = w4 at *
                  have C5 := hid (C4.out.below (Below.refl _ _).drew)
                  have E5 := hid (E4.out.trans (Evo.drew _ _ _ _))
                  have V5 : Hid (LocC w4.drew g2 (p + 17) be 102 evL) := hid V4.out
                  clear C4 E4 V4
                  generalize w4.drew = w5 at *
                  obtain ⟨e0, e1, e2, e3, e4, f0, f1, f2, f3, f4⟩ := evL_cells V5.out
                  go_wp2
                  refine bodyPost_ret (v := .agg #[.int .i64 0, .int .i64 0, .bool false, .string ByteArray.empty, .slice none 0 0]) (by simp [results, Tryz.results123, go_sem, e0, e1, e2, e3, e4] <;> rfl) rfl (EvPost.done _ _ _ _ _ (by rw [Y.out]; exact ⟨vp, _, C5.out⟩) E5.out HB.out.newe V5.out.2 (a := none) (cap := 0) (by rw [Y.out]; exact .inl rfl) (by intro ad h; cases h) (by rw [Y.out]; rfl))

end Go.Proofs.YtoiobhcgpajogaaGreatDoor
