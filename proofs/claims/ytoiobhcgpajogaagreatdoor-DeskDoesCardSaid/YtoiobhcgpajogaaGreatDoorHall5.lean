/- The walk of a hall's Do. -/
import Derived.Test.YtoiobhcgpajogaaGreatDoorHall4
namespace Go.Proofs.YtoiobhcgpajogaaGreatDoor
open Go.RowKit

theorem cell_five (w : World) (b c i : Nat) (v0 v1 v2 v3 v4 : Value) (h : b ≠ c) : (((((w.setCell ⟨b, 0, none⟩ v0).setCell ⟨b, 1, none⟩ v1).setCell ⟨b, 2, none⟩ v2).setCell ⟨b, 3, none⟩ v3).setCell ⟨b, 4, none⟩ v4).cell? ⟨c, i, none⟩ = w.cell? ⟨c, i, none⟩ :=
  World.cell?_of_block (w := w) (a := ⟨c, i, none⟩) (heap_five w b v0 v1 v2 v3 v4 c (Ne.symm h))

section
variable {w ww w' : World} {g gg g' : Nat → Nat} {p h vp t b bx be : Nat} {ds : Nat → Nat} {x : St} {H : Ht}
theorem Mid.tab (m : Mid w g p h vp ds t b bx be x gg ww H) : TableAt ww gg (p + 1 + 1) t H.v.tab := m.vc.2.2.1
theorem Mid.clear (m : Mid w g p h vp ds t b bx be x gg ww H) {least : Int} (e : Evo (p + 1 + 1) (p + 1 + 1 + 9) gg g' ww w') (hT : TableAt w' g' (p + 1 + 1) t (clearT H.v.tab least).2) :
    Mid w g p h vp ds t b bx be x g' w' ⟨⟨(clearT H.v.tab least).2, H.v.log⟩, H.seats⟩ := by
  obtain ⟨hok, hL, hT0, hG⟩ := m.vc
  have hv : VaultC w' g' (p + 1) vp t b ⟨(clearT H.v.tab least).2, H.v.log⟩ := ⟨⟨hok.1, hok.2.1, by rw [← hok.2.2]; exact clearT_last _ _⟩, hL.frame e (by omega), hT, hG.frame e (by omega)⟩
  exact ⟨HallC.withVault m.hall (e.wide (by omega) (by omega)) ⟨t, b, hv⟩, hv, m.arg.frame e (by omega), m.ev.frame e (by omega), m.evo.trans (e.wide (by omega) (by omega))⟩
end

set_option maxHeartbeats 8000000 in
set_option maxRecDepth 100000 in
theorem hall_Do (g : Nat → Nat) (p h : Nat) (H : Ht) (x : St) (w : World) (hbs : x.bytes.size ≤ maxLen) (hH : HallAt w g p h H) :
    Calls Tryz.prog 94 #[.pointer (some ⟨h, 0, none⟩), .agg #[.int .i64 x.kind, .int .i64 x.s, .int .i64 x.mode, .int .i64 x.at_, .int .i64 x.key, .int .i64 x.to_, .int .i64 x.keep, .string x.bytes]] w (EvPost g p h (doH H x) w) := by
  obtain ⟨vp, ds, hC⟩ := hH
  have HC := hid hC
  have hhlt := hC.loc.1.lt
  have hvlt : vp < w.heap.size := by obtain ⟨-, t, b, hv⟩ := hC.top; exact hv.cells.2.2.2
  have EX := hid (show doH H x = if x.kind < 1 ∨ 10 < x.kind then (Evt.of 3 0, H)
    else if x.kind = 8 then (Evt.of 0 ((clearT H.v.tab (leastH H)).1 : Int), ⟨⟨(clearT H.v.tab (leastH H)).2, H.v.log⟩, H.seats⟩)
    else if x.kind = 9 then (Evt.of 0 0, ⟨crashV H.v.log, fun _ => none⟩)
    else if isSeatB x.s = false then (Evt.of 1 0, H)
    else if x.kind = 1 then beginH H x
    else deedO H x (H.seats x.s.toNat) from rfl)
  generalize doH H x = y at *
  clear hC
  go_enter Tryz.func94, Tryz.ntmps94
  go_upto_region 1 with (fail)
  have hbh : w.heap.size + 1 ≠ h := by omega
  have hbv : w.heap.size + 1 ≠ vp := by omega
  obtain ⟨hB, hE0⟩ := Beg.start2 w g p x
  have HB := hid hB
  have HE0 := hid hE0
  clear hB hE0
  generalize extc (extc g w (p + 17)) (w.alloc (.cells #[.int .i64 x.kind, .int .i64 x.s, .int .i64 x.mode, .int .i64 x.at_, .int .i64 x.key, .int .i64 x.to_, .int .i64 x.keep, .string x.bytes] 97)) (p + 17) = g2 at *
  generalize (w.alloc (.cells #[.int .i64 x.kind, .int .i64 x.s, .int .i64 x.mode, .int .i64 x.at_, .int .i64 x.key, .int .i64 x.to_, .int .i64 x.keep, .string x.bytes] 97)).alloc (.cells #[.int .i64 0, .int .i64 0, .bool false, .string ⟨#[]⟩, .slice none 0 0] 102) = w2 at *
  generalize w.heap.size + 1 = be at *
  generalize w.heap.size = bx at *
  have C2 := hid (HC.out.frame HE0.out (by omega))
  obtain ⟨hd0, t, b, hvc⟩ := C2.out.top
  have M2 : Hid (Mid w g p h vp ds t b bx be x g2 w2 H) := hid ⟨C2.out, hvc, HB.out.arg, HB.out.ev, HB.out.evo⟩
  clear hd0 hvc C2 HE0 hhlt hvlt
  obtain ⟨-, -, -, -, -, -, k0, k1⟩ := M2.out.cells
  by_cases hk1 : x.kind < 1
  · have Y := hid (show y = (Evt.of 3 0, H) by rw [EX.out, if_pos (.inl hk1)])
    clear EX hbh hbv
    obtain ⟨e0, e1, e2, e3, e4, f0, f1, f2, f3, f4⟩ := evL_cells M2.out.ev
    go_wp2
    refine bodyPost_ret (v := .agg #[.int .i64 3, .int .i64 0, .bool false, .string ByteArray.empty, .slice none 0 0]) (by simp [results, Tryz.results94, go_sem, e0, e1, e2, e3, e4] <;> rfl) rfl (EvPost.done _ _ _ _ _ (by rw [Y.out]; exact ⟨vp, ds, M2.out.hall⟩) M2.out.evo HB.out.newe M2.out.ev.2 (a := none) (cap := 0) (by rw [Y.out]; exact .inl rfl) (by intro ad h; cases h) (by rw [Y.out]; rfl))
  · by_cases hk10 : 10 < x.kind
    · have Y := hid (show y = (Evt.of 3 0, H) by rw [EX.out, if_pos (.inr hk10)])
      clear EX hbh hbv
      obtain ⟨e0, e1, e2, e3, e4, f0, f1, f2, f3, f4⟩ := evL_cells M2.out.ev
      go_wp2
      refine bodyPost_ret (v := .agg #[.int .i64 3, .int .i64 0, .bool false, .string ByteArray.empty, .slice none 0 0]) (by simp [results, Tryz.results94, go_sem, e0, e1, e2, e3, e4] <;> rfl) rfl (EvPost.done _ _ _ _ _ (by rw [Y.out]; exact ⟨vp, ds, M2.out.hall⟩) M2.out.evo HB.out.newe M2.out.ev.2 (a := none) (cap := 0) (by rw [Y.out]; exact .inl rfl) (by intro ad h; cases h) (by rw [Y.out]; rfl))
    · have hk1' : 1 ≤ x.kind := by omega
      have hk10' : x.kind ≤ 10 := by omega
      have EX2 := hid (EX.out.trans (if_neg (by omega)))
      clear EX
      by_cases h8 : x.kind = 8
      · have Y := hid (EX2.out.trans (if_pos h8))
        have q8 : (x.kind == 8) = true := by simpa using h8
        have LST := hid (fun W (k : HallAt W g2 p h H) => hall_Least g2 p h H W k)
        have CLR := hid (fun W (k : TableAt W g2 (p + 1 + 1) t H.v.tab) => table_Clear g2 (p + 1 + 1) t H.v.tab W (leastH H) k)
        generalize leastH H = least at *
        have M3 := hid (M2.out.below (Below.refl _ _).drew)
        obtain ⟨c0, c1, -⟩ := M2.out.cells
        have hS0 : w2.drew.cell? ⟨h, 0, none⟩ = some (.pointer (some ⟨vp, 0, none⟩)) ∧ w2.drew.cell? ⟨vp, 0, none⟩ = some (.pointer (some ⟨t, 0, none⟩)) := ⟨c0, c1⟩
        clear hk1 hk10 h8 EX2
        go_wp2_with fail
        -- REGION 4
        refine wp_region_noPanic ?_
        refine wp_region_held_drew (S := (fun W' : World => W'.cell? ⟨h, 0, none⟩ = some (.pointer (some ⟨vp, 0, none⟩)) ∧ W'.cell? ⟨vp, 0, none⟩ = some (.pointer (some ⟨t, 0, none⟩)))) (by kernel_rfl) ?_ (fun hH0 => ?_)
        · (try dsimp only); exact hS0
        refine wpAnyH_take (i := 0) (v := ?_) (by simp only [List.getElem?_toArray, List.getElem?_cons_zero]; rfl) (by kernel_rfl) (by kernel_rfl) (by kernel_rfl) (fun _ _ _ h => h) (Or.inl ⟨by rfl, ?_⟩) (by assumption) ?_
        rotate_left
        · intro w hSw; (try dsimp only at hSw); go_simp; (try with_reducible rfl)
        try simp only [Act.put, List.setIfInBounds_toArray, List.set_cons_zero, List.set_cons_succ]
        refine wpAnyH_take (i := 1) (v := ?_) (by simp only [List.getElem?_toArray, List.getElem?_cons_zero, List.getElem?_cons_succ]; rfl) (by kernel_rfl) (by kernel_rfl) (by kernel_rfl) (fun _ _ _ h => h) (Or.inl ⟨by rfl, ?_⟩) (by assumption) ?_
        rotate_left
        · intro w hSw; (try dsimp only at hSw); go_simp; (try with_reducible rfl)
        try simp only [Act.put, List.setIfInBounds_toArray, List.set_cons_zero, List.set_cons_succ]
        refine wpAnyH_take (i := 2) (v := ?_) (by simp only [List.getElem?_toArray, List.getElem?_cons_zero, List.getElem?_cons_succ]; rfl) (by kernel_rfl) (by kernel_rfl) (by kernel_rfl) (fun _ _ _ h => h) (Or.inl ⟨by rfl, ?_⟩) (by assumption) ?_
        rotate_left
        · intro w hSw; (try dsimp only at hSw); go_simp; (try with_reducible rfl)
        try simp only [Act.put, List.setIfInBounds_toArray, List.set_cons_zero, List.set_cons_succ]
        refine wpAnyH_take (i := 3) (v := ?_) (by simp only [List.getElem?_toArray, List.getElem?_cons_zero, List.getElem?_cons_succ]; rfl) (by kernel_rfl) (by kernel_rfl) (by kernel_rfl) (fun _ _ _ h => h) (Or.inl ⟨by rfl, ?_⟩) (by assumption) ?_
        rotate_left
        · intro w hSw; (try dsimp only at hSw); go_simp; (try with_reducible rfl)
        try simp only [Act.put, List.setIfInBounds_toArray, List.set_cons_zero, List.set_cons_succ]
        refine wpAnyH_take (i := 4) (v := ?_) (by simp only [List.getElem?_toArray, List.getElem?_cons_zero, List.getElem?_cons_succ]; rfl) (by kernel_rfl) (by kernel_rfl) (by kernel_rfl) (fun _ _ _ h => h) (Or.inl ⟨by rfl, ?_⟩) (by assumption) ?_
        rotate_left
        · intro w hSw; (try dsimp only at hSw); go_simp; (try with_reducible rfl)
        try simp only [Act.put, List.setIfInBounds_toArray, List.set_cons_zero, List.set_cons_succ]
        refine wpAnyH_take (i := 5) (v := ?_) (by simp only [List.getElem?_toArray, List.getElem?_cons_zero, List.getElem?_cons_succ]; rfl) (by kernel_rfl) (by kernel_rfl) (by kernel_rfl) (fun _ _ _ h => h) (Or.inl ⟨by rfl, ?_⟩) (by assumption) ?_
        rotate_left
        · intro w hSw; (try dsimp only at hSw); go_simp; (try with_reducible rfl)
        try simp only [Act.put, List.setIfInBounds_toArray, List.set_cons_zero, List.set_cons_succ]
        refine wpAnyH_take (i := 6) (v := ?_) (by simp only [List.getElem?_toArray, List.getElem?_cons_zero, List.getElem?_cons_succ]; rfl) (by kernel_rfl) (by kernel_rfl) (by kernel_rfl) (fun _ _ _ h => h) (Or.inl ⟨by rfl, ?_⟩) (by assumption) ?_
        rotate_left
        · intro w hSw; (try dsimp only at hSw); go_simp; (try with_reducible rfl)
        try simp only [Act.put, List.setIfInBounds_toArray, List.set_cons_zero, List.set_cons_succ]
        refine wpAnyH_take (i := 7) (v := ?_) (by simp only [List.getElem?_toArray, List.getElem?_cons_zero, List.getElem?_cons_succ]; rfl) (by kernel_rfl) (by kernel_rfl) (by kernel_rfl) (fun _ _ _ h => h) (Or.inl ⟨by rfl, ?_⟩) (by assumption) ?_
        rotate_left
        · intro w hSw; (try dsimp only at hSw); go_simp; (try with_reducible rfl)
        try simp only [Act.put, List.setIfInBounds_toArray, List.set_cons_zero, List.set_cons_succ]
        refine wpAnyH_ready (rs := [8]) (by kernel_rfl) (by simp) ?_
        refine AllReadyH.cons (by simp only [List.getElem?_toArray, List.getElem?_cons_zero, List.getElem?_cons_succ]; rfl) (fun K hK => ?_) AllReadyH.nil
        go_simp
        go_at_call 33
        refine (LST.out w2.drew ⟨vp, ds, M3.out.hall⟩).mono ?_
        rintro e w' ⟨rfl, rfl⟩
        try go_wp2_with fail
        refine hK.out _ _ ?_ (fun hH1 => ?_)
        · (try dsimp only); exact hS0
        clear hK K hH0
        try simp only [Act.put, List.setIfInBounds_toArray, List.set_cons_zero, List.set_cons_succ]
        refine wpAnyH_ready (rs := [9]) (by kernel_rfl) (by simp) ?_
        refine AllReadyH.cons (by simp only [List.getElem?_toArray, List.getElem?_cons_zero, List.getElem?_cons_succ]; rfl) (fun K hK => ?_) AllReadyH.nil
        go_simp
        go_at_call 119
        (with_reducible refine (CLR.out w2.drew M3.out.tab).mono ?_)
        rintro e w4 ⟨rfl, g4, hT4, hE4⟩
        have M4 := hid (M3.out.clear hE4 hT4)
        have hS' : w4.cell? ⟨h, 0, none⟩ = some (.pointer (some ⟨vp, 0, none⟩)) ∧ w4.cell? ⟨vp, 0, none⟩ = some (.pointer (some ⟨t, 0, none⟩)) := ⟨M4.out.cells.1, M4.out.cells.2.1⟩
        obtain ⟨e0, e1, e2, e3, e4, f0, f1, f2, f3, f4⟩ := evL_cells M4.out.ev
        clear hT4 hE4 c0 c1
        try go_wp2_with fail
        refine hK.out _ _ ?_ (fun hH2 => ?_)
        · (try dsimp only); exact hS'
        clear hK K hH1
        try simp only [Act.put, List.setIfInBounds_toArray, List.set_cons_zero, List.set_cons_succ]
        refine wpAnyH_take (i := 10) (v := ?_) (by simp only [List.getElem?_toArray, List.getElem?_cons_zero, List.getElem?_cons_succ]; rfl) (by kernel_rfl) (by kernel_rfl) (by kernel_rfl) (fun _ _ _ h => h) (Or.inl ⟨by rfl, ?_⟩) (by assumption) ?_
        rotate_left
        · intro w hSw; (try dsimp only at hSw); go_simp; (try with_reducible rfl)
        try simp only [Act.put, List.setIfInBounds_toArray, List.set_cons_zero, List.set_cons_succ]
        refine wpAnyH_ready (rs := [11]) (by kernel_rfl) (by simp) ?_
        refine AllReadyH.cons (by simp only [List.getElem?_toArray, List.getElem?_cons_zero, List.getElem?_cons_succ]; rfl) (fun K hK => ?_) AllReadyH.nil
        go_simp
        skip
        try go_wp2_with fail
        refine hK.out _ _ ?_ (fun hH3 => ?_)
        · (try dsimp only); exact ⟨(cell_five _ _ _ _ _ _ _ _ _ hbh).trans hS'.1, (cell_five _ _ _ _ _ _ _ _ _ hbv).trans hS'.2⟩
        clear hK K hH2
        try simp only [Act.put, List.setIfInBounds_toArray, List.set_cons_zero, List.set_cons_succ]
        refine wpAnyH_done (by kernel_rfl) ?_ _
        refine NoPanic.normal ?_
        go_wp2
        refine bodyPost_ret (v := .agg #[.int .i64 0, .int .i64 ((clearT H.v.tab least).1 : Int), .bool false, .string ByteArray.empty, .slice none 0 0]) (by simp [results, Tryz.results94, go_sem, e0, e1, e2, e3, e4] <;> rfl) rfl (EvPost.done _ _ _ _ _ (by rw [Y.out]; exact ⟨vp, ds, M4.out.hall⟩) M4.out.evo HB.out.newe M4.out.ev.2 (a := none) (cap := 0) (by rw [Y.out]; exact .inl rfl) (by intro ad h; cases h) (by rw [Y.out]; rfl))
        -- END 4
      · have q8 : (x.kind == 8) = false := by simpa using h8
        have EX3 := hid (EX2.out.trans (if_neg h8))
        clear EX2 hbh hbv
        by_cases h9 : x.kind = 9
        · have Y := hid (EX3.out.trans (if_pos h9))
          have q9 : (x.kind == 9) = true := by simpa using h9
          obtain ⟨c0, -⟩ := M2.out.cells
          have CRA := hid (vault_Crash g2 (p + 1) vp t b H.v.tab H.v.log w2 M2.out.vc.l)
          clear hk1 hk10 h8 h9 EX3
          go_wp2_with fail
          refine CRA.out.mono ?_
          rintro e w4 ⟨rfl, g4, hV4, hE4⟩
          have C4 := hid (M2.out.hall.withVault hE4 hV4)
          have E4 := hid (M2.out.evo.trans (hE4.wide (lo' := p) (hi' := p + 17) (by omega) (by omega)))
          have V4 := hid (M2.out.ev.frame hE4 (by omega))
          clear hV4 hE4 CRA M2 k0 k1 c0
          have l0 : w4.cell? ⟨h, 1, none⟩ = some (seatP ds H.seats 0) := (C4.out.seat (s := 0) (by omega)).1
          have l1 : w4.cell? ⟨h, 2, none⟩ = some (seatP ds H.seats 1) := (C4.out.seat (s := 1) (by omega)).1
          have l2 : w4.cell? ⟨h, 3, none⟩ = some (seatP ds H.seats 2) := (C4.out.seat (s := 2) (by omega)).1
          have l3 : w4.cell? ⟨h, 4, none⟩ = some (seatP ds H.seats 3) := (C4.out.seat (s := 3) (by omega)).1
          have l4 : w4.cell? ⟨h, 5, none⟩ = some (seatP ds H.seats 4) := (C4.out.seat (s := 4) (by omega)).1
          have r0 : w4.frozen? ⟨h, 1, none⟩ = false := C4.out.loc.1.free 1
          have r1 : w4.frozen? ⟨h, 2, none⟩ = false := C4.out.loc.1.free 2
          have r2 : w4.frozen? ⟨h, 3, none⟩ = false := C4.out.loc.1.free 3
          have r3 : w4.frozen? ⟨h, 4, none⟩ = false := C4.out.loc.1.free 4
          have r4 : w4.frozen? ⟨h, 5, none⟩ = false := C4.out.loc.1.free 5
          obtain ⟨hA5, hS5⟩ := C4.out.all
          have C5 := hid hA5
          have E5 := hid (E4.out.trans (hS5.wide (lo' := p) (hi' := p + 17) (Nat.le_refl _) (by omega)))
          have V5 := hid (V4.out.frame hS5 (by omega))
          clear hA5 hS5
          go_upto_region 8 with (fail)
          generalize ((((w4.setCell ⟨h, 1, none⟩ (.pointer none)).setCell ⟨h, 2, none⟩ (.pointer none)).setCell ⟨h, 3, none⟩ (.pointer none)).setCell ⟨h, 4, none⟩ (.pointer none)).setCell ⟨h, 5, none⟩ (.pointer none) = w5 at *
          clear l0 l1 l2 l3 l4 r0 r1 r2 r3 r4 C4 V4 E4
          obtain ⟨e0, e1, e2, e3, e4, f0, f1, f2, f3, f4⟩ := evL_cells V5.out
          go_wp2
          refine bodyPost_ret (v := .agg #[.int .i64 0, .int .i64 0, .bool false, .string ByteArray.empty, .slice none 0 0]) (by simp [results, Tryz.results94, go_sem, e0, e1, e2, e3, e4] <;> rfl) rfl (EvPost.done _ _ _ _ _ (by rw [Y.out]; exact ⟨vp, ds, C5.out⟩) E5.out HB.out.newe V5.out.2 (a := none) (cap := 0) (by rw [Y.out]; exact .inl rfl) (by intro ad h; cases h) (by rw [Y.out]; rfl))
        · have q9 : (x.kind == 9) = false := by simpa using h9
          have EX4 := hid (EX3.out.trans (if_neg h9))
          have SE := hid (hall_Seat x.s w2)
          clear EX3
          cases hsb : isSeatB x.s with
          | false =>
            have Y := hid (EX4.out.trans (if_pos hsb))
            rw [hsb] at SE
            clear EX4 hk1 hk10 h8 h9 hsb
            go_wp2_with fail
            refine SE.out.mono ?_
            rintro e w' ⟨rfl, rfl⟩
            obtain ⟨e0, e1, e2, e3, e4, f0, f1, f2, f3, f4⟩ := evL_cells M2.out.ev
            go_wp2
            refine bodyPost_ret (v := .agg #[.int .i64 1, .int .i64 0, .bool false, .string ByteArray.empty, .slice none 0 0]) (by simp [results, Tryz.results94, go_sem, e0, e1, e2, e3, e4] <;> rfl) rfl (EvPost.done _ _ _ _ _ (by rw [Y.out]; exact ⟨vp, ds, M2.out.hall⟩) M2.out.evo HB.out.newe M2.out.ev.2 (a := none) (cap := 0) (by rw [Y.out]; exact .inl rfl) (by intro ad h; cases h) (by rw [Y.out]; rfl))
          | true =>
            have EX5 := hid (EX4.out.trans (if_neg (by rw [hsb]; simp)))
            rw [hsb] at SE
            obtain ⟨n, hn, hsn⟩ := seat_nat hsb
            clear EX4 hsb
            by_cases h1 : x.kind = 1
            · have Y := hid (EX5.out.trans (if_pos h1))
              have q1 : (x.kind == 1) = true := by simpa using h1
              have INN := hid (hall_begin g2 p h H x n w2 hn hsn ⟨vp, ds, M2.out.hall⟩)
              rw [← Y.out] at INN
              obtain ⟨a0, a1, a2, a3, a4', a5, a6, a7⟩ : w2.cell? ⟨bx, 0, none⟩ = some (.int .i64 x.kind) ∧ w2.cell? ⟨bx, 1, none⟩ = some (.int .i64 x.s) ∧ w2.cell? ⟨bx, 2, none⟩ = some (.int .i64 x.mode) ∧ w2.cell? ⟨bx, 3, none⟩ = some (.int .i64 x.at_) ∧ w2.cell? ⟨bx, 4, none⟩ = some (.int .i64 x.key) ∧ w2.cell? ⟨bx, 5, none⟩ = some (.int .i64 x.to_) ∧ w2.cell? ⟨bx, 6, none⟩ = some (.int .i64 x.keep) ∧ w2.cell? ⟨bx, 7, none⟩ = some (.string x.bytes) :=
                ⟨M2.out.arg.1.cell 0, M2.out.arg.1.cell 1, M2.out.arg.1.cell 2, M2.out.arg.1.cell 3, M2.out.arg.1.cell 4, M2.out.arg.1.cell 5, M2.out.arg.1.cell 6, M2.out.arg.1.cell 7⟩
              clear EX5 hk1 hk10 h8 h9 h1 hsn Y
              go_wp2_with fail
              refine SE.out.mono ?_
              rintro e w' ⟨rfl, rfl⟩
              go_wp2_with fail
              clear a0 a1 a2 a3 a4' a5 a6 a7 k1
              (with_reducible refine INN.out.mono ?_)
              rintro e w4 ⟨a4, c4, g4, rfl, hH4, hE4, hs4, hn4⟩
              have E4 := hid (M2.out.evo.trans hE4)
              have V4 := hid (M2.out.ev.frame hE4 (by omega))
              have H4 := hid hH4
              have S4 := hid hs4
              have N4 := hid (fun ad (e : a4 = some ad) => (show ad.block ≠ be ∧ w.heap.size ≤ ad.block from ⟨by have h1 := hn4 ad e; have h2 := M2.out.ev.1.lt; omega, Nat.le_trans M2.out.evo.size (hn4 ad e)⟩))
              clear hH4 hE4 hs4 hn4 INN M2 k0
              obtain ⟨e0, e1, e2, e3, e4, f0, f1, f2, f3, f4⟩ := evL_cells V4.out
              go_wp2
              refine bodyPost_ret (v := .agg #[.int .i64 y.1.code, .int .i64 y.1.n, .bool y.1.v.there, .string y.1.v.bytes, .slice a4 y.1.l.length c4]) (by simp [results, Tryz.results94, go_sem, e0, e1, e2, e3, e4] <;> rfl) rfl (EvPost.done _ _ _ _ _ H4.out E4.out HB.out.newe V4.out.2 (a := a4) (cap := c4) S4.out N4.out rfl)
            · have q1 : (x.kind == 1) = false := by simpa using h1
              have Y := hid (EX5.out.trans (if_neg h1))
              have INN := hid (hall_deed g2 p h H x n w2 hn hsn hbs ⟨vp, ds, M2.out.hall⟩)
              have hsnn : x.s.toNat = n := by rw [hsn]; rfl
              rw [← hsnn, ← Y.out] at INN
              obtain ⟨a0, a1, a2, a3, a4', a5, a6, a7⟩ : w2.cell? ⟨bx, 0, none⟩ = some (.int .i64 x.kind) ∧ w2.cell? ⟨bx, 1, none⟩ = some (.int .i64 x.s) ∧ w2.cell? ⟨bx, 2, none⟩ = some (.int .i64 x.mode) ∧ w2.cell? ⟨bx, 3, none⟩ = some (.int .i64 x.at_) ∧ w2.cell? ⟨bx, 4, none⟩ = some (.int .i64 x.key) ∧ w2.cell? ⟨bx, 5, none⟩ = some (.int .i64 x.to_) ∧ w2.cell? ⟨bx, 6, none⟩ = some (.int .i64 x.keep) ∧ w2.cell? ⟨bx, 7, none⟩ = some (.string x.bytes) :=
                ⟨M2.out.arg.1.cell 0, M2.out.arg.1.cell 1, M2.out.arg.1.cell 2, M2.out.arg.1.cell 3, M2.out.arg.1.cell 4, M2.out.arg.1.cell 5, M2.out.arg.1.cell 6, M2.out.arg.1.cell 7⟩
              clear EX5 hk1 hk10 h8 h9 h1 hsn hsnn Y
              go_wp2_with fail
              refine SE.out.mono ?_
              rintro e w' ⟨rfl, rfl⟩
              go_wp2_with fail
              clear a0 a1 a2 a3 a4' a5 a6 a7 k1
              (with_reducible refine INN.out.mono ?_)
              rintro e w4 ⟨a4, c4, g4, rfl, hH4, hE4, hs4, hn4⟩
              have E4 := hid (M2.out.evo.trans hE4)
              have V4 := hid (M2.out.ev.frame hE4 (by omega))
              have H4 := hid hH4
              have S4 := hid hs4
              have N4 := hid (fun ad (e : a4 = some ad) => (show ad.block ≠ be ∧ w.heap.size ≤ ad.block from ⟨by have h1 := hn4 ad e; have h2 := M2.out.ev.1.lt; omega, Nat.le_trans M2.out.evo.size (hn4 ad e)⟩))
              clear hH4 hE4 hs4 hn4 INN M2 k0
              obtain ⟨e0, e1, e2, e3, e4, f0, f1, f2, f3, f4⟩ := evL_cells V4.out
              go_wp2
              refine bodyPost_ret (v := .agg #[.int .i64 y.1.code, .int .i64 y.1.n, .bool y.1.v.there, .string y.1.v.bytes, .slice a4 y.1.l.length c4]) (by simp [results, Tryz.results94, go_sem, e0, e1, e2, e3, e4] <;> rfl) rfl (EvPost.done _ _ _ _ _ H4.out E4.out HB.out.newe V4.out.2 (a := a4) (cap := c4) S4.out N4.out rfl)

end Go.Proofs.YtoiobhcgpajogaaGreatDoor
