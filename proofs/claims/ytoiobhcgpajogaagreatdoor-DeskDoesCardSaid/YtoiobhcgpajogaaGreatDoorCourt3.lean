/- The walk of a court's Do. -/
import Derived.Test.YtoiobhcgpajogaaGreatDoorCourt2
import Derived.Test.YtoiobhcgpajogaaGreatDoorHall5
namespace Go.Proofs.YtoiobhcgpajogaaGreatDoor
open Go.RowKit

/-- A block that is new. -/
def NewB (w : World) (b : Nat) : Prop := w.heap.size ≤ b

def CEvPost (g : Nat → Nat) (p c N : Nat) (x : Evt × Ht) (w : World) (e : Ending) (w' : World) : Prop :=
  ∃ a cap g', e = .returned (.agg #[.int .i64 x.1.code, .int .i64 x.1.n, .bool x.1.v.there, .string x.1.v.bytes, .slice a x.1.l.length cap]) ∧ CourtAt w' g' p c (N + 8) x.2 ∧ Evo p (p + 21) g g' w w' ∧ SliceAt w' a (encEnts x.1.l) ∧ ∀ ad, a = some ad → w.heap.size ≤ ad.block

/-- And the list told is of a colour of its own. -/
def CEvPost2 (g : Nat → Nat) (p c N : Nat) (x : Evt × Ht) (w : World) (e : Ending) (w' : World) : Prop :=
  ∃ a cap g', e = .returned (.agg #[.int .i64 x.1.code, .int .i64 x.1.n, .bool x.1.v.there, .string x.1.v.bytes, .slice a x.1.l.length cap]) ∧ CourtAt w' g' p c (N + 8) x.2 ∧ Evo p (p + 21) g g' w w' ∧ SliceAt w' a (encEnts x.1.l) ∧ (∀ ad, a = some ad → w.heap.size ≤ ad.block) ∧ ∀ ad, a = some ad → g' ad.block = p + 22 ∧ ad.block < w'.heap.size

theorem CEvPost2.one {g : Nat → Nat} {p c N : Nat} {x : Evt × Ht} {w w' : World} {e : Ending} (h : CEvPost2 g p c N x w e w') : CEvPost g p c N x w e w' := by
  obtain ⟨a, cap, g', h1, h2, h3, h4, h5, -⟩ := h
  exact ⟨a, cap, g', h1, h2, h3, h4, h5⟩

theorem CEvPost2.done {g g9 : Nat → Nat} {p c N be : Nat} {y : Evt × Ht} {w w9 : World} {v : Value} {a : Option Addr} {cap : Nat} (v0 v1 v2 v3 v4 : Value) (hH : CourtAt w9 g9 p c (N + 8) y.2) (hE : Evo p (p + 21) g g9 w w9) (hb : w.heap.size ≤ be) (hg : g9 be = p + 21) (hs : SliceAt w9 a (encEnts y.1.l)) (hsb : ∀ ad, a = some ad → ad.block ≠ be ∧ w.heap.size ≤ ad.block ∧ g9 ad.block = p + 22 ∧ ad.block < w9.heap.size)
    (hv : v = .agg #[.int .i64 y.1.code, .int .i64 y.1.n, .bool y.1.v.there, .string y.1.v.bytes, .slice a y.1.l.length cap]) :
    CEvPost2 g p c N y w (.returned v) (((((w9.setCell ⟨be, 0, none⟩ v0).setCell ⟨be, 1, none⟩ v1).setCell ⟨be, 2, none⟩ v2).setCell ⟨be, 3, none⟩ v3).setCell ⟨be, 4, none⟩ v4) := by
  have s0 : Evo (p + 21) (p + 21 + 1) g9 g9 w9 (w9.setCell ⟨be, 0, none⟩ v0) := evo_store _ hg
  have S := (((s0.trans (evo_store (i := 1) v1 hg)).trans (evo_store (i := 2) v2 hg)).trans (evo_store (i := 3) v3 hg)).trans (evo_store (i := 4) v4 hg)
  refine ⟨a, cap, g9, by rw [hv], hH.frame S (by omega), evo_storeNew (evo_storeNew (evo_storeNew (evo_storeNew (evo_storeNew hE hb v0) hb v1) hb v2) hb v3) hb v4, ?_, fun ad e => (hsb ad e).2.1, fun ad e => ⟨(hsb ad e).2.2.1, by simpa using (hsb ad e).2.2.2⟩⟩
  refine hs.lift (fun ad e => ?_)
  exact heap_five _ _ _ _ _ _ _ _ (hsb ad e).1

/-- In the midst of a step of a court. -/
structure CMid (w : World) (g : Nat → Nat) (p c s : Nat) (ds : Nat → Nat) (bx be : Nat) (x : St) (gg : Nat → Nat) (ww : World) (N : Nat) (H : Ht) : Prop where
  ok : H.v.Ok
  court : CourtL ww gg p c s ds N H.v.tab H.v.log H.seats
  arg : LocC ww gg (p + 21) bx 97 (stL x)
  ev : LocC ww gg (p + 21) be 102 evL
  evo : Evo p (p + 21) g gg w ww

section
variable {w ww w' : World} {g gg g' : Nat → Nat} {p c s bx be N : Nat} {ds : Nat → Nat} {x : St} {H : Ht}
theorem CMid.frame {lo hi : Nat} (m : CMid w g p c s ds bx be x gg ww N H) (e : Evo lo hi gg g' ww w') (hc : p + 22 ≤ lo ∨ hi ≤ p) (he : Evo p (p + 21) g g' w w') : CMid w g p c s ds bx be x g' w' N H :=
  ⟨m.ok, m.court.frame e (by omega), m.arg.frame e (by omega), m.ev.frame e (by omega), he⟩
theorem CMid.fresh (m : CMid w g p c s ds bx be x gg ww N H) (e : Evo 0 0 gg g' ww w') : CMid w g p c s ds bx be x g' w' N H := m.frame e (by omega) (m.evo.trans (e.none (Nat.le_refl _)))
theorem CMid.below (m : CMid w g p c s ds bx be x gg ww N H) (e : Below ww.heap.size ww w') : CMid w g p c s ds bx be x gg w' N H := m.fresh (Evo.of_same e)
theorem CMid.store (m : CMid w g p c s ds bx be x gg ww N H) {b6 : Nat} (hb : w.heap.size ≤ b6) (hg : gg b6 = p + 22) (i : Nat) (v : Value) : CMid w g p c s ds bx be x gg (ww.setCell ⟨b6, i, none⟩ v) N H :=
  m.frame (evo_store v hg) (by omega) (evo_storeNew m.evo hb v)
theorem CMid.work (m : CMid w g p c s ds bx be x gg ww N H) {n N' : Nat} {D D' : Ded} (hs : n < 5) (hN : N ≤ N') (hD : H.seats n = some D) (e : Evo (p + 6 + 3 * n) (p + 6 + 3 * n + 3) gg g' ww w') (d : WorkAt w' g' (p + 6 + 3 * n) (ds n) D' N') : CMid w g p c s ds bx be x g' w' N' ⟨H.v, upd H.seats n (some D')⟩ :=
  ⟨m.ok, m.court.withWork hs hN hD e d, m.arg.frame e (by omega), m.ev.frame e (by omega), m.evo.trans (e.wide (by omega) (by omega))⟩
theorem CMid.turn (m : CMid w g p c s ds bx be x gg ww N H) {s' : Nat} {V : Vt} {S : Nat → Option Ded} (hV : V.Ok) (e : Evo p (p + 6) gg g' ww w') (d : CourtL w' g' p c s' ds N V.tab V.log S) : CMid w g p c s' ds bx be x g' w' N ⟨V, S⟩ :=
  ⟨hV, d, m.arg.frame e (by omega), m.ev.frame e (by omega), m.evo.trans (e.wide (by omega) (by omega))⟩
theorem CMid.cells (m : CMid w g p c s ds bx be x gg ww N H) : ww.cell? ⟨c, 0, none⟩ = some (.pointer (some ⟨s, 0, none⟩)) ∧ ww.cell? ⟨bx, 0, none⟩ = some (.int .i64 x.kind) ∧ ww.cell? ⟨bx, 1, none⟩ = some (.int .i64 x.s) ∧ ww.cell? ⟨bx, 2, none⟩ = some (.int .i64 x.mode) ∧ ww.cell? ⟨bx, 3, none⟩ = some (.int .i64 x.at_) ∧ ww.cell? ⟨bx, 4, none⟩ = some (.int .i64 x.key) ∧ ww.cell? ⟨bx, 5, none⟩ = some (.int .i64 x.to_) ∧ ww.cell? ⟨bx, 6, none⟩ = some (.int .i64 x.keep) ∧ ww.cell? ⟨bx, 7, none⟩ = some (.string x.bytes) :=
  ⟨m.court.top.1, m.arg.1.cell 0, m.arg.1.cell 1, m.arg.1.cell 2, m.arg.1.cell 3, m.arg.1.cell 4, m.arg.1.cell 5, m.arg.1.cell 6, m.arg.1.cell 7⟩
theorem CMid.drop (m : CMid w g p c s ds bx be x gg ww N H) {n : Nat} (hn : n < 5) : CMid w g p c s ds bx be x gg (ww.setCell ⟨c, 3 + n, none⟩ (.pointer none)) N ⟨H.v, upd H.seats n none⟩ := by
  obtain ⟨d, e⟩ := m.court.drop hn
  exact ⟨m.ok, d, m.arg.frame e (by omega), m.ev.frame e (by omega), m.evo.trans (e.wide (by omega) (by omega))⟩
theorem CMid.take (m : CMid w g p c s ds bx be x gg ww N H) {n d : Nat} {D : Ded} (hn : n < 5) (hd : WorkAt ww gg (p + 6 + 3 * n) d D N) : CMid w g p c s (upd ds n d) bx be x gg (ww.setCell ⟨c, 3 + n, none⟩ (.pointer (some ⟨d, 0, none⟩))) N ⟨H.v, upd H.seats n (some D)⟩ := by
  obtain ⟨k, e⟩ := m.court.take hn hd
  exact ⟨m.ok, k, m.arg.frame e (by omega), m.ev.frame e (by omega), m.evo.trans (e.wide (by omega) (by omega))⟩
theorem CMid.clear (m : CMid w g p c s ds bx be x gg ww N H) {least : Int} (e : Evo (p + 4) (p + 4 + 2) gg g' ww w') (hT : SheetAt w' g' (p + 4) s (clearT H.v.tab least).2) :
    CMid w g p c s ds bx be x g' w' N ⟨⟨(clearT H.v.tab least).2, H.v.log⟩, H.seats⟩ :=
  ⟨⟨m.ok.1, m.ok.2.1, by rw [← m.ok.2.2]; exact clearT_last _ _⟩, m.court.withSheet e hT, m.arg.frame e (by omega), m.ev.frame e (by omega), m.evo.trans (e.wide (by omega) (by omega))⟩
end

theorem ref_Seat (s : Int) (w : World) : Calls Tryz.prog 73 #[.int .i64 s] w (fun e w' => e = .returned (.bool (isSeatB s)) ∧ w = w') := by
  unfold isSeatB
  by_cases h0 : s < 0
  · have e : (decide (0 ≤ s) && decide (s < 5)) = false := by simp; omega
    rw [e]
    clear e
    go_enter Tryz.func73, Tryz.ntmps73
    go_wp2
    go_ret
    exact ⟨rfl, rfl⟩
  · have h0' : 0 ≤ s := by omega
    by_cases h5 : s < 5
    · have e : (decide (0 ≤ s) && decide (s < 5)) = true := by simp; omega
      rw [e]
      clear e
      go_enter Tryz.func73, Tryz.ntmps73
      go_wp2
      go_ret
      exact ⟨rfl, rfl⟩
    · have e : (decide (0 ≤ s) && decide (s < 5)) = false := by simp; omega
      rw [e]
      have h5' : 5 ≤ s := by omega
      clear e
      go_enter Tryz.func73, Tryz.ntmps73
      go_wp2
      go_ret
      exact ⟨rfl, rfl⟩

theorem torn_len {V : Vt} (h : V.Ok) (D : Ded) (keep : Int) : (tornV V D keep).2.l.length = V.tab.last ∨ (tornV V D keep).2.l.length = V.tab.last + 1 := by
  unfold tornV
  split
  · unfold tearG
    split
    · exact .inl h.2.2.symm
    · split
      · right; rw [List.length_append, h.2.2]; rfl
      · exact .inl h.2.2.symm
  · exact .inl h.2.2.symm

set_option maxHeartbeats 16000000 in
set_option maxRecDepth 100000 in
theorem court_Do2 (g : Nat → Nat) (p c N : Nat) (H : Ht) (x : St) (w : World) (hN : N + 8 < 1000000) (hbs : x.bytes.size ≤ maxLen) (hH : CourtAt w g p c N H) :
    Calls Tryz.prog 41 #[.pointer (some ⟨c, 0, none⟩), .agg #[.int .i64 x.kind, .int .i64 x.s, .int .i64 x.mode, .int .i64 x.at_, .int .i64 x.key, .int .i64 x.to_, .int .i64 x.keep, .string x.bytes]] w (CEvPost2 g p c N (doH H x) w) := by
  obtain ⟨hok, s, ds, hC⟩ := hH
  have HC := hid hC
  have HOK := hid hok
  have hclt0 := hC.top.2.2
  have EX := hid (show doH H x = if x.kind < 1 ∨ 10 < x.kind then (Evt.of 3 0, H)
    else if x.kind = 8 then (Evt.of 0 ((clearT H.v.tab (leastH H)).1 : Int), ⟨⟨(clearT H.v.tab (leastH H)).2, H.v.log⟩, H.seats⟩)
    else if x.kind = 9 then (Evt.of 0 0, ⟨crashV H.v.log, fun _ => none⟩)
    else if isSeatB x.s = false then (Evt.of 1 0, H)
    else if x.kind = 1 then beginH H x
    else deedO H x (H.seats x.s.toNat) from rfl)
  generalize doH H x = y at *
  clear hC hok
  go_enter Tryz.func41, Tryz.ntmps41
  go_upto_region 1 with (fail)
  have hbc : w.heap.size + 1 ≠ c := by omega
  obtain ⟨hB, hE0⟩ := Beg.start2 w g (p + 4) x
  have HNE : Hid (NewB w (w.heap.size + 1)) := hid hB.newe
  have M2 : Hid (CMid w g p c s ds w.heap.size (w.heap.size + 1) x (extc (extc g w (p + 4 + 17)) (w.alloc (.cells #[.int .i64 x.kind, .int .i64 x.s, .int .i64 x.mode, .int .i64 x.at_, .int .i64 x.key, .int .i64 x.to_, .int .i64 x.keep, .string x.bytes] 97)) (p + 4 + 17)) ((w.alloc (.cells #[.int .i64 x.kind, .int .i64 x.s, .int .i64 x.mode, .int .i64 x.at_, .int .i64 x.key, .int .i64 x.to_, .int .i64 x.keep, .string x.bytes] 97)).alloc (.cells #[.int .i64 0, .int .i64 0, .bool false, .string ⟨#[]⟩, .slice none 0 0] 102)) N H) := hid ⟨HOK.out, HC.out.frame hE0 (by omega), hB.arg, hB.ev, hE0.none (Nat.le_refl _)⟩
  clear hB hE0
  generalize extc (extc g w (p + 4 + 17)) (w.alloc (.cells #[.int .i64 x.kind, .int .i64 x.s, .int .i64 x.mode, .int .i64 x.at_, .int .i64 x.key, .int .i64 x.to_, .int .i64 x.keep, .string x.bytes] 97)) (p + 4 + 17) = g2 at *
  generalize (w.alloc (.cells #[.int .i64 x.kind, .int .i64 x.s, .int .i64 x.mode, .int .i64 x.at_, .int .i64 x.key, .int .i64 x.to_, .int .i64 x.keep, .string x.bytes] 97)).alloc (.cells #[.int .i64 0, .int .i64 0, .bool false, .string ⟨#[]⟩, .slice none 0 0] 102) = w2 at *
  generalize w.heap.size + 1 = be at *
  generalize w.heap.size = bx at *
  clear hclt0
  obtain ⟨c0, k0, k1, -⟩ := M2.out.cells
  by_cases hk1 : x.kind < 1
  · have Y := hid (show y = (Evt.of 3 0, H) by rw [EX.out, if_pos (.inl hk1)])
    clear EX hbc k1 c0
    obtain ⟨e0, e1, e2, e3, e4, f0, f1, f2, f3, f4⟩ := evL_cells M2.out.ev
    go_wp2
    refine bodyPost_ret (v := .agg #[.int .i64 3, .int .i64 0, .bool false, .string ByteArray.empty, .slice none 0 0]) (by simp [results, Tryz.results41, go_sem, e0, e1, e2, e3, e4] <;> rfl) rfl (CEvPost2.done _ _ _ _ _ (by rw [Y.out]; exact ⟨M2.out.ok, s, ds, M2.out.court.more (by omega)⟩) M2.out.evo HNE.out M2.out.ev.2 (a := none) (cap := 0) (by rw [Y.out]; exact .inl rfl) (by intro ad h; cases h) (by rw [Y.out]; rfl))
  have hk1' : 1 ≤ x.kind := by omega
  by_cases hk10 : 10 < x.kind
  · have Y := hid (show y = (Evt.of 3 0, H) by rw [EX.out, if_pos (.inr hk10)])
    clear EX hbc k1 c0 hk1
    obtain ⟨e0, e1, e2, e3, e4, f0, f1, f2, f3, f4⟩ := evL_cells M2.out.ev
    go_wp2
    refine bodyPost_ret (v := .agg #[.int .i64 3, .int .i64 0, .bool false, .string ByteArray.empty, .slice none 0 0]) (by simp [results, Tryz.results41, go_sem, e0, e1, e2, e3, e4] <;> rfl) rfl (CEvPost2.done _ _ _ _ _ (by rw [Y.out]; exact ⟨M2.out.ok, s, ds, M2.out.court.more (by omega)⟩) M2.out.evo HNE.out M2.out.ev.2 (a := none) (cap := 0) (by rw [Y.out]; exact .inl rfl) (by intro ad h; cases h) (by rw [Y.out]; rfl))
  have hk10' : x.kind ≤ 10 := by omega
  have EX2 := hid (EX.out.trans (if_neg (by omega)))
  clear EX
  by_cases h8 : x.kind = 8
  · have Y := hid (EX2.out.trans (if_pos h8))
    have q8 : (x.kind == 8) = true := by simpa using h8
    have LST := hid (fun gg W (k : CMid w g p c s ds bx be x gg W N H) => court_Least gg p c s ds N H.v.tab H.v.log H.seats W k.court)
    have CLR := hid (fun gg W (k : CMid w g p c s ds bx be x gg W N H) => sheet_Clear gg (p + 4) s H.v.tab W (leastH H) k.court.sheet)
    rw [show leastGo H.v.tab H.seats 5 = leastH H from rfl] at LST
    generalize leastH H = least at *
    have M3 := hid (M2.out.below (Below.refl _ _).drew)
    have hS0 : w2.drew.cell? ⟨c, 0, none⟩ = some (.pointer (some ⟨s, 0, none⟩)) := c0
    clear hk1 hk10 h8 EX2 k1
    go_wp2_with fail
    -- REGION 4
    refine wp_region_noPanic ?_
    refine wp_region_held_drew (S := (fun W' : World => W'.cell? ⟨c, 0, none⟩ = some (.pointer (some ⟨s, 0, none⟩)))) (by kernel_rfl) ?_ (fun hH0 => ?_)
    · (try dsimp only); exact hS0
    refine wpAnyH_take (i := 0) (v := ?_) (by simp only [List.getElem?_toArray, List.getElem?_cons_zero]; rfl) (by kernel_rfl) (by kernel_rfl) (by kernel_rfl) (fun _ _ _ h => h) (Or.inl ⟨by rfl, ?_⟩) (by assumption) ?_
    rotate_left
    · intro w hSw; (try dsimp only at hSw); go_simp; (try with_reducible rfl)
    try simp only [Act.put, List.setIfInBounds_toArray, List.set_cons_zero, List.set_cons_succ]
    refine wpAnyH_take (i := 1) (v := ?_) (by simp only [List.getElem?_toArray, List.getElem?_cons_zero, List.getElem?_cons_succ]; rfl) (by kernel_rfl) (by kernel_rfl) (by kernel_rfl) (fun _ _ _ h => h) (Or.inl ⟨by rfl, ?_⟩) (by assumption) ?_
    rotate_left
    · intro w hSw; (try dsimp only at hSw); go_simp; (try with_reducible rfl)
    try simp only [Act.put, List.setIfInBounds_toArray, List.set_cons_zero, List.set_cons_succ]
    refine wpAnyH_take (i := 2) (v := ?_) (by simp only [List.getElem?_toArray, List.getElem?_cons_zero, List.getElem?_cons_succ]; rfl) (by kernel_rfl) (by kernel_rfl) (by kernel_rfl) (fun _ _ _ h => h) (Or.inl ⟨by rfl, ?_⟩) (by assumption) ?_
    rotate_left
    · intro w hSw; (try dsimp only at hSw); go_simp; (try with_reducible rfl)
    try simp only [Act.put, List.setIfInBounds_toArray, List.set_cons_zero, List.set_cons_succ]
    refine wpAnyH_take (i := 3) (v := ?_) (by simp only [List.getElem?_toArray, List.getElem?_cons_zero, List.getElem?_cons_succ]; rfl) (by kernel_rfl) (by kernel_rfl) (by kernel_rfl) (fun _ _ _ h => h) (Or.inl ⟨by rfl, ?_⟩) (by assumption) ?_
    rotate_left
    · intro w hSw; (try dsimp only at hSw); go_simp; (try with_reducible rfl)
    try simp only [Act.put, List.setIfInBounds_toArray, List.set_cons_zero, List.set_cons_succ]
    refine wpAnyH_take (i := 4) (v := ?_) (by simp only [List.getElem?_toArray, List.getElem?_cons_zero, List.getElem?_cons_succ]; rfl) (by kernel_rfl) (by kernel_rfl) (by kernel_rfl) (fun _ _ _ h => h) (Or.inl ⟨by rfl, ?_⟩) (by assumption) ?_
    rotate_left
    · intro w hSw; (try dsimp only at hSw); go_simp; (try with_reducible rfl)
    try simp only [Act.put, List.setIfInBounds_toArray, List.set_cons_zero, List.set_cons_succ]
    refine wpAnyH_ready (rs := [5]) (by kernel_rfl) (by simp) ?_
    refine AllReadyH.cons (by simp only [List.getElem?_toArray, List.getElem?_cons_zero, List.getElem?_cons_succ]; rfl) (fun K hK => ?_) AllReadyH.nil
    go_simp
    go_at_call 40
    refine (LST.out g2 w2.drew M3.out).mono ?_
    rintro e w' ⟨rfl, rfl⟩
    try go_wp2_with fail
    refine hK.out _ _ ?_ (fun hH1 => ?_)
    · (try dsimp only); exact hS0
    clear hK K hH0
    try simp only [Act.put, List.setIfInBounds_toArray, List.set_cons_zero, List.set_cons_succ]
    refine wpAnyH_ready (rs := [6]) (by kernel_rfl) (by simp) ?_
    refine AllReadyH.cons (by simp only [List.getElem?_toArray, List.getElem?_cons_zero, List.getElem?_cons_succ]; rfl) (fun K hK => ?_) AllReadyH.nil
    go_simp
    go_at_call 71
    (with_reducible refine (CLR.out g2 w2.drew M3.out).mono ?_)
    rintro e w4 ⟨rfl, g4, hT4, hE4⟩
    have M4 := hid (M3.out.clear hE4 hT4)
    have hS' : w4.cell? ⟨c, 0, none⟩ = some (.pointer (some ⟨s, 0, none⟩)) := M4.out.cells.1
    obtain ⟨e0, e1, e2, e3, e4, f0, f1, f2, f3, f4⟩ := evL_cells M4.out.ev
    clear hT4 hE4 c0
    try go_wp2_with fail
    refine hK.out _ _ ?_ (fun hH2 => ?_)
    · (try dsimp only); exact hS'
    clear hK K hH1
    try simp only [Act.put, List.setIfInBounds_toArray, List.set_cons_zero, List.set_cons_succ]
    refine wpAnyH_take (i := 7) (v := ?_) (by simp only [List.getElem?_toArray, List.getElem?_cons_zero, List.getElem?_cons_succ]; rfl) (by kernel_rfl) (by kernel_rfl) (by kernel_rfl) (fun _ _ _ h => h) (Or.inl ⟨by rfl, ?_⟩) (by assumption) ?_
    rotate_left
    · intro w hSw; (try dsimp only at hSw); go_simp; (try with_reducible rfl)
    try simp only [Act.put, List.setIfInBounds_toArray, List.set_cons_zero, List.set_cons_succ]
    refine wpAnyH_ready (rs := [8]) (by kernel_rfl) (by simp) ?_
    refine AllReadyH.cons (by simp only [List.getElem?_toArray, List.getElem?_cons_zero, List.getElem?_cons_succ]; rfl) (fun K hK => ?_) AllReadyH.nil
    go_simp
    skip
    try go_wp2_with fail
    refine hK.out _ _ ?_ (fun hH3 => ?_)
    · (try dsimp only); exact (cell_five _ _ _ _ _ _ _ _ _ hbc).trans hS'
    clear hK K hH2
    try simp only [Act.put, List.setIfInBounds_toArray, List.set_cons_zero, List.set_cons_succ]
    refine wpAnyH_done (by kernel_rfl) ?_ _
    refine NoPanic.normal ?_
    go_wp2
    refine bodyPost_ret (v := .agg #[.int .i64 0, .int .i64 ((clearT H.v.tab least).1 : Int), .bool false, .string ByteArray.empty, .slice none 0 0]) (by simp [results, Tryz.results41, go_sem, e0, e1, e2, e3, e4] <;> rfl) rfl (CEvPost2.done _ _ _ _ _ (by rw [Y.out]; exact ⟨M4.out.ok, s, ds, M4.out.court.more (by omega)⟩) M4.out.evo HNE.out M4.out.ev.2 (a := none) (cap := 0) (by rw [Y.out]; exact .inl rfl) (by intro ad h; cases h) (by rw [Y.out]; rfl))
    -- END 4
  have q8 : (x.kind == 8) = false := by simpa using h8
  have EX3 := hid (EX2.out.trans (if_neg h8))
  clear EX2 hbc
  by_cases h9 : x.kind = 9
  · have Y := hid (EX3.out.trans (if_pos h9))
    have q9 : (x.kind == 9) = true := by simpa using h9
    have AG := hid (court_again g2 p c s ds N H.v.tab H.v.log H.seats w2 M2.out.court)
    clear hk1 hk10 h8 h9 EX3 k1
    go_wp2_with fail
    (with_reducible refine AG.out.mono ?_)
    rintro e w4 ⟨rfl, g4, s4, hC4, hE4⟩
    have M4 := hid (M2.out.turn (V := crashV H.v.log) (crashV_ok HOK.out.1) hE4 hC4)
    clear hC4 hE4 AG M2 k0 c0
    obtain ⟨e0, e1, e2, e3, e4, f0, f1, f2, f3, f4⟩ := evL_cells M4.out.ev
    go_wp2
    refine bodyPost_ret (v := .agg #[.int .i64 0, .int .i64 0, .bool false, .string ByteArray.empty, .slice none 0 0]) (by simp [results, Tryz.results41, go_sem, e0, e1, e2, e3, e4] <;> rfl) rfl (CEvPost2.done _ _ _ _ _ (by rw [Y.out]; exact ⟨M4.out.ok, s4, ds, M4.out.court.more (by omega)⟩) M4.out.evo HNE.out M4.out.ev.2 (a := none) (cap := 0) (by rw [Y.out]; exact .inl rfl) (by intro ad h; cases h) (by rw [Y.out]; rfl))
  have q9 : (x.kind == 9) = false := by simpa using h9
  have EX4 := hid (EX3.out.trans (if_neg h9))
  have SE := hid (ref_Seat x.s w2)
  clear EX3
  cases hsb : isSeatB x.s with
  | false =>
    have Y := hid (EX4.out.trans (if_pos hsb))
    rw [hsb] at SE
    clear EX4 hk1 hk10 h8 h9 hsb c0
    go_wp2_with fail
    refine SE.out.mono ?_
    rintro e w' ⟨rfl, rfl⟩
    obtain ⟨e0, e1, e2, e3, e4, f0, f1, f2, f3, f4⟩ := evL_cells M2.out.ev
    go_wp2
    refine bodyPost_ret (v := .agg #[.int .i64 1, .int .i64 0, .bool false, .string ByteArray.empty, .slice none 0 0]) (by simp [results, Tryz.results41, go_sem, e0, e1, e2, e3, e4] <;> rfl) rfl (CEvPost2.done _ _ _ _ _ (by rw [Y.out]; exact ⟨M2.out.ok, s, ds, M2.out.court.more (by omega)⟩) M2.out.evo HNE.out M2.out.ev.2 (a := none) (cap := 0) (by rw [Y.out]; exact .inl rfl) (by intro ad h; cases h) (by rw [Y.out]; rfl))
  | true =>
  have EX5 := hid (EX4.out.trans (if_neg (by rw [hsb]; simp)))
  rw [hsb] at SE
  obtain ⟨n, hn, hsn⟩ := seat_nat hsb
  have HXS := hid hsn
  have HSN := hid (show x.s.toNat = n by rw [hsn]; rfl)
  have hn0 : (0 : Int) ≤ (n : Int) := by omega
  have hn5 : (n : Int) < 5 := by omega
  clear EX4 hsb hsn
  go_wp2_with fail
  refine SE.out.mono ?_
  rintro e w' ⟨rfl, rfl⟩
  rw [HXS.out] at k1
  clear SE
  obtain ⟨s1, s2⟩ := M2.out.court.seat hn
  have hclt := M2.out.court.top.2.2
  cases hd : H.seats n with
  | none =>
    rw [show seatP ds H.seats n = .pointer none by unfold seatP; rw [hd]] at s1
    have HD := hid hd
    clear hd
    go_wp2_with fail
    go_quiet (fail)
    have M3 := hid (M2.out.below (below_drewN w2 nq))
    generalize w2.drewN nq = w3 at *
    clear s1 s2 k0 k1 c0 M2 hclt
    obtain ⟨c0, k0, k1, k2, k3, -⟩ := M3.out.cells
    by_cases h1 : x.kind = 1
    · have q1 : (x.kind == 1) = true := by simpa using h1
      have EX6 := hid (EX5.out.trans (if_pos h1))
      have EX7 := hid (show y = match beginV H.v.tab x.mode x.at_ with
        | (none, c) => (Evt.of c 0, H)
        | (some D, c) => (Evt.of c 0, ⟨H.v, upd H.seats n (some D)⟩) by rw [EX6.out]; unfold beginH; rw [HSN.out, HD.out]; rfl)
      have BEG := hid (court_Begin g2 p c s ds N H.v.tab H.v.log H.seats (p + 6 + 3 * n) x.mode x.at_ w3 M3.out.court)
      have BS := hid (fun D c hh => beginV_some (T := H.v.tab) (m := x.mode) (a := x.at_) (c := c) (D := D) hh)
      clear hk1 hk10 h8 h9 h1 EX5 EX6
      generalize hbv : beginV H.v.tab x.mode x.at_ = bv at *
      clear hbv
      obtain ⟨o, code⟩ := bv
      cases o with
      | none =>
        have Y := hid (show y = (Evt.of code 0, H) from EX7.out)
        clear EX7 BS
        go_wp2_with fail
        (with_reducible refine BEG.out.mono ?_)
        rintro e w4 ⟨hb, rfl⟩
        have M4 := hid (M3.out.below hb)
        have HUP := hid (show (⟨H.v, upd H.seats n none⟩ : Ht) = H by rw [← HD.out]; unfold upd; exact congrArg (Ht.mk H.v) (by funext j; split <;> simp_all))
        clear hb BEG c0 k0 k1 k2 k3 M3
        obtain ⟨s1, s2⟩ := M4.out.court.seat hn
        obtain ⟨ss, hss⟩ : ∃ ss, seatP ds H.seats n = ss := ⟨_, rfl⟩
        rw [hss] at s1
        obtain ⟨-, -, k1, -⟩ := M4.out.cells
        rw [HXS.out] at k1
        have hclt := M4.out.court.top.2.2
        clear hss
        go_wp2_with fail
        go_region
        all_goals
          have M5 := hid ((M4.out.drop hn).below (Below.refl _ _).drew)
          rw [HUP.out] at M5
          clear s1 s2 k1 hclt M4
          generalize (w4.setCell ⟨c, 3 + n, none⟩ (.pointer none)).drew = w5 at *
          obtain ⟨e0, e1, e2, e3, e4, f0, f1, f2, f3, f4⟩ := evL_cells M5.out.ev
          go_wp2
          refine bodyPost_ret (v := .agg #[.int .i64 code, .int .i64 0, .bool false, .string ByteArray.empty, .slice none 0 0]) (by simp [results, Tryz.results41, go_sem, e0, e1, e2, e3, e4] <;> rfl) rfl (CEvPost2.done _ _ _ _ _ (by rw [Y.out]; exact ⟨M5.out.ok, s, ds, M5.out.court.more (by omega)⟩) M5.out.evo HNE.out M5.out.ev.2 (a := none) (cap := 0) (by rw [Y.out]; exact .inl rfl) (by intro ad h; cases h) (by rw [Y.out]; rfl))
      | some D =>
        obtain rfl := BS.out D code rfl
        have Y := hid (show y = (Evt.of 0 0, ⟨H.v, upd H.seats n (some D)⟩) from EX7.out)
        clear EX7 BS
        go_wp2_with fail
        (with_reducible refine BEG.out.mono ?_)
        rintro e w4 ⟨hb, d, rfl, hdn, hdD⟩
        have hE4 := Evo.of_below (lo := 0) (hi := 0) g2 (p + 6 + 3 * n) hb
        have M4 := hid (M3.out.fresh hE4)
        have D4 := hid (hdD.more (Nat.zero_le N))
        clear hb BEG c0 k0 k1 k2 k3 M3 hE4 hdn hdD
        generalize extc g2 w3 (p + 6 + 3 * n) = g4 at *
        obtain ⟨s1, s2⟩ := M4.out.court.seat hn
        obtain ⟨ss, hss⟩ : ∃ ss, seatP ds H.seats n = ss := ⟨_, rfl⟩
        rw [hss] at s1
        obtain ⟨-, -, k1, -⟩ := M4.out.cells
        rw [HXS.out] at k1
        have hclt := M4.out.court.top.2.2
        clear hss
        go_wp2_with fail
        go_region
        all_goals
          have M5 := hid ((M4.out.take hn D4.out).below (Below.refl _ _).drew)
          clear s1 s2 k1 hclt M4 D4
          generalize (w4.setCell ⟨c, 3 + n, none⟩ (.pointer (some ⟨d, 0, none⟩))).drew = w5 at *
          obtain ⟨e0, e1, e2, e3, e4, f0, f1, f2, f3, f4⟩ := evL_cells M5.out.ev
          go_wp2
          refine bodyPost_ret (v := .agg #[.int .i64 0, .int .i64 0, .bool false, .string ByteArray.empty, .slice none 0 0]) (by simp [results, Tryz.results41, go_sem, e0, e1, e2, e3, e4] <;> rfl) rfl (CEvPost2.done _ _ _ _ _ (by rw [Y.out]; exact ⟨M5.out.ok, s, _, M5.out.court.more (by omega)⟩) M5.out.evo HNE.out M5.out.ev.2 (a := none) (cap := 0) (by rw [Y.out]; exact .inl rfl) (by intro ad h; cases h) (by rw [Y.out]; rfl))
    · have q1 : (x.kind == 1) = false := by simpa using h1
      have Y := hid (show y = (Evt.of 7 0, H) by rw [EX5.out, if_neg h1, HSN.out, HD.out]; rfl)
      clear EX5 hk1 hk10 h8 h9 h1
      obtain ⟨e0, e1, e2, e3, e4, f0, f1, f2, f3, f4⟩ := evL_cells M3.out.ev
      go_wp2
      refine bodyPost_ret (v := .agg #[.int .i64 7, .int .i64 0, .bool false, .string ByteArray.empty, .slice none 0 0]) (by simp [results, Tryz.results41, go_sem, e0, e1, e2, e3, e4] <;> rfl) rfl (CEvPost2.done _ _ _ _ _ (by rw [Y.out]; exact ⟨M3.out.ok, s, ds, M3.out.court.more (by omega)⟩) M3.out.evo HNE.out M3.out.ev.2 (a := none) (cap := 0) (by rw [Y.out]; exact .inl rfl) (by intro ad h; cases h) (by rw [Y.out]; rfl))
  | some D =>
  rw [show seatP ds H.seats n = .pointer (some ⟨ds n, 0, none⟩) by unfold seatP; rw [hd]] at s1
  have HD := hid hd
  clear hd
  go_wp2_with fail
  go_quiet (fail)
  have M3 := hid (M2.out.below (below_drewN w2 nq))
  generalize w2.drewN nq = w3 at *
  clear s1 s2 k0 k1 c0 M2 hclt
  obtain ⟨c0, k0, -, -, -, k4, -, -, k7⟩ := M3.out.cells
  by_cases h1 : x.kind = 1
  · have q1 : (x.kind == 1) = true := by simpa using h1
    have Y := hid (show y = (Evt.of 8 0, H) by rw [EX5.out, if_pos h1]; unfold beginH; rw [HSN.out, HD.out]; rfl)
    clear EX5 hk1 hk10 h8 h9 h1 k4 k7 c0
    obtain ⟨e0, e1, e2, e3, e4, f0, f1, f2, f3, f4⟩ := evL_cells M3.out.ev
    go_wp2
    refine bodyPost_ret (v := .agg #[.int .i64 8, .int .i64 0, .bool false, .string ByteArray.empty, .slice none 0 0]) (by simp [results, Tryz.results41, go_sem, e0, e1, e2, e3, e4] <;> rfl) rfl (CEvPost2.done _ _ _ _ _ (by rw [Y.out]; exact ⟨M3.out.ok, s, ds, M3.out.court.more (by omega)⟩) M3.out.evo HNE.out M3.out.ev.2 (a := none) (cap := 0) (by rw [Y.out]; exact .inl rfl) (by intro ad h; cases h) (by rw [Y.out]; rfl))
  have q1 : (x.kind == 1) = false := by simpa using h1
  have EX6 := hid (show y = deedH H x D by rw [EX5.out, if_neg h1, HSN.out, HD.out]; rfl)
  clear EX5 hk1 hk10 h8 h9 h1
  by_cases h2 : x.kind = 2
  · have Y := hid (show y = (⟨(getD D H.v.tab x.key).1.2, 0, (getD D H.v.tab x.key).1.1, []⟩, ⟨H.v, upd H.seats n (some (getD D H.v.tab x.key).2)⟩) by rw [EX6.out]; unfold deedH; rw [if_pos h2, HSN.out])
    rw [h2] at k0
    have GET := hid (fun gg W (k : CMid w g p c s ds bx be x gg W N H) => work_Get gg (p + 6 + 3 * n) (ds n) D N gg (p + 4) s H.v.tab x.key W (by omega) (k.court.work n hn D HD.out) k.court.sheet)
    generalize getD D H.v.tab x.key = z at *
    obtain ⟨⟨zv, zc⟩, zD⟩ := z
    clear h2 EX6 k7 q1 q8 q9 hk1' hk10'
    go_wp2_with fail
    clear k0
    -- REGION 21
    refine wp_region_noPanic ?_
    refine wp_region_held_drew (S := (fun W' : World => W'.cell? ⟨c, 0, none⟩ = some (.pointer (some ⟨s, 0, none⟩)) ∧ W'.cell? ⟨bx, 4, none⟩ = some (.int .i64 x.key))) (by kernel_rfl) ?_ (fun hH0 => ?_)
    · (try dsimp only); (first | assumption | exact ⟨M3.out.cells.1, M3.out.cells.2.2.2.2.2.1⟩)
    refine wpAnyH_take (i := 0) (v := ?_) (by simp only [List.getElem?_toArray, List.getElem?_cons_zero]; rfl) (by kernel_rfl) (by kernel_rfl) (by kernel_rfl) (fun _ _ _ h => h) (Or.inl ⟨by rfl, ?_⟩) (by assumption) ?_
    rotate_left
    · intro w hSw; (try dsimp only at hSw); go_simp; (try with_reducible rfl)
    try simp only [Act.put, List.setIfInBounds_toArray, List.set_cons_zero, List.set_cons_succ]
    refine wpAnyH_take (i := 1) (v := ?_) (by simp only [List.getElem?_toArray, List.getElem?_cons_zero, List.getElem?_cons_succ]; rfl) (by kernel_rfl) (by kernel_rfl) (by kernel_rfl) (fun _ _ _ h => h) (Or.inl ⟨by rfl, ?_⟩) (by assumption) ?_
    rotate_left
    · intro w hSw; (try dsimp only at hSw); go_simp; (try with_reducible rfl)
    try simp only [Act.put, List.setIfInBounds_toArray, List.set_cons_zero, List.set_cons_succ]
    refine wpAnyH_take (i := 2) (v := ?_) (by simp only [List.getElem?_toArray, List.getElem?_cons_zero, List.getElem?_cons_succ]; rfl) (by kernel_rfl) (by kernel_rfl) (by kernel_rfl) (fun _ _ _ h => h) (Or.inl ⟨by rfl, ?_⟩) (by assumption) ?_
    rotate_left
    · intro w hSw; (try dsimp only at hSw); go_simp; (try with_reducible rfl)
    try simp only [Act.put, List.setIfInBounds_toArray, List.set_cons_zero, List.set_cons_succ]
    refine wpAnyH_take (i := 3) (v := ?_) (by simp only [List.getElem?_toArray, List.getElem?_cons_zero, List.getElem?_cons_succ]; rfl) (by kernel_rfl) (by kernel_rfl) (by kernel_rfl) (fun _ _ _ h => h) (Or.inl ⟨by rfl, ?_⟩) (by assumption) ?_
    rotate_left
    · intro w hSw; (try dsimp only at hSw); go_simp; (try with_reducible rfl)
    try simp only [Act.put, List.setIfInBounds_toArray, List.set_cons_zero, List.set_cons_succ]
    refine wpAnyH_take (i := 4) (v := ?_) (by simp only [List.getElem?_toArray, List.getElem?_cons_zero, List.getElem?_cons_succ]; rfl) (by kernel_rfl) (by kernel_rfl) (by kernel_rfl) (fun _ _ _ h => h) (Or.inl ⟨by rfl, ?_⟩) (by assumption) ?_
    rotate_left
    · intro w hSw; (try dsimp only at hSw); go_simp; (try with_reducible rfl)
    try simp only [Act.put, List.setIfInBounds_toArray, List.set_cons_zero, List.set_cons_succ]
    refine wpAnyH_take (i := 5) (v := ?_) (by simp only [List.getElem?_toArray, List.getElem?_cons_zero, List.getElem?_cons_succ]; rfl) (by kernel_rfl) (by kernel_rfl) (by kernel_rfl) (fun _ _ _ h => h) (Or.inl ⟨by rfl, ?_⟩) (by assumption) ?_
    rotate_left
    · intro w hSw; (try dsimp only at hSw); go_simp; (try with_reducible rfl)
    try simp only [Act.put, List.setIfInBounds_toArray, List.set_cons_zero, List.set_cons_succ]
    refine wpAnyH_take (i := 6) (v := ?_) (by simp only [List.getElem?_toArray, List.getElem?_cons_zero, List.getElem?_cons_succ]; rfl) (by kernel_rfl) (by kernel_rfl) (by kernel_rfl) (fun _ _ _ h => h) (Or.inl ⟨by rfl, ?_⟩) (by assumption) ?_
    rotate_left
    · intro w hSw; (try dsimp only at hSw); go_simp; (try with_reducible rfl)
    try simp only [Act.put, List.setIfInBounds_toArray, List.set_cons_zero, List.set_cons_succ]
    refine wpAnyH_ready (rs := [7, 11]) (by kernel_rfl) (by simp) ?_
    refine AllReadyH.cons (by simp only [List.getElem?_toArray, List.getElem?_cons_zero, List.getElem?_cons_succ]; rfl) (fun K hK => ?_) ?_
    · skip
      go_simp
      go_at_call 75
      first
        | ((with_reducible refine (GET.out g2 w3.drew (M3.out.below (Below.refl _ _).drew)).mono ?_); rintro e w4 ⟨rfl, g4, hD4, hE4⟩; have M4 := hid ((M3.out.below (Below.refl _ _).drew).work hn (by omega : N ≤ N + 1) HD.out hE4 hD4); have hS' : w4.cell? ⟨c, 0, none⟩ = some (.pointer (some ⟨s, 0, none⟩)) ∧ w4.cell? ⟨bx, 4, none⟩ = some (.int .i64 x.key) := ⟨M4.out.cells.1, M4.out.cells.2.2.2.2.2.1⟩; clear hD4 hE4)
        | ((with_reducible refine (GET.out g5 w5 M5.out).mono ?_); rintro e w6 ⟨rfl, g6, hD6, hE6⟩; have M6 := hid (M5.out.work hn (by omega : N ≤ N + 1) HD.out hE6 hD6); have U6 := hid (U5.out.frame hE6 (by omega)); obtain ⟨u0, u1, v0, v1⟩ := U6.out.1.two; have hS' : w6.cell? ⟨c, 0, none⟩ = some (.pointer (some ⟨s, 0, none⟩)) ∧ w6.cell? ⟨bx, 4, none⟩ = some (.int .i64 x.key) := ⟨M6.out.cells.1, M6.out.cells.2.2.2.2.2.1⟩; clear hD6 hE6)
      try go_wp2_with fail
      refine hK.out _ _ ?_ (fun hH1 => ?_)
      · (try dsimp only); (first | assumption | exact ⟨M3.out.cells.1, M3.out.cells.2.2.2.2.2.1⟩)
      clear hK K hH0
      try simp only [Act.put, List.setIfInBounds_toArray, List.set_cons_zero, List.set_cons_succ]
      refine wpAnyH_take (i := 8) (v := ?_) (by simp only [List.getElem?_toArray, List.getElem?_cons_zero, List.getElem?_cons_succ]; rfl) (by kernel_rfl) (by kernel_rfl) (by kernel_rfl) (fun _ _ _ h => h) (Or.inl ⟨by rfl, ?_⟩) (by assumption) ?_
      rotate_left
      · intro w hSw; (try dsimp only at hSw); go_simp; (try with_reducible rfl)
      try simp only [Act.put, List.setIfInBounds_toArray, List.set_cons_zero, List.set_cons_succ]
      refine wpAnyH_take (i := 9) (v := ?_) (by simp only [List.getElem?_toArray, List.getElem?_cons_zero, List.getElem?_cons_succ]; rfl) (by kernel_rfl) (by kernel_rfl) (by kernel_rfl) (fun _ _ _ h => h) (Or.inl ⟨by rfl, ?_⟩) (by assumption) ?_
      rotate_left
      · intro w hSw; (try dsimp only at hSw); go_simp; (try with_reducible rfl)
      try simp only [Act.put, List.setIfInBounds_toArray, List.set_cons_zero, List.set_cons_succ]
      refine wpAnyH_take (i := 10) (v := ?_) (by simp only [List.getElem?_toArray, List.getElem?_cons_zero, List.getElem?_cons_succ]; rfl) (by kernel_rfl) (by kernel_rfl) (by kernel_rfl) (fun _ _ _ h => h) (Or.inl ⟨by rfl, ?_⟩) (by assumption) ?_
      rotate_left
      · intro w hSw; (try dsimp only at hSw); go_simp; (try with_reducible rfl)
      try simp only [Act.put, List.setIfInBounds_toArray, List.set_cons_zero, List.set_cons_succ]
      refine wpAnyH_ready (rs := [11]) (by kernel_rfl) (by simp) ?_
      refine AllReadyH.cons (by simp only [List.getElem?_toArray, List.getElem?_cons_zero, List.getElem?_cons_succ]; rfl) (fun K hK => ?_) AllReadyH.nil
      go_simp
      first
        | (have M5 := hid (M4.out.fresh (Evo.alloc g4 (p + 22) w4 (.cells #[.bool false, .string ⟨#[]⟩] 99))); have U5 := hid (LocC.new g4 (p + 22) w4 99 [.bool false, .string ⟨#[]⟩]); have HN5 := hid (show w.heap.size ≤ w4.heap.size from M4.out.evo.size); generalize extc g4 w4 (p + 22) = g6 at *; generalize w4.alloc (.cells #[.bool false, .string ⟨#[]⟩] 99) = w6 at *; generalize w4.heap.size = b6 at *; have M6 := hid M5.out; have U6 := hid U5.out; obtain ⟨u0, u1, v0, v1⟩ := U6.out.1.two; have hS' : w6.cell? ⟨c, 0, none⟩ = some (.pointer (some ⟨s, 0, none⟩)) ∧ w6.cell? ⟨bx, 4, none⟩ = some (.int .i64 x.key) := ⟨M6.out.cells.1, M6.out.cells.2.2.2.2.2.1⟩)
        | (have hM5 := (M3.out.fresh (Evo.alloc g2 (p + 22) w3 (.cells #[.bool false, .string ⟨#[]⟩] 99))).below (Below.refl _ _).drew; have M5 := hid hM5; have U5 : Hid (LocC (w3.alloc (.cells #[.bool false, .string ⟨#[]⟩] 99)).drew (extc g2 w3 (p + 22)) (p + 22) w3.heap.size 99 [.bool false, .string ⟨#[]⟩]) := hid (LocC.new g2 (p + 22) w3 99 [.bool false, .string ⟨#[]⟩]); have HN5 := hid (show w.heap.size ≤ w3.heap.size from M3.out.evo.size); clear hM5; generalize extc g2 w3 (p + 22) = g5 at *; generalize (w3.alloc (.cells #[.bool false, .string ⟨#[]⟩] 99)).drew = w5 at *; generalize w3.heap.size = b6 at *; have hS' : w5.cell? ⟨c, 0, none⟩ = some (.pointer (some ⟨s, 0, none⟩)) ∧ w5.cell? ⟨bx, 4, none⟩ = some (.int .i64 x.key) := ⟨M5.out.cells.1, M5.out.cells.2.2.2.2.2.1⟩)
      try go_wp2_with fail
      refine hK.out _ _ ?_ (fun hH2 => ?_)
      · (try dsimp only); (first | assumption | exact ⟨M3.out.cells.1, M3.out.cells.2.2.2.2.2.1⟩)
      clear hK K hH1
      try simp only [Act.put, List.setIfInBounds_toArray, List.set_cons_zero, List.set_cons_succ]
      refine wpAnyH_ready (rs := [12]) (by kernel_rfl) (by simp) ?_
      refine AllReadyH.cons (by simp only [List.getElem?_toArray, List.getElem?_cons_zero, List.getElem?_cons_succ]; rfl) (fun K hK => ?_) AllReadyH.nil
      go_simp
      have M7 := hid ((M6.out.store HN5.out U6.out.2 0 (.bool zv.there)).store HN5.out U6.out.2 1 (.string zv.bytes))
      have U7 := hid (show Loc ((w6.setCell ⟨b6, 0, none⟩ (.bool zv.there)).setCell ⟨b6, 1, none⟩ (.string zv.bytes)) b6 99 [.bool zv.there, .string zv.bytes] from (U6.out.1.set 0 _).set 1 _)
      generalize (w6.setCell ⟨b6, 0, none⟩ (.bool zv.there)).setCell ⟨b6, 1, none⟩ (.string zv.bytes) = w7 at *
      have hS' : w7.cell? ⟨c, 0, none⟩ = some (.pointer (some ⟨s, 0, none⟩)) ∧ w7.cell? ⟨bx, 4, none⟩ = some (.int .i64 x.key) := ⟨M7.out.cells.1, M7.out.cells.2.2.2.2.2.1⟩
      try go_wp2_with fail
      refine hK.out _ _ ?_ (fun hH3 => ?_)
      · (try dsimp only); (first | assumption | exact ⟨M3.out.cells.1, M3.out.cells.2.2.2.2.2.1⟩)
      clear hK K hH2
      try simp only [Act.put, List.setIfInBounds_toArray, List.set_cons_zero, List.set_cons_succ]
      refine wpAnyH_take (i := 13) (v := ?_) (by simp only [List.getElem?_toArray, List.getElem?_cons_zero, List.getElem?_cons_succ]; rfl) (by kernel_rfl) (by kernel_rfl) (by kernel_rfl) (fun _ _ _ h => h) (Or.inl ⟨by rfl, ?_⟩) (by assumption) ?_
      rotate_left
      · intro w hSw; (try dsimp only at hSw); go_simp; (try with_reducible rfl)
      try simp only [Act.put, List.setIfInBounds_toArray, List.set_cons_zero, List.set_cons_succ]
      refine wpAnyH_done (by kernel_rfl) ?_ _
      refine NoPanic.normal ?_
      obtain ⟨u0, u1, -⟩ := U7.out.two
      clear GET M3
      obtain ⟨e0, e1, e2, e3, e4, f0, f1, f2, f3, f4⟩ := evL_cells M7.out.ev
      go_wp2
      refine bodyPost_ret (v := .agg #[.int .i64 zc, .int .i64 0, .bool zv.there, .string zv.bytes, .slice none 0 0]) (by simp [results, Tryz.results41, go_sem, e0, e1, e2, e3, e4] <;> rfl) rfl (CEvPost2.done _ _ _ _ _ (by rw [Y.out]; exact ⟨M7.out.ok, s, ds, M7.out.court.more (by omega)⟩) M7.out.evo HNE.out M7.out.ev.2 (a := none) (cap := 0) (by rw [Y.out]; exact .inl rfl) (by intro ad h; cases h) (by rw [Y.out]; rfl))
    refine AllReadyH.cons (by simp only [List.getElem?_toArray, List.getElem?_cons_zero, List.getElem?_cons_succ]; rfl) (fun K hK => ?_) AllReadyH.nil
    go_simp
    first
      | (have M5 := hid (M4.out.fresh (Evo.alloc g4 (p + 22) w4 (.cells #[.bool false, .string ⟨#[]⟩] 99))); have U5 := hid (LocC.new g4 (p + 22) w4 99 [.bool false, .string ⟨#[]⟩]); have HN5 := hid (show w.heap.size ≤ w4.heap.size from M4.out.evo.size); generalize extc g4 w4 (p + 22) = g6 at *; generalize w4.alloc (.cells #[.bool false, .string ⟨#[]⟩] 99) = w6 at *; generalize w4.heap.size = b6 at *; have M6 := hid M5.out; have U6 := hid U5.out; obtain ⟨u0, u1, v0, v1⟩ := U6.out.1.two; have hS' : w6.cell? ⟨c, 0, none⟩ = some (.pointer (some ⟨s, 0, none⟩)) ∧ w6.cell? ⟨bx, 4, none⟩ = some (.int .i64 x.key) := ⟨M6.out.cells.1, M6.out.cells.2.2.2.2.2.1⟩)
      | (have hM5 := (M3.out.fresh (Evo.alloc g2 (p + 22) w3 (.cells #[.bool false, .string ⟨#[]⟩] 99))).below (Below.refl _ _).drew; have M5 := hid hM5; have U5 : Hid (LocC (w3.alloc (.cells #[.bool false, .string ⟨#[]⟩] 99)).drew (extc g2 w3 (p + 22)) (p + 22) w3.heap.size 99 [.bool false, .string ⟨#[]⟩]) := hid (LocC.new g2 (p + 22) w3 99 [.bool false, .string ⟨#[]⟩]); have HN5 := hid (show w.heap.size ≤ w3.heap.size from M3.out.evo.size); clear hM5; generalize extc g2 w3 (p + 22) = g5 at *; generalize (w3.alloc (.cells #[.bool false, .string ⟨#[]⟩] 99)).drew = w5 at *; generalize w3.heap.size = b6 at *; have hS' : w5.cell? ⟨c, 0, none⟩ = some (.pointer (some ⟨s, 0, none⟩)) ∧ w5.cell? ⟨bx, 4, none⟩ = some (.int .i64 x.key) := ⟨M5.out.cells.1, M5.out.cells.2.2.2.2.2.1⟩)
    try go_wp2_with fail
    refine hK.out _ _ ?_ (fun hH4 => ?_)
    · (try dsimp only); (first | assumption | exact ⟨M3.out.cells.1, M3.out.cells.2.2.2.2.2.1⟩)
    clear hK K hH0
    try simp only [Act.put, List.setIfInBounds_toArray, List.set_cons_zero, List.set_cons_succ]
    refine wpAnyH_ready (rs := [7]) (by kernel_rfl) (by simp) ?_
    refine AllReadyH.cons (by simp only [List.getElem?_toArray, List.getElem?_cons_zero, List.getElem?_cons_succ]; rfl) (fun K hK => ?_) AllReadyH.nil
    go_simp
    go_at_call 75
    first
      | ((with_reducible refine (GET.out g2 w3.drew (M3.out.below (Below.refl _ _).drew)).mono ?_); rintro e w4 ⟨rfl, g4, hD4, hE4⟩; have M4 := hid ((M3.out.below (Below.refl _ _).drew).work hn (by omega : N ≤ N + 1) HD.out hE4 hD4); have hS' : w4.cell? ⟨c, 0, none⟩ = some (.pointer (some ⟨s, 0, none⟩)) ∧ w4.cell? ⟨bx, 4, none⟩ = some (.int .i64 x.key) := ⟨M4.out.cells.1, M4.out.cells.2.2.2.2.2.1⟩; clear hD4 hE4)
      | ((with_reducible refine (GET.out g5 w5 M5.out).mono ?_); rintro e w6 ⟨rfl, g6, hD6, hE6⟩; have M6 := hid (M5.out.work hn (by omega : N ≤ N + 1) HD.out hE6 hD6); have U6 := hid (U5.out.frame hE6 (by omega)); obtain ⟨u0, u1, v0, v1⟩ := U6.out.1.two; have hS' : w6.cell? ⟨c, 0, none⟩ = some (.pointer (some ⟨s, 0, none⟩)) ∧ w6.cell? ⟨bx, 4, none⟩ = some (.int .i64 x.key) := ⟨M6.out.cells.1, M6.out.cells.2.2.2.2.2.1⟩; clear hD6 hE6)
    try go_wp2_with fail
    refine hK.out _ _ ?_ (fun hH5 => ?_)
    · (try dsimp only); (first | assumption | exact ⟨M3.out.cells.1, M3.out.cells.2.2.2.2.2.1⟩)
    clear hK K hH4
    try simp only [Act.put, List.setIfInBounds_toArray, List.set_cons_zero, List.set_cons_succ]
    refine wpAnyH_take (i := 8) (v := ?_) (by simp only [List.getElem?_toArray, List.getElem?_cons_zero, List.getElem?_cons_succ]; rfl) (by kernel_rfl) (by kernel_rfl) (by kernel_rfl) (fun _ _ _ h => h) (Or.inl ⟨by rfl, ?_⟩) (by assumption) ?_
    rotate_left
    · intro w hSw; (try dsimp only at hSw); go_simp; (try with_reducible rfl)
    try simp only [Act.put, List.setIfInBounds_toArray, List.set_cons_zero, List.set_cons_succ]
    refine wpAnyH_take (i := 9) (v := ?_) (by simp only [List.getElem?_toArray, List.getElem?_cons_zero, List.getElem?_cons_succ]; rfl) (by kernel_rfl) (by kernel_rfl) (by kernel_rfl) (fun _ _ _ h => h) (Or.inl ⟨by rfl, ?_⟩) (by assumption) ?_
    rotate_left
    · intro w hSw; (try dsimp only at hSw); go_simp; (try with_reducible rfl)
    try simp only [Act.put, List.setIfInBounds_toArray, List.set_cons_zero, List.set_cons_succ]
    refine wpAnyH_take (i := 10) (v := ?_) (by simp only [List.getElem?_toArray, List.getElem?_cons_zero, List.getElem?_cons_succ]; rfl) (by kernel_rfl) (by kernel_rfl) (by kernel_rfl) (fun _ _ _ h => h) (Or.inl ⟨by rfl, ?_⟩) (by assumption) ?_
    rotate_left
    · intro w hSw; (try dsimp only at hSw); go_simp; (try with_reducible rfl)
    try simp only [Act.put, List.setIfInBounds_toArray, List.set_cons_zero, List.set_cons_succ]
    refine wpAnyH_ready (rs := [12]) (by kernel_rfl) (by simp) ?_
    refine AllReadyH.cons (by simp only [List.getElem?_toArray, List.getElem?_cons_zero, List.getElem?_cons_succ]; rfl) (fun K hK => ?_) AllReadyH.nil
    go_simp
    have M7 := hid ((M6.out.store HN5.out U6.out.2 0 (.bool zv.there)).store HN5.out U6.out.2 1 (.string zv.bytes))
    have U7 := hid (show Loc ((w6.setCell ⟨b6, 0, none⟩ (.bool zv.there)).setCell ⟨b6, 1, none⟩ (.string zv.bytes)) b6 99 [.bool zv.there, .string zv.bytes] from (U6.out.1.set 0 _).set 1 _)
    generalize (w6.setCell ⟨b6, 0, none⟩ (.bool zv.there)).setCell ⟨b6, 1, none⟩ (.string zv.bytes) = w7 at *
    have hS' : w7.cell? ⟨c, 0, none⟩ = some (.pointer (some ⟨s, 0, none⟩)) ∧ w7.cell? ⟨bx, 4, none⟩ = some (.int .i64 x.key) := ⟨M7.out.cells.1, M7.out.cells.2.2.2.2.2.1⟩
    try go_wp2_with fail
    refine hK.out _ _ ?_ (fun hH6 => ?_)
    · (try dsimp only); (first | assumption | exact ⟨M3.out.cells.1, M3.out.cells.2.2.2.2.2.1⟩)
    clear hK K hH5
    try simp only [Act.put, List.setIfInBounds_toArray, List.set_cons_zero, List.set_cons_succ]
    refine wpAnyH_take (i := 13) (v := ?_) (by simp only [List.getElem?_toArray, List.getElem?_cons_zero, List.getElem?_cons_succ]; rfl) (by kernel_rfl) (by kernel_rfl) (by kernel_rfl) (fun _ _ _ h => h) (Or.inl ⟨by rfl, ?_⟩) (by assumption) ?_
    rotate_left
    · intro w hSw; (try dsimp only at hSw); go_simp; (try with_reducible rfl)
    try simp only [Act.put, List.setIfInBounds_toArray, List.set_cons_zero, List.set_cons_succ]
    refine wpAnyH_done (by kernel_rfl) ?_ _
    refine NoPanic.normal ?_
    obtain ⟨u0, u1, -⟩ := U7.out.two
    clear GET M3
    obtain ⟨e0, e1, e2, e3, e4, f0, f1, f2, f3, f4⟩ := evL_cells M7.out.ev
    go_wp2
    refine bodyPost_ret (v := .agg #[.int .i64 zc, .int .i64 0, .bool zv.there, .string zv.bytes, .slice none 0 0]) (by simp [results, Tryz.results41, go_sem, e0, e1, e2, e3, e4] <;> rfl) rfl (CEvPost2.done _ _ _ _ _ (by rw [Y.out]; exact ⟨M7.out.ok, s, ds, M7.out.court.more (by omega)⟩) M7.out.evo HNE.out M7.out.ev.2 (a := none) (cap := 0) (by rw [Y.out]; exact .inl rfl) (by intro ad h; cases h) (by rw [Y.out]; rfl))
    -- END 21
  have q2 : (x.kind == 2) = false := by simpa using h2
  by_cases h3 : x.kind = 3
  · have Y := hid (show y = (Evt.of (putD D x.key ⟨true, x.bytes⟩).1 0, ⟨H.v, upd H.seats n (some (putD D x.key ⟨true, x.bytes⟩).2)⟩) by rw [EX6.out]; unfold deedH; rw [if_neg h2, if_pos h3, HSN.out])
    rw [h3] at k0
    have PUT := hid (work_Put g2 (p + 6 + 3 * n) (ds n) D N x.key ⟨true, x.bytes⟩ w3 hbs (by omega) (M3.out.court.work n hn D HD.out))
    generalize putD D x.key ⟨true, x.bytes⟩ = z at *
    obtain ⟨zc, zD⟩ := z
    clear h2 h3 q2 EX6 q1 q8 q9 hk1' hk10'
    go_wp2_with fail
    (with_reducible refine PUT.out.mono ?_)
    rintro e w4 ⟨rfl, g4, hD4, hE4⟩
    have M4 := hid (M3.out.work hn (by omega : N ≤ N + 1) HD.out hE4 hD4)
    clear hD4 hE4 PUT k4 k7 k0 c0 M3
    obtain ⟨e0, e1, e2, e3, e4, f0, f1, f2, f3, f4⟩ := evL_cells M4.out.ev
    go_wp2
    refine bodyPost_ret (v := .agg #[.int .i64 zc, .int .i64 0, .bool false, .string ByteArray.empty, .slice none 0 0]) (by simp [results, Tryz.results41, go_sem, e0, e1, e2, e3, e4] <;> rfl) rfl (CEvPost2.done _ _ _ _ _ (by rw [Y.out]; exact ⟨M4.out.ok, s, ds, M4.out.court.more (by omega)⟩) M4.out.evo HNE.out M4.out.ev.2 (a := none) (cap := 0) (by rw [Y.out]; exact .inl rfl) (by intro ad h; cases h) (by rw [Y.out]; rfl))
  have q3 : (x.kind == 3) = false := by simpa using h3
  by_cases h4 : x.kind = 4
  · have Y := hid (show y = (Evt.of (putD D x.key Val.zero).1 0, ⟨H.v, upd H.seats n (some (putD D x.key Val.zero).2)⟩) by rw [EX6.out]; unfold deedH; rw [if_neg h2, if_neg h3, if_pos h4, HSN.out])
    rw [h4] at k0
    have PUT := hid (work_Put g2 (p + 6 + 3 * n) (ds n) D N x.key Val.zero w3 (by decide) (by omega) (M3.out.court.work n hn D HD.out))
    generalize putD D x.key Val.zero = z at *
    obtain ⟨zc, zD⟩ := z
    clear h2 h3 h4 q2 q3 EX6 q1 q8 q9 hk1' hk10'
    go_wp2_with fail
    refine PUT.out.mono ?_
    rintro e w4 ⟨rfl, g4, hD4, hE4⟩
    have M4 := hid (M3.out.work hn (by omega : N ≤ N + 1) HD.out hE4 hD4)
    clear hD4 hE4 PUT k4 k7 k0 c0 M3
    obtain ⟨e0, e1, e2, e3, e4, f0, f1, f2, f3, f4⟩ := evL_cells M4.out.ev
    go_wp2
    refine bodyPost_ret (v := .agg #[.int .i64 zc, .int .i64 0, .bool false, .string ByteArray.empty, .slice none 0 0]) (by simp [results, Tryz.results41, go_sem, e0, e1, e2, e3, e4] <;> rfl) rfl (CEvPost2.done _ _ _ _ _ (by rw [Y.out]; exact ⟨M4.out.ok, s, ds, M4.out.court.more (by omega)⟩) M4.out.evo HNE.out M4.out.ev.2 (a := none) (cap := 0) (by rw [Y.out]; exact .inl rfl) (by intro ad h; cases h) (by rw [Y.out]; rfl))
  have q4 : (x.kind == 4) = false := by simpa using h4
  by_cases h5 : x.kind = 5
  · have Y := hid (show y = (⟨(listD D H.v.tab x.key x.to_).1.2, 0, Val.zero, (listD D H.v.tab x.key x.to_).1.1⟩, ⟨H.v, upd H.seats n (some (listD D H.v.tab x.key x.to_).2)⟩) by rw [EX6.out]; unfold deedH; rw [if_neg h2, if_neg h3, if_neg h4, if_pos h5, HSN.out])
    rw [h5] at k0
    have LST := hid (work_List g2 (p + 6 + 3 * n) (ds n) D N (p + 4) s H.v.tab w3.drew x.key x.to_ (p + 22) (by omega) hN (by omega) ((M3.out.below (Below.refl _ _).drew).court.work n hn D HD.out) (M3.out.below (Below.refl _ _).drew).court.sheet)
    generalize listD D H.v.tab x.key x.to_ = z at *
    obtain ⟨⟨zl, zc⟩, zD⟩ := z
    obtain ⟨-, -, -, -, -, -, k5, -, -⟩ := M3.out.cells
    clear h2 h3 h4 h5 q2 q3 q4 EX6 q1 q8 q9 hk1' hk10' k7
    go_wp2_with fail
    go_region_held3 (fun W' : World => W'.cell? ⟨c, 0, none⟩ = some (.pointer (some ⟨s, 0, none⟩)) ∧ W'.cell? ⟨bx, 4, none⟩ = some (.int .i64 x.key) ∧ W'.cell? ⟨bx, 5, none⟩ = some (.int .i64 x.to_))
      (first | assumption | exact ⟨c0, k4, k5⟩)
      (first
        | (go_at_call 77; (with_reducible refine LST.out.mono ?_); rintro e w4 ⟨a4, c4, g4, rfl, hD4, hE4, hs4, hn4, hc4⟩; have M4 := hid ((M3.out.below (Below.refl _ _).drew).work hn (by omega : N ≤ N + 8) HD.out hE4 hD4); have S4 := hid hs4; have N4 := hid (fun ad (e : a4 = some ad) => (show ad.block ≠ be ∧ w.heap.size ≤ ad.block ∧ g4 ad.block = p + 22 ∧ ad.block < w4.heap.size from ⟨by have h1 := (hn4 ad e).1; have h2 := (M3.out.below (Below.refl _ _).drew).ev.1.lt; omega, Nat.le_trans (M3.out.below (Below.refl _ _).drew).evo.size (hn4 ad e).1, hc4 ad e, (hn4 ad e).2⟩)); have hS' : w4.cell? ⟨c, 0, none⟩ = some (.pointer (some ⟨s, 0, none⟩)) ∧ w4.cell? ⟨bx, 4, none⟩ = some (.int .i64 x.key) ∧ w4.cell? ⟨bx, 5, none⟩ = some (.int .i64 x.to_) := ⟨M4.out.cells.1, M4.out.cells.2.2.2.2.2.1, M4.out.cells.2.2.2.2.2.2.1⟩; clear hD4 hE4 hs4 hn4 hc4))
    clear hS' c0 k4 k5 k0 LST M3
    obtain ⟨e0, e1, e2, e3, e4, f0, f1, f2, f3, f4⟩ := evL_cells M4.out.ev
    go_wp2
    refine bodyPost_ret (v := .agg #[.int .i64 zc, .int .i64 0, .bool false, .string ByteArray.empty, .slice a4 zl.length c4]) (by simp [results, Tryz.results41, go_sem, e0, e1, e2, e3, e4] <;> rfl) rfl (CEvPost2.done _ _ _ _ _ (by rw [Y.out]; exact ⟨M4.out.ok, s, ds, M4.out.court.more (by omega)⟩) M4.out.evo HNE.out M4.out.ev.2 (a := a4) (cap := c4) (by rw [Y.out]; exact S4.out) N4.out (by rw [Y.out]; rfl))
  have q5 : (x.kind == 5) = false := by simpa using h5
  by_cases h6 : x.kind = 6
  · have Y := hid (show y = (Evt.of (commitV H.v D).1.2 (commitV H.v D).1.1, ⟨(commitV H.v D).2, upd H.seats n none⟩) by rw [EX6.out]; unfold deedH; rw [if_neg h2, if_neg h3, if_neg h4, if_neg h5, if_pos h6, HSN.out])
    rw [h6] at k0
    have CM := hid (court_commit g2 p c s ds N H.v H.seats n D w3 (by omega) HOK.out hn HD.out M3.out.court)
    have CMO := hid (commitV_ok HOK.out D)
    generalize commitV H.v D = z at *
    obtain ⟨⟨zn, zc⟩, zV⟩ := z
    clear h2 h3 h4 h5 h6 q2 q3 q4 q5 EX6 q1 q8 q9 hk1' hk10' k4 k7
    go_wp2_with fail
    (with_reducible refine CM.out.mono ?_)
    rintro e w4 ⟨rfl, g4, hC4, hE4⟩
    have M4 := hid (M3.out.turn CMO.out hE4 hC4)
    clear hC4 hE4 CM k0 c0 M3
    obtain ⟨s1, s2⟩ := (show CourtL w4 g4 p c s ds N zV.tab zV.log H.seats from M4.out.court).seat hn
    obtain ⟨ss, hss⟩ : ∃ ss, seatP ds H.seats n = ss := ⟨_, rfl⟩
    try rw [hss] at s1
    obtain ⟨-, -, k1, -⟩ := M4.out.cells
    rw [HXS.out] at k1
    have hclt := M4.out.court.top.2.2
    clear hss
    go_wp2_with fail
    go_region
    all_goals
      have M5 := hid ((M4.out.drop hn).below (Below.refl _ _).drew)
      clear s1 s2 k1 hclt M4
      generalize (w4.setCell ⟨c, 3 + n, none⟩ (.pointer none)).drew = w5 at *
      obtain ⟨e0, e1, e2, e3, e4, f0, f1, f2, f3, f4⟩ := evL_cells M5.out.ev
      go_wp2
      refine bodyPost_ret (v := .agg #[.int .i64 zc, .int .i64 zn, .bool false, .string ByteArray.empty, .slice none 0 0]) (by simp [results, Tryz.results41, go_sem, e0, e1, e2, e3, e4] <;> rfl) rfl (CEvPost2.done _ _ _ _ _ (by rw [Y.out]; exact ⟨M5.out.ok, s, ds, M5.out.court.more (by omega)⟩) M5.out.evo HNE.out M5.out.ev.2 (a := none) (cap := 0) (by rw [Y.out]; exact .inl rfl) (by intro ad h; cases h) (by rw [Y.out]; rfl))
  have q6 : (x.kind == 6) = false := by simpa using h6
  by_cases h10 : x.kind = 10
  · rw [h10] at k0
    have hdo : D.Ok := by obtain ⟨_, _, _, h⟩ := M3.out.court.work n hn D HD.out; exact h.ok
    have MAY := hid (work_May g2 (p + 6 + 3 * n) (ds n) D N g2 (p + 4) s H.v.tab w3 (by omega) (M3.out.court.work n hn D HD.out) M3.out.court.sheet)
    have WRI := hid (fun W (k : Below w3.heap.size w3 W) => work_Writes g2 (p + 6 + 3 * n) (ds n) D N W (by omega) ((M3.out.court.work n hn D HD.out).below k))
    have HWF := hid (writesD_facts hdo)
    have TV := hid (show tornV H.v D x.keep = if mayD D H.v.tab = 0 ∧ writesD D ≠ [] then tearG H.v.log (writesD D) x.keep else (mayD D H.v.tab, H.v.log) from rfl)
    have HZL := hid (torn_len HOK.out D x.keep)
    have HZOK := hid (tornV_ok HOK.out D x.keep)
    have Y := hid (show y = (Evt.of (tornV H.v D x.keep).1 (if (tornV H.v D x.keep).2.l.length = H.v.tab.last then 0 else ((tornV H.v D x.keep).2.l.length : Int)), ⟨crashV (tornV H.v D x.keep).2, fun _ => none⟩) by rw [EX6.out]; unfold deedH; rw [if_neg h2, if_neg h3, if_neg h4, if_neg h5, if_neg h6, if_pos h10]; rfl)
    generalize tornV H.v D x.keep = z at *
    obtain ⟨zc, zG⟩ := z
    simp only at HZL HZOK Y
    generalize writesD D = l at *
    generalize mayD D H.v.tab = may at *
    have hlw := HWF.out.1
    clear h2 h3 h4 h5 h6 h10 q2 q3 q4 q5 q6 EX6 q1 q8 q9 hk1' hk10' k4 k7 hdo
    go_wp2_with fail
    (with_reducible refine MAY.out.mono ?_)
    rintro e w4 ⟨rfl, hb⟩
    have B4 := hid hb
    have M4 := hid (M3.out.below hb)
    clear hb MAY c0 k0
    obtain ⟨c0, -⟩ := M4.out.cells
    have c8 := M4.out.court.sheet.n.1
    go_wp2_with fail
    (with_reducible refine (WRI.out w4 B4.out).mono ?_)
    rintro e w5 ⟨a5, c5, rfl, hs5, hb5, hn5', -⟩
    have S5 := hid (sliceC_new (g := g2) (p := p + 22) (lo := p) (hi := p + 6) hs5 (fun ad e => ⟨(hn5' ad e).1, (hn5' ad e).2⟩) (by omega))
    have M5 := hid (M4.out.fresh (Evo.of_below (lo := 0) (hi := 0) g2 (p + 22) hb5))
    generalize extc g2 w4 (p + 22) = g5 at *
    clear hs5 hb5 hn5' WRI M3 M4 B4 c0 c8
    by_cases hcond : may = 0 ∧ l ≠ []
    · have TZ := hid (TV.out.trans (if_pos hcond))
      obtain ⟨rfl, hl0⟩ := hcond
      have hpos : 0 < l.length := List.length_pos_iff.2 hl0
      have hposI : (0 : Int) < (l.length : Int) := by omega
      have TEA := hid (roll_Tear g5 p c H.v.log a5 c5 l x.keep w5.drew hlw HWF.out.2 HOK.out.1 (M5.out.below (Below.refl _ _).drew).court.roll (S5.out.frame (Evo.of_same (Below.refl _ _).drew)).at (fun w' g' hE => ((S5.out.frame (Evo.of_same (lo := p) (hi := p + 6) (Below.refl _ _).drew)).frame2 hE (by omega) (by omega)).at))
      rw [← TZ.out] at TEA
      obtain ⟨-, -, -, -, -, -, -, k6, -⟩ := M5.out.cells
      clear hl0 TV
      go_wp2_with fail
      go_region_held3 (fun W' : World => W'.cell? ⟨bx, 6, none⟩ = some (.int .i64 x.keep))
        (first | assumption | exact k6)
        (first
          | (go_at_call 81; (with_reducible refine TEA.out.mono ?_); rintro e w6 ⟨rfl, g6, hR6, hE6⟩; have MC6 := hid (⟨(M5.out.below (Below.refl _ _).drew).court.withRoll HZOK.out hE6 hR6, (M5.out.below (Below.refl _ _).drew).arg.frame hE6 (by omega), (M5.out.below (Below.refl _ _).drew).ev.frame hE6 (by omega), (M5.out.below (Below.refl _ _).drew).evo.trans (hE6.wide (by omega) (by omega))⟩ : CourtL w6 g6 p c s ds N H.v.tab zG H.seats ∧ LocC w6 g6 (p + 21) bx 97 (stL x) ∧ LocC w6 g6 (p + 21) be 102 evL ∧ Evo p (p + 21) g g6 w w6); have hS' : w6.cell? ⟨bx, 6, none⟩ = some (.int .i64 x.keep) := MC6.out.2.1.1.cell 6; clear hR6 hE6))
      clear hS' k6 TEA M5 S5 TZ
      go_wp2_with fail
      (with_reducible refine (court_again g6 p c s ds N H.v.tab zG H.seats w6 MC6.out.1).mono ?_)
      rintro e w7 ⟨rfl, g7, s7, hC7, hE7⟩
      have M7 : Hid (CMid w g p c s7 ds bx be x g7 w7 N ⟨crashV zG, fun _ => none⟩) := hid ⟨crashV_ok HZOK.out, hC7, MC6.out.2.1.frame hE7 (by omega), MC6.out.2.2.1.frame hE7 (by omega), MC6.out.2.2.2.trans (hE7.wide (by omega) (by omega))⟩
      clear hC7 hE7 MC6
      obtain ⟨d0, -⟩ := M7.out.cells
      have d1 := M7.out.court.sheet.n.1
      rw [show (⟨crashV zG, fun _ => none⟩ : Ht).v.tab.last = zG.l.length from HZOK.out.last] at d1
      rcases HZL.out with hzl | hzl
      · have Y' := hid (show y = (Evt.of zc 0, ⟨crashV zG, fun _ => none⟩) by rw [Y.out, if_pos hzl])
        rw [hzl] at d1
        have hle : (H.v.tab.last : Int) ≤ (H.v.tab.last : Int) := Int.le_refl _
        clear hzl Y
        obtain ⟨e0, e1, e2, e3, e4, f0, f1, f2, f3, f4⟩ := evL_cells M7.out.ev
        go_wp2
        refine bodyPost_ret (v := .agg #[.int .i64 zc, .int .i64 0, .bool false, .string ByteArray.empty, .slice none 0 0]) (by simp [results, Tryz.results41, go_sem, e0, e1, e2, e3, e4] <;> rfl) rfl (CEvPost2.done _ _ _ _ _ (by rw [Y'.out]; exact ⟨M7.out.ok, s7, ds, M7.out.court.more (by omega)⟩) M7.out.evo HNE.out M7.out.ev.2 (a := none) (cap := 0) (by rw [Y'.out]; exact .inl rfl) (by intro ad h; cases h) (by rw [Y'.out]; rfl))
      · have Y' := hid (show y = (Evt.of zc (zG.l.length : Int), ⟨crashV zG, fun _ => none⟩) by rw [Y.out, if_neg (by omega)])
        have hlt : (H.v.tab.last : Int) < (zG.l.length : Int) := by omega
        generalize (zG.l.length : Int) = zn at *
        clear hzl Y
        obtain ⟨e0, e1, e2, e3, e4, f0, f1, f2, f3, f4⟩ := evL_cells M7.out.ev
        go_wp2
        refine bodyPost_ret (v := .agg #[.int .i64 zc, .int .i64 zn, .bool false, .string ByteArray.empty, .slice none 0 0]) (by simp [results, Tryz.results41, go_sem, e0, e1, e2, e3, e4] <;> rfl) rfl (CEvPost2.done _ _ _ _ _ (by rw [Y'.out]; exact ⟨M7.out.ok, s7, ds, M7.out.court.more (by omega)⟩) M7.out.evo HNE.out M7.out.ev.2 (a := none) (cap := 0) (by rw [Y'.out]; exact .inl rfl) (by intro ad h; cases h) (by rw [Y'.out]; rfl))
    · have TZ := hid (TV.out.trans (if_neg hcond))
      obtain ⟨rfl, rfl⟩ := Prod.mk.inj TZ.out
      have MC5 := hid (⟨M5.out.court, M5.out.arg, M5.out.ev, M5.out.evo⟩ : CourtL w5 g5 p c s ds N H.v.tab H.v.log H.seats ∧ LocC w5 g5 (p + 21) bx 97 (stL x) ∧ LocC w5 g5 (p + 21) be 102 evL ∧ Evo p (p + 21) g g5 w w5)
      by_cases hm : zc = 0
      · have hl0 : l = [] := Classical.byContradiction (fun h => hcond ⟨hm, h⟩)
        have hle0 : (l.length : Int) ≤ 0 := by rw [hl0]; exact Int.le_refl _
        have hleN : l.length ≤ 0 := by rw [hl0]; exact Nat.le_refl _
        have hm' : (zc == 0) = true := by simpa using hm
        clear hcond TZ TV M5 S5 hl0 hm
        go_wp2_with fail
        (with_reducible refine (court_again g5 p c s ds N H.v.tab H.v.log H.seats w5 MC5.out.1).mono ?_)
        rintro e w7 ⟨rfl, g7, s7, hC7, hE7⟩
        have M7 : Hid (CMid w g p c s7 ds bx be x g7 w7 N ⟨crashV H.v.log, fun _ => none⟩) := hid ⟨crashV_ok HZOK.out, hC7, MC5.out.2.1.frame hE7 (by omega), MC5.out.2.2.1.frame hE7 (by omega), MC5.out.2.2.2.trans (hE7.wide (by omega) (by omega))⟩
        clear hC7 hE7 MC5
        obtain ⟨d0, -⟩ := M7.out.cells
        have d1 := M7.out.court.sheet.n.1
        rw [show (⟨crashV H.v.log, fun _ => none⟩ : Ht).v.tab.last = H.v.log.l.length from HZOK.out.last] at d1
        rcases HZL.out with hzl | hzl
        · have Y' := hid (show y = (Evt.of zc 0, ⟨crashV H.v.log, fun _ => none⟩) by rw [Y.out, if_pos hzl])
          rw [hzl] at d1
          have hle : (H.v.tab.last : Int) ≤ (H.v.tab.last : Int) := Int.le_refl _
          clear hzl Y
          obtain ⟨e0, e1, e2, e3, e4, f0, f1, f2, f3, f4⟩ := evL_cells M7.out.ev
          go_wp2
          refine bodyPost_ret (v := .agg #[.int .i64 zc, .int .i64 0, .bool false, .string ByteArray.empty, .slice none 0 0]) (by simp [results, Tryz.results41, go_sem, e0, e1, e2, e3, e4] <;> rfl) rfl (CEvPost2.done _ _ _ _ _ (by rw [Y'.out]; exact ⟨M7.out.ok, s7, ds, M7.out.court.more (by omega)⟩) M7.out.evo HNE.out M7.out.ev.2 (a := none) (cap := 0) (by rw [Y'.out]; exact .inl rfl) (by intro ad h; cases h) (by rw [Y'.out]; rfl))
        · have Y' := hid (show y = (Evt.of zc (H.v.log.l.length : Int), ⟨crashV H.v.log, fun _ => none⟩) by rw [Y.out, if_neg (by omega)])
          have hlt : (H.v.tab.last : Int) < (H.v.log.l.length : Int) := by omega
          generalize (H.v.log.l.length : Int) = zn at *
          clear hzl Y
          obtain ⟨e0, e1, e2, e3, e4, f0, f1, f2, f3, f4⟩ := evL_cells M7.out.ev
          go_wp2
          refine bodyPost_ret (v := .agg #[.int .i64 zc, .int .i64 zn, .bool false, .string ByteArray.empty, .slice none 0 0]) (by simp [results, Tryz.results41, go_sem, e0, e1, e2, e3, e4] <;> rfl) rfl (CEvPost2.done _ _ _ _ _ (by rw [Y'.out]; exact ⟨M7.out.ok, s7, ds, M7.out.court.more (by omega)⟩) M7.out.evo HNE.out M7.out.ev.2 (a := none) (cap := 0) (by rw [Y'.out]; exact .inl rfl) (by intro ad h; cases h) (by rw [Y'.out]; rfl))
      · have hm' : (zc == 0) = false := by simpa using hm
        clear hcond TZ TV M5 S5 hm
        go_wp2_with fail
        (with_reducible refine (court_again g5 p c s ds N H.v.tab H.v.log H.seats w5 MC5.out.1).mono ?_)
        rintro e w7 ⟨rfl, g7, s7, hC7, hE7⟩
        have M7 : Hid (CMid w g p c s7 ds bx be x g7 w7 N ⟨crashV H.v.log, fun _ => none⟩) := hid ⟨crashV_ok HZOK.out, hC7, MC5.out.2.1.frame hE7 (by omega), MC5.out.2.2.1.frame hE7 (by omega), MC5.out.2.2.2.trans (hE7.wide (by omega) (by omega))⟩
        clear hC7 hE7 MC5
        obtain ⟨d0, -⟩ := M7.out.cells
        have d1 := M7.out.court.sheet.n.1
        rw [show (⟨crashV H.v.log, fun _ => none⟩ : Ht).v.tab.last = H.v.log.l.length from HZOK.out.last] at d1
        rcases HZL.out with hzl | hzl
        · have Y' := hid (show y = (Evt.of zc 0, ⟨crashV H.v.log, fun _ => none⟩) by rw [Y.out, if_pos hzl])
          rw [hzl] at d1
          have hle : (H.v.tab.last : Int) ≤ (H.v.tab.last : Int) := Int.le_refl _
          clear hzl Y
          obtain ⟨e0, e1, e2, e3, e4, f0, f1, f2, f3, f4⟩ := evL_cells M7.out.ev
          go_wp2
          refine bodyPost_ret (v := .agg #[.int .i64 zc, .int .i64 0, .bool false, .string ByteArray.empty, .slice none 0 0]) (by simp [results, Tryz.results41, go_sem, e0, e1, e2, e3, e4] <;> rfl) rfl (CEvPost2.done _ _ _ _ _ (by rw [Y'.out]; exact ⟨M7.out.ok, s7, ds, M7.out.court.more (by omega)⟩) M7.out.evo HNE.out M7.out.ev.2 (a := none) (cap := 0) (by rw [Y'.out]; exact .inl rfl) (by intro ad h; cases h) (by rw [Y'.out]; rfl))
        · have Y' := hid (show y = (Evt.of zc (H.v.log.l.length : Int), ⟨crashV H.v.log, fun _ => none⟩) by rw [Y.out, if_neg (by omega)])
          have hlt : (H.v.tab.last : Int) < (H.v.log.l.length : Int) := by omega
          generalize (H.v.log.l.length : Int) = zn at *
          clear hzl Y
          obtain ⟨e0, e1, e2, e3, e4, f0, f1, f2, f3, f4⟩ := evL_cells M7.out.ev
          go_wp2
          refine bodyPost_ret (v := .agg #[.int .i64 zc, .int .i64 zn, .bool false, .string ByteArray.empty, .slice none 0 0]) (by simp [results, Tryz.results41, go_sem, e0, e1, e2, e3, e4] <;> rfl) rfl (CEvPost2.done _ _ _ _ _ (by rw [Y'.out]; exact ⟨M7.out.ok, s7, ds, M7.out.court.more (by omega)⟩) M7.out.evo HNE.out M7.out.ev.2 (a := none) (cap := 0) (by rw [Y'.out]; exact .inl rfl) (by intro ad h; cases h) (by rw [Y'.out]; rfl))
  have q10 : (x.kind == 10) = false := by simpa using h10
  have Y := hid (show y = (Evt.of 0 0, ⟨H.v, upd H.seats n none⟩) by rw [EX6.out]; unfold deedH; rw [if_neg h2, if_neg h3, if_neg h4, if_neg h5, if_neg h6, if_neg h10, HSN.out])
  clear h2 h3 h4 h5 h6 h10 EX6 c0 k4 k7
  obtain ⟨s1, s2⟩ := M3.out.court.seat hn
  obtain ⟨ss, hss⟩ : ∃ ss, seatP ds H.seats n = ss := ⟨_, rfl⟩
  try rw [hss] at s1
  obtain ⟨-, -, k1, -⟩ := M3.out.cells
  rw [HXS.out] at k1
  have hclt := M3.out.court.top.2.2
  clear hss
  go_wp2_with fail
  go_region
  all_goals
    have M5 := hid ((M3.out.drop hn).below (Below.refl _ _).drew)
    clear s1 s2 k1 hclt M3
    generalize (w3.setCell ⟨c, 3 + n, none⟩ (.pointer none)).drew = w5 at *
    obtain ⟨e0, e1, e2, e3, e4, f0, f1, f2, f3, f4⟩ := evL_cells M5.out.ev
    go_wp2
    refine bodyPost_ret (v := .agg #[.int .i64 0, .int .i64 0, .bool false, .string ByteArray.empty, .slice none 0 0]) (by simp [results, Tryz.results41, go_sem, e0, e1, e2, e3, e4] <;> rfl) rfl (CEvPost2.done _ _ _ _ _ (by rw [Y.out]; exact ⟨M5.out.ok, s, ds, M5.out.court.more (by omega)⟩) M5.out.evo HNE.out M5.out.ev.2 (a := none) (cap := 0) (by rw [Y.out]; exact .inl rfl) (by intro ad h; cases h) (by rw [Y.out]; rfl))

end Go.Proofs.YtoiobhcgpajogaaGreatDoor
