/- A court (the document's hall) in memory; the walks of NewCourt and again. -/
import Derived.Test.YtoiobhcgpajogaaGreatDoorRollC
import Derived.Test.YtoiobhcgpajogaaGreatDoorHall1
import Derived.Test.YtoiobhcgpajogaaGreatDoorWork4
namespace Go.Proofs.YtoiobhcgpajogaaGreatDoor
open Go.RowKit

section
variable {lo hi : Nat} {w w' : World} {g g' : Nat → Nat} {p b : Nat} {sv : Value} {qs : List Value} {G : Lg}

theorem RollAt.mem (h : RollAt w g p b sv qs G) : b < w.heap.size ∧ g b = p ∧ w.cell? ⟨b, 0, none⟩ = some sv ∧ w.frozen? ⟨b, 0, none⟩ = false := by
  obtain ⟨vl, svs, ta, tc, h1, -⟩ := h
  exact ⟨h1.1.lt, h1.2, h1.1.cell 0, h1.1.free 0⟩

theorem RollAt.seat (h : RollAt w g p b sv qs G) (i : Nat) : w.cell? ⟨b, 3 + i, none⟩ = qs[i]? ∧ w.frozen? ⟨b, 3 + i, none⟩ = false := by
  obtain ⟨vl, svs, ta, tc, h1, -⟩ := h
  refine ⟨(h1.1.cell (3 + i)).trans ?_, h1.1.free _⟩
  rw [show 3 + i = i + 1 + 1 + 1 by omega]; rfl

theorem RollAt.store (h : RollAt w g p b sv qs G) {i : Nat} {v sv' : Value} {qs' : List Value} (he : ∀ x y : Value, (sv :: x :: y :: qs).set i v = sv' :: x :: y :: qs') :
    RollAt (w.setCell ⟨b, i, none⟩ v) g p b sv' qs' G ∧ Evo p (p + 1) g g w (w.setCell ⟨b, i, none⟩ v) := by
  obtain ⟨vl, svs, ta, tc, h1, h2, h3, h4, h5⟩ := h
  have EC : Evo p (p + 1) g g w (w.setCell ⟨b, i, none⟩ v) := evo_store _ h1.2
  have hbl : ∀ r, vl.ownBlock = some r → r ≠ b := by
    rintro r hr rfl
    have e1 := h3 _ hr
    have e2 := h1.2
    omega
  refine ⟨⟨vl, svs, ta, tc, ?_, ownsRow_setCell_other h2 (a := ⟨b, i, none⟩) (by intro h; exact hbl b (by simpa using h) rfl) _, h3, h4.frame EC (by omega), h5.frame EC (by omega)⟩, EC⟩
  have := h1.set i v
  rwa [he] at this

/-- What a walk needs to read the commits one behind the other. -/
theorem RollAt.line (h : RollAt w g p b sv qs G) : ∃ la lc, w.cell? ⟨b, 1, none⟩ = some (.slice la G.l.length lc) ∧ (∀ r, la = some ⟨r, 0, none⟩ → r < w.heap.size ∧ g r = p + 2) ∧ ∀ i (hi : i < G.l.length), ∃ r a c, la = some ⟨r, 0, none⟩ ∧ G.l.length ≤ lc ∧ w.cell? ⟨r, i, none⟩ = some (.slice a G.l[i].length c) ∧ SliceC w g (p + 4) (p + 4 + 2) a (encEnts G.l[i]) := by
  obtain ⟨vl, svs, ta, tc, h1, h2, h3, h4, h5⟩ := h
  obtain ⟨la, lc, rfl, -, hown⟩ := ownsRow.sliceAt h2
  refine ⟨la, lc, h1.1.cell 1, fun r hr => ⟨(h2.lt r (hown _ hr)).2, h3 r (hown _ hr)⟩, fun i hi => ?_⟩
  obtain ⟨r, cap, hv, hcap, -⟩ := ownsRow.some h2 (by omega)
  obtain ⟨rfl, -, rfl⟩ := Value.slice.inj hv
  obtain ⟨v, hv1, a, c, rfl, hs, hc⟩ := h4.get i hi
  refine ⟨r, a, c, rfl, hcap, by
    have hi' : i < svs.length := by rw [h4.length]; exact hi
    have := h2.cellAt i (by omega)
    rw [hv1] at this
    exact this, ?_⟩
  rcases hs with hs | ⟨b', o', rfl, hs⟩
  · exact .inl hs
  · exact .inr ⟨b', o', rfl, (hc _ rfl).1, .inl (by have := (hc _ rfl).2; simp only at this; omega), hs⟩

theorem RollAt.five (h : RollAt w g p b sv qs G) {q0 q1 q2 q3 q4 : Value} (hq : qs = [q0, q1, q2, q3, q4]) :
    RollAt (((((w.setCell ⟨b, 3, none⟩ (.pointer none)).setCell ⟨b, 4, none⟩ (.pointer none)).setCell ⟨b, 5, none⟩ (.pointer none)).setCell ⟨b, 6, none⟩ (.pointer none)).setCell ⟨b, 7, none⟩ (.pointer none)) g p b sv [.pointer none, .pointer none, .pointer none, .pointer none, .pointer none] G ∧
    Evo p (p + 1) g g w (((((w.setCell ⟨b, 3, none⟩ (.pointer none)).setCell ⟨b, 4, none⟩ (.pointer none)).setCell ⟨b, 5, none⟩ (.pointer none)).setCell ⟨b, 6, none⟩ (.pointer none)).setCell ⟨b, 7, none⟩ (.pointer none)) := by
  subst hq
  have s0 := h.store (i := 3) (v := .pointer none) (fun _ _ => rfl)
  have s1 := s0.1.store (i := 4) (v := .pointer none) (fun _ _ => rfl)
  have s2 := s1.1.store (i := 5) (v := .pointer none) (fun _ _ => rfl)
  have s3 := s2.1.store (i := 6) (v := .pointer none) (fun _ _ => rfl)
  have s4 := s3.1.store (i := 7) (v := .pointer none) (fun _ _ => rfl)
  exact ⟨s4.1, (((s0.2.trans s1.2).trans s2.2).trans s3.2).trans s4.2⟩
end

def seatW (ds : Nat → Nat) (S : Nat → Option Ded) : List Value := [seatP ds S 0, seatP ds S 1, seatP ds S 2, seatP ds S 3, seatP ds S 4]

theorem seatW_get (ds : Nat → Nat) (S : Nat → Option Ded) (s : Nat) (hs : s < 5) : (seatW ds S)[s]? = some (seatP ds S s) := by
  have h : s = 0 ∨ s = 1 ∨ s = 2 ∨ s = 3 ∨ s = 4 := by omega
  rcases h with rfl | rfl | rfl | rfl | rfl <;> rfl

theorem seatW_drop (ds : Nat → Nat) (S : Nat → Option Ded) (s : Nat) (hs : s < 5) (a x y : Value) : (a :: x :: y :: seatW ds S).set (3 + s) (.pointer none) = a :: x :: y :: seatW ds (upd S s none) := by
  have h : s = 0 ∨ s = 1 ∨ s = 2 ∨ s = 3 ∨ s = 4 := by omega
  rcases h with rfl | rfl | rfl | rfl | rfl <;> rfl

theorem seatW_take (ds : Nat → Nat) (S : Nat → Option Ded) (s d : Nat) (D : Ded) (hs : s < 5) (a x y : Value) : (a :: x :: y :: seatW ds S).set (3 + s) (.pointer (some ⟨d, 0, none⟩)) = a :: x :: y :: seatW (upd ds s d) (upd S s (some D)) := by
  unfold seatW
  simp only [seatP_upd]
  have h : s = 0 ∨ s = 1 ∨ s = 2 ∨ s = 3 ∨ s = 4 := by omega
  rcases h with rfl | rfl | rfl | rfl | rfl <;> rfl

theorem seatW_same (ds : Nat → Nat) (S : Nat → Option Ded) (s : Nat) (D D' : Ded) (h : S s = some D) : seatW ds (upd S s (some D')) = seatW ds S := by
  have e : ∀ j, seatP ds (upd S s (some D')) j = seatP ds S j := by
    intro j
    unfold seatP upd
    by_cases e : j = s
    · subst e; simp [h]
    · simp [e]
  unfold seatW
  simp only [e]

/-- A court at block c, of the colour p; its roll of p + 1 to p + 3; its sheet of p + 4 and p + 5; its deeds of p + 6 to p + 20. -/
structure CourtL (w : World) (g : Nat → Nat) (p c s : Nat) (ds : Nat → Nat) (N : Nat) (T : Tab) (G : Lg) (S : Nat → Option Ded) : Prop where
  lok : G.Ok
  roll : RollAt w g p c (.pointer (some ⟨s, 0, none⟩)) (seatW ds S) G
  sheet : SheetAt w g (p + 4) s T
  work : ∀ i, i < 5 → ∀ D, S i = some D → WorkAt w g (p + 6 + 3 * i) (ds i) D N

def CourtAt (w : World) (g : Nat → Nat) (p c N : Nat) (H : Ht) : Prop := H.v.Ok ∧ ∃ s ds, CourtL w g p c s ds N H.v.tab H.v.log H.seats

section
variable {lo hi : Nat} {w w' : World} {g g' : Nat → Nat} {p c s N : Nat} {ds : Nat → Nat} {T : Tab} {G : Lg} {S : Nat → Option Ded} {H : Ht}
theorem CourtL.frame (k : CourtL w g p c s ds N T G S) (e : Evo lo hi g g' w w') (hc : p + 21 ≤ lo ∨ hi ≤ p) : CourtL w' g' p c s ds N T G S :=
  ⟨k.lok, k.roll.frame e (by omega), k.sheet.frame e (by omega), fun i hi D hD => (k.work i hi D hD).frame e (by omega)⟩
theorem CourtL.below (k : CourtL w g p c s ds N T G S) (e : Below w.heap.size w w') : CourtL w' g p c s ds N T G S :=
  k.frame (lo := 0) (hi := 0) ⟨e.os, e.tape, e.output, e.size, fun _ _ => rfl, fun j hj _ => e.block j hj⟩ (by omega)
theorem CourtL.more (k : CourtL w g p c s ds N T G S) {N' : Nat} (hn : N ≤ N') : CourtL w g p c s ds N' T G S := ⟨k.lok, k.roll, k.sheet, fun i hi D hD => (k.work i hi D hD).more hn⟩
theorem CourtAt.frame (k : CourtAt w g p c N H) (e : Evo lo hi g g' w w') (hc : p + 21 ≤ lo ∨ hi ≤ p) : CourtAt w' g' p c N H := by
  obtain ⟨h, s, ds, k⟩ := k
  exact ⟨h, s, ds, k.frame e hc⟩
theorem CourtAt.below (k : CourtAt w g p c N H) (e : Below w.heap.size w w') : CourtAt w' g p c N H := by
  obtain ⟨h, s, ds, k⟩ := k
  exact ⟨h, s, ds, k.below e⟩
theorem CourtAt.more (k : CourtAt w g p c N H) {N' : Nat} (hn : N ≤ N') : CourtAt w g p c N' H := by
  obtain ⟨h, s, ds, k⟩ := k
  exact ⟨h, s, ds, k.more hn⟩
theorem CourtL.top (k : CourtL w g p c s ds N T G S) : w.cell? ⟨c, 0, none⟩ = some (.pointer (some ⟨s, 0, none⟩)) ∧ w.frozen? ⟨c, 0, none⟩ = false ∧ c < w.heap.size := ⟨k.roll.mem.2.2.1, k.roll.mem.2.2.2, k.roll.mem.1⟩
theorem CourtL.seat (k : CourtL w g p c s ds N T G S) {i : Nat} (hi : i < 5) : w.cell? ⟨c, 3 + i, none⟩ = some (seatP ds S i) ∧ w.frozen? ⟨c, 3 + i, none⟩ = false :=
  ⟨(k.roll.seat i).1.trans (seatW_get _ _ _ hi), (k.roll.seat i).2⟩
theorem CourtL.withWork (k : CourtL w g p c s ds N T G S) {i : Nat} {D D' : Ded} {N' : Nat} (hi : i < 5) (hn : N ≤ N') (hD : S i = some D) (e : Evo (p + 6 + 3 * i) (p + 6 + 3 * i + 3) g g' w w') (d : WorkAt w' g' (p + 6 + 3 * i) (ds i) D' N') : CourtL w' g' p c s ds N' T G (upd S i (some D')) := by
  refine ⟨k.lok, ?_, k.sheet.frame e (by omega), fun j hj E hE => ?_⟩
  · rw [seatW_same _ _ _ _ _ hD]; exact k.roll.frame e (by omega)
  · by_cases ej : j = i
    · subst ej
      simp only [upd_same, Option.some.injEq] at hE
      subst hE
      exact d
    · simp only [upd_other _ _ ej] at hE
      exact ((k.work j hj E hE).frame e (by omega)).more hn
theorem CourtL.withSheet (k : CourtL w g p c s ds N T G S) {T' : Tab} (e : Evo (p + 4) (p + 4 + 2) g g' w w') (d : SheetAt w' g' (p + 4) s T') : CourtL w' g' p c s ds N T' G S :=
  ⟨k.lok, k.roll.frame e (by omega), d, fun i hi D hD => (k.work i hi D hD).frame e (by omega)⟩
theorem CourtL.withRoll (k : CourtL w g p c s ds N T G S) {G' : Lg} (hok : G'.Ok) (e : Evo p (p + 4) g g' w w') (d : RollAt w' g' p c (.pointer (some ⟨s, 0, none⟩)) (seatW ds S) G') : CourtL w' g' p c s ds N T G' S :=
  ⟨hok, d, k.sheet.frame e (by omega), fun i hi D hD => (k.work i hi D hD).frame e (by omega)⟩
theorem CourtL.drop (k : CourtL w g p c s ds N T G S) {i : Nat} (hi : i < 5) : CourtL (w.setCell ⟨c, 3 + i, none⟩ (.pointer none)) g p c s ds N T G (upd S i none) ∧ Evo p (p + 1) g g w (w.setCell ⟨c, 3 + i, none⟩ (.pointer none)) := by
  obtain ⟨r, e⟩ := k.roll.store (i := 3 + i) (v := .pointer none) (fun x y => seatW_drop ds S i hi _ x y)
  refine ⟨⟨k.lok, r, k.sheet.frame e (by omega), fun j hj E hE => ?_⟩, e⟩
  by_cases ej : j = i
  · subst ej; simp only [upd_same] at hE; cases hE
  · simp only [upd_other _ _ ej] at hE
    exact (k.work j hj E hE).frame e (by omega)
theorem CourtL.take (k : CourtL w g p c s ds N T G S) {i d : Nat} {D : Ded} (hi : i < 5) (hd : WorkAt w g (p + 6 + 3 * i) d D N) : CourtL (w.setCell ⟨c, 3 + i, none⟩ (.pointer (some ⟨d, 0, none⟩))) g p c s (upd ds i d) N T G (upd S i (some D)) ∧ Evo p (p + 1) g g w (w.setCell ⟨c, 3 + i, none⟩ (.pointer (some ⟨d, 0, none⟩))) := by
  obtain ⟨r, e⟩ := k.roll.store (i := 3 + i) (v := .pointer (some ⟨d, 0, none⟩)) (fun x y => seatW_take ds S i d D hi _ x y)
  refine ⟨⟨k.lok, r, k.sheet.frame e (by omega), fun j hj E hE => ?_⟩, e⟩
  by_cases ej : j = i
  · subst ej
    simp only [upd_same, Option.some.injEq] at hE ⊢
    subst hE
    exact hd.frame e (by omega)
  · simp only [upd_other _ _ ej] at hE ⊢
    exact (k.work j hj E hE).frame e (by omega)
end

theorem court_New (g : Nat → Nat) (p : Nat) (w : World) : Calls Tryz.prog 12 #[] w fun e w' => ∃ c g', e = .returned (.pointer (some ⟨c, 0, none⟩)) ∧ Evo 0 0 g g' w w' ∧ w.heap.size ≤ c ∧ CourtAt w' g' p c 0 Ht.new := by
  go_enter Tryz.func12, Tryz.ntmps12
  go_wp2_with fail
  refine (sheet_New g (p + 4) w).mono ?_
  rintro e w1 ⟨s, g1, rfl, hE1, -, hS1⟩
  have E1 := hid hE1
  have S1 := hid hS1
  clear hE1 hS1
  go_wp2
  go_ret
  have hE := Evo.alloc g1 p w1 (.cells #[.pointer (some ⟨s, 0, none⟩), .slice none 0 0, .slice none 0 0, .pointer none, .pointer none, .pointer none, .pointer none, .pointer none] 67)
  refine ⟨w1.heap.size, extc g1 w1 p, rfl, E1.out.trans hE, E1.out.size, Vt.new_ok, s, fun _ => 0, Lg.new_ok, ?_, S1.out.frame hE (by omega), fun i _ D hD => by cases hD⟩
  exact ⟨.slice none 0 0, [], none, 0, LocC.new g1 p w1 67 (.pointer (some ⟨s, 0, none⟩) :: .slice none 0 0 :: .slice none 0 0 :: seatW (fun _ => 0) (fun _ => none)), World.ownsRow_nil _ _ _ _, nofun, trivial, RowB.nil _ _ _⟩

end Go.Proofs.YtoiobhcgpajogaaGreatDoor
