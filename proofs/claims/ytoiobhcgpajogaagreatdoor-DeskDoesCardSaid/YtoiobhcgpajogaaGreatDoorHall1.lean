/- A hall, in plain words and in memory; the walks of New, Seat, Busy, Deed, Least. -/
import Derived.Test.YtoiobhcgpajogaaGreatDoorVault2
namespace Go.Proofs.YtoiobhcgpajogaaGreatDoor
open Go.RowKit

structure Ht where
  v : Vt
  seats : Nat → Option Ded

def Ht.new : Ht := ⟨Vt.new, fun _ => none⟩

structure St where
  kind : Int
  s : Int
  mode : Int
  at_ : Int
  key : Int
  to_ : Int
  keep : Int
  bytes : ByteArray

structure Evt where
  code : Int
  n : Int
  v : Val
  l : List Ent

def Evt.of (code n : Int) : Evt := ⟨code, n, Val.zero, []⟩

def leastGo (T : Tab) (S : Nat → Option Ded) : Nat → Int
  | 0 => T.last
  | k + 1 => match S k with | none => leastGo T S k | some D => min (leastGo T S k) D.beg

def leastH (H : Ht) : Int := leastGo H.v.tab H.seats 5

def isSeatB (s : Int) : Bool := decide (0 ≤ s) && decide (s < 5)

def beginH (H : Ht) (x : St) : Evt × Ht :=
  if (H.seats x.s.toNat).isSome then (Evt.of 8 0, H)
  else match beginV H.v.tab x.mode x.at_ with
    | (none, c) => (Evt.of c 0, H)
    | (some D, c) => (Evt.of c 0, ⟨H.v, upd H.seats x.s.toNat (some D)⟩)

def deedH (H : Ht) (x : St) (D : Ded) : Evt × Ht :=
  if x.kind = 2 then (⟨(getD D H.v.tab x.key).1.2, 0, (getD D H.v.tab x.key).1.1, []⟩, ⟨H.v, upd H.seats x.s.toNat (some (getD D H.v.tab x.key).2)⟩)
  else if x.kind = 3 then (Evt.of (putD D x.key ⟨true, x.bytes⟩).1 0, ⟨H.v, upd H.seats x.s.toNat (some (putD D x.key ⟨true, x.bytes⟩).2)⟩)
  else if x.kind = 4 then (Evt.of (putD D x.key Val.zero).1 0, ⟨H.v, upd H.seats x.s.toNat (some (putD D x.key Val.zero).2)⟩)
  else if x.kind = 5 then (⟨(listD D H.v.tab x.key x.to_).1.2, 0, Val.zero, (listD D H.v.tab x.key x.to_).1.1⟩, ⟨H.v, upd H.seats x.s.toNat (some (listD D H.v.tab x.key x.to_).2)⟩)
  else if x.kind = 6 then (Evt.of (commitV H.v D).1.2 (commitV H.v D).1.1, ⟨(commitV H.v D).2, upd H.seats x.s.toNat none⟩)
  else if x.kind = 10 then (Evt.of (tearV H.v D x.keep).1.2 (tearV H.v D x.keep).1.1, ⟨(tearV H.v D x.keep).2, fun _ => none⟩)
  else (Evt.of 0 0, ⟨H.v, upd H.seats x.s.toNat none⟩)

def deedO (H : Ht) (x : St) (o : Option Ded) : Evt × Ht :=
  match o with
  | none => (Evt.of 7 0, H)
  | some D => deedH H x D

def doH (H : Ht) (x : St) : Evt × Ht :=
  if x.kind < 1 ∨ 10 < x.kind then (Evt.of 3 0, H)
  else if x.kind = 8 then (Evt.of 0 ((clearT H.v.tab (leastH H)).1 : Int), ⟨⟨(clearT H.v.tab (leastH H)).2, H.v.log⟩, H.seats⟩)
  else if x.kind = 9 then (Evt.of 0 0, ⟨crashV H.v.log, fun _ => none⟩)
  else if isSeatB x.s = false then (Evt.of 1 0, H)
  else if x.kind = 1 then beginH H x
  else deedO H x (H.seats x.s.toNat)

/-! ### In memory -/

def seatP (ds : Nat → Nat) (S : Nat → Option Ded) (s : Nat) : Value := match S s with | none => .pointer none | some _ => .pointer (some ⟨ds s, 0, none⟩)

def hallL (vp : Nat) (ds : Nat → Nat) (S : Nat → Option Ded) : List Value := [.pointer (some ⟨vp, 0, none⟩), seatP ds S 0, seatP ds S 1, seatP ds S 2, seatP ds S 3, seatP ds S 4]

theorem hallL_get (vp : Nat) (ds : Nat → Nat) (S : Nat → Option Ded) (s : Nat) (hs : s < 5) : (hallL vp ds S)[1 + s]? = some (seatP ds S s) := by
  have h : s = 0 ∨ s = 1 ∨ s = 2 ∨ s = 3 ∨ s = 4 := by omega
  rcases h with rfl | rfl | rfl | rfl | rfl <;> rfl

theorem hallL_drop (vp : Nat) (ds : Nat → Nat) (S : Nat → Option Ded) (s : Nat) (hs : s < 5) : (hallL vp ds S).set (1 + s) (.pointer none) = hallL vp ds (upd S s none) := by
  have h : s = 0 ∨ s = 1 ∨ s = 2 ∨ s = 3 ∨ s = 4 := by omega
  rcases h with rfl | rfl | rfl | rfl | rfl <;> rfl

theorem seatP_upd (ds : Nat → Nat) (S : Nat → Option Ded) (s d : Nat) (D : Ded) (j : Nat) : seatP (upd ds s d) (upd S s (some D)) j = if j = s then .pointer (some ⟨d, 0, none⟩) else seatP ds S j := by
  unfold seatP upd
  by_cases e : j = s
  · simp [e]
  · simp [e]

theorem hallL_take (vp : Nat) (ds : Nat → Nat) (S : Nat → Option Ded) (s d : Nat) (D : Ded) (hs : s < 5) : (hallL vp ds S).set (1 + s) (.pointer (some ⟨d, 0, none⟩)) = hallL vp (upd ds s d) (upd S s (some D)) := by
  unfold hallL
  simp only [seatP_upd]
  have h : s = 0 ∨ s = 1 ∨ s = 2 ∨ s = 3 ∨ s = 4 := by omega
  rcases h with rfl | rfl | rfl | rfl | rfl <;> rfl

theorem hallL_same (vp : Nat) (ds : Nat → Nat) (S : Nat → Option Ded) (s : Nat) (D D' : Ded) (h : S s = some D) : hallL vp ds (upd S s (some D')) = hallL vp ds S := by
  have e : ∀ j, seatP ds (upd S s (some D')) j = seatP ds S j := by
    intro j
    unfold seatP upd
    by_cases e : j = s
    · subst e; simp [h]
    · simp [e]
  unfold hallL
  simp only [e]

/-- A hall at block h, of the colour p; its vault of p + 1 to p + 11; its deeds of p + 12 to p + 16. -/
structure HallC (w : World) (g : Nat → Nat) (p h vp : Nat) (ds : Nat → Nat) (H : Ht) : Prop where
  loc : LocC w g p h 58 (hallL vp ds H.seats)
  vault : VaultAt w g (p + 1) vp H.v
  deed : ∀ s, s < 5 → ∀ D, H.seats s = some D → DeedAt w g (p + 12 + s) (ds s) D

def HallAt (w : World) (g : Nat → Nat) (p h : Nat) (H : Ht) : Prop := ∃ vp ds, HallC w g p h vp ds H

section
variable {lo hi : Nat} {w w' : World} {g g' : Nat → Nat} {p h vp : Nat} {ds : Nat → Nat} {H : Ht}
theorem HallC.frame (k : HallC w g p h vp ds H) (e : Evo lo hi g g' w w') (hc : p + 17 ≤ lo ∨ hi ≤ p) : HallC w' g' p h vp ds H := ⟨k.loc.frame e (by omega), k.vault.frame e (by omega), fun s hs D hD => (k.deed s hs D hD).frame e (by omega)⟩
theorem HallC.below (k : HallC w g p h vp ds H) (e : Below w.heap.size w w') : HallC w' g p h vp ds H := ⟨k.loc.below e, k.vault.below e, fun s hs D hD => (k.deed s hs D hD).below e⟩
theorem HallAt.frame (k : HallAt w g p h H) (e : Evo lo hi g g' w w') (hc : p + 17 ≤ lo ∨ hi ≤ p) : HallAt w' g' p h H := by
  obtain ⟨vp, ds, k⟩ := k
  exact ⟨vp, ds, k.frame e hc⟩
theorem HallAt.below (k : HallAt w g p h H) (e : Below w.heap.size w w') : HallAt w' g p h H := by
  obtain ⟨vp, ds, k⟩ := k
  exact ⟨vp, ds, k.below e⟩
theorem HallC.withDeed (k : HallC w g p h vp ds H) {s : Nat} {D D' : Ded} (hs : s < 5) (hD : H.seats s = some D) (e : Evo (p + 12 + s) (p + 12 + s + 1) g g' w w') (d : DeedAt w' g' (p + 12 + s) (ds s) D') : HallC w' g' p h vp ds ⟨H.v, upd H.seats s (some D')⟩ := by
  refine ⟨?_, k.vault.frame e (by omega), fun j hj E hE => ?_⟩
  · show LocC w' g' p h 58 (hallL vp ds (upd H.seats s (some D')))
    rw [hallL_same _ _ _ _ _ _ hD]; exact k.loc.frame e (by omega)
  · by_cases ej : j = s
    · subst ej
      simp only [upd_same, Option.some.injEq] at hE
      subst hE
      exact d
    · simp only [upd_other _ _ ej] at hE
      exact (k.deed j hj E hE).frame e (by omega)
theorem HallC.withVault (k : HallC w g p h vp ds H) {V : Vt} (e : Evo (p + 1) (p + 1 + 11) g g' w w') (d : VaultAt w' g' (p + 1) vp V) : HallC w' g' p h vp ds ⟨V, H.seats⟩ :=
  ⟨k.loc.frame e (by omega), d, fun s hs D hD => (k.deed s hs D hD).frame e (by omega)⟩
theorem HallC.drop (k : HallC w g p h vp ds H) {s : Nat} (hs : s < 5) : HallC (w.setCell ⟨h, 1 + s, none⟩ (.pointer none)) g p h vp ds ⟨H.v, upd H.seats s none⟩ := by
  have e : Evo p (p + 1) g g w (w.setCell ⟨h, 1 + s, none⟩ (.pointer none)) := evo_store _ k.loc.2
  refine ⟨?_, k.vault.frame e (by omega), fun j hj E hE => ?_⟩
  · have := k.loc.set (1 + s) (.pointer none)
    rwa [hallL_drop _ _ _ _ hs] at this
  · by_cases ej : j = s
    · subst ej; simp only [upd_same] at hE; cases hE
    · simp only [upd_other _ _ ej] at hE
      exact (k.deed j hj E hE).frame e (by omega)
theorem HallC.take (k : HallC w g p h vp ds H) {s d : Nat} {D : Ded} (hs : s < 5) (hd : DeedAt w g (p + 12 + s) d D) : HallC (w.setCell ⟨h, 1 + s, none⟩ (.pointer (some ⟨d, 0, none⟩))) g p h vp (upd ds s d) ⟨H.v, upd H.seats s (some D)⟩ := by
  have e : Evo p (p + 1) g g w (w.setCell ⟨h, 1 + s, none⟩ (.pointer (some ⟨d, 0, none⟩))) := evo_store _ k.loc.2
  refine ⟨?_, k.vault.frame e (by omega), fun j hj E hE => ?_⟩
  · have := k.loc.set (1 + s) (.pointer (some ⟨d, 0, none⟩))
    rwa [hallL_take _ _ _ _ _ D hs] at this
  · by_cases ej : j = s
    · subst ej
      simp only [upd_same, Option.some.injEq] at hE ⊢
      subst hE
      exact hd.frame e (by omega)
    · simp only [upd_other _ _ ej] at hE ⊢
      exact (k.deed j hj E hE).frame e (by omega)
theorem HallC.seat (k : HallC w g p h vp ds H) {s : Nat} (hs : s < 5) : w.cell? ⟨h, 1 + s, none⟩ = some (seatP ds H.seats s) ∧ w.frozen? ⟨h, 1 + s, none⟩ = false ∧ h < w.heap.size :=
  ⟨(k.loc.1.cell (1 + s)).trans (hallL_get _ _ _ _ hs), k.loc.1.free _, k.loc.1.lt⟩
theorem HallC.top (k : HallC w g p h vp ds H) : w.cell? ⟨h, 0, none⟩ = some (.pointer (some ⟨vp, 0, none⟩)) ∧ ∃ t b, VaultC w g (p + 1) vp t b H.v := ⟨k.loc.1.cell 0, k.vault⟩
end

theorem seat_nat {s : Int} (h : isSeatB s = true) : ∃ n : Nat, n < 5 ∧ s = n := by
  unfold isSeatB at h
  simp only [Bool.and_eq_true, decide_eq_true_eq] at h
  exact ⟨s.toNat, by omega, by omega⟩

theorem hall_Seat (s : Int) (w : World) : Calls Tryz.prog 121 #[.int .i64 s] w (fun e w' => e = .returned (.bool (isSeatB s)) ∧ w = w') := by
  unfold isSeatB
  by_cases h0 : s < 0
  · have e : (decide (0 ≤ s) && decide (s < 5)) = false := by simp; omega
    rw [e]
    clear e
    go_enter Tryz.func121, Tryz.ntmps121
    go_wp2
    go_ret
    exact ⟨rfl, rfl⟩
  · have h0' : 0 ≤ s := by omega
    by_cases h5 : s < 5
    · have e : (decide (0 ≤ s) && decide (s < 5)) = true := by simp; omega
      rw [e]
      clear e
      go_enter Tryz.func121, Tryz.ntmps121
      go_wp2
      go_ret
      exact ⟨rfl, rfl⟩
    · have e : (decide (0 ≤ s) && decide (s < 5)) = false := by simp; omega
      rw [e]
      have h5' : 5 ≤ s := by omega
      clear e
      go_enter Tryz.func121, Tryz.ntmps121
      go_wp2
      go_ret
      exact ⟨rfl, rfl⟩

theorem hall_New (g : Nat → Nat) (p : Nat) (w : World) : Calls Tryz.prog 11 #[] w fun e w' => ∃ h g', e = .returned (.pointer (some ⟨h, 0, none⟩)) ∧ Evo 0 0 g g' w w' ∧ w.heap.size ≤ h ∧ HallAt w' g' p h Ht.new := by
  go_enter Tryz.func11, Tryz.ntmps11
  go_wp2_with fail
  refine (vault_New g (p + 1) w).mono ?_
  rintro e w1 ⟨vp, g1, rfl, hE1, -, hV1⟩
  have E1 := hid hE1
  have V1 := hid hV1
  clear hE1 hV1
  go_wp2
  go_ret
  have hE := Evo.alloc g1 p w1 (.cells #[.pointer (some ⟨vp, 0, none⟩), .pointer none, .pointer none, .pointer none, .pointer none, .pointer none] 58)
  exact ⟨w1.heap.size, extc g1 w1 p, rfl, E1.out.trans hE, E1.out.size, vp, fun _ => 0, LocC.new g1 p w1 58 (hallL vp (fun _ => 0) Ht.new.seats), V1.out.frame hE (by omega), fun s _ D hD => by cases hD⟩

end Go.Proofs.YtoiobhcgpajogaaGreatDoor
