/- The walks of a hall: Least, begin, done. -/
import Derived.Test.YtoiobhcgpajogabGreatDoorHall1
namespace Go.Proofs.YtoiobhcgpajogabGreatDoor
open Go.RowKit

theorem run_seats (f : Nat → Value) (k : Nat) (hk : k < 5) (hp : ∀ j, j < 5 → ∃ a, f j = .pointer a) (w : World) : (Instr.index 47 (.agg #[f 0, f 1, f 2, f 3, f 4]) (.int .i64 (k : Int))).run Tryz.prog w = .ok (f k) w := by
  obtain ⟨a0, h0⟩ := hp 0 (by omega)
  obtain ⟨a1, h1⟩ := hp 1 (by omega)
  obtain ⟨a2, h2⟩ := hp 2 (by omega)
  obtain ⟨a3, h3⟩ := hp 3 (by omega)
  obtain ⟨a4, h4⟩ := hp 4 (by omega)
  have h : k = 0 ∨ k = 1 ∨ k = 2 ∨ k = 3 ∨ k = 4 := by omega
  rcases h with rfl | rfl | rfl | rfl | rfl <;> simp [h0, h1, h2, h3, h4, Instr.index, run_underlying Tryz.underlying47, asIntOf, go_sem] <;> rfl

theorem seatP_ptr (ds : Nat → Nat) (S : Nat → Option Ded) (j : Nat) : ∃ a, seatP ds S j = .pointer a := by
  unfold seatP
  cases S j with
  | none => exact ⟨_, rfl⟩
  | some D => exact ⟨_, rfl⟩

set_option maxHeartbeats 2000000 in
set_option maxRecDepth 100000 in
theorem hall_Least (g : Nat → Nat) (p h : Nat) (H : Ht) (w : World) (hH : HallAt w g p h H) :
    Calls Tryz.prog 26 #[.pointer (some ⟨h, 0, none⟩)] w (fun e w' => e = .returned (.int .i64 (leastH H)) ∧ w = w') := by
  obtain ⟨vp, ds, hC⟩ := hH
  obtain ⟨c0, t, b, hV⟩ := hC.top
  obtain ⟨v0, -, -, hvl⟩ := hV.cells
  have HL := hid (table_Last g (p + 1 + 1) t H.v.tab w hV.2.2.1)
  obtain ⟨s0, -, hlt⟩ := hC.seat (s := 0) (by omega)
  obtain ⟨s1, -, -⟩ := hC.seat (s := 1) (by omega)
  obtain ⟨s2, -, -⟩ := hC.seat (s := 2) (by omega)
  obtain ⟨s3, -, -⟩ := hC.seat (s := 3) (by omega)
  obtain ⟨s4, -, -⟩ := hC.seat (s := 4) (by omega)
  have HD := hid (fun s hs D hD => deed_At g (p + 12 + s) (ds s) D w (hC.deed s hs D hD))
  have HR := hid (fun k hk w => run_seats (seatP ds H.seats) k hk (fun j _ => seatP_ptr ds H.seats j) w)
  have HE := hid (show leastH H = leastGo H.v.tab H.seats 5 from rfl)
  have HS := hid (fun k => (show leastGo H.v.tab H.seats (k + 1) = match H.seats k with | none => leastGo H.v.tab H.seats k | some D => min (leastGo H.v.tab H.seats k) D.beg from rfl))
  have H0 := hid (show leastGo H.v.tab H.seats 0 = H.v.tab.last from rfl)
  have HP := hid (fun k => (show seatP ds H.seats k = match H.seats k with | none => .pointer none | some _ => .pointer (some ⟨ds k, 0, none⟩) from rfl))
  clear hV hC
  generalize leastH H = x at *
  generalize leastGo H.v.tab H.seats = f at *
  generalize seatP ds H.seats = sp at *
  go_enter Tryz.func26, Tryz.ntmps26
  go_wp2_with fail
  refine HL.out.mono ?_
  rintro e w1 ⟨rfl, rfl⟩
  go_wp2
  clear s0 s1 s2 s3 s4 c0 v0
  go_loop [3, 18] (fun n i => ∃ k : Nat, k ≤ 5 ∧ n = .int .i64 (f k) ∧ i = .int .i64 k) (fun _ i => 5 - (intOf i).toNat)
  case atStart => exact ⟨0, by omega, by rw [H0.out], rfl⟩
  case round =>
    obtain ⟨k, hk, rfl, rfl⟩ := hrel
    by_cases h5 : k < 5
    · have hki : (k : Int) < 5 := by omega
      have hk0 : (0 : Int) ≤ (k : Int) := by omega
      have hx := HR.out k h5 w
      have hst := HS.out k
      have hsp := HP.out k
      cases hd : H.seats k with
      | none =>
        rw [hd] at hst hsp
        simp only at hst hsp
        rw [hsp] at hx
        have HST := hid hst
        clear hst hd hsp
        go_wp2
        go_round
        case rel => exact ⟨k + 1, by omega, by rw [HST.out], by go_num⟩
        case measure => simp [intOf]; omega
      | some D =>
        have hda := hid (HD.out k h5 D hd)
        rw [hd] at hst hsp
        simp only at hst hsp
        rw [hsp] at hx
        have HST := hid hst
        clear hst hd hsp
        generalize f k = m at *
        go_wp2_with fail
        refine hda.out.mono ?_
        rintro e w1 ⟨rfl, rfl⟩
        by_cases hle : m ≤ D.beg
        · have hmin := hid (show min m D.beg = m by omega)
          go_wp2
          go_round
          case rel => exact ⟨k + 1, by omega, by rw [HST.out, hmin.out], by go_num⟩
          case measure => simp [intOf]; omega
        · have hmin := hid (show min m D.beg = D.beg by omega)
          have hle' : D.beg < m := by omega
          go_wp2
          go_round
          case rel => exact ⟨k + 1, by omega, by rw [HST.out, hmin.out], by go_num⟩
          case measure => simp [intOf]; omega
    · obtain rfl : k = 5 := by omega
      rw [← HE.out]
      go_wp2
      go_ret
      exact ⟨rfl, rfl⟩

def EvPost (g : Nat → Nat) (p h : Nat) (x : Evt × Ht) (w : World) (e : Ending) (w' : World) : Prop :=
  ∃ a cap g', e = .returned (.agg #[.int .i64 x.1.code, .int .i64 x.1.n, .bool x.1.v.there, .string x.1.v.bytes, .slice a x.1.l.length cap]) ∧ HallAt w' g' p h x.2 ∧ Evo p (p + 17) g g' w w' ∧ SliceAt w' a (encEnts x.1.l) ∧ ∀ ad, a = some ad → w.heap.size ≤ ad.block

def stL (x : St) : List Value := [.int .i64 x.kind, .int .i64 x.s, .int .i64 x.mode, .int .i64 x.at_, .int .i64 x.key, .int .i64 x.to_, .int .i64 x.keep, .string x.bytes]
def evL : List Value := [.int .i64 0, .int .i64 0, .bool false, .string ⟨#[]⟩, .slice none 0 0]

theorem evo_storeNew {lo hi : Nat} {g g' : Nat → Nat} {w w1 : World} (h : Evo lo hi g g' w w1) {b i : Nat} (hb : w.heap.size ≤ b) (v : Value) : Evo lo hi g g' w (w1.setCell ⟨b, i, none⟩ v) :=
  ⟨h.os, h.tape, h.output, by have := h.size; simpa using this, h.col, fun k hk hn => (Below.heap_setCell _ _ _ _ (by show k ≠ b; omega)).trans (h.same k hk hn)⟩

/-- A step has begun: its argument lies at bx, its result at be. -/
structure Beg (w : World) (g : Nat → Nat) (p bx be : Nat) (x : St) (g2 : Nat → Nat) (w2 : World) : Prop where
  evo : Evo p (p + 17) g g2 w w2
  arg : LocC w2 g2 (p + 17) bx 75 (stL x)
  ev : LocC w2 g2 (p + 17) be 87 evL
  newx : w.heap.size ≤ bx
  newe : w.heap.size ≤ be
  ne : be ≠ bx

theorem Beg.start (w : World) (g : Nat → Nat) (p : Nat) (x : St) : Beg w g p w.heap.size (w.heap.size + 1) x (extc (extc g w (p + 17)) (w.alloc (.cells (stL x).toArray 75)) (p + 17)) ((w.alloc (.cells (stL x).toArray 75)).alloc (.cells evL.toArray 87)) ∧
    Evo 0 0 g (extc (extc g w (p + 17)) (w.alloc (.cells (stL x).toArray 75)) (p + 17)) w ((w.alloc (.cells (stL x).toArray 75)).alloc (.cells evL.toArray 87)) := by
  have e1 := Evo.alloc g (p + 17) w (.cells (stL x).toArray 75)
  have e2 := Evo.alloc (extc g w (p + 17)) (p + 17) (w.alloc (.cells (stL x).toArray 75)) (.cells evL.toArray 87)
  have l2 := LocC.new (extc g w (p + 17)) (p + 17) (w.alloc (.cells (stL x).toArray 75)) 87 evL
  rw [World.size_alloc] at l2
  exact ⟨⟨(e1.trans e2).none (Nat.le_refl _), (LocC.new g (p + 17) w _ _).frame e2 (by omega), l2, Nat.le_refl _, by omega, by omega⟩, e1.trans e2⟩

theorem heap_five (w : World) (b : Nat) (v0 v1 v2 v3 v4 : Value) (k : Nat) (h : k ≠ b) : (((((w.setCell ⟨b, 0, none⟩ v0).setCell ⟨b, 1, none⟩ v1).setCell ⟨b, 2, none⟩ v2).setCell ⟨b, 3, none⟩ v3).setCell ⟨b, 4, none⟩ v4).heap[k]? = w.heap[k]? := by
  rw [Below.heap_setCell _ ⟨b, 4, none⟩ v4 k h, Below.heap_setCell _ ⟨b, 3, none⟩ v3 k h, Below.heap_setCell _ ⟨b, 2, none⟩ v2 k h, Below.heap_setCell _ ⟨b, 1, none⟩ v1 k h, Below.heap_setCell _ ⟨b, 0, none⟩ v0 k h]

/-- The end of a step: what it tells is laid down. -/
theorem EvPost.done {g g9 : Nat → Nat} {p h be : Nat} {y : Evt × Ht} {w w9 : World} {v : Value} {a : Option Addr} {cap : Nat} (v0 v1 v2 v3 v4 : Value) (hH : HallAt w9 g9 p h y.2) (hE : Evo p (p + 17) g g9 w w9) (hb : w.heap.size ≤ be) (hg : g9 be = p + 17) (hs : SliceAt w9 a (encEnts y.1.l)) (hsb : ∀ ad, a = some ad → ad.block ≠ be ∧ w.heap.size ≤ ad.block)
    (hv : v = .agg #[.int .i64 y.1.code, .int .i64 y.1.n, .bool y.1.v.there, .string y.1.v.bytes, .slice a y.1.l.length cap]) :
    EvPost g p h y w (.returned v) (((((w9.setCell ⟨be, 0, none⟩ v0).setCell ⟨be, 1, none⟩ v1).setCell ⟨be, 2, none⟩ v2).setCell ⟨be, 3, none⟩ v3).setCell ⟨be, 4, none⟩ v4) := by
  have s0 : Evo (p + 17) (p + 17 + 1) g9 g9 w9 (w9.setCell ⟨be, 0, none⟩ v0) := evo_store _ hg
  have S := (((s0.trans (evo_store (i := 1) v1 hg)).trans (evo_store (i := 2) v2 hg)).trans (evo_store (i := 3) v3 hg)).trans (evo_store (i := 4) v4 hg)
  refine ⟨a, cap, g9, by rw [hv], hH.frame S (by omega), evo_storeNew (evo_storeNew (evo_storeNew (evo_storeNew (evo_storeNew hE hb v0) hb v1) hb v2) hb v3) hb v4, ?_, fun ad e => (hsb ad e).2⟩
  refine hs.lift (fun ad e => ?_)
  exact heap_five _ _ _ _ _ _ _ _ (hsb ad e).1

end Go.Proofs.YtoiobhcgpajogabGreatDoor
