/- A book: the walk of over. -/
import Derived.Test.YtoiobhcgpajogadGreatBook2
namespace Go.Proofs.YtoiobhcgpajogadGreat
open Go.RowKit

def evxL (ev : Evt) (a : Option Addr) (cp : Nat) : List Value := [.int .i64 ev.code, .int .i64 ev.n, .bool ev.v.there, .string ev.v.bytes, .slice a ev.l.length cp]

def OverPost (g : Nat → Nat) (p b nx N : Nat) (o : Option Bk) (B : Bk) (w : World) (e : Ending) (w' : World) : Prop :=
  e = .returned (.bool o.isSome) ∧ ∃ g', BookAt w' g' p b nx (N + 1) (o.getD B) ∧ Evo p nx g g' w w'

/-- The two places of what comes in. -/
structure Two (g : Nat → Nat) (nx bx be : Nat) (x : St) (ev : Evt) (a : Option Addr) (cp : Nat) (g2 : Nat → Nat) (w w2 : World) : Prop where
  evo : Evo 0 0 g g2 w w2
  st : LocC w2 g2 nx bx 55 (stL x)
  ev : LocC w2 g2 nx be 74 (evxL ev a cp)

theorem Two.start (g : Nat → Nat) (nx : Nat) (x : St) (ev : Evt) (a : Option Addr) (cp : Nat) (w : World) : Two g nx w.heap.size (w.heap.size + 1) x ev a cp (extc (extc g w nx) (w.alloc (.cells #[.int .i64 x.kind, .int .i64 x.s, .int .i64 x.mode, .int .i64 x.at_, .int .i64 x.key, .int .i64 x.to_, .int .i64 x.keep, .string x.bytes] 55)) nx) w ((w.alloc (.cells #[.int .i64 x.kind, .int .i64 x.s, .int .i64 x.mode, .int .i64 x.at_, .int .i64 x.key, .int .i64 x.to_, .int .i64 x.keep, .string x.bytes] 55)).alloc (.cells #[.int .i64 ev.code, .int .i64 ev.n, .bool ev.v.there, .string ev.v.bytes, .slice a ev.l.length cp] 74)) :=
  ⟨(Evo.alloc g nx w _).trans (Evo.alloc _ nx _ _), (LocC.new g nx w 55 (stL x)).alloc nx _, ⟨Loc.at (n := w.heap.size + 1) _ 74 (evxL ev a cp) (by simp), extc_new (by simp)⟩⟩

theorem Two.cells {g g2 : Nat → Nat} {nx bx be cp : Nat} {x : St} {ev : Evt} {a : Option Addr} {w w2 : World} (t : Two g nx bx be x ev a cp g2 w w2) : w2.cell? ⟨bx, 0, none⟩ = some (.int .i64 x.kind) ∧ w2.cell? ⟨bx, 1, none⟩ = some (.int .i64 x.s) ∧ w2.cell? ⟨be, 0, none⟩ = some (.int .i64 ev.code) ∧ w2.cell? ⟨be, 1, none⟩ = some (.int .i64 ev.n) :=
  ⟨t.st.1.cell 0, t.st.1.cell 1, t.ev.1.cell 0, t.ev.1.cell 1⟩

theorem Two.after {g g2 g3 : Nat → Nat} {nx bx be cp p : Nat} {x : St} {ev : Evt} {a : Option Addr} {w w2 w3 : World} (t : Two g nx bx be x ev a cp g2 w w2) (e : Evo p nx g2 g3 w2 w3) : w3.cell? ⟨bx, 0, none⟩ = some (.int .i64 x.kind) ∧ w3.cell? ⟨bx, 1, none⟩ = some (.int .i64 x.s) ∧ w3.cell? ⟨be, 0, none⟩ = some (.int .i64 ev.code) ∧ w3.cell? ⟨be, 1, none⟩ = some (.int .i64 ev.n) :=
  ⟨(t.st.frame e (by omega)).1.cell 0, (t.st.frame e (by omega)).1.cell 1, (t.ev.frame e (by omega)).1.cell 0, (t.ev.frame e (by omega)).1.cell 1⟩

theorem seat_yes {s : Int} (h : isSeatB s = true) : ∃ n : Nat, n < 5 ∧ s = n := seat_nat h

theorem seat_no {s : Int} (h : isSeatB s = false) : s < 0 ∨ 5 ≤ s := by
  unfold isSeatB at h
  by_cases h0 : 0 ≤ s
  · right
    have : decide (0 ≤ s) = true := by simpa using h0
    rw [this] at h
    simpa using h
  · left; omega

/-- All seats are free. -/
theorem BookAt.cleared {w : World} {g : Nat → Nat} {p b nx N : Nat} {B : Bk} (h : BookAt w g p b nx N B) : ∃ w', w' = ((((w.setCell ⟨b, 0, none⟩ (.pointer none)).setCell ⟨b, 1, none⟩ (.pointer none)).setCell ⟨b, 2, none⟩ (.pointer none)).setCell ⟨b, 3, none⟩ (.pointer none)).setCell ⟨b, 4, none⟩ (.pointer none) ∧
    BookAt w' g p b nx N ⟨fun _ => none, B.l⟩ ∧ Evo p (p + 1) g g w w' := by
  obtain ⟨v, L, x, hC⟩ := h
  obtain ⟨h0, e0⟩ := hC.closed (s := 0) (by omega)
  rw [upd_self] at h0
  obtain ⟨h1, e1⟩ := h0.closed (s := 1) (by omega)
  rw [upd_self] at h1
  obtain ⟨h2, e2⟩ := h1.closed (s := 2) (by omega)
  rw [upd_self] at h2
  obtain ⟨h3, e3⟩ := h2.closed (s := 3) (by omega)
  rw [upd_self] at h3
  obtain ⟨h4, e4⟩ := h3.closed (s := 4) (by omega)
  rw [upd_self] at h4
  refine ⟨_, rfl, ⟨v, L, x, ⟨?_, h4.row, h4.isL, h4.fin, fun y hy s hs d hd => (by cases hd), fun s hs d hd => (by cases hd), fun s t hs ht hne d e hd => (by cases hd), h4.few, h4.nxt⟩⟩, (((e0.trans e1).trans e2).trans e3).trans e4⟩
  have e := bookL_same (B := ⟨upd (upd (upd (upd (upd B.seats 0 none) 1 none) 2 none) 3 none) 4 none, B.l⟩) (B' := ⟨fun _ => none, B.l⟩) (x := x) (x' := x) (fun s hs => by
    have h : s = 0 ∨ s = 1 ∨ s = 2 ∨ s = 3 ∨ s = 4 := by omega
    rcases h with rfl | rfl | rfl | rfl | rfl <;> rfl) v
  rw [e]
  exact h4.loc

theorem BookAt.book {w : World} {g : Nat → Nat} {p b nx N : Nat} {B : Bk} (h : BookAt w g p b nx N B) : ∃ u0 u1 u2 u3 u4 : Value, w.cell? ⟨b, 0, none⟩ = some u0 ∧ w.cell? ⟨b, 1, none⟩ = some u1 ∧ w.cell? ⟨b, 2, none⟩ = some u2 ∧ w.cell? ⟨b, 3, none⟩ = some u3 ∧ w.cell? ⟨b, 4, none⟩ = some u4 ∧
    w.frozen? ⟨b, 0, none⟩ = false ∧ w.frozen? ⟨b, 1, none⟩ = false ∧ w.frozen? ⟨b, 2, none⟩ = false ∧ w.frozen? ⟨b, 3, none⟩ = false ∧ w.frozen? ⟨b, 4, none⟩ = false ∧ b < w.heap.size ∧ p + 3 ≤ nx := by
  obtain ⟨v, L, x, hC⟩ := h
  exact ⟨_, _, _, _, _, hC.loc.1.cell 0, hC.loc.1.cell 1, hC.loc.1.cell 2, hC.loc.1.cell 3, hC.loc.1.cell 4, hC.loc.1.free 0, hC.loc.1.free 1, hC.loc.1.free 2, hC.loc.1.free 3, hC.loc.1.free 4, hC.loc.1.lt, hC.nxt⟩

set_option maxHeartbeats 2000000 in
set_option maxRecDepth 100000 in
theorem over_abort (g : Nat → Nat) (p b nx N : Nat) (B : Bk) (x : St) (ev : Evt) (a : Option Addr) (cp : Nat) (w : World) (hN : N < 1000000) (hB : BookAt w g p b nx N B) (hk : x.kind = 7) :
    Calls Tryz.prog 33 #[.pointer (some ⟨b, 0, none⟩), .agg #[.int .i64 x.kind, .int .i64 x.s, .int .i64 x.mode, .int .i64 x.at_, .int .i64 x.key, .int .i64 x.to_, .int .i64 x.keep, .string x.bytes], .agg #[.int .i64 ev.code, .int .i64 ev.n, .bool ev.v.there, .string ev.v.bytes, .slice a ev.l.length cp]] w (OverPost g p b nx N (overK B x ev) B w) := by
  have KK := hid hk
  clear hk
  have HB := hid hB
  clear hB
  go_enter Tryz.func33, Tryz.ntmps33
  go_upto_region 1 with (fail)
  have T := hid (Two.start g nx x ev a cp w)
  have B2 := hid (HB.out.frame T.out.evo (by omega))
  clear HB
  generalize (w.alloc (.cells #[.int .i64 x.kind, .int .i64 x.s, .int .i64 x.mode, .int .i64 x.at_, .int .i64 x.key, .int .i64 x.to_, .int .i64 x.keep, .string x.bytes] 55)).alloc (.cells #[.int .i64 ev.code, .int .i64 ev.n, .bool ev.v.there, .string ev.v.bytes, .slice a ev.l.length cp] 74) = w2 at *
  generalize extc (extc g w nx) (w.alloc (.cells #[.int .i64 x.kind, .int .i64 x.s, .int .i64 x.mode, .int .i64 x.at_, .int .i64 x.key, .int .i64 x.to_, .int .i64 x.keep, .string x.bytes] 55)) nx = g2 at *
  generalize w.heap.size + 1 = be at *
  generalize w.heap.size = bx at *
  obtain ⟨c0, c1, c2, c3⟩ := T.out.cells
  rw [KK.out] at c0
  cases hs : isSeatB x.s with
  | false =>
    have hsn := seat_no hs
    have HS := hid hs
    clear hs
    have HO := hid (show overK B x ev = some B from by unfold overK; rw [KK.out]; simp [HS.out])
    rcases hsn with h | h
    · have h1 : ¬ 0 ≤ x.s := by omega
      go_wp2_with fail
      go_ret
      exact ⟨by rw [HO.out]; rfl, g2, by rw [HO.out]; exact B2.out.more (Nat.le_refl _) (by omega), T.out.evo.none (Nat.le_refl _)⟩
    · have h1 : 0 ≤ x.s := by omega
      have h2 : ¬ x.s < 5 := by omega
      go_wp2_with fail
      go_ret
      exact ⟨by rw [HO.out]; rfl, g2, by rw [HO.out]; exact B2.out.more (Nat.le_refl _) (by omega), T.out.evo.none (Nat.le_refl _)⟩
  | true =>
    obtain ⟨n, hn, hxn⟩ := seat_yes hs
    have hni : (n : Int) < 5 := by omega
    have hn0 : (0 : Int) ≤ (n : Int) := by omega
    have HS := hid hs
    have HX := hid hxn
    rw [hxn] at c1
    clear hs hxn
    have HO := hid (show overK B x ev = some (endB B n false 0) from by unfold overK; rw [KK.out, if_pos rfl, HS.out, HX.out]; rfl)
    have CE := hid (book_end g2 p b nx N B n false 0 w2 hn hN B2.out)
    go_wp2_with fail
    refine CE.out.mono ?_
    rintro e w3 ⟨rfl, g3, hb, hE⟩
    have B3 := hid hb
    have E3 := hid hE
    clear hb hE CE B2
    go_wp2_with fail
    go_ret
    exact ⟨by rw [HO.out]; rfl, g3, by rw [HO.out]; exact B3.out, (T.out.evo.none (Nat.le_refl _)).trans E3.out⟩

set_option maxHeartbeats 2000000 in
set_option maxRecDepth 100000 in
theorem over_commit (g : Nat → Nat) (p b nx N : Nat) (B : Bk) (x : St) (ev : Evt) (a : Option Addr) (cp : Nat) (w : World) (hN : N < 1000000) (hB : BookAt w g p b nx N B) (hk : x.kind = 6) :
    Calls Tryz.prog 33 #[.pointer (some ⟨b, 0, none⟩), .agg #[.int .i64 x.kind, .int .i64 x.s, .int .i64 x.mode, .int .i64 x.at_, .int .i64 x.key, .int .i64 x.to_, .int .i64 x.keep, .string x.bytes], .agg #[.int .i64 ev.code, .int .i64 ev.n, .bool ev.v.there, .string ev.v.bytes, .slice a ev.l.length cp]] w (OverPost g p b nx N (overK B x ev) B w) := by
  have KK := hid hk
  clear hk
  have HB := hid hB
  clear hB
  go_enter Tryz.func33, Tryz.ntmps33
  go_upto_region 1 with (fail)
  have T := hid (Two.start g nx x ev a cp w)
  have B2 := hid (HB.out.frame T.out.evo (by omega))
  clear HB
  generalize (w.alloc (.cells #[.int .i64 x.kind, .int .i64 x.s, .int .i64 x.mode, .int .i64 x.at_, .int .i64 x.key, .int .i64 x.to_, .int .i64 x.keep, .string x.bytes] 55)).alloc (.cells #[.int .i64 ev.code, .int .i64 ev.n, .bool ev.v.there, .string ev.v.bytes, .slice a ev.l.length cp] 74) = w2 at *
  generalize extc (extc g w nx) (w.alloc (.cells #[.int .i64 x.kind, .int .i64 x.s, .int .i64 x.mode, .int .i64 x.at_, .int .i64 x.key, .int .i64 x.to_, .int .i64 x.keep, .string x.bytes] 55)) nx = g2 at *
  generalize w.heap.size + 1 = be at *
  generalize w.heap.size = bx at *
  obtain ⟨c0, c1, c2, c3⟩ := T.out.cells
  rw [KK.out] at c0
  cases hs : isSeatB x.s with
  | false =>
    have hsn := seat_no hs
    have HS := hid hs
    clear hs
    have HO := hid (show overK B x ev = some B from by unfold overK; rw [KK.out]; simp [HS.out])
    rcases hsn with h | h
    · have h1 : ¬ 0 ≤ x.s := by omega
      go_wp2_with fail
      go_ret
      exact ⟨by rw [HO.out]; rfl, g2, by rw [HO.out]; exact B2.out.more (Nat.le_refl _) (by omega), T.out.evo.none (Nat.le_refl _)⟩
    · have h1 : 0 ≤ x.s := by omega
      have h2 : ¬ x.s < 5 := by omega
      go_wp2_with fail
      go_ret
      exact ⟨by rw [HO.out]; rfl, g2, by rw [HO.out]; exact B2.out.more (Nat.le_refl _) (by omega), T.out.evo.none (Nat.le_refl _)⟩
  | true =>
    obtain ⟨n, hn, hxn⟩ := seat_yes hs
    have hni : (n : Int) < 5 := by omega
    have hn0 : (0 : Int) ≤ (n : Int) := by omega
    have HS := hid hs
    have HX := hid hxn
    rw [hxn] at c1
    clear hs hxn
    have HO := hid (show overK B x ev = some (endB B n (ev.code == 0) ev.n) from by unfold overK; rw [KK.out, if_neg (by decide), if_pos rfl, HS.out, HX.out]; rfl)
    obtain ⟨dn, hdn⟩ : ∃ dn : Bool, (ev.code == 0) = dn := ⟨_, rfl⟩
    have hdn2 : decide (ev.code = 0) = dn := by rw [← hdn]; rfl
    rw [hdn] at HO
    have CE := hid (book_end g2 p b nx N B n dn ev.n w2 hn hN B2.out)
    go_wp2_with fail
    refine CE.out.mono ?_
    rintro e w3 ⟨rfl, g3, hb, hE⟩
    have B3 := hid hb
    have E3 := hid hE
    clear hb hE CE B2 hdn hdn2
    go_wp2_with fail
    go_ret
    exact ⟨by rw [HO.out]; rfl, g3, by rw [HO.out]; exact B3.out, (T.out.evo.none (Nat.le_refl _)).trans E3.out⟩

set_option maxHeartbeats 2000000 in
set_option maxRecDepth 100000 in
theorem over_crash (g : Nat → Nat) (p b nx N : Nat) (B : Bk) (x : St) (ev : Evt) (a : Option Addr) (cp : Nat) (w : World) (_ : N < 1000000) (hB : BookAt w g p b nx N B) (hk : x.kind = 9) :
    Calls Tryz.prog 33 #[.pointer (some ⟨b, 0, none⟩), .agg #[.int .i64 x.kind, .int .i64 x.s, .int .i64 x.mode, .int .i64 x.at_, .int .i64 x.key, .int .i64 x.to_, .int .i64 x.keep, .string x.bytes], .agg #[.int .i64 ev.code, .int .i64 ev.n, .bool ev.v.there, .string ev.v.bytes, .slice a ev.l.length cp]] w (OverPost g p b nx N (overK B x ev) B w) := by
  have KK := hid hk
  clear hk
  have HB := hid hB
  clear hB
  go_enter Tryz.func33, Tryz.ntmps33
  go_upto_region 1 with (fail)
  have T := hid (Two.start g nx x ev a cp w)
  have B2 := hid (HB.out.frame T.out.evo (by omega))
  clear HB
  generalize (w.alloc (.cells #[.int .i64 x.kind, .int .i64 x.s, .int .i64 x.mode, .int .i64 x.at_, .int .i64 x.key, .int .i64 x.to_, .int .i64 x.keep, .string x.bytes] 55)).alloc (.cells #[.int .i64 ev.code, .int .i64 ev.n, .bool ev.v.there, .string ev.v.bytes, .slice a ev.l.length cp] 74) = w2 at *
  generalize extc (extc g w nx) (w.alloc (.cells #[.int .i64 x.kind, .int .i64 x.s, .int .i64 x.mode, .int .i64 x.at_, .int .i64 x.key, .int .i64 x.to_, .int .i64 x.keep, .string x.bytes] 55)) nx = g2 at *
  generalize w.heap.size + 1 = be at *
  generalize w.heap.size = bx at *
  obtain ⟨c0, c1, c2, c3⟩ := T.out.cells
  rw [KK.out] at c0
  have HO := hid (show overK B x ev = some ⟨fun _ => none, B.l⟩ from by unfold overK; rw [KK.out, if_neg (by decide), if_neg (by decide), if_pos rfl])
  obtain ⟨u0, u1, u2, u3, u4, b0, b1, b2, b3, b4, f0, f1, f2, f3, f4, hlt, hnx⟩ := B2.out.book
  cases hs : isSeatB x.s with
  | false =>
    have hsn := seat_no hs
    clear hs
    rcases hsn with h | h
    · have h1 : ¬ 0 ≤ x.s := by omega
      go_wp2_with fail
      go_ret
      obtain ⟨wz, hwz, hBz, hEz⟩ := B2.out.cleared
      rw [← hwz]
      exact ⟨by rw [HO.out]; rfl, g2, by rw [HO.out]; exact hBz.more (Nat.le_refl _) (by omega), (T.out.evo.none (Nat.le_refl _)).trans (hEz.wide (Nat.le_refl _) (by omega))⟩
    · have h1 : 0 ≤ x.s := by omega
      have h2 : ¬ x.s < 5 := by omega
      go_wp2_with fail
      go_ret
      obtain ⟨wz, hwz, hBz, hEz⟩ := B2.out.cleared
      rw [← hwz]
      exact ⟨by rw [HO.out]; rfl, g2, by rw [HO.out]; exact hBz.more (Nat.le_refl _) (by omega), (T.out.evo.none (Nat.le_refl _)).trans (hEz.wide (Nat.le_refl _) (by omega))⟩
  | true =>
    obtain ⟨n, hn, hxn⟩ := seat_yes hs
    have hni : (n : Int) < 5 := by omega
    have hn0 : (0 : Int) ≤ (n : Int) := by omega
    rw [hxn] at c1
    clear hs hxn
    go_wp2_with fail
    go_ret
    obtain ⟨wz, hwz, hBz, hEz⟩ := B2.out.cleared
    rw [← hwz]
    exact ⟨by rw [HO.out]; rfl, g2, by rw [HO.out]; exact hBz.more (Nat.le_refl _) (by omega), (T.out.evo.none (Nat.le_refl _)).trans (hEz.wide (Nat.le_refl _) (by omega))⟩

set_option maxHeartbeats 2000000 in
set_option maxRecDepth 100000 in
theorem over_tear (g : Nat → Nat) (p b nx N : Nat) (B : Bk) (x : St) (ev : Evt) (a : Option Addr) (cp : Nat) (w : World) (hN : N < 1000000) (hB : BookAt w g p b nx N B) (hk : x.kind = 10) :
    Calls Tryz.prog 33 #[.pointer (some ⟨b, 0, none⟩), .agg #[.int .i64 x.kind, .int .i64 x.s, .int .i64 x.mode, .int .i64 x.at_, .int .i64 x.key, .int .i64 x.to_, .int .i64 x.keep, .string x.bytes], .agg #[.int .i64 ev.code, .int .i64 ev.n, .bool ev.v.there, .string ev.v.bytes, .slice a ev.l.length cp]] w (OverPost g p b nx N (overK B x ev) B w) := by
  have KK := hid hk
  clear hk
  have HB := hid hB
  clear hB
  go_enter Tryz.func33, Tryz.ntmps33
  go_upto_region 1 with (fail)
  have T := hid (Two.start g nx x ev a cp w)
  have B2 := hid (HB.out.frame T.out.evo (by omega))
  clear HB
  generalize (w.alloc (.cells #[.int .i64 x.kind, .int .i64 x.s, .int .i64 x.mode, .int .i64 x.at_, .int .i64 x.key, .int .i64 x.to_, .int .i64 x.keep, .string x.bytes] 55)).alloc (.cells #[.int .i64 ev.code, .int .i64 ev.n, .bool ev.v.there, .string ev.v.bytes, .slice a ev.l.length cp] 74) = w2 at *
  generalize extc (extc g w nx) (w.alloc (.cells #[.int .i64 x.kind, .int .i64 x.s, .int .i64 x.mode, .int .i64 x.at_, .int .i64 x.key, .int .i64 x.to_, .int .i64 x.keep, .string x.bytes] 55)) nx = g2 at *
  generalize w.heap.size + 1 = be at *
  generalize w.heap.size = bx at *
  obtain ⟨c0, c1, c2, c3⟩ := T.out.cells
  rw [KK.out] at c0
  cases hs : isSeatB x.s with
  | false =>
    have hsn := seat_no hs
    have HS := hid hs
    clear hs
    have HO := hid (show overK B x ev = some B from by unfold overK; rw [KK.out]; simp [HS.out])
    rcases hsn with h | h
    · have h1 : ¬ 0 ≤ x.s := by omega
      go_wp2_with fail
      go_ret
      exact ⟨by rw [HO.out]; rfl, g2, by rw [HO.out]; exact B2.out.more (Nat.le_refl _) (by omega), T.out.evo.none (Nat.le_refl _)⟩
    · have h1 : 0 ≤ x.s := by omega
      have h2 : ¬ x.s < 5 := by omega
      go_wp2_with fail
      go_ret
      exact ⟨by rw [HO.out]; rfl, g2, by rw [HO.out]; exact B2.out.more (Nat.le_refl _) (by omega), T.out.evo.none (Nat.le_refl _)⟩
  | true =>
    obtain ⟨n, hn, hxn⟩ := seat_yes hs
    have hni : (n : Int) < 5 := by omega
    have hn0 : (0 : Int) ≤ (n : Int) := by omega
    have HS := hid hs
    have HX := hid hxn
    rw [hxn] at c1
    clear hs hxn
    by_cases h7 : ev.code = 7
    · have HO := hid (show overK B x ev = some B from by unfold overK; rw [KK.out, if_neg (by decide), if_neg (by decide), if_neg (by decide), if_pos rfl, HS.out, if_pos rfl, if_pos h7])
      rw [h7] at c2
      clear h7
      go_wp2_with fail
      go_ret
      exact ⟨by rw [HO.out]; rfl, g2, by rw [HO.out]; exact B2.out.more (Nat.le_refl _) (by omega), T.out.evo.none (Nat.le_refl _)⟩
    · have HO := hid (show overK B x ev = some ⟨fun _ => none, (endB B n (decide (0 < ev.n)) ev.n).l⟩ from by unfold overK; rw [KK.out, if_neg (by decide), if_neg (by decide), if_neg (by decide), if_pos rfl, HS.out, if_pos rfl, if_neg h7, HX.out]; rfl)
      have h7' : (ev.code == 7) = false := by simpa using h7
      obtain ⟨dn, hdn⟩ : ∃ dn : Bool, decide (0 < ev.n) = dn := ⟨_, rfl⟩
      rw [hdn] at HO
      have CE := hid (book_end g2 p b nx N B n dn ev.n w2 hn hN B2.out)
      clear h7
      go_wp2_with fail
      refine CE.out.mono ?_
      rintro e w3 ⟨rfl, g3, hb, hE⟩
      have B3 := hid hb
      have E3 := hid hE
      have HD := hid hdn
      clear hb hE CE B2 hdn c0 c1 c2 c3
      obtain ⟨c0, c1, c2, c3⟩ := T.out.after E3.out
      rw [KK.out] at c0
      generalize endB B n dn ev.n = B' at *
      obtain ⟨u0, u1, u2, u3, u4, b0, b1, b2, b3, b4, f0, f1, f2, f3, f4, hlt, hnx⟩ := B3.out.book
      go_wp2_with fail
      go_ret
      obtain ⟨wz, hwz, hBz, hEz⟩ := B3.out.cleared
      rw [← hwz]
      exact ⟨by rw [HO.out]; rfl, g3, by rw [HO.out]; exact hBz, ((T.out.evo.none (Nat.le_refl _)).trans E3.out).trans (hEz.wide (Nat.le_refl _) (by omega))⟩

set_option maxHeartbeats 2000000 in
set_option maxRecDepth 100000 in
theorem over_else (g : Nat → Nat) (p b nx N : Nat) (B : Bk) (x : St) (ev : Evt) (a : Option Addr) (cp : Nat) (w : World) (_ : N < 1000000) (hB : BookAt w g p b nx N B) (hk : x.kind ≠ 6 ∧ x.kind ≠ 7 ∧ x.kind ≠ 9 ∧ x.kind ≠ 10) :
    Calls Tryz.prog 33 #[.pointer (some ⟨b, 0, none⟩), .agg #[.int .i64 x.kind, .int .i64 x.s, .int .i64 x.mode, .int .i64 x.at_, .int .i64 x.key, .int .i64 x.to_, .int .i64 x.keep, .string x.bytes], .agg #[.int .i64 ev.code, .int .i64 ev.n, .bool ev.v.there, .string ev.v.bytes, .slice a ev.l.length cp]] w (OverPost g p b nx N (overK B x ev) B w) := by
  have HO := hid (show overK B x ev = none from by unfold overK; rw [if_neg hk.2.1, if_neg hk.1, if_neg hk.2.2.1, if_neg hk.2.2.2])
  obtain ⟨o6, o7, o9, o10⟩ : (x.kind == 6) = false ∧ (x.kind == 7) = false ∧ (x.kind == 9) = false ∧ (x.kind == 10) = false := by
    simp only [beq_eq_false_iff_ne]
    exact hk
  clear hk
  have HB := hid hB
  clear hB
  go_enter Tryz.func33, Tryz.ntmps33
  go_upto_region 1 with (fail)
  have T := hid (Two.start g nx x ev a cp w)
  have B2 := hid (HB.out.frame T.out.evo (by omega))
  clear HB
  generalize (w.alloc (.cells #[.int .i64 x.kind, .int .i64 x.s, .int .i64 x.mode, .int .i64 x.at_, .int .i64 x.key, .int .i64 x.to_, .int .i64 x.keep, .string x.bytes] 55)).alloc (.cells #[.int .i64 ev.code, .int .i64 ev.n, .bool ev.v.there, .string ev.v.bytes, .slice a ev.l.length cp] 74) = w2 at *
  generalize extc (extc g w nx) (w.alloc (.cells #[.int .i64 x.kind, .int .i64 x.s, .int .i64 x.mode, .int .i64 x.at_, .int .i64 x.key, .int .i64 x.to_, .int .i64 x.keep, .string x.bytes] 55)) nx = g2 at *
  generalize w.heap.size + 1 = be at *
  generalize w.heap.size = bx at *
  obtain ⟨c0, c1, c2, c3⟩ := T.out.cells
  cases hs : isSeatB x.s with
  | false =>
    have hsn := seat_no hs
    clear hs
    rcases hsn with h | h
    · have h1 : ¬ 0 ≤ x.s := by omega
      go_wp2_with fail
      go_ret
      exact ⟨by rw [HO.out]; rfl, g2, by rw [HO.out]; exact B2.out.more (Nat.le_refl _) (by omega), T.out.evo.none (Nat.le_refl _)⟩
    · have h1 : 0 ≤ x.s := by omega
      have h2 : ¬ x.s < 5 := by omega
      go_wp2_with fail
      go_ret
      exact ⟨by rw [HO.out]; rfl, g2, by rw [HO.out]; exact B2.out.more (Nat.le_refl _) (by omega), T.out.evo.none (Nat.le_refl _)⟩
  | true =>
    obtain ⟨n, hn, hxn⟩ := seat_yes hs
    have hni : (n : Int) < 5 := by omega
    have hn0 : (0 : Int) ≤ (n : Int) := by omega
    rw [hxn] at c1
    clear hs hxn
    go_wp2_with fail
    go_ret
    exact ⟨by rw [HO.out]; rfl, g2, by rw [HO.out]; exact B2.out.more (Nat.le_refl _) (by omega), T.out.evo.none (Nat.le_refl _)⟩

theorem book_over (g : Nat → Nat) (p b nx N : Nat) (B : Bk) (x : St) (ev : Evt) (a : Option Addr) (cp : Nat) (w : World) (hN : N < 1000000) (hB : BookAt w g p b nx N B) :
    Calls Tryz.prog 33 #[.pointer (some ⟨b, 0, none⟩), .agg #[.int .i64 x.kind, .int .i64 x.s, .int .i64 x.mode, .int .i64 x.at_, .int .i64 x.key, .int .i64 x.to_, .int .i64 x.keep, .string x.bytes], .agg #[.int .i64 ev.code, .int .i64 ev.n, .bool ev.v.there, .string ev.v.bytes, .slice a ev.l.length cp]] w (OverPost g p b nx N (overK B x ev) B w) := by
  by_cases h6 : x.kind = 6
  · exact over_commit g p b nx N B x ev a cp w hN hB h6
  by_cases h7 : x.kind = 7
  · exact over_abort g p b nx N B x ev a cp w hN hB h7
  by_cases h9 : x.kind = 9
  · exact over_crash g p b nx N B x ev a cp w hN hB h9
  by_cases h10 : x.kind = 10
  · exact over_tear g p b nx N B x ev a cp w hN hB h10
  exact over_else g p b nx N B x ev a cp w hN hB ⟨h6, h7, h9, h10⟩

end Go.Proofs.YtoiobhcgpajogadGreat
