/- The house of a vault's law: step, a deed is done or torn. -/
import Derived.Test.YtoiobhcgpajogacHouse6
namespace Go.Proofs.Ytoiobhcgpajogac
open Go.RowKit

section
variable {w : World} {g g' : Nat → Nat}
theorem LogAt.recolor {p b : Nat} {G : Lg} (h : LogAt w g p b G) (hg : ∀ k, g k = p → g' k = p) : LogAt w g' p b G := by
  obtain ⟨a, cap, h1, ⟨r1, r2, r3, r4, r5⟩, h3⟩ := h
  exact ⟨a, cap, ⟨h1.1, hg _ h1.2⟩, ⟨r1, r2, r3, fun ad e => ⟨(r4 ad e).1, (r4 ad e).2.1, hg _ (r4 ad e).2.2.1, (r4 ad e).2.2.2⟩, r5⟩, h3⟩

theorem VaultAt.paint {p v : Nat} {V : Vt} (h : VaultAt w g p v V) (hg : ∀ k, p ≤ g k → g k < p + 11 → g' k = g k) : VaultAt w g' p v V := by
  obtain ⟨t, b, h0, h1, h2, h3⟩ := h
  exact ⟨t, b, h0, ⟨h1.1, (hg _ (by rw [h1.2]; omega) (by rw [h1.2]; omega)).trans h1.2⟩, h2.recolor (fun k j hj e => (hg k (by omega) (by omega)).trans e), h3.recolor (fun k e => (hg k (by omega) (by omega)).trans e)⟩

theorem RowP.recolor {q e : Nat} {v : Value} {xs : List Value} (h : RowP w g q e v xs) (hg : ∀ k, g k = q → g' k = q) : RowP w g' q e v xs := by
  rcases h with h | ⟨b, o, h1, h2, h3, h4⟩
  · exact .inl ⟨h.1, fun r hr => hg _ (h.2 r hr)⟩
  · exact .inr ⟨b, o, h1, h2, hg _ h3, h4⟩

theorem DeedAt.paint {p d : Nat} {D : Ded} (h : DeedAt w g p d D) (hg : ∀ k, g k = p → g' k = p) : DeedAt w g' p d D := ⟨h.1, h.2.1, hg _ h.2.2⟩

theorem HouseX.recolor {p h vp c nx N n m : Nat} {vd vw : Value} {V : Vt} {x : Nat → En} (k : HouseX w g p h vp c vd vw nx N n V x m) (hm : m < n) (hg : ∀ b, ¬ ((x m).cl + 1 ≤ g b ∧ g b < (x m).cl + 4) → g' b = g b) : HouseX w g' p h vp c vd vw nx N n V x m := by
  have h0 := k.col m hm
  refine ⟨⟨k.loc.1, (hg _ (by rw [k.loc.2]; omega)).trans k.loc.2⟩, k.rd.recolor (fun j e => (hg j (by omega)).trans e), k.rb.recolor (fun j e => (hg j (by omega)).trans e), k.vault.paint (fun j h1 h2 => hg j (by omega)),
    fun i hi hne => (k.deed i hi hne).paint (fun j e => (hg j (by have := k.apart i m hi hm hne; omega)).trans e), fun i hi hne => (k.work i hi hne).recolor (fun b j hj e => (hg b (by have := k.apart i m hi hm hne; omega)).trans e), k.col, k.apart, k.nxt, k.few⟩

/-- Three colours are told as three others. -/
def lift3 (g : Nat → Nat) (q q' : Nat) : Nat → Nat := fun b => if q ≤ g b ∧ g b < q + 3 then g b - q + q' else g b

theorem lift3_out {q q' b : Nat} (h : ¬ (q ≤ g b ∧ g b < q + 3)) : lift3 g q q' b = g b := if_neg h
theorem lift3_in {q q' b j : Nat} (hj : j < 3) (h : g b = q + j) : lift3 g q q' b = q' + j := by
  unfold lift3
  rw [if_pos (by omega)]; omega

theorem KeepB.lift3 {q q' : Nat} (h : 1 ≤ q) : KeepB g w (lift3 g q q') w := fun B w0 b => ⟨b.below, b.size, fun k hk => by
  have := b.zero k hk
  rw [lift3_out (by omega)]; exact this⟩
end

/-- The m-th deed's work is the court's. -/
structure Lent (w : World) (g : Nat → Nat) (p h vp c s : Nat) (vd vw : Value) (nx N n : Nat) (V : Vt) (x : Nat → En) (i cl dq bq bx : Nat) (Dq : Ded) (y : Vst) : Prop where
  hx : HouseX w g p h vp c vd vw nx N n V x i
  court : ∃ ds, CourtL w g (p + 12) c s ds N V.tab V.log (fun _ => none)
  ok : V.Ok
  work : WorkAt w g (p + 12 + 6 + 3 * 0) bq Dq N
  deed : DeedAt w g cl dq Dq
  col : p + 40 ≤ cl ∧ cl + 4 ≤ nx
  arg : LocC w g nx bx 72 (vsL y)

theorem HouseT.lend {w : World} {g : Nat → Nat} {p h vp c t s : Nat} {vd vw : Value} {nx N n : Nat} {V : Vt} {x : Nat → En} {i dq bq bx : Nat} {Dq : Ded} {y : Vst} (k : HouseT w g p h vp c t s vd vw nx N n V V x) (hi : i < n)
    (hd : (x i).d = dq) (hb : (x i).b = bq) (hD : (x i).D = Dq) (hE : (x i).E = Dq) (hx : LocC w g nx bx 72 (vsL y)) :
    ∃ g' cl, Lent w g' p h vp c s vd vw nx N n V x i cl dq bq bx Dq y ∧ KeepB g w g' w := by
  subst hd hb
  obtain ⟨ds, hl⟩ := k.ct
  have h0 := k.all.col i hi
  have h1 := k.all.nxt
  refine ⟨lift3 g ((x i).cl + 1) (p + 12 + 6 + 3 * 0), (x i).cl, ⟨(k.all.toX i).recolor hi (fun b hb => lift3_out (by omega)), ⟨ds, hl.recolor (fun b h2 h3 => lift3_out (by omega))⟩, k.all.court.1, ?_, ?_, h0, ⟨hx.1, (lift3_out (by rw [hx.2]; omega)).trans hx.2⟩⟩, KeepB.lift3 (by omega)⟩
  · have := k.all.work i hi
    rw [hE] at this
    exact this.recolor (fun b j hj e => lift3_in hj e)
  · have := k.all.deed i hi
    rw [hD] at this
    exact this.paint (fun b e => (lift3_out (by omega)).trans e)

/-- The court's first seat has the work. -/
structure Lent2 (w : World) (g : Nat → Nat) (p h vp c s : Nat) (vd vw : Value) (nx N n : Nat) (V U : Vt) (x : Nat → En) (i cl dq bx : Nat) (Dq : Ded) (y : Vst) : Prop where
  hx : HouseX w g p h vp c vd vw nx N n V x i
  court : ∃ ds, CourtL w g (p + 12) c s ds N U.tab U.log (upd (fun _ => none) 0 (some Dq))
  ok : U.Ok
  deed : DeedAt w g cl dq Dq
  col : p + 40 ≤ cl ∧ cl + 4 ≤ nx
  arg : LocC w g nx bx 72 (vsL y)

section
variable {lo hi : Nat} {w w' : World} {g g' : Nat → Nat} {p h vp c s : Nat} {vd vw : Value} {nx N n : Nat} {V U : Vt} {x : Nat → En} {i cl dq bq bx : Nat} {Dq : Ded} {y : Vst}
theorem Lent.below (k : Lent w g p h vp c s vd vw nx N n V x i cl dq bq bx Dq y) (e : Below w.heap.size w w') : Lent w' g p h vp c s vd vw nx N n V x i cl dq bq bx Dq y := by
  obtain ⟨ds, hl⟩ := k.court
  exact ⟨k.hx.below e, ⟨ds, hl.below e⟩, k.ok, k.work.below e, k.deed.below e, k.col, k.arg.below e⟩

theorem Lent.seat (k : Lent w g p h vp c s vd vw nx N n V x i cl dq bq bx Dq y) : (∃ u, w.cell? ⟨c, 3, none⟩ = some u) ∧ w.frozen? ⟨c, 3, none⟩ = false ∧ w.cell? ⟨h, 1, none⟩ = some (.pointer (some ⟨c, 0, none⟩)) := by
  obtain ⟨ds, hl⟩ := k.court
  have := hl.seat (i := 0) (by omega)
  exact ⟨⟨_, this.1⟩, this.2, k.hx.loc.1.cell 1⟩

theorem Lent.give (k : Lent w g p h vp c s vd vw nx N n V x i cl dq bq bx Dq y) : Lent2 (w.setCell ⟨c, 3, none⟩ (.pointer (some ⟨bq, 0, none⟩))) g p h vp c s vd vw nx N n V V x i cl dq bx Dq y ∧ KeepB g w g (w.setCell ⟨c, 3, none⟩ (.pointer (some ⟨bq, 0, none⟩))) := by
  obtain ⟨ds, hl⟩ := k.court
  have h0 := k.hx.nxt
  have h1 := k.col
  obtain ⟨hl2, e⟩ := hl.take (i := 0) (by omega) k.work
  exact ⟨⟨k.hx.frame e (by omega), ⟨_, hl2⟩, k.ok, k.deed.frame e (by omega), k.col, k.arg.frame e (by omega)⟩, KeepB.evo e (by omega)⟩

theorem Lent2.fresh (k : Lent2 w g p h vp c s vd vw nx N n V U x i cl dq bx Dq y) (e : Evo 0 0 g g' w w') : Lent2 w' g' p h vp c s vd vw nx N n V U x i cl dq bx Dq y := by
  obtain ⟨ds, hl⟩ := k.court
  exact ⟨k.hx.frame e (by omega), ⟨ds, hl.frame e (by omega)⟩, k.ok, k.deed.frame e (by omega), k.col, k.arg.frame e (by omega)⟩

theorem Lent2.store (k : Lent2 w g p h vp c s vd vw nx N n V U x i cl dq bx Dq y) (e : Evo (nx + 1) (nx + 2) g g' w w') : Lent2 w' g' p h vp c s vd vw nx N n V U x i cl dq bx Dq y := by
  obtain ⟨ds, hl⟩ := k.court
  have h0 := k.hx.nxt
  have h1 := k.col
  exact ⟨k.hx.frame e (by omega), ⟨ds, hl.frame e (by omega)⟩, k.ok, k.deed.frame e (by omega), k.col, k.arg.frame e (by omega)⟩

theorem Lent2.below (k : Lent2 w g p h vp c s vd vw nx N n V U x i cl dq bx Dq y) (e : Below w.heap.size w w') : Lent2 w' g p h vp c s vd vw nx N n V U x i cl dq bx Dq y := k.fresh (Evo.of_same e)

theorem Lent2.vault (k : Lent2 w g p h vp c s vd vw nx N n V U x i cl dq bx Dq y) {V2 : Vt} (e : Evo (p + 1) (p + 1 + 11) g g' w w') (hv : VaultAt w' g' (p + 1) vp V2) : Lent2 w' g' p h vp c s vd vw nx N n V2 U x i cl dq bx Dq y := by
  obtain ⟨ds, hl⟩ := k.court
  have h0 := k.hx.nxt
  have h1 := k.col
  exact ⟨k.hx.newVault e hv, ⟨ds, hl.frame e (by omega)⟩, k.ok, k.deed.frame e (by omega), k.col, k.arg.frame e (by omega)⟩

theorem Lent2.cells (k : Lent2 w g p h vp c s vd vw nx N n V U x i cl dq bx Dq y) : w.cell? ⟨h, 0, none⟩ = some (.pointer (some ⟨vp, 0, none⟩)) ∧ w.cell? ⟨h, 1, none⟩ = some (.pointer (some ⟨c, 0, none⟩)) ∧ w.cell? ⟨bx, 5, none⟩ = some (.int .i64 y.keep) :=
  ⟨k.hx.loc.1.cell 0, k.hx.loc.1.cell 1, k.arg.1.cell 5⟩

theorem Lent2.turn (k : Lent2 w g p h vp c s vd vw nx N n V U x i cl dq bx Dq y) {st : St} {z : Evt × Ht} (hN : N + 8 < 1000000) (hb : st.bytes.size ≤ maxLen) (hz : doH ⟨U, upd (fun _ => none) 0 (some Dq)⟩ st = z) :
    Calls Try.prog 68 #[.pointer (some ⟨c, 0, none⟩), .agg #[.int .i64 st.kind, .int .i64 st.s, .int .i64 st.mode, .int .i64 st.at_, .int .i64 st.key, .int .i64 st.to_, .int .i64 st.keep, .string st.bytes]] w (fun e w' => ∃ a cap, e = .returned (.agg #[.int .i64 z.1.code, .int .i64 z.1.n, .bool z.1.v.there, .string z.1.v.bytes, .slice a z.1.l.length cap]) ∧
      ∃ g', HouseX w' g' p h vp c vd vw nx (N + 8) n V x i ∧ CourtAt w' g' (p + 12) c (N + 8) z.2 ∧ Evo (p + 12) (p + 33) g g' w w') := by
  subst hz
  obtain ⟨ds, hl⟩ := k.court
  refine (court_Do g (p + 12) c N ⟨U, upd (fun _ => none) 0 (some Dq)⟩ st w hN hb ⟨k.ok, s, ds, hl⟩).mono ?_
  rintro e w' ⟨a, cap, g', rfl, hC, hE, -, -⟩
  exact ⟨a, cap, rfl, g', (k.hx.frame hE (by omega)).more (by omega), hC, hE.wide (by omega) (by omega)⟩
end

theorem LocC.cells5 {w : World} {g : Nat → Nat} {q be : Nat} (h : LocC w g q be 103 evL) : w.cell? ⟨be, 0, none⟩ = some (.int .i64 0) ∧ w.cell? ⟨be, 1, none⟩ = some (.int .i64 0) ∧ w.cell? ⟨be, 2, none⟩ = some (.bool false) ∧ w.cell? ⟨be, 3, none⟩ = some (.string ⟨#[]⟩) ∧ w.cell? ⟨be, 4, none⟩ = some (.slice none 0 0) ∧
    w.frozen? ⟨be, 0, none⟩ = false ∧ w.frozen? ⟨be, 1, none⟩ = false ∧ w.frozen? ⟨be, 2, none⟩ = false ∧ w.frozen? ⟨be, 3, none⟩ = false ∧ w.frozen? ⟨be, 4, none⟩ = false :=
  ⟨h.1.cell 0, h.1.cell 1, h.1.cell 2, h.1.cell 3, h.1.cell 4, h.1.free 0, h.1.free 1, h.1.free 2, h.1.free 3, h.1.free 4⟩

theorem evo_five (g : Nat → Nat) (w : World) (b q : Nat) (hq : g b = q) (v0 v1 v2 v3 v4 : Value) : Evo q (q + 1) g g w (((((w.setCell ⟨b, 0, none⟩ v0).setCell ⟨b, 1, none⟩ v1).setCell ⟨b, 2, none⟩ v2).setCell ⟨b, 3, none⟩ v3).setCell ⟨b, 4, none⟩ v4) :=
  ((((evo_store v0 hq).trans (evo_store v1 hq)).trans (evo_store v2 hq)).trans (evo_store v3 hq)).trans (evo_store v4 hq)

theorem five_at {w : World} {g : Nat → Nat} {q b : Nat} (h : LocC w g q b 103 evL) (v0 v1 v2 v3 v4 : Value) : LocC (((((w.setCell ⟨b, 0, none⟩ v0).setCell ⟨b, 1, none⟩ v1).setCell ⟨b, 2, none⟩ v2).setCell ⟨b, 3, none⟩ v3).setCell ⟨b, 4, none⟩ v4) g q b 103 [v0, v1, v2, v3, v4] :=
  ((((h.set 0 v0).set 1 v1).set 2 v2).set 3 v3).set 4 v4

theorem none_upd (E : Ded) : upd (upd (fun _ => none) 0 (some E)) 0 none = fun _ => (none : Option Ded) := by
  funext j; unfold upd; split <;> rfl

theorem doH_commit (V : Vt) (E : Ded) : doH ⟨V, upd (fun _ => none) 0 (some E)⟩ ⟨6, 0, 0, 0, 0, 0, 0, ⟨#[]⟩⟩ = (Evt.of (commitV V E).1.2 (commitV V E).1.1, ⟨(commitV V E).2, fun _ => none⟩) := by
  have h : doH ⟨V, upd (fun _ => none) 0 (some E)⟩ ⟨6, 0, 0, 0, 0, 0, 0, ⟨#[]⟩⟩ = (Evt.of (commitV V E).1.2 (commitV V E).1.1, ⟨(commitV V E).2, upd (upd (fun _ => none) 0 (some E)) 0 none⟩) := rfl
  rw [h, none_upd]

theorem doH_tear (V : Vt) (E : Ded) (keep : Int) : doH ⟨V, upd (fun _ => none) 0 (some E)⟩ ⟨10, 0, 0, 0, 0, 0, keep, ⟨#[]⟩⟩ = (Evt.of (tearV V E keep).1.2 (tearV V E keep).1.1, ⟨(tearV V E keep).2, fun _ => none⟩) := rfl

set_option maxHeartbeats 4000000 in
set_option maxRecDepth 100000 in
theorem house_commit (g : Nat → Nat) (p h N : Nat) (V : Vt) (y : Vst) (w : World) (hp : 1 ≤ p) (hN : N + 8 < 1000000) (_ : y.v.bytes.size ≤ maxLen) (hH : HouseAt w g p h N V) (hop : y.op = 3) :
    Calls Try.prog 43 #[.pointer (some ⟨h, 0, none⟩), .agg #[.int .i64 y.op, .int .i64 y.k, .int .i64 y.mode, .int .i64 y.at_, .int .i64 y.key, .int .i64 y.keep, .bool y.v.there, .string y.v.bytes]] w (StepPost g p h N V w) := by
  obtain ⟨vp, c, vd, vw, nx, n, x, hC, hDE⟩ := hH
  obtain ⟨t, s, hT⟩ := hC.toT
  have hnx := hC.nxt
  have H0 := hid hT
  have DE := hid hDE
  have OP := hid hop
  clear hC hDE hT hop
  go_enter Try.func43, Try.ntmps43
  try go_upto_region 1 with (fail)
  have hA := Evo.alloc g nx w (.cells #[.int .i64 y.op, .int .i64 y.k, .int .i64 y.mode, .int .i64 y.at_, .int .i64 y.key, .int .i64 y.keep, .bool y.v.there, .string y.v.bytes] 72)
  have X1 : Hid (LocC (w.alloc (.cells #[.int .i64 y.op, .int .i64 y.k, .int .i64 y.mode, .int .i64 y.at_, .int .i64 y.key, .int .i64 y.keep, .bool y.v.there, .string y.v.bytes] 72)) (extc g w nx) nx w.heap.size 72 (vsL y)) := hid (LocC.new g nx w 72 (vsL y))
  have H1 := hid (H0.out.frame hA (by omega))
  have K1 := hid (KeepB.evo hA (by omega))
  clear hA H0
  generalize w.alloc (.cells #[.int .i64 y.op, .int .i64 y.k, .int .i64 y.mode, .int .i64 y.at_, .int .i64 y.key, .int .i64 y.keep, .bool y.v.there, .string y.v.bytes] 72) = w1 at *
  generalize extc g w nx = g1 at *
  generalize w.heap.size = bx at *
  obtain ⟨c0, c1, c2, c3, c4, c5, c6, c7⟩ : w1.cell? ⟨bx, 0, none⟩ = some (.int .i64 y.op) ∧ w1.cell? ⟨bx, 1, none⟩ = some (.int .i64 y.k) ∧ w1.cell? ⟨bx, 2, none⟩ = some (.int .i64 y.mode) ∧ w1.cell? ⟨bx, 3, none⟩ = some (.int .i64 y.at_) ∧ w1.cell? ⟨bx, 4, none⟩ = some (.int .i64 y.key) ∧ w1.cell? ⟨bx, 5, none⟩ = some (.int .i64 y.keep) ∧ w1.cell? ⟨bx, 6, none⟩ = some (.bool y.v.there) ∧ w1.cell? ⟨bx, 7, none⟩ = some (.string y.v.bytes) :=
    ⟨X1.out.1.cell 0, X1.out.1.cell 1, X1.out.1.cell 2, X1.out.1.cell 3, X1.out.1.cell 4, X1.out.1.cell 5, X1.out.1.cell 6, X1.out.1.cell 7⟩
  obtain ⟨k0, kt, k1, ks⟩ := H1.out.way
  obtain ⟨k2, k3⟩ : w1.cell? ⟨h, 2, none⟩ = some vd ∧ w1.cell? ⟨h, 3, none⟩ = some vw := ⟨H1.out.all.loc.1.cell 2, H1.out.all.loc.1.cell 3⟩
  rw [OP.out] at c0
  have OX := OP
  clear OP
  obtain ⟨ad, cd, hvd, sd, -⟩ := H1.out.all.rd.slice
  obtain ⟨aw, cw, hvw, sw, -⟩ := H1.out.all.rb.slice
  rw [rowD_length] at hvd
  rw [rowB_length] at hvw
  subst hvd
  subst hvw
  have hfew := H1.out.all.few
  have SD := hid sd
  have SW := hid sw
  clear sd sw
  by_cases hn0 : n = 0
  · subst hn0
    go_wp2_with fail
    go_ret
    exact ⟨rfl, g1, V, ⟨vp, c, _, _, nx, 0, x, H1.out.all.moreN (by omega), DE.out⟩, fun h => h, K1.out⟩
  have hz : ((n : Int) == 0) = false := by rw [beq_eq_false_iff_ne]; omega
  obtain ⟨i, hi1, hi2⟩ := umodH y.k n ⟨by omega, by omega⟩
  have hin : i < n := by omega
  have hi0 : (0 : Int) ≤ (i : Int) := by omega
  obtain ⟨b1, f1, rfl⟩ : ∃ b o, ad = some ⟨b, o, none⟩ := by
    rcases SD.out with e | ⟨b, o, e, -⟩
    · have := rowD_length n x; rw [e] at this; simp at this; omega
    · exact ⟨b, o, e⟩
  obtain ⟨b2, f2, rfl⟩ : ∃ b o, aw = some ⟨b, o, none⟩ := by
    rcases SW.out with e | ⟨b, o, e, -⟩
    · have := rowB_length n x; rw [e] at this; simp at this; omega
    · exact ⟨b, o, e⟩
  have z1 : w1.cell? ⟨b1, f1 + i, none⟩ = some (.pointer (some ⟨(x i).d, 0, none⟩)) := by
    rcases SD.out with e | ⟨b, o, e, hc⟩
    · have := rowD_length n x; rw [e] at this; simp at this; omega
    · cases e; exact hc _ _ (rowD_get x hin)
  have z2 : w1.cell? ⟨b2, f2 + i, none⟩ = some (.pointer (some ⟨(x i).b, 0, none⟩)) := by
    rcases SW.out with e | ⟨b, o, e, hc⟩
    · have := rowB_length n x; rw [e] at this; simp at this; omega
    · cases e; exact hc _ _ (rowB_get x hin)
  obtain ⟨dq, hdq⟩ : ∃ d, (x i).d = d := ⟨_, rfl⟩
  obtain ⟨bq, hbq⟩ : ∃ b, (x i).b = b := ⟨_, rfl⟩
  obtain ⟨Dq, hDq⟩ : ∃ D, (x i).D = D := ⟨_, rfl⟩
  rw [hdq] at z1
  rw [hbq] at z2
  have XD := hid hdq
  have XB := hid hbq
  have XDD := hid hDq
  have XDE := hid ((DE.out i hin).symm.trans hDq)
  have HN0 := hid hn0
  clear hdq hbq hDq SD SW hn0
  have hS0 : Below w1.heap.size w1 w1.drew ∧ w1.drew.cell? ⟨bx, 1, none⟩ = some (.int .i64 y.k) ∧ w1.drew.cell? ⟨h, 2, none⟩ = some (.slice (some ⟨b1, f1, none⟩) n cd) ∧ w1.drew.cell? ⟨h, 3, none⟩ = some (.slice (some ⟨b2, f2, none⟩) n cw) ∧ w1.drew.cell? ⟨b1, f1 + i, none⟩ = some (.pointer (some ⟨dq, 0, none⟩)) ∧ w1.drew.cell? ⟨b2, f2 + i, none⟩ = some (.pointer (some ⟨bq, 0, none⟩)) := ⟨(Below.refl _ _).drew, c1, k2, k3, z1, z2⟩
  go_wp2_with fail
  clear k2 k3 z1 z2
  have hz1 : ¬ (n : Int) = 0 := by have := HN0.out; omega
  have hz2 : ¬ n = 0 := HN0.out
  have hwn : IntKind.u64.wrap (n : Int) = (n : Int) := by rw [IntKind.wrap_u64]; omega
  -- REGION 23commit
  refine wp_region_noPanic ?_
  refine wp_region_held_drew (S := (fun W : World => Below w1.heap.size w1 W ∧ W.cell? ⟨bx, 1, none⟩ = some (.int .i64 y.k) ∧ W.cell? ⟨h, 2, none⟩ = some (.slice (some ⟨b1, f1, none⟩) n cd) ∧ W.cell? ⟨h, 3, none⟩ = some (.slice (some ⟨b2, f2, none⟩) n cw) ∧ W.cell? ⟨b1, f1 + i, none⟩ = some (.pointer (some ⟨dq, 0, none⟩)) ∧ W.cell? ⟨b2, f2 + i, none⟩ = some (.pointer (some ⟨bq, 0, none⟩)))) (by kernel_rfl) ?_ (fun hH0 => ?_)
  · (try dsimp only); (first | assumption | exact hS0)
  refine wpAnyH_take (i := 0) (v := ?_) (by simp only [List.getElem?_toArray, List.getElem?_cons_zero]; rfl) (by kernel_rfl) (by kernel_rfl) (by kernel_rfl) (fun _ _ _ h => h) (Or.inl ⟨by rfl, ?_⟩) (by assumption) ?_
  rotate_left
  · intro w hSw; (try dsimp only at hSw); go_simp; (try with_reducible rfl)
  try simp only [Act.put, List.setIfInBounds_toArray, List.set_cons_zero, List.set_cons_succ]
  refine wpAnyH_take (i := 1) (v := ?_) (by simp only [List.getElem?_toArray, List.getElem?_cons_zero, List.getElem?_cons_succ]; rfl) (by kernel_rfl) (by kernel_rfl) (by kernel_rfl) (fun _ _ _ h => h) (Or.inl ⟨by rfl, ?_⟩) (by assumption) ?_
  rotate_left
  · intro w hSw; (try dsimp only at hSw); go_simp; (try with_reducible rfl)
  try simp only [Act.put, List.setIfInBounds_toArray, List.set_cons_zero, List.set_cons_succ]
  refine wpAnyH_take (i := 3) (v := ?_) (by simp only [List.getElem?_toArray, List.getElem?_cons_zero, List.getElem?_cons_succ]; rfl) (by kernel_rfl) (by kernel_rfl) (by kernel_rfl) (fun _ _ _ h => h) (Or.inl ⟨by rfl, ?_⟩) (by assumption) ?_
  rotate_left
  · intro w hSw; (try dsimp only at hSw); go_simp; (try with_reducible rfl)
  try simp only [Act.put, List.setIfInBounds_toArray, List.set_cons_zero, List.set_cons_succ]
  refine wpAnyH_take (i := 4) (v := ?_) (by simp only [List.getElem?_toArray, List.getElem?_cons_zero, List.getElem?_cons_succ]; rfl) (by kernel_rfl) (by kernel_rfl) (by kernel_rfl) (fun _ _ _ h => h) (Or.inl ⟨by rfl, ?_⟩) (by assumption) ?_
  rotate_left
  · intro w hSw; (try dsimp only at hSw); go_simp; (try with_reducible rfl)
  try simp only [Act.put, List.setIfInBounds_toArray, List.set_cons_zero, List.set_cons_succ]
  refine wpAnyH_take (i := 5) (v := ?_) (by simp only [List.getElem?_toArray, List.getElem?_cons_zero, List.getElem?_cons_succ]; rfl) (by kernel_rfl) (by kernel_rfl) (by kernel_rfl) (fun _ _ _ h => h) (Or.inl ⟨by rfl, ?_⟩) (by assumption) ?_
  rotate_left
  · intro w hSw; (try dsimp only at hSw); go_simp; (try with_reducible rfl)
  try simp only [Act.put, List.setIfInBounds_toArray, List.set_cons_zero, List.set_cons_succ]
  refine wpAnyH_take (i := 6) (v := ?_) (by simp only [List.getElem?_toArray, List.getElem?_cons_zero, List.getElem?_cons_succ]; rfl) (by kernel_rfl) (by kernel_rfl) (by kernel_rfl) (fun _ _ _ h => h) (Or.inl ⟨by rfl, ?_⟩) (by assumption) ?_
  rotate_left
  · intro w hSw; (try dsimp only at hSw); go_simp; (try with_reducible rfl)
  try simp only [Act.put, List.setIfInBounds_toArray, List.set_cons_zero, List.set_cons_succ]
  refine wpAnyH_take (i := 7) (v := ?_) (by simp only [List.getElem?_toArray, List.getElem?_cons_zero, List.getElem?_cons_succ]; rfl) (by kernel_rfl) (by kernel_rfl) (by kernel_rfl) (fun _ _ _ h => h) (Or.inl ⟨by rfl, ?_⟩) (by assumption) ?_
  rotate_left
  · intro w hSw; (try dsimp only at hSw); go_simp; (try with_reducible rfl)
  try simp only [Act.put, List.setIfInBounds_toArray, List.set_cons_zero, List.set_cons_succ]
  refine' join1 (fun W : World => Below w1.heap.size w1 W ∧ W.cell? ⟨bx, 1, none⟩ = some (.int .i64 y.k) ∧ W.cell? ⟨h, 2, none⟩ = some (.slice (some ⟨b1, f1, none⟩) n cd) ∧ W.cell? ⟨h, 3, none⟩ = some (.slice (some ⟨b2, f2, none⟩) n cw) ∧ W.cell? ⟨b1, f1 + i, none⟩ = some (.pointer (some ⟨dq, 0, none⟩)) ∧ W.cell? ⟨b2, f2 + i, none⟩ = some (.pointer (some ⟨bq, 0, none⟩))) _ (fun HJ1 => ?_) (fun wj1 hj1 => ?_)
  rotate_left
  · skip
    refine wpAnyH_ready (rs := [2, 8]) (by kernel_rfl) (by simp) ?_
    refine AllReadyH.cons (by simp only [List.getElem?_toArray, List.getElem?_cons_zero, List.getElem?_cons_succ]; rfl) (fun K hK => ?_) ?_
    go_simp
    refine hK.out _ _ ?_ (fun hH2 => ?_)
    · (try dsimp only); (first | assumption | exact hS0)
    clear hK K
    try simp only [Act.put, List.setIfInBounds_toArray, List.set_cons_zero, List.set_cons_succ]
    refine wpAnyH_ready (rs := [8]) (by kernel_rfl) (by simp) ?_
    refine AllReadyH.cons (by simp only [List.getElem?_toArray, List.getElem?_cons_zero, List.getElem?_cons_succ]; rfl) (fun K hK => ?_) AllReadyH.nil
    go_simp
    refine hK.out _ _ ?_ (fun hH3 => ?_)
    · (try dsimp only); (first | assumption | exact hS0)
    clear hK K hH2
    try simp only [Act.put, List.setIfInBounds_toArray, List.set_cons_zero, List.set_cons_succ]
    exact HJ1 _ (by assumption)
    refine AllReadyH.cons (by simp only [List.getElem?_toArray, List.getElem?_cons_zero, List.getElem?_cons_succ]; rfl) (fun K hK => ?_) AllReadyH.nil
    go_simp
    refine hK.out _ _ ?_ (fun hH4 => ?_)
    · (try dsimp only); (first | assumption | exact hS0)
    clear hK K
    try simp only [Act.put, List.setIfInBounds_toArray, List.set_cons_zero, List.set_cons_succ]
    refine wpAnyH_ready (rs := [2]) (by kernel_rfl) (by simp) ?_
    refine AllReadyH.cons (by simp only [List.getElem?_toArray, List.getElem?_cons_zero, List.getElem?_cons_succ]; rfl) (fun K hK => ?_) AllReadyH.nil
    go_simp
    refine hK.out _ _ ?_ (fun hH5 => ?_)
    · (try dsimp only); (first | assumption | exact hS0)
    clear hK K hH4
    try simp only [Act.put, List.setIfInBounds_toArray, List.set_cons_zero, List.set_cons_succ]
    exact HJ1 _ (by assumption)
  refine wpAnyH_take (i := 9) (v := ?_) (by simp only [List.getElem?_toArray, List.getElem?_cons_zero, List.getElem?_cons_succ]; rfl) (by kernel_rfl) (by kernel_rfl) (by kernel_rfl) (fun _ _ _ h => h) (Or.inl ⟨by rfl, ?_⟩) (by assumption) ?_
  rotate_left
  · intro w hSw; (try dsimp only at hSw); go_simp; (try with_reducible rfl)
  try simp only [Act.put, List.setIfInBounds_toArray, List.set_cons_zero, List.set_cons_succ]
  refine wpAnyH_ready (rs := [10]) (by kernel_rfl) (by simp) ?_
  refine AllReadyH.cons (by simp only [List.getElem?_toArray, List.getElem?_cons_zero, List.getElem?_cons_succ]; rfl) (fun K hK => ?_) AllReadyH.nil
  go_simp
  refine hK.out _ _ ?_ (fun hH6 => ?_)
  · (try dsimp only); (first | assumption | exact hS0)
  clear hK K
  try simp only [Act.put, List.setIfInBounds_toArray, List.set_cons_zero, List.set_cons_succ]
  refine wpAnyH_take (i := 11) (v := ?_) (by simp only [List.getElem?_toArray, List.getElem?_cons_zero, List.getElem?_cons_succ]; rfl) (by kernel_rfl) (by kernel_rfl) (by kernel_rfl) (fun _ _ _ h => h) (Or.inl ⟨by rfl, ?_⟩) (by assumption) ?_
  rotate_left
  · intro w hSw; (try dsimp only at hSw); go_simp; (try with_reducible rfl)
  try simp only [Act.put, List.setIfInBounds_toArray, List.set_cons_zero, List.set_cons_succ]
  refine wpAnyH_done (by kernel_rfl) ?_ _
  refine NoPanic.normal ?_
  skip
  -- END 23commit
  rw [show IntKind.i64.wrap ((IntKind.u64.wrap y.k).tmod (n : Int)) = (i : Int) from (IntWalk.i64_left _).trans hi1]
  obtain ⟨hB3, c1_, k2, k3, z1, z2⟩ := hj1
  clear hi1 hz hz1 hz2 hwn hS0 c1_
  go_wp2_with fail
  go_quiet (fail)
  have hB := hB3.trans ((below_drewN wj1 nq).mono hB3.size)
  have H2 := hid (H1.out.below hB)
  have X2 := hid (X1.out.below hB)
  have K2 := hid (K1.out.trans (KeepB.below hB))
  clear hB hB3 H1 X1 K1 c0 c1 c2 c3 c4 c5 c6 c7 k0 k1 k2 k3 kt ks z1 z2 hfew hi2
  generalize wj1.drewN nq = w2 at *
  have c0 : w2.cell? ⟨bx, 0, none⟩ = some (.int .i64 y.op) := X2.out.1.cell 0
  rw [OX.out] at c0
  clear OX
  have VOK := hid (show V.Ok ∧ V.tab.Ok from (by obtain ⟨b, hV⟩ := H2.out.vt; exact ⟨hV.1, hV.2.2.1.1⟩))
  obtain ⟨g2, cl, hL, hK⟩ := H2.out.lend hin XD.out XB.out XDD.out XDE.out X2.out
  have L2 := hid hL
  have K3 := hid (K2.out.trans hK)
  clear hL hK H2 X2 K2
  obtain ⟨⟨u3, q3⟩, f3, q1⟩ := L2.out.seat
  go_upto_region 34 with (fail)
  obtain ⟨hG, hK⟩ := L2.out.give
  have M3 := hid hG
  have K4 := hid (K3.out.trans hK)
  clear hG hK L2 K3 q1 q3 f3 c0
  generalize w2.setCell ⟨c, 3, none⟩ (.pointer (some ⟨bq, 0, none⟩)) = w3 at *
  obtain ⟨e0, e1, e5⟩ := M3.out.cells
  have CM := hid (vault_Commit g2 (p + 1) vp V cl dq Dq w3 M3.out.hx.vault M3.out.deed)
  have DC := hid (doH_commit V Dq)
  have SND := hid (fun hs => commitV_sound VOK.out.1 VOK.out.2 hs Dq)
  obtain ⟨cv, hcv⟩ : ∃ cv, commitV V Dq = cv := ⟨_, rfl⟩
  rw [hcv] at CM DC SND
  obtain ⟨⟨cn, cc⟩, V2⟩ := cv
  clear hcv
  unfold VTurnPost at CM
  simp only [Evt.of] at CM DC SND
  go_wp2_with fail
  refine CM.out.mono ?_
  rintro e w4 ⟨rfl, g4, hv, hE⟩
  have M4 := hid (M3.out.vault hE hv)
  have K5 := hid (K4.out.trans (KeepB.evo hE (by omega)))
  clear hv hE CM M3 K4 e0 e1 e5
  obtain ⟨e0, e1, e5⟩ := M4.out.cells
  have CD := hid (M4.out.turn (st := ⟨6, 0, 0, 0, 0, 0, 0, ⟨#[]⟩⟩) hN (show (ByteArray.mk #[]).size ≤ maxLen by decide) DC.out)
  go_wp2_with fail
  refine CD.out.mono ?_
  rintro e w5 ⟨a5, c5, rfl, g5, hX, hC, hE⟩
  have X5 := hid hX
  have C5 := hid hC
  have K6 := hid (K5.out.trans (KeepB.evo hE (by omega)))
  clear hX hC hE CD DC M4 K5 e0 e1 e5
  simp only
  go_upto_region 36 with (fail)
  have EA := Evo.alloc g5 (nx + 1) w5 (.cells #[.int .i64 cc, .int .i64 cn, .bool Val.zero.there, .string Val.zero.bytes, .slice a5 0 c5] 103)
  have R6 : Hid (LocC (w5.alloc (.cells #[.int .i64 cc, .int .i64 cn, .bool Val.zero.there, .string Val.zero.bytes, .slice a5 0 c5] 103)) (extc g5 w5 (nx + 1)) (nx + 1) w5.heap.size 103 [.int .i64 cc, .int .i64 cn, .bool Val.zero.there, .string Val.zero.bytes, .slice a5 0 c5]) := hid (LocC.new g5 (nx + 1) w5 103 [.int .i64 cc, .int .i64 cn, .bool Val.zero.there, .string Val.zero.bytes, .slice a5 0 c5])
  have X6 := hid (X5.out.frame EA (by omega))
  have C6 := hid (C5.out.frame EA (by omega))
  have K7 := hid (K6.out.trans (KeepB.evo EA (by omega)))
  clear EA X5 C5 K6
  generalize w5.alloc (.cells #[.int .i64 cc, .int .i64 cn, .bool Val.zero.there, .string Val.zero.bytes, .slice a5 0 c5] 103) = w6 at *
  generalize extc g5 w5 (nx + 1) = g6 at *
  generalize w5.heap.size = be at *
  have DR := hid (house_drop g6 p h vp c nx (N + 8) n (.slice (some ⟨b1, f1, none⟩) n cd) (.slice (some ⟨b2, f2, none⟩) n cw) V2 V2 x i w6 hin X6.out C6.out)
  go_wp2_with fail
  refine DR.out.mono ?_
  rintro e w7 ⟨rfl, vd', vw', g7, hH, hE⟩
  have R7 := hid (R6.out.frame hE (by omega))
  have K8 := hid (K7.out.trans (KeepB.evo hE (by omega)))
  have H7 := hid hH
  clear hH hE DR R6 K7 X6 C6
  obtain ⟨e0, e1⟩ : w7.cell? ⟨be, 0, none⟩ = some (.int .i64 cc) ∧ w7.cell? ⟨be, 1, none⟩ = some (.int .i64 cn) := ⟨R7.out.1.cell 0, R7.out.1.cell 1⟩
  go_wp2_with fail
  go_ret
  refine ⟨rfl, g7, V2, ⟨vp, c, vd', vw', nx, n - 1, less x i, H7.out, fun j hj => ?_⟩, SND.out, K8.out⟩
  obtain ⟨m, e, hm⟩ := less_at x i j
  rw [e]
  exact DE.out m (by omega)

set_option maxHeartbeats 4000000 in
set_option maxRecDepth 100000 in
theorem house_tear (g : Nat → Nat) (p h N : Nat) (V : Vt) (y : Vst) (w : World) (hp : 1 ≤ p) (hN : N + 8 < 1000000) (_ : y.v.bytes.size ≤ maxLen) (hH : HouseAt w g p h N V) (hop : y.op = 4) :
    Calls Try.prog 43 #[.pointer (some ⟨h, 0, none⟩), .agg #[.int .i64 y.op, .int .i64 y.k, .int .i64 y.mode, .int .i64 y.at_, .int .i64 y.key, .int .i64 y.keep, .bool y.v.there, .string y.v.bytes]] w (StepPost g p h N V w) := by
  obtain ⟨vp, c, vd, vw, nx, n, x, hC, hDE⟩ := hH
  obtain ⟨t, s, hT⟩ := hC.toT
  have hnx := hC.nxt
  have H0 := hid hT
  have DE := hid hDE
  have OP := hid hop
  clear hC hDE hT hop
  go_enter Try.func43, Try.ntmps43
  try go_upto_region 1 with (fail)
  have hA := Evo.alloc g nx w (.cells #[.int .i64 y.op, .int .i64 y.k, .int .i64 y.mode, .int .i64 y.at_, .int .i64 y.key, .int .i64 y.keep, .bool y.v.there, .string y.v.bytes] 72)
  have X1 : Hid (LocC (w.alloc (.cells #[.int .i64 y.op, .int .i64 y.k, .int .i64 y.mode, .int .i64 y.at_, .int .i64 y.key, .int .i64 y.keep, .bool y.v.there, .string y.v.bytes] 72)) (extc g w nx) nx w.heap.size 72 (vsL y)) := hid (LocC.new g nx w 72 (vsL y))
  have H1 := hid (H0.out.frame hA (by omega))
  have K1 := hid (KeepB.evo hA (by omega))
  clear hA H0
  generalize w.alloc (.cells #[.int .i64 y.op, .int .i64 y.k, .int .i64 y.mode, .int .i64 y.at_, .int .i64 y.key, .int .i64 y.keep, .bool y.v.there, .string y.v.bytes] 72) = w1 at *
  generalize extc g w nx = g1 at *
  generalize w.heap.size = bx at *
  obtain ⟨c0, c1, c2, c3, c4, c5, c6, c7⟩ : w1.cell? ⟨bx, 0, none⟩ = some (.int .i64 y.op) ∧ w1.cell? ⟨bx, 1, none⟩ = some (.int .i64 y.k) ∧ w1.cell? ⟨bx, 2, none⟩ = some (.int .i64 y.mode) ∧ w1.cell? ⟨bx, 3, none⟩ = some (.int .i64 y.at_) ∧ w1.cell? ⟨bx, 4, none⟩ = some (.int .i64 y.key) ∧ w1.cell? ⟨bx, 5, none⟩ = some (.int .i64 y.keep) ∧ w1.cell? ⟨bx, 6, none⟩ = some (.bool y.v.there) ∧ w1.cell? ⟨bx, 7, none⟩ = some (.string y.v.bytes) :=
    ⟨X1.out.1.cell 0, X1.out.1.cell 1, X1.out.1.cell 2, X1.out.1.cell 3, X1.out.1.cell 4, X1.out.1.cell 5, X1.out.1.cell 6, X1.out.1.cell 7⟩
  obtain ⟨k0, kt, k1, ks⟩ := H1.out.way
  obtain ⟨k2, k3⟩ : w1.cell? ⟨h, 2, none⟩ = some vd ∧ w1.cell? ⟨h, 3, none⟩ = some vw := ⟨H1.out.all.loc.1.cell 2, H1.out.all.loc.1.cell 3⟩
  rw [OP.out] at c0
  have OX := OP
  clear OP
  obtain ⟨ad, cd, hvd, sd, -⟩ := H1.out.all.rd.slice
  obtain ⟨aw, cw, hvw, sw, -⟩ := H1.out.all.rb.slice
  rw [rowD_length] at hvd
  rw [rowB_length] at hvw
  subst hvd
  subst hvw
  have hfew := H1.out.all.few
  have SD := hid sd
  have SW := hid sw
  clear sd sw
  by_cases hn0 : n = 0
  · subst hn0
    go_wp2_with fail
    go_ret
    exact ⟨rfl, g1, V, ⟨vp, c, _, _, nx, 0, x, H1.out.all.moreN (by omega), DE.out⟩, fun h => h, K1.out⟩
  have hz : ((n : Int) == 0) = false := by rw [beq_eq_false_iff_ne]; omega
  obtain ⟨i, hi1, hi2⟩ := umodH y.k n ⟨by omega, by omega⟩
  have hin : i < n := by omega
  have hi0 : (0 : Int) ≤ (i : Int) := by omega
  obtain ⟨b1, f1, rfl⟩ : ∃ b o, ad = some ⟨b, o, none⟩ := by
    rcases SD.out with e | ⟨b, o, e, -⟩
    · have := rowD_length n x; rw [e] at this; simp at this; omega
    · exact ⟨b, o, e⟩
  obtain ⟨b2, f2, rfl⟩ : ∃ b o, aw = some ⟨b, o, none⟩ := by
    rcases SW.out with e | ⟨b, o, e, -⟩
    · have := rowB_length n x; rw [e] at this; simp at this; omega
    · exact ⟨b, o, e⟩
  have z1 : w1.cell? ⟨b1, f1 + i, none⟩ = some (.pointer (some ⟨(x i).d, 0, none⟩)) := by
    rcases SD.out with e | ⟨b, o, e, hc⟩
    · have := rowD_length n x; rw [e] at this; simp at this; omega
    · cases e; exact hc _ _ (rowD_get x hin)
  have z2 : w1.cell? ⟨b2, f2 + i, none⟩ = some (.pointer (some ⟨(x i).b, 0, none⟩)) := by
    rcases SW.out with e | ⟨b, o, e, hc⟩
    · have := rowB_length n x; rw [e] at this; simp at this; omega
    · cases e; exact hc _ _ (rowB_get x hin)
  obtain ⟨dq, hdq⟩ : ∃ d, (x i).d = d := ⟨_, rfl⟩
  obtain ⟨bq, hbq⟩ : ∃ b, (x i).b = b := ⟨_, rfl⟩
  obtain ⟨Dq, hDq⟩ : ∃ D, (x i).D = D := ⟨_, rfl⟩
  rw [hdq] at z1
  rw [hbq] at z2
  have XD := hid hdq
  have XB := hid hbq
  have XDD := hid hDq
  have XDE := hid ((DE.out i hin).symm.trans hDq)
  have HN0 := hid hn0
  clear hdq hbq hDq SD SW hn0
  have hS0 : Below w1.heap.size w1 w1.drew ∧ w1.drew.cell? ⟨bx, 1, none⟩ = some (.int .i64 y.k) ∧ w1.drew.cell? ⟨h, 2, none⟩ = some (.slice (some ⟨b1, f1, none⟩) n cd) ∧ w1.drew.cell? ⟨h, 3, none⟩ = some (.slice (some ⟨b2, f2, none⟩) n cw) ∧ w1.drew.cell? ⟨b1, f1 + i, none⟩ = some (.pointer (some ⟨dq, 0, none⟩)) ∧ w1.drew.cell? ⟨b2, f2 + i, none⟩ = some (.pointer (some ⟨bq, 0, none⟩)) := ⟨(Below.refl _ _).drew, c1, k2, k3, z1, z2⟩
  go_wp2_with fail
  clear k2 k3 z1 z2
  have hz1 : ¬ (n : Int) = 0 := by have := HN0.out; omega
  have hz2 : ¬ n = 0 := HN0.out
  have hwn : IntKind.u64.wrap (n : Int) = (n : Int) := by rw [IntKind.wrap_u64]; omega
  -- REGION 23tear
  refine wp_region_noPanic ?_
  refine wp_region_held_drew (S := (fun W : World => Below w1.heap.size w1 W ∧ W.cell? ⟨bx, 1, none⟩ = some (.int .i64 y.k) ∧ W.cell? ⟨h, 2, none⟩ = some (.slice (some ⟨b1, f1, none⟩) n cd) ∧ W.cell? ⟨h, 3, none⟩ = some (.slice (some ⟨b2, f2, none⟩) n cw) ∧ W.cell? ⟨b1, f1 + i, none⟩ = some (.pointer (some ⟨dq, 0, none⟩)) ∧ W.cell? ⟨b2, f2 + i, none⟩ = some (.pointer (some ⟨bq, 0, none⟩)))) (by kernel_rfl) ?_ (fun hH0 => ?_)
  · (try dsimp only); (first | assumption | exact hS0)
  refine wpAnyH_take (i := 0) (v := ?_) (by simp only [List.getElem?_toArray, List.getElem?_cons_zero]; rfl) (by kernel_rfl) (by kernel_rfl) (by kernel_rfl) (fun _ _ _ h => h) (Or.inl ⟨by rfl, ?_⟩) (by assumption) ?_
  rotate_left
  · intro w hSw; (try dsimp only at hSw); go_simp; (try with_reducible rfl)
  try simp only [Act.put, List.setIfInBounds_toArray, List.set_cons_zero, List.set_cons_succ]
  refine wpAnyH_take (i := 1) (v := ?_) (by simp only [List.getElem?_toArray, List.getElem?_cons_zero, List.getElem?_cons_succ]; rfl) (by kernel_rfl) (by kernel_rfl) (by kernel_rfl) (fun _ _ _ h => h) (Or.inl ⟨by rfl, ?_⟩) (by assumption) ?_
  rotate_left
  · intro w hSw; (try dsimp only at hSw); go_simp; (try with_reducible rfl)
  try simp only [Act.put, List.setIfInBounds_toArray, List.set_cons_zero, List.set_cons_succ]
  refine wpAnyH_take (i := 3) (v := ?_) (by simp only [List.getElem?_toArray, List.getElem?_cons_zero, List.getElem?_cons_succ]; rfl) (by kernel_rfl) (by kernel_rfl) (by kernel_rfl) (fun _ _ _ h => h) (Or.inl ⟨by rfl, ?_⟩) (by assumption) ?_
  rotate_left
  · intro w hSw; (try dsimp only at hSw); go_simp; (try with_reducible rfl)
  try simp only [Act.put, List.setIfInBounds_toArray, List.set_cons_zero, List.set_cons_succ]
  refine wpAnyH_take (i := 4) (v := ?_) (by simp only [List.getElem?_toArray, List.getElem?_cons_zero, List.getElem?_cons_succ]; rfl) (by kernel_rfl) (by kernel_rfl) (by kernel_rfl) (fun _ _ _ h => h) (Or.inl ⟨by rfl, ?_⟩) (by assumption) ?_
  rotate_left
  · intro w hSw; (try dsimp only at hSw); go_simp; (try with_reducible rfl)
  try simp only [Act.put, List.setIfInBounds_toArray, List.set_cons_zero, List.set_cons_succ]
  refine wpAnyH_take (i := 5) (v := ?_) (by simp only [List.getElem?_toArray, List.getElem?_cons_zero, List.getElem?_cons_succ]; rfl) (by kernel_rfl) (by kernel_rfl) (by kernel_rfl) (fun _ _ _ h => h) (Or.inl ⟨by rfl, ?_⟩) (by assumption) ?_
  rotate_left
  · intro w hSw; (try dsimp only at hSw); go_simp; (try with_reducible rfl)
  try simp only [Act.put, List.setIfInBounds_toArray, List.set_cons_zero, List.set_cons_succ]
  refine wpAnyH_take (i := 6) (v := ?_) (by simp only [List.getElem?_toArray, List.getElem?_cons_zero, List.getElem?_cons_succ]; rfl) (by kernel_rfl) (by kernel_rfl) (by kernel_rfl) (fun _ _ _ h => h) (Or.inl ⟨by rfl, ?_⟩) (by assumption) ?_
  rotate_left
  · intro w hSw; (try dsimp only at hSw); go_simp; (try with_reducible rfl)
  try simp only [Act.put, List.setIfInBounds_toArray, List.set_cons_zero, List.set_cons_succ]
  refine wpAnyH_take (i := 7) (v := ?_) (by simp only [List.getElem?_toArray, List.getElem?_cons_zero, List.getElem?_cons_succ]; rfl) (by kernel_rfl) (by kernel_rfl) (by kernel_rfl) (fun _ _ _ h => h) (Or.inl ⟨by rfl, ?_⟩) (by assumption) ?_
  rotate_left
  · intro w hSw; (try dsimp only at hSw); go_simp; (try with_reducible rfl)
  try simp only [Act.put, List.setIfInBounds_toArray, List.set_cons_zero, List.set_cons_succ]
  refine' join1 (fun W : World => Below w1.heap.size w1 W ∧ W.cell? ⟨bx, 1, none⟩ = some (.int .i64 y.k) ∧ W.cell? ⟨h, 2, none⟩ = some (.slice (some ⟨b1, f1, none⟩) n cd) ∧ W.cell? ⟨h, 3, none⟩ = some (.slice (some ⟨b2, f2, none⟩) n cw) ∧ W.cell? ⟨b1, f1 + i, none⟩ = some (.pointer (some ⟨dq, 0, none⟩)) ∧ W.cell? ⟨b2, f2 + i, none⟩ = some (.pointer (some ⟨bq, 0, none⟩))) _ (fun HJ1 => ?_) (fun wj1 hj1 => ?_)
  rotate_left
  · skip
    refine wpAnyH_ready (rs := [2, 8]) (by kernel_rfl) (by simp) ?_
    refine AllReadyH.cons (by simp only [List.getElem?_toArray, List.getElem?_cons_zero, List.getElem?_cons_succ]; rfl) (fun K hK => ?_) ?_
    go_simp
    refine hK.out _ _ ?_ (fun hH2 => ?_)
    · (try dsimp only); (first | assumption | exact hS0)
    clear hK K
    try simp only [Act.put, List.setIfInBounds_toArray, List.set_cons_zero, List.set_cons_succ]
    refine wpAnyH_ready (rs := [8]) (by kernel_rfl) (by simp) ?_
    refine AllReadyH.cons (by simp only [List.getElem?_toArray, List.getElem?_cons_zero, List.getElem?_cons_succ]; rfl) (fun K hK => ?_) AllReadyH.nil
    go_simp
    refine hK.out _ _ ?_ (fun hH3 => ?_)
    · (try dsimp only); (first | assumption | exact hS0)
    clear hK K hH2
    try simp only [Act.put, List.setIfInBounds_toArray, List.set_cons_zero, List.set_cons_succ]
    exact HJ1 _ (by assumption)
    refine AllReadyH.cons (by simp only [List.getElem?_toArray, List.getElem?_cons_zero, List.getElem?_cons_succ]; rfl) (fun K hK => ?_) AllReadyH.nil
    go_simp
    refine hK.out _ _ ?_ (fun hH4 => ?_)
    · (try dsimp only); (first | assumption | exact hS0)
    clear hK K
    try simp only [Act.put, List.setIfInBounds_toArray, List.set_cons_zero, List.set_cons_succ]
    refine wpAnyH_ready (rs := [2]) (by kernel_rfl) (by simp) ?_
    refine AllReadyH.cons (by simp only [List.getElem?_toArray, List.getElem?_cons_zero, List.getElem?_cons_succ]; rfl) (fun K hK => ?_) AllReadyH.nil
    go_simp
    refine hK.out _ _ ?_ (fun hH5 => ?_)
    · (try dsimp only); (first | assumption | exact hS0)
    clear hK K hH4
    try simp only [Act.put, List.setIfInBounds_toArray, List.set_cons_zero, List.set_cons_succ]
    exact HJ1 _ (by assumption)
  refine wpAnyH_take (i := 9) (v := ?_) (by simp only [List.getElem?_toArray, List.getElem?_cons_zero, List.getElem?_cons_succ]; rfl) (by kernel_rfl) (by kernel_rfl) (by kernel_rfl) (fun _ _ _ h => h) (Or.inl ⟨by rfl, ?_⟩) (by assumption) ?_
  rotate_left
  · intro w hSw; (try dsimp only at hSw); go_simp; (try with_reducible rfl)
  try simp only [Act.put, List.setIfInBounds_toArray, List.set_cons_zero, List.set_cons_succ]
  refine wpAnyH_ready (rs := [10]) (by kernel_rfl) (by simp) ?_
  refine AllReadyH.cons (by simp only [List.getElem?_toArray, List.getElem?_cons_zero, List.getElem?_cons_succ]; rfl) (fun K hK => ?_) AllReadyH.nil
  go_simp
  refine hK.out _ _ ?_ (fun hH6 => ?_)
  · (try dsimp only); (first | assumption | exact hS0)
  clear hK K
  try simp only [Act.put, List.setIfInBounds_toArray, List.set_cons_zero, List.set_cons_succ]
  refine wpAnyH_take (i := 11) (v := ?_) (by simp only [List.getElem?_toArray, List.getElem?_cons_zero, List.getElem?_cons_succ]; rfl) (by kernel_rfl) (by kernel_rfl) (by kernel_rfl) (fun _ _ _ h => h) (Or.inl ⟨by rfl, ?_⟩) (by assumption) ?_
  rotate_left
  · intro w hSw; (try dsimp only at hSw); go_simp; (try with_reducible rfl)
  try simp only [Act.put, List.setIfInBounds_toArray, List.set_cons_zero, List.set_cons_succ]
  refine wpAnyH_done (by kernel_rfl) ?_ _
  refine NoPanic.normal ?_
  skip
  -- END 23tear
  rw [show IntKind.i64.wrap ((IntKind.u64.wrap y.k).tmod (n : Int)) = (i : Int) from (IntWalk.i64_left _).trans hi1]
  obtain ⟨hB3, c1_, k2, k3, z1, z2⟩ := hj1
  clear hi1 hz hz1 hz2 hwn hS0 c1_
  go_wp2_with fail
  go_quiet (fail)
  have hB := hB3.trans ((below_drewN wj1 nq).mono hB3.size)
  have H2 := hid (H1.out.below hB)
  have X2 := hid (X1.out.below hB)
  have K2 := hid (K1.out.trans (KeepB.below hB))
  clear hB hB3 H1 X1 K1 c0 c1 c2 c3 c4 c5 c6 c7 k0 k1 k2 k3 kt ks z1 z2 hfew hi2
  generalize wj1.drewN nq = w2 at *
  have c0 : w2.cell? ⟨bx, 0, none⟩ = some (.int .i64 y.op) := X2.out.1.cell 0
  rw [OX.out] at c0
  clear OX
  have VOK := hid (show V.Ok ∧ V.tab.Ok from (by obtain ⟨b, hV⟩ := H2.out.vt; exact ⟨hV.1, hV.2.2.1.1⟩))
  obtain ⟨g2, cl, hL, hK⟩ := H2.out.lend hin XD.out XB.out XDD.out XDE.out X2.out
  have L2 := hid hL
  have K3 := hid (K2.out.trans hK)
  clear hL hK H2 X2 K2
  obtain ⟨⟨u3, q3⟩, f3, q1⟩ := L2.out.seat
  go_upto_region 40 with (fail)
  obtain ⟨hG, hK⟩ := L2.out.give
  have M3 := hid hG
  have K4 := hid (K3.out.trans hK)
  clear hG hK L2 K3 q1 q3 f3 c0
  generalize w2.setCell ⟨c, 3, none⟩ (.pointer (some ⟨bq, 0, none⟩)) = w3 at *
  have M3d := hid (M3.out.below (Below.refl w3.heap.size w3).drew)
  have K4d := hid (K4.out.trans (KeepB.below (Below.refl w3.heap.size w3).drew))
  clear M3 K4
  have CM := hid (vault_Tear g2 (p + 1) vp V cl dq Dq y.keep w3.drew M3d.out.hx.vault M3d.out.deed)
  have DC := hid (doH_tear V Dq y.keep)
  have SND := hid (show V.Sound → (tearV V Dq y.keep).2.Sound from fun _ => crashV_sound _)
  obtain ⟨cv, hcv⟩ : ∃ cv, tearV V Dq y.keep = cv := ⟨_, rfl⟩
  rw [hcv] at CM DC SND
  obtain ⟨⟨cn, cc⟩, V2⟩ := cv
  clear hcv
  unfold VTurnPost at CM
  simp only [Evt.of] at CM DC SND
  have hS0 : w3.drew.cell? ⟨h, 0, none⟩ = some (.pointer (some ⟨vp, 0, none⟩)) ∧ w3.drew.cell? ⟨bx, 5, none⟩ = some (.int .i64 y.keep) := ⟨M3d.out.cells.1, M3d.out.cells.2.2⟩
  go_wp2_with fail
  -- REGION 40
  refine wp_region_noPanic ?_
  refine wp_region_held_drew (S := (fun W' : World => W'.cell? ⟨h, 0, none⟩ = some (.pointer (some ⟨vp, 0, none⟩)) ∧ W'.cell? ⟨bx, 5, none⟩ = some (.int .i64 y.keep))) (by kernel_rfl) ?_ (fun hH0 => ?_)
  · (try dsimp only); (first | assumption | exact hS0)
  refine wpAnyH_take (i := 0) (v := ?_) (by simp only [List.getElem?_toArray, List.getElem?_cons_zero]; rfl) (by kernel_rfl) (by kernel_rfl) (by kernel_rfl) (fun _ _ _ h => h) (Or.inl ⟨by rfl, ?_⟩) (by assumption) ?_
  rotate_left
  · intro w hSw; (try dsimp only at hSw); go_simp; (try with_reducible rfl)
  try simp only [Act.put, List.setIfInBounds_toArray, List.set_cons_zero, List.set_cons_succ]
  refine wpAnyH_take (i := 1) (v := ?_) (by simp only [List.getElem?_toArray, List.getElem?_cons_zero, List.getElem?_cons_succ]; rfl) (by kernel_rfl) (by kernel_rfl) (by kernel_rfl) (fun _ _ _ h => h) (Or.inl ⟨by rfl, ?_⟩) (by assumption) ?_
  rotate_left
  · intro w hSw; (try dsimp only at hSw); go_simp; (try with_reducible rfl)
  try simp only [Act.put, List.setIfInBounds_toArray, List.set_cons_zero, List.set_cons_succ]
  refine wpAnyH_take (i := 2) (v := ?_) (by simp only [List.getElem?_toArray, List.getElem?_cons_zero, List.getElem?_cons_succ]; rfl) (by kernel_rfl) (by kernel_rfl) (by kernel_rfl) (fun _ _ _ h => h) (Or.inl ⟨by rfl, ?_⟩) (by assumption) ?_
  rotate_left
  · intro w hSw; (try dsimp only at hSw); go_simp; (try with_reducible rfl)
  try simp only [Act.put, List.setIfInBounds_toArray, List.set_cons_zero, List.set_cons_succ]
  refine wpAnyH_take (i := 3) (v := ?_) (by simp only [List.getElem?_toArray, List.getElem?_cons_zero, List.getElem?_cons_succ]; rfl) (by kernel_rfl) (by kernel_rfl) (by kernel_rfl) (fun _ _ _ h => h) (Or.inl ⟨by rfl, ?_⟩) (by assumption) ?_
  rotate_left
  · intro w hSw; (try dsimp only at hSw); go_simp; (try with_reducible rfl)
  try simp only [Act.put, List.setIfInBounds_toArray, List.set_cons_zero, List.set_cons_succ]
  refine wpAnyH_take (i := 4) (v := ?_) (by simp only [List.getElem?_toArray, List.getElem?_cons_zero, List.getElem?_cons_succ]; rfl) (by kernel_rfl) (by kernel_rfl) (by kernel_rfl) (fun _ _ _ h => h) (Or.inl ⟨by rfl, ?_⟩) (by assumption) ?_
  rotate_left
  · intro w hSw; (try dsimp only at hSw); go_simp; (try with_reducible rfl)
  try simp only [Act.put, List.setIfInBounds_toArray, List.set_cons_zero, List.set_cons_succ]
  refine wpAnyH_take (i := 5) (v := ?_) (by simp only [List.getElem?_toArray, List.getElem?_cons_zero, List.getElem?_cons_succ]; rfl) (by kernel_rfl) (by kernel_rfl) (by kernel_rfl) (fun _ _ _ h => h) (Or.inl ⟨by rfl, ?_⟩) (by assumption) ?_
  rotate_left
  · intro w hSw; (try dsimp only at hSw); go_simp; (try with_reducible rfl)
  try simp only [Act.put, List.setIfInBounds_toArray, List.set_cons_zero, List.set_cons_succ]
  refine wpAnyH_take (i := 6) (v := ?_) (by simp only [List.getElem?_toArray, List.getElem?_cons_zero, List.getElem?_cons_succ]; rfl) (by kernel_rfl) (by kernel_rfl) (by kernel_rfl) (fun _ _ _ h => h) (Or.inl ⟨by rfl, ?_⟩) (by assumption) ?_
  rotate_left
  · intro w hSw; (try dsimp only at hSw); go_simp; (try with_reducible rfl)
  try simp only [Act.put, List.setIfInBounds_toArray, List.set_cons_zero, List.set_cons_succ]
  refine wpAnyH_ready (rs := [7]) (by kernel_rfl) (by simp) ?_
  refine AllReadyH.cons (by simp only [List.getElem?_toArray, List.getElem?_cons_zero, List.getElem?_cons_succ]; rfl) (fun K hK => ?_) AllReadyH.nil
  go_simp
  go_at_call 53
  (with_reducible refine CM.out.mono ?_)
  rintro e w4 ⟨rfl, g4, hv, hE⟩
  have M4 := hid (M3d.out.vault hE hv)
  have K5 := hid (K4d.out.trans (KeepB.evo hE (by omega)))
  have hS' : w4.cell? ⟨h, 0, none⟩ = some (.pointer (some ⟨vp, 0, none⟩)) ∧ w4.cell? ⟨bx, 5, none⟩ = some (.int .i64 y.keep) := ⟨M4.out.cells.1, M4.out.cells.2.2⟩
  clear hv hE CM M3d K4d
  try go_wp2_with fail
  refine hK.out _ _ ?_ (fun hH1 => ?_)
  · (try dsimp only); (first | assumption | exact hS0)
  clear hK K hH0
  try simp only [Act.put, List.setIfInBounds_toArray, List.set_cons_zero, List.set_cons_succ]
  refine wpAnyH_take (i := 8) (v := ?_) (by simp only [List.getElem?_toArray, List.getElem?_cons_zero, List.getElem?_cons_succ]; rfl) (by kernel_rfl) (by kernel_rfl) (by kernel_rfl) (fun _ _ _ h => h) (Or.inl ⟨by rfl, ?_⟩) (by assumption) ?_
  rotate_left
  · intro w hSw; (try dsimp only at hSw); go_simp; (try with_reducible rfl)
  try simp only [Act.put, List.setIfInBounds_toArray, List.set_cons_zero, List.set_cons_succ]
  refine wpAnyH_take (i := 9) (v := ?_) (by simp only [List.getElem?_toArray, List.getElem?_cons_zero, List.getElem?_cons_succ]; rfl) (by kernel_rfl) (by kernel_rfl) (by kernel_rfl) (fun _ _ _ h => h) (Or.inl ⟨by rfl, ?_⟩) (by assumption) ?_
  rotate_left
  · intro w hSw; (try dsimp only at hSw); go_simp; (try with_reducible rfl)
  try simp only [Act.put, List.setIfInBounds_toArray, List.set_cons_zero, List.set_cons_succ]
  refine wpAnyH_take (i := 10) (v := ?_) (by simp only [List.getElem?_toArray, List.getElem?_cons_zero, List.getElem?_cons_succ]; rfl) (by kernel_rfl) (by kernel_rfl) (by kernel_rfl) (fun _ _ _ h => h) (Or.inl ⟨by rfl, ?_⟩) (by assumption) ?_
  rotate_left
  · intro w hSw; (try dsimp only at hSw); go_simp; (try with_reducible rfl)
  try simp only [Act.put, List.setIfInBounds_toArray, List.set_cons_zero, List.set_cons_succ]
  refine wpAnyH_take (i := 11) (v := ?_) (by simp only [List.getElem?_toArray, List.getElem?_cons_zero, List.getElem?_cons_succ]; rfl) (by kernel_rfl) (by kernel_rfl) (by kernel_rfl) (fun _ _ _ h => h) (Or.inl ⟨by rfl, ?_⟩) (by assumption) ?_
  rotate_left
  · intro w hSw; (try dsimp only at hSw); go_simp; (try with_reducible rfl)
  try simp only [Act.put, List.setIfInBounds_toArray, List.set_cons_zero, List.set_cons_succ]
  refine wpAnyH_take (i := 12) (v := ?_) (by simp only [List.getElem?_toArray, List.getElem?_cons_zero, List.getElem?_cons_succ]; rfl) (by kernel_rfl) (by kernel_rfl) (by kernel_rfl) (fun _ _ _ h => h) (Or.inl ⟨by rfl, ?_⟩) (by assumption) ?_
  rotate_left
  · intro w hSw; (try dsimp only at hSw); go_simp; (try with_reducible rfl)
  try simp only [Act.put, List.setIfInBounds_toArray, List.set_cons_zero, List.set_cons_succ]
  refine wpAnyH_done (by kernel_rfl) ?_ _
  refine NoPanic.normal ?_
  rotate_left
  -- END 40
  clear hS0
  have MA := hid (M4.out.below (Below.refl w4.heap.size w4).drew)
  have KA := hid (K5.out.trans (KeepB.below (Below.refl w4.heap.size w4).drew))
  have MO := M4
  have KO := K5
  clear M4 K5
  have hS0 : w4.drew.cell? ⟨h, 1, none⟩ = some (.pointer (some ⟨c, 0, none⟩)) ∧ w4.drew.cell? ⟨bx, 5, none⟩ = some (.int .i64 y.keep) := ⟨MA.out.cells.2.1, MA.out.cells.2.2⟩
  have CDg := hid (fun (W : World) (G : Nat → Nat) (k : Lent2 W G p h vp c s (.slice (some ⟨b1, f1, none⟩) n cd) (.slice (some ⟨b2, f2, none⟩) n cw) nx N n V2 V x i cl dq bx Dq y) => k.turn (st := ⟨10, 0, 0, 0, 0, 0, y.keep, ⟨#[]⟩⟩) hN (show (ByteArray.mk #[]).size ≤ maxLen by decide) DC.out)
  go_wp2_with fail
  -- REGION 41
  refine wp_region_noPanic ?_
  refine wp_region_held_drew (S := (fun W' : World => W'.cell? ⟨h, 1, none⟩ = some (.pointer (some ⟨c, 0, none⟩)) ∧ W'.cell? ⟨bx, 5, none⟩ = some (.int .i64 y.keep))) (by kernel_rfl) ?_ (fun hH0 => ?_)
  · (try dsimp only); (first | assumption | exact hS0)
  refine wpAnyH_take (i := 0) (v := ?_) (by simp only [List.getElem?_toArray, List.getElem?_cons_zero]; rfl) (by kernel_rfl) (by kernel_rfl) (by kernel_rfl) (fun _ _ _ h => h) (Or.inl ⟨by rfl, ?_⟩) (by assumption) ?_
  rotate_left
  · intro w hSw; (try dsimp only at hSw); go_simp; (try with_reducible rfl)
  try simp only [Act.put, List.setIfInBounds_toArray, List.set_cons_zero, List.set_cons_succ]
  refine wpAnyH_take (i := 1) (v := ?_) (by simp only [List.getElem?_toArray, List.getElem?_cons_zero, List.getElem?_cons_succ]; rfl) (by kernel_rfl) (by kernel_rfl) (by kernel_rfl) (fun _ _ _ h => h) (Or.inl ⟨by rfl, ?_⟩) (by assumption) ?_
  rotate_left
  · intro w hSw; (try dsimp only at hSw); go_simp; (try with_reducible rfl)
  try simp only [Act.put, List.setIfInBounds_toArray, List.set_cons_zero, List.set_cons_succ]
  refine wpAnyH_take (i := 2) (v := ?_) (by simp only [List.getElem?_toArray, List.getElem?_cons_zero, List.getElem?_cons_succ]; rfl) (by kernel_rfl) (by kernel_rfl) (by kernel_rfl) (fun _ _ _ h => h) (Or.inl ⟨by rfl, ?_⟩) (by assumption) ?_
  rotate_left
  · intro w hSw; (try dsimp only at hSw); go_simp; (try with_reducible rfl)
  try simp only [Act.put, List.setIfInBounds_toArray, List.set_cons_zero, List.set_cons_succ]
  refine wpAnyH_take (i := 3) (v := ?_) (by simp only [List.getElem?_toArray, List.getElem?_cons_zero, List.getElem?_cons_succ]; rfl) (by kernel_rfl) (by kernel_rfl) (by kernel_rfl) (fun _ _ _ h => h) (Or.inl ⟨by rfl, ?_⟩) (by assumption) ?_
  rotate_left
  · intro w hSw; (try dsimp only at hSw); go_simp; (try with_reducible rfl)
  try simp only [Act.put, List.setIfInBounds_toArray, List.set_cons_zero, List.set_cons_succ]
  refine wpAnyH_take (i := 4) (v := ?_) (by simp only [List.getElem?_toArray, List.getElem?_cons_zero, List.getElem?_cons_succ]; rfl) (by kernel_rfl) (by kernel_rfl) (by kernel_rfl) (fun _ _ _ h => h) (Or.inl ⟨by rfl, ?_⟩) (by assumption) ?_
  rotate_left
  · intro w hSw; (try dsimp only at hSw); go_simp; (try with_reducible rfl)
  try simp only [Act.put, List.setIfInBounds_toArray, List.set_cons_zero, List.set_cons_succ]
  refine wpAnyH_take (i := 5) (v := ?_) (by simp only [List.getElem?_toArray, List.getElem?_cons_zero, List.getElem?_cons_succ]; rfl) (by kernel_rfl) (by kernel_rfl) (by kernel_rfl) (fun _ _ _ h => h) (Or.inl ⟨by rfl, ?_⟩) (by assumption) ?_
  rotate_left
  · intro w hSw; (try dsimp only at hSw); go_simp; (try with_reducible rfl)
  try simp only [Act.put, List.setIfInBounds_toArray, List.set_cons_zero, List.set_cons_succ]
  refine wpAnyH_take (i := 6) (v := ?_) (by simp only [List.getElem?_toArray, List.getElem?_cons_zero, List.getElem?_cons_succ]; rfl) (by kernel_rfl) (by kernel_rfl) (by kernel_rfl) (fun _ _ _ h => h) (Or.inl ⟨by rfl, ?_⟩) (by assumption) ?_
  rotate_left
  · intro w hSw; (try dsimp only at hSw); go_simp; (try with_reducible rfl)
  try simp only [Act.put, List.setIfInBounds_toArray, List.set_cons_zero, List.set_cons_succ]
  refine wpAnyH_ready (rs := [7, 8]) (by kernel_rfl) (by simp) ?_
  refine AllReadyH.cons (by simp only [List.getElem?_toArray, List.getElem?_cons_zero, List.getElem?_cons_succ]; rfl) (fun K hK => ?_) ?_
  · skip
    go_simp
    go_at_call 68
    first
      | ((with_reducible refine (CDg.out _ _ ML.out).mono ?_); rintro e w8 ⟨a8, c8, rfl, g8, hX, hC, hE⟩; have XC := hid hX; have CC := hid hC; have BC := hid (ML.out.arg.frame hE (by omega)); have KC := hid (KL.out.trans (KeepB.evo hE (by omega))); have RC := hid (RL.out.frame hE (by omega)); have hS' : w8.cell? ⟨h, 1, none⟩ = some (.pointer (some ⟨c, 0, none⟩)) ∧ w8.cell? ⟨bx, 5, none⟩ = some (.int .i64 y.keep) := ⟨XC.out.loc.1.cell 1, BC.out.1.cell 5⟩; clear hX hC hE)
      | ((with_reducible refine (CDg.out _ _ MA.out).mono ?_); rintro e w7 ⟨a8, c8, rfl, g7, hX, hC, hE⟩; have XM := hid hX; have CM := hid hC; have BM := hid (MA.out.arg.frame hE (by omega)); have KM := hid (KA.out.trans (KeepB.evo hE (by omega))); have hS' : w7.cell? ⟨h, 1, none⟩ = some (.pointer (some ⟨c, 0, none⟩)) ∧ w7.cell? ⟨bx, 5, none⟩ = some (.int .i64 y.keep) := ⟨XM.out.loc.1.cell 1, BM.out.1.cell 5⟩; clear hX hC hE)
    simp only
    try (obtain ⟨r0, r1, r2, r3, r4, s0, s1, s2, s3, s4⟩ := RC.out.cells5)
    try go_wp2_with fail
    refine hK.out _ _ ?_ (fun hH1 => ?_)
    · (try dsimp only); (first | assumption | exact hS0)
    clear hK K hH0
    try simp only [Act.put, List.setIfInBounds_toArray, List.set_cons_zero, List.set_cons_succ]
    refine wpAnyH_ready (rs := [8]) (by kernel_rfl) (by simp) ?_
    refine AllReadyH.cons (by simp only [List.getElem?_toArray, List.getElem?_cons_zero, List.getElem?_cons_succ]; rfl) (fun K hK => ?_) AllReadyH.nil
    go_simp
    first
      | (have hA : Evo 0 0 g7 (extc g7 w7 (nx + 1)) w7 (w7.alloc (.cells #[.int .i64 0, .int .i64 0, .bool false, .string ⟨#[]⟩, .slice none 0 0] 103)) := Evo.alloc g7 (nx + 1) w7 (.cells #[.int .i64 0, .int .i64 0, .bool false, .string ⟨#[]⟩, .slice none 0 0] 103); have XC := hid (XM.out.frame hA (by omega)); have CC := hid (CM.out.frame hA (by omega)); have BC := hid (BM.out.frame hA (by omega)); have KC := hid (KM.out.trans (KeepB.evo hA (by omega))); have RC : Hid (LocC (w7.alloc (.cells #[.int .i64 0, .int .i64 0, .bool false, .string ⟨#[]⟩, .slice none 0 0] 103)) (extc g7 w7 (nx + 1)) (nx + 1) w7.heap.size 103 evL) := hid (LocC.new g7 (nx + 1) w7 103 evL); have hS' : (w7.alloc (.cells #[.int .i64 0, .int .i64 0, .bool false, .string ⟨#[]⟩, .slice none 0 0] 103)).cell? ⟨h, 1, none⟩ = some (.pointer (some ⟨c, 0, none⟩)) ∧ (w7.alloc (.cells #[.int .i64 0, .int .i64 0, .bool false, .string ⟨#[]⟩, .slice none 0 0] 103)).cell? ⟨bx, 5, none⟩ = some (.int .i64 y.keep) := ⟨XC.out.loc.1.cell 1, BC.out.1.cell 5⟩; clear hA; generalize w7.alloc (.cells #[.int .i64 0, .int .i64 0, .bool false, .string ⟨#[]⟩, .slice none 0 0] 103) = w8 at *; generalize extc g7 w7 (nx + 1) = g8 at *; generalize w7.heap.size = be at *)
      | (have hA : Evo 0 0 g4 (extc g4 w4 (nx + 1)) w4 (w4.alloc (.cells #[.int .i64 0, .int .i64 0, .bool false, .string ⟨#[]⟩, .slice none 0 0] 103)).drew := ((Evo.alloc g4 (nx + 1) w4 (.cells #[.int .i64 0, .int .i64 0, .bool false, .string ⟨#[]⟩, .slice none 0 0] 103)).trans (Evo.drew 0 0 _ _)); have ML := hid (MO.out.fresh hA); have KL := hid (KO.out.trans (KeepB.evo hA (by omega))); have RL : Hid (LocC (w4.alloc (.cells #[.int .i64 0, .int .i64 0, .bool false, .string ⟨#[]⟩, .slice none 0 0] 103)).drew (extc g4 w4 (nx + 1)) (nx + 1) w4.heap.size 103 evL) := hid (LocC.new g4 (nx + 1) w4 103 evL); have hS' : (w4.alloc (.cells #[.int .i64 0, .int .i64 0, .bool false, .string ⟨#[]⟩, .slice none 0 0] 103)).drew.cell? ⟨h, 1, none⟩ = some (.pointer (some ⟨c, 0, none⟩)) ∧ (w4.alloc (.cells #[.int .i64 0, .int .i64 0, .bool false, .string ⟨#[]⟩, .slice none 0 0] 103)).drew.cell? ⟨bx, 5, none⟩ = some (.int .i64 y.keep) := ⟨ML.out.cells.2.1, ML.out.cells.2.2⟩; clear hA; generalize (w4.alloc (.cells #[.int .i64 0, .int .i64 0, .bool false, .string ⟨#[]⟩, .slice none 0 0] 103)).drew = w7 at *; generalize extc g4 w4 (nx + 1) = g7 at *; generalize w4.heap.size = be at *)
    try (obtain ⟨r0, r1, r2, r3, r4, s0, s1, s2, s3, s4⟩ := RC.out.cells5)
    try go_wp2_with fail
    refine hK.out _ _ ?_ (fun hH2 => ?_)
    · (try dsimp only); (first | assumption | exact hS0)
    clear hK K hH1
    try simp only [Act.put, List.setIfInBounds_toArray, List.set_cons_zero, List.set_cons_succ]
    refine wpAnyH_ready (rs := [9]) (by kernel_rfl) (by simp) ?_
    refine AllReadyH.cons (by simp only [List.getElem?_toArray, List.getElem?_cons_zero, List.getElem?_cons_succ]; rfl) (fun K hK => ?_) AllReadyH.nil
    go_simp
    have hE := evo_five g8 w8 be (nx + 1) RC.out.2 (.int .i64 cc) (.int .i64 cn) (.bool Val.zero.there) (.string Val.zero.bytes) (.slice a8 0 c8)
    have RZ := hid (five_at RC.out (.int .i64 cc) (.int .i64 cn) (.bool Val.zero.there) (.string Val.zero.bytes) (.slice a8 0 c8))
    have XZ := hid (XC.out.frame hE (by omega))
    have CZ := hid (CC.out.frame hE (by omega))
    have BZ := hid (BC.out.frame hE (by omega))
    have KZ := hid (KC.out.trans (KeepB.evo hE (by omega)))
    have hS' := And.intro (show World.cell? _ ⟨h, 1, none⟩ = some (.pointer (some ⟨c, 0, none⟩)) from XZ.out.loc.1.cell 1) (show World.cell? _ ⟨bx, 5, none⟩ = some (.int .i64 y.keep) from BZ.out.1.cell 5)
    clear hE XC CC BC KC RC
    generalize (((((w8.setCell ⟨be, 0, none⟩ (.int .i64 cc)).setCell ⟨be, 1, none⟩ (.int .i64 cn)).setCell ⟨be, 2, none⟩ (.bool Val.zero.there)).setCell ⟨be, 3, none⟩ (.string Val.zero.bytes)).setCell ⟨be, 4, none⟩ (.slice a8 0 c8)) = w9 at *
    try go_wp2_with fail
    refine hK.out _ _ ?_ (fun hH3 => ?_)
    · (try dsimp only); (first | assumption | exact hS0)
    clear hK K hH2
    try simp only [Act.put, List.setIfInBounds_toArray, List.set_cons_zero, List.set_cons_succ]
    refine wpAnyH_done (by kernel_rfl) ?_ _
    refine NoPanic.normal ?_
    obtain ⟨k2, k3, t2, t3⟩ : w9.cell? ⟨h, 2, none⟩ = some (.slice (some ⟨b1, f1, none⟩) n cd) ∧ w9.cell? ⟨h, 3, none⟩ = some (.slice (some ⟨b2, f2, none⟩) n cw) ∧ w9.frozen? ⟨h, 2, none⟩ = false ∧ w9.frozen? ⟨h, 3, none⟩ = false := ⟨XZ.out.loc.1.cell 2, XZ.out.loc.1.cell 3, XZ.out.loc.1.free 2, XZ.out.loc.1.free 3⟩
    go_upto_region 43 with (fail)
    have E1 := evo_store (g := g8) (w := w9) (b := h) (i := 2) (q := p) (.slice none 0 0) XZ.out.loc.2
    have L1 := XZ.out.loc.set 2 (.slice none 0 0)
    have E2 := E1.trans (evo_store (i := 3) (.slice none 0 0) L1.2)
    have L2 := hid (L1.set 3 (.slice none 0 0))
    have Q2 := hid (And.intro (XZ.out.vault.frame E2 (by omega)) (CZ.out.frame E2 (by omega)))
    have R2 := hid (RZ.out.frame E2 (by omega))
    have K2 := hid (KZ.out.trans (KeepB.evo E2 (by omega)))
    clear E1 L1 E2 XZ CZ RZ KZ BZ k2 k3 t2 t3
    generalize (w9.setCell ⟨h, 2, none⟩ (.slice none 0 0)).setCell ⟨h, 3, none⟩ (.slice none 0 0) = wa at *
    obtain ⟨e0, e1⟩ : wa.cell? ⟨be, 0, none⟩ = some (.int .i64 cc) ∧ wa.cell? ⟨be, 1, none⟩ = some (.int .i64 cn) := ⟨R2.out.1.cell 0, R2.out.1.cell 1⟩
    go_wp2_with fail
    go_ret
    exact ⟨rfl, g8, V2, ⟨vp, c, .slice none 0 0, .slice none 0 0, nx, 0, x, ⟨L2.out, Q2.out.1, Q2.out.2, RowP.nil _ _ _ _, RowP.nil _ _ _ _, fun i hi => by omega, fun i hi => by omega, fun i hi => by omega, fun i j hi => by omega, hnx, by omega⟩, fun i hi => by omega⟩, SND.out, K2.out⟩
  refine AllReadyH.cons (by simp only [List.getElem?_toArray, List.getElem?_cons_zero, List.getElem?_cons_succ]; rfl) (fun K hK => ?_) AllReadyH.nil
  go_simp
  first
    | (have hA : Evo 0 0 g7 (extc g7 w7 (nx + 1)) w7 (w7.alloc (.cells #[.int .i64 0, .int .i64 0, .bool false, .string ⟨#[]⟩, .slice none 0 0] 103)) := Evo.alloc g7 (nx + 1) w7 (.cells #[.int .i64 0, .int .i64 0, .bool false, .string ⟨#[]⟩, .slice none 0 0] 103); have XC := hid (XM.out.frame hA (by omega)); have CC := hid (CM.out.frame hA (by omega)); have BC := hid (BM.out.frame hA (by omega)); have KC := hid (KM.out.trans (KeepB.evo hA (by omega))); have RC : Hid (LocC (w7.alloc (.cells #[.int .i64 0, .int .i64 0, .bool false, .string ⟨#[]⟩, .slice none 0 0] 103)) (extc g7 w7 (nx + 1)) (nx + 1) w7.heap.size 103 evL) := hid (LocC.new g7 (nx + 1) w7 103 evL); have hS' : (w7.alloc (.cells #[.int .i64 0, .int .i64 0, .bool false, .string ⟨#[]⟩, .slice none 0 0] 103)).cell? ⟨h, 1, none⟩ = some (.pointer (some ⟨c, 0, none⟩)) ∧ (w7.alloc (.cells #[.int .i64 0, .int .i64 0, .bool false, .string ⟨#[]⟩, .slice none 0 0] 103)).cell? ⟨bx, 5, none⟩ = some (.int .i64 y.keep) := ⟨XC.out.loc.1.cell 1, BC.out.1.cell 5⟩; clear hA; generalize w7.alloc (.cells #[.int .i64 0, .int .i64 0, .bool false, .string ⟨#[]⟩, .slice none 0 0] 103) = w8 at *; generalize extc g7 w7 (nx + 1) = g8 at *; generalize w7.heap.size = be at *)
    | (have hA : Evo 0 0 g4 (extc g4 w4 (nx + 1)) w4 (w4.alloc (.cells #[.int .i64 0, .int .i64 0, .bool false, .string ⟨#[]⟩, .slice none 0 0] 103)).drew := ((Evo.alloc g4 (nx + 1) w4 (.cells #[.int .i64 0, .int .i64 0, .bool false, .string ⟨#[]⟩, .slice none 0 0] 103)).trans (Evo.drew 0 0 _ _)); have ML := hid (MO.out.fresh hA); have KL := hid (KO.out.trans (KeepB.evo hA (by omega))); have RL : Hid (LocC (w4.alloc (.cells #[.int .i64 0, .int .i64 0, .bool false, .string ⟨#[]⟩, .slice none 0 0] 103)).drew (extc g4 w4 (nx + 1)) (nx + 1) w4.heap.size 103 evL) := hid (LocC.new g4 (nx + 1) w4 103 evL); have hS' : (w4.alloc (.cells #[.int .i64 0, .int .i64 0, .bool false, .string ⟨#[]⟩, .slice none 0 0] 103)).drew.cell? ⟨h, 1, none⟩ = some (.pointer (some ⟨c, 0, none⟩)) ∧ (w4.alloc (.cells #[.int .i64 0, .int .i64 0, .bool false, .string ⟨#[]⟩, .slice none 0 0] 103)).drew.cell? ⟨bx, 5, none⟩ = some (.int .i64 y.keep) := ⟨ML.out.cells.2.1, ML.out.cells.2.2⟩; clear hA; generalize (w4.alloc (.cells #[.int .i64 0, .int .i64 0, .bool false, .string ⟨#[]⟩, .slice none 0 0] 103)).drew = w7 at *; generalize extc g4 w4 (nx + 1) = g7 at *; generalize w4.heap.size = be at *)
  try (obtain ⟨r0, r1, r2, r3, r4, s0, s1, s2, s3, s4⟩ := RC.out.cells5)
  try go_wp2_with fail
  refine hK.out _ _ ?_ (fun hH4 => ?_)
  · (try dsimp only); (first | assumption | exact hS0)
  clear hK K hH0
  try simp only [Act.put, List.setIfInBounds_toArray, List.set_cons_zero, List.set_cons_succ]
  refine wpAnyH_ready (rs := [7]) (by kernel_rfl) (by simp) ?_
  refine AllReadyH.cons (by simp only [List.getElem?_toArray, List.getElem?_cons_zero, List.getElem?_cons_succ]; rfl) (fun K hK => ?_) AllReadyH.nil
  go_simp
  go_at_call 68
  first
    | ((with_reducible refine (CDg.out _ _ ML.out).mono ?_); rintro e w8 ⟨a8, c8, rfl, g8, hX, hC, hE⟩; have XC := hid hX; have CC := hid hC; have BC := hid (ML.out.arg.frame hE (by omega)); have KC := hid (KL.out.trans (KeepB.evo hE (by omega))); have RC := hid (RL.out.frame hE (by omega)); have hS' : w8.cell? ⟨h, 1, none⟩ = some (.pointer (some ⟨c, 0, none⟩)) ∧ w8.cell? ⟨bx, 5, none⟩ = some (.int .i64 y.keep) := ⟨XC.out.loc.1.cell 1, BC.out.1.cell 5⟩; clear hX hC hE)
    | ((with_reducible refine (CDg.out _ _ MA.out).mono ?_); rintro e w7 ⟨a8, c8, rfl, g7, hX, hC, hE⟩; have XM := hid hX; have CM := hid hC; have BM := hid (MA.out.arg.frame hE (by omega)); have KM := hid (KA.out.trans (KeepB.evo hE (by omega))); have hS' : w7.cell? ⟨h, 1, none⟩ = some (.pointer (some ⟨c, 0, none⟩)) ∧ w7.cell? ⟨bx, 5, none⟩ = some (.int .i64 y.keep) := ⟨XM.out.loc.1.cell 1, BM.out.1.cell 5⟩; clear hX hC hE)
  simp only
  try (obtain ⟨r0, r1, r2, r3, r4, s0, s1, s2, s3, s4⟩ := RC.out.cells5)
  try go_wp2_with fail
  refine hK.out _ _ ?_ (fun hH5 => ?_)
  · (try dsimp only); (first | assumption | exact hS0)
  clear hK K hH4
  try simp only [Act.put, List.setIfInBounds_toArray, List.set_cons_zero, List.set_cons_succ]
  refine wpAnyH_ready (rs := [9]) (by kernel_rfl) (by simp) ?_
  refine AllReadyH.cons (by simp only [List.getElem?_toArray, List.getElem?_cons_zero, List.getElem?_cons_succ]; rfl) (fun K hK => ?_) AllReadyH.nil
  go_simp
  have hE := evo_five g8 w8 be (nx + 1) RC.out.2 (.int .i64 cc) (.int .i64 cn) (.bool Val.zero.there) (.string Val.zero.bytes) (.slice a8 0 c8)
  have RZ := hid (five_at RC.out (.int .i64 cc) (.int .i64 cn) (.bool Val.zero.there) (.string Val.zero.bytes) (.slice a8 0 c8))
  have XZ := hid (XC.out.frame hE (by omega))
  have CZ := hid (CC.out.frame hE (by omega))
  have BZ := hid (BC.out.frame hE (by omega))
  have KZ := hid (KC.out.trans (KeepB.evo hE (by omega)))
  have hS' := And.intro (show World.cell? _ ⟨h, 1, none⟩ = some (.pointer (some ⟨c, 0, none⟩)) from XZ.out.loc.1.cell 1) (show World.cell? _ ⟨bx, 5, none⟩ = some (.int .i64 y.keep) from BZ.out.1.cell 5)
  clear hE XC CC BC KC RC
  generalize (((((w8.setCell ⟨be, 0, none⟩ (.int .i64 cc)).setCell ⟨be, 1, none⟩ (.int .i64 cn)).setCell ⟨be, 2, none⟩ (.bool Val.zero.there)).setCell ⟨be, 3, none⟩ (.string Val.zero.bytes)).setCell ⟨be, 4, none⟩ (.slice a8 0 c8)) = w9 at *
  try go_wp2_with fail
  refine hK.out _ _ ?_ (fun hH6 => ?_)
  · (try dsimp only); (first | assumption | exact hS0)
  clear hK K hH5
  try simp only [Act.put, List.setIfInBounds_toArray, List.set_cons_zero, List.set_cons_succ]
  refine wpAnyH_done (by kernel_rfl) ?_ _
  refine NoPanic.normal ?_
  obtain ⟨k2, k3, t2, t3⟩ : w9.cell? ⟨h, 2, none⟩ = some (.slice (some ⟨b1, f1, none⟩) n cd) ∧ w9.cell? ⟨h, 3, none⟩ = some (.slice (some ⟨b2, f2, none⟩) n cw) ∧ w9.frozen? ⟨h, 2, none⟩ = false ∧ w9.frozen? ⟨h, 3, none⟩ = false := ⟨XZ.out.loc.1.cell 2, XZ.out.loc.1.cell 3, XZ.out.loc.1.free 2, XZ.out.loc.1.free 3⟩
  go_upto_region 43 with (fail)
  have E1 := evo_store (g := g8) (w := w9) (b := h) (i := 2) (q := p) (.slice none 0 0) XZ.out.loc.2
  have L1 := XZ.out.loc.set 2 (.slice none 0 0)
  have E2 := E1.trans (evo_store (i := 3) (.slice none 0 0) L1.2)
  have L2 := hid (L1.set 3 (.slice none 0 0))
  have Q2 := hid (And.intro (XZ.out.vault.frame E2 (by omega)) (CZ.out.frame E2 (by omega)))
  have R2 := hid (RZ.out.frame E2 (by omega))
  have K2 := hid (KZ.out.trans (KeepB.evo E2 (by omega)))
  clear E1 L1 E2 XZ CZ RZ KZ BZ k2 k3 t2 t3
  generalize (w9.setCell ⟨h, 2, none⟩ (.slice none 0 0)).setCell ⟨h, 3, none⟩ (.slice none 0 0) = wa at *
  obtain ⟨e0, e1⟩ : wa.cell? ⟨be, 0, none⟩ = some (.int .i64 cc) ∧ wa.cell? ⟨be, 1, none⟩ = some (.int .i64 cn) := ⟨R2.out.1.cell 0, R2.out.1.cell 1⟩
  go_wp2_with fail
  go_ret
  exact ⟨rfl, g8, V2, ⟨vp, c, .slice none 0 0, .slice none 0 0, nx, 0, x, ⟨L2.out, Q2.out.1, Q2.out.2, RowP.nil _ _ _ _, RowP.nil _ _ _ _, fun i hi => by omega, fun i hi => by omega, fun i hi => by omega, fun i j hi => by omega, hnx, by omega⟩, fun i hi => by omega⟩, SND.out, K2.out⟩
  -- END 41

end Go.Proofs.Ytoiobhcgpajogac
