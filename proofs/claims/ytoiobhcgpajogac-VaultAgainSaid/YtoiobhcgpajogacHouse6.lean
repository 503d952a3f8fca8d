/- The house of a vault's law: what its calls do. -/
import Derived.Test.YtoiobhcgpajogacHouse5
import Derived.Test.YtoiobhcgpajogacCourt3
import Derived.Test.YtoiobhcgpajogacHallP
import Derived.Test.YtoiobhcgpajogacReg
namespace Go.Proofs.Ytoiobhcgpajogac
open Go.RowKit

theorem HouseC.moreN {w : World} {g : Nat → Nat} {p h vp c nx N N2 n : Nat} {vd vw : Value} {V U : Vt} {x : Nat → En} (k : HouseC w g p h vp c vd vw nx N n V U x) (hN : N ≤ N2) : HouseC w g p h vp c vd vw nx N2 n V U x :=
  ⟨k.loc, k.vault, k.court.more hN, k.rd, k.rb, k.deed, fun i hi => (k.work i hi).more hN, k.col, k.apart, k.nxt, k.few⟩

theorem doH_crash (V : Vt) : doH ⟨V, fun _ => none⟩ ⟨9, 0, 0, 0, 0, 0, 0, ⟨#[]⟩⟩ = (Evt.of 0 0, ⟨crashV V.log, fun _ => none⟩) := rfl

def HouseAt (w : World) (g : Nat → Nat) (p h N : Nat) (V : Vt) : Prop := ∃ vp c vd vw nx n x, HouseC w g p h vp c vd vw nx N n V V x ∧ ∀ i, i < n → (x i).D = (x i).E

/-- What lies below and has no colour keeps. -/
def KeepB (g : Nat → Nat) (w : World) (g' : Nat → Nat) (w' : World) : Prop := ∀ B w0, Base B w0 g w → Base B w0 g' w'

theorem KeepB.refl (g : Nat → Nat) (w : World) : KeepB g w g w := fun _ _ h => h
theorem KeepB.trans {g g1 g2 : Nat → Nat} {w w1 w2 : World} (h : KeepB g w g1 w1) (k : KeepB g1 w1 g2 w2) : KeepB g w g2 w2 := fun _ _ b => k _ _ (h _ _ b)
theorem KeepB.evo {lo hi : Nat} {g g' : Nat → Nat} {w w' : World} (e : Evo lo hi g g' w w') (h : 1 ≤ lo ∨ hi ≤ lo) : KeepB g w g' w' := fun _ _ b => b.step e h
theorem KeepB.below {g : Nat → Nat} {w w' : World} (e : Below w.heap.size w w') : KeepB g w g w' := fun _ _ b => b.below' e

/-- The house, while its rows take one more. -/
structure Mid7 (ga : Nat → Nat) (wa : World) (p h vp c nx N n d d3 : Nat) (V : Vt) (x : Nat → En) (D : Ded) (vd0 vw0 vd vw : Value) (xs ys : List Value) (g : Nat → Nat) (w : World) : Prop where
  loc : LocC w g p h 69 [.pointer (some ⟨vp, 0, none⟩), .pointer (some ⟨c, 0, none⟩), vd0, vw0]
  rest : HouseR w g p vp c nx N n V V x
  rd : RowP w g (p + 33) 31 vd xs
  rb : RowP w g (p + 34) 33 vw ys
  dn : DeedAt w g nx d D
  wn : WorkAt w g (nx + 1) d3 D 0
  keep : KeepB ga wa g w

section
variable {ga g g' : Nat → Nat} {wa w w' : World} {p h vp c nx N n d d3 : Nat} {V : Vt} {x : Nat → En} {D : Ded} {vd0 vw0 vd vw v' : Value} {xs ys xs' : List Value}
theorem Mid7.fresh (m : Mid7 ga wa p h vp c nx N n d d3 V x D vd0 vw0 vd vw xs ys g w) (e : Evo 0 0 g g' w w') : Mid7 ga wa p h vp c nx N n d d3 V x D vd0 vw0 vd vw xs ys g' w' :=
  ⟨m.loc.frame e (by omega), m.rest.frame e (by omega), m.rd.frame e (by omega), m.rb.frame e (by omega), m.dn.frame e (by omega), m.wn.frame e (by omega), m.keep.trans (KeepB.evo e (by omega))⟩
theorem Mid7.appD (m : Mid7 ga wa p h vp c nx N n d d3 V x D vd0 vw0 vd vw xs ys g w) (e : Evo (p + 33) (p + 33 + 1) g g' w w') (hr : RowP w' g' (p + 33) 31 v' xs') : Mid7 ga wa p h vp c nx N n d d3 V x D vd0 vw0 v' vw xs' ys g' w' := by
  have := m.rest.nxt
  exact ⟨m.loc.frame e (by omega), m.rest.frame e (by omega), hr, m.rb.frame e (by omega), m.dn.frame e (by omega), m.wn.frame e (by omega), m.keep.trans (KeepB.evo e (by omega))⟩
theorem Mid7.appB (m : Mid7 ga wa p h vp c nx N n d d3 V x D vd0 vw0 vd vw xs ys g w) (e : Evo (p + 34) (p + 34 + 1) g g' w w') (hr : RowP w' g' (p + 34) 33 v' xs') : Mid7 ga wa p h vp c nx N n d d3 V x D vd0 vw0 vd v' xs xs' g' w' := by
  have := m.rest.nxt
  exact ⟨m.loc.frame e (by omega), m.rest.frame e (by omega), m.rd.frame e (by omega), hr, m.dn.frame e (by omega), m.wn.frame e (by omega), m.keep.trans (KeepB.evo e (by omega))⟩
theorem Mid7.done (m : Mid7 ga wa p h vp c nx N n d d3 V x D vd0 vw0 vd vw (rowD n x ++ [.pointer (some ⟨d, 0, none⟩)]) (rowB n x ++ [.pointer (some ⟨d3, 0, none⟩)]) g w) (hn : n < 6) (hp : 1 ≤ p) (hDE : ∀ i, i < n → (x i).D = (x i).E) :
    HouseAt ((w.setCell ⟨h, 2, none⟩ vd).setCell ⟨h, 3, none⟩ vw) g p h (N + 8) V ∧ KeepB ga wa g ((w.setCell ⟨h, 2, none⟩ vd).setCell ⟨h, 3, none⟩ vw) := by
  have e := (evo_store (i := 2) vd m.loc.2).trans (evo_store (w := w.setCell ⟨h, 2, none⟩ vd) (i := 3) vw m.loc.2)
  have h0 := m.rest.nxt
  have hr := (m.rest.more hn (y := ⟨nx, d, d3, D, D⟩) rfl m.dn (m.wn.more (Nat.zero_le _))).frame e (by omega)
  refine ⟨⟨vp, c, vd, vw, nx + 4, n + 1, upd x n ⟨nx, d, d3, D, D⟩, (hr.with ((m.loc.set 2 vd).set 3 vw) ?_ ?_).moreN (by omega), fun i hi => ?_⟩, m.keep.trans (KeepB.evo e (by omega))⟩
  · rw [rowD_more]; exact m.rd.frame e (by omega)
  · rw [rowB_more]; exact m.rb.frame e (by omega)
  · by_cases ei : i = n
    · subst ei; rw [upd_same]
    · rw [upd_other _ _ ei]; exact hDE i (by omega)
end

theorem one_at {w : World} {b : Nat} {T : TypeId} {u : Value} (h : Loc w b T [u]) : SliceAt w (some ⟨b, 0, none⟩) [u] :=
  .inr ⟨b, 0, rfl, fun j v hv => by rw [Nat.zero_add]; exact (h.cell j).trans hv⟩

def StepPost (g : Nat → Nat) (p h N : Nat) (V : Vt) (w : World) (e : Ending) (w' : World) : Prop :=
  e = .returned (.bool true) ∧ ∃ g' V', HouseAt w' g' p h (N + 8) V' ∧ (V.Sound → V'.Sound) ∧ KeepB g w g' w'

/-! ### The house, and where its table and its sheet lie -/

structure HouseT (w : World) (g : Nat → Nat) (p h vp c t s : Nat) (vd vw : Value) (nx N n : Nat) (V U : Vt) (x : Nat → En) : Prop where
  all : HouseC w g p h vp c vd vw nx N n V U x
  vt : ∃ b, VaultC w g (p + 1) vp t b V
  ct : ∃ ds, CourtL w g (p + 12) c s ds N U.tab U.log (fun _ => none)

section
variable {lo hi : Nat} {w w' : World} {g g' : Nat → Nat} {p h vp c t s nx N n : Nat} {vd vw : Value} {V U : Vt} {x : Nat → En}
theorem HouseC.toT (k : HouseC w g p h vp c vd vw nx N n V U x) : ∃ t s, HouseT w g p h vp c t s vd vw nx N n V U x := by
  obtain ⟨t, b, hv⟩ := k.vault
  obtain ⟨-, s, ds, hc⟩ := k.court
  exact ⟨t, s, k, ⟨b, hv⟩, ⟨ds, hc⟩⟩

theorem HouseT.frame (k : HouseT w g p h vp c t s vd vw nx N n V U x) (e : Evo lo hi g g' w w') (hc : nx ≤ lo ∨ hi ≤ p) : HouseT w' g' p h vp c t s vd vw nx N n V U x := by
  have h0 := k.all.nxt
  obtain ⟨b, hv⟩ := k.vt
  obtain ⟨ds, hl⟩ := k.ct
  exact ⟨k.all.frame e hc, ⟨b, hv.frame e (by omega)⟩, ⟨ds, hl.frame e (by omega)⟩⟩

theorem HouseT.below (k : HouseT w g p h vp c t s vd vw nx N n V U x) (e : Below w.heap.size w w') : HouseT w' g p h vp c t s vd vw nx N n V U x := k.frame (Evo.of_same (lo := 0) (hi := 0) e) (by omega)

theorem HouseT.way (k : HouseT w g p h vp c t s vd vw nx N n V U x) : w.cell? ⟨h, 0, none⟩ = some (.pointer (some ⟨vp, 0, none⟩)) ∧ w.cell? ⟨vp, 0, none⟩ = some (.pointer (some ⟨t, 0, none⟩)) ∧ w.cell? ⟨h, 1, none⟩ = some (.pointer (some ⟨c, 0, none⟩)) ∧ w.cell? ⟨c, 0, none⟩ = some (.pointer (some ⟨s, 0, none⟩)) := by
  obtain ⟨b, hv⟩ := k.vt
  obtain ⟨ds, hl⟩ := k.ct
  exact ⟨k.all.loc.1.cell 0, hv.cells.1, k.all.loc.1.cell 1, hl.top.1⟩

theorem house_clearV (k : HouseT w g p h vp c t s vd vw nx N n V U x) (least : Int) :
    Calls Try.prog 29 #[.pointer (some ⟨t, 0, none⟩), .int .i64 least] w (fun e w' => e = .returned (.int .i64 ((clearT V.tab least).1 : Int)) ∧ ∃ g', HouseT w' g' p h vp c t s vd vw nx N n ⟨(clearT V.tab least).2, V.log⟩ U x ∧ Evo p (p + 33) g g' w w') := by
  obtain ⟨b, hv⟩ := k.vt
  obtain ⟨ds, hl⟩ := k.ct
  have h0 := k.all.nxt
  refine (table_Clear g (p + 1 + 1) t V.tab w least hv.2.2.1).mono ?_
  rintro e w' ⟨rfl, g', hT, hE⟩
  have hv' : VaultC w' g' (p + 1) vp t b ⟨(clearT V.tab least).2, V.log⟩ := ⟨⟨hv.1.1, hv.1.2.1, (clearT_last _ _).trans hv.1.2.2⟩, hv.2.1.frame hE (by omega), hT, hv.2.2.2.frame hE (by omega)⟩
  exact ⟨rfl, g', ⟨k.all.newVault (hE.wide (by omega) (by omega)) ⟨t, b, hv'⟩, ⟨b, hv'⟩, ⟨ds, hl.frame hE (by omega)⟩⟩, hE.wide (by omega) (by omega)⟩

theorem house_clearS (k : HouseT w g p h vp c t s vd vw nx N n V U x) (least : Int) :
    Calls Try.prog 30 #[.pointer (some ⟨s, 0, none⟩), .int .i64 least] w (fun e w' => e = .returned (.int .i64 ((clearT U.tab least).1 : Int)) ∧ ∃ g', HouseT w' g' p h vp c t s vd vw nx N n V ⟨(clearT U.tab least).2, U.log⟩ x ∧ Evo p (p + 33) g g' w w') := by
  obtain ⟨b, hv⟩ := k.vt
  obtain ⟨ds, hl⟩ := k.ct
  have h0 := k.all.nxt
  have hok := k.all.court.1
  refine (sheet_Clear g (p + 12 + 4) s U.tab w least hl.sheet).mono ?_
  rintro e w' ⟨rfl, g', hT, hE⟩
  have hl' : CourtL w' g' (p + 12) c s ds N (clearT U.tab least).2 U.log (fun _ => none) := hl.withSheet hE hT
  have hok' : Vt.Ok ⟨(clearT U.tab least).2, U.log⟩ := ⟨hok.1, hok.2.1, (clearT_last _ _).trans hok.2.2⟩
  exact ⟨rfl, g', ⟨k.all.newCourt (Nat.le_refl _) (hE.wide (by omega) (by omega)) ⟨hok', s, ds, hl'⟩, ⟨b, hv.frame hE (by omega)⟩, ⟨ds, hl'⟩⟩, hE.wide (by omega) (by omega)⟩

theorem house_getD (k : HouseT w g p h vp c t s vd vw nx N n V U x) {i d : Nat} {D : Ded} (hi : i < n) (hd : (x i).d = d) (hD : (x i).D = D) (key : Int) :
    Calls Try.prog 20 #[.pointer (some ⟨d, 0, none⟩), .pointer (some ⟨t, 0, none⟩), .int .i64 key] w (fun e w' => e = .returned (.tuple #[.agg #[.bool (getD D V.tab key).1.1.there, .string (getD D V.tab key).1.1.bytes], .int .i64 (getD D V.tab key).1.2]) ∧
      ∃ g', HouseT w' g' p h vp c t s vd vw nx N n V U (upd x i { x i with D := (getD D V.tab key).2 }) ∧ Evo (p + 40) nx g g' w w') := by
  subst hd hD
  obtain ⟨b, hv⟩ := k.vt
  obtain ⟨ds, hl⟩ := k.ct
  have h0 := k.all.nxt
  have hc := k.all.col i hi
  refine (deed_Get g (x i).cl (x i).d (x i).D g (p + 1 + 1) t V.tab key w (k.all.deed i hi) hv.2.2.1).mono ?_
  rintro e w' ⟨rfl, g', hT, hE⟩
  exact ⟨rfl, g', ⟨k.all.newDeed hi hE hT, ⟨b, hv.frame hE (by omega)⟩, ⟨ds, hl.frame hE (by omega)⟩⟩, hE.wide (by omega) (by omega)⟩

theorem house_putD (k : HouseT w g p h vp c t s vd vw nx N n V U x) {i d : Nat} {D : Ded} (hi : i < n) (hd : (x i).d = d) (hD : (x i).D = D) (key : Int) (v : Val) (hvs : v.bytes.size ≤ maxLen) :
    Calls Try.prog 22 #[.pointer (some ⟨d, 0, none⟩), .int .i64 key, .agg #[.bool v.there, .string v.bytes]] w (fun e w' => e = .returned (.int .i64 (putD D key v).1) ∧
      ∃ g', HouseT w' g' p h vp c t s vd vw nx N n V U (upd x i { x i with D := (putD D key v).2 }) ∧ Evo (p + 40) nx g g' w w') := by
  subst hd hD
  obtain ⟨b, hv⟩ := k.vt
  obtain ⟨ds, hl⟩ := k.ct
  have h0 := k.all.nxt
  have hc := k.all.col i hi
  refine (deed_Put g (x i).cl (x i).d (x i).D key v w hvs (k.all.deed i hi)).mono ?_
  rintro e w' ⟨rfl, g', hT, hE⟩
  exact ⟨rfl, g', ⟨k.all.newDeed hi hE hT, ⟨b, hv.frame hE (by omega)⟩, ⟨ds, hl.frame hE (by omega)⟩⟩, hE.wide (by omega) (by omega)⟩

theorem house_getW (k : HouseT w g p h vp c t s vd vw nx N n V U x) {i b : Nat} {E : Ded} (hN : N < 1000000) (hi : i < n) (hb : (x i).b = b) (hE : (x i).E = E) (key : Int) :
    Calls Try.prog 21 #[.pointer (some ⟨b, 0, none⟩), .pointer (some ⟨s, 0, none⟩), .int .i64 key] w (fun e w' => e = .returned (.tuple #[.agg #[.bool (getD E U.tab key).1.1.there, .string (getD E U.tab key).1.1.bytes], .int .i64 (getD E U.tab key).1.2]) ∧
      ∃ g', HouseT w' g' p h vp c t s vd vw nx (N + 1) n V U (upd x i { x i with E := (getD E U.tab key).2 }) ∧ Evo (p + 40) nx g g' w w') := by
  subst hb hE
  obtain ⟨b, hv⟩ := k.vt
  obtain ⟨ds, hl⟩ := k.ct
  have h0 := k.all.nxt
  have hc := k.all.col i hi
  refine (work_Get g ((x i).cl + 1) (x i).b (x i).E N g (p + 12 + 4) s U.tab key w hN (k.all.work i hi) hl.sheet).mono ?_
  rintro e w' ⟨rfl, g', hT, hE⟩
  exact ⟨rfl, g', ⟨k.all.newWork hi (by omega) hE hT, ⟨b, hv.frame hE (by omega)⟩, ⟨ds, (hl.frame hE (by omega)).more (by omega)⟩⟩, hE.wide (by omega) (by omega)⟩

theorem house_putW (k : HouseT w g p h vp c t s vd vw nx N n V U x) {i b : Nat} {E : Ded} (hN : N < 1000000) (hi : i < n) (hb : (x i).b = b) (hE : (x i).E = E) (key : Int) (v : Val) (hvs : v.bytes.size ≤ maxLen) :
    Calls Try.prog 23 #[.pointer (some ⟨b, 0, none⟩), .int .i64 key, .agg #[.bool v.there, .string v.bytes]] w (fun e w' => e = .returned (.int .i64 (putD E key v).1) ∧
      ∃ g', HouseT w' g' p h vp c t s vd vw nx (N + 1) n V U (upd x i { x i with E := (putD E key v).2 }) ∧ Evo (p + 40) nx g g' w w') := by
  subst hb hE
  obtain ⟨b, hv⟩ := k.vt
  obtain ⟨ds, hl⟩ := k.ct
  have h0 := k.all.nxt
  have hc := k.all.col i hi
  refine (work_Put g ((x i).cl + 1) (x i).b (x i).E N key v w hvs hN (k.all.work i hi)).mono ?_
  rintro e w' ⟨rfl, g', hT, hE⟩
  exact ⟨rfl, g', ⟨k.all.newWork hi (by omega) hE hT, ⟨b, hv.frame hE (by omega)⟩, ⟨ds, (hl.frame hE (by omega)).more (by omega)⟩⟩, hE.wide (by omega) (by omega)⟩
end

theorem umodH (x m : Int) (h : 1 ≤ m ∧ m ≤ 1000000) : ∃ k : Nat, wrap64 ((IntKind.u64.wrap x).tmod m) = (k : Int) ∧ (k : Int) < m := by
  rw [IntKind.wrap_u64]
  have h1 : 0 ≤ x % 18446744073709551616 := Int.emod_nonneg _ (by decide)
  generalize x % 18446744073709551616 = u at *
  have h2 : 0 ≤ u % m := Int.emod_nonneg _ (by omega)
  have h3 : u % m < m := Int.emod_lt_of_pos _ (by omega)
  rw [Int.tmod_eq_emod_of_nonneg h1]
  exact ⟨(u % m).toNat, by rw [IntWalk.wrap64_in _ ⟨by omega, by omega⟩]; omega, by omega⟩

end Go.Proofs.Ytoiobhcgpajogac
