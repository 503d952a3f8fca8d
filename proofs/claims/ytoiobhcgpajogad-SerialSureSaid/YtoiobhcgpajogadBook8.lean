/- A book under other colours of what is not its own. -/
import Derived.Test.YtoiobhcgpajogadBook6
import Derived.Test.YtoiobhcgpajogadHallT
import Derived.Test.YtoiobhcgpajogadSerP
namespace Go.Proofs.Ytoiobhcgpajogad
open Go.RowKit

section
variable {w : World} {g g' : Nat → Nat} {p : Nat}

theorem LocC.recolor {q b : Nat} {T : TypeId} {cs : List Value} (h : LocC w g q b T cs) (e : ∀ j, p ≤ g j → g' j = g j) (hq : p ≤ q) : LocC w g' q b T cs :=
  ⟨h.1, (e b (by rw [h.2]; exact hq)).trans h.2⟩
theorem RowC.recolor {q e0 size : Nat} {v : Value} {n : Nat} {cells : List Value} (h : RowC w g q e0 size v n cells) (e : ∀ j, p ≤ g j → g' j = g j) (hq : p ≤ q) : RowC w g' q e0 size v n cells :=
  ⟨h.1, fun r hr => (e r (by rw [h.2 r hr]; exact hq)).trans (h.2 r hr)⟩
theorem FixC.recolor {q : Nat} {a : Option Addr} {cells : List Value} (h : FixC w g q a cells) (e : ∀ j, p ≤ g j → g' j = g j) (hq : p ≤ q) : FixC w g' q a cells :=
  ⟨h.1, fun ad ha => ⟨(h.2 ad ha).1, (e _ (by rw [(h.2 ad ha).2]; exact hq)).trans (h.2 ad ha).2⟩⟩
theorem FixL.recolor {q : Nat} {z : Acx} (h : FixL w g q z) (e : ∀ j, p ≤ g j → g' j = g j) (hq : p ≤ q) : FixL w g' q z := ⟨h.1.recolor e hq, h.2⟩

theorem BookAt.recolor {b nx N : Nat} {B : Bk} (h : BookAt w g p b nx N B) (e : ∀ j, p ≤ g j → g' j = g j) : BookAt w g' p b nx N B := by
  obtain ⟨v, L, x, h⟩ := h
  refine ⟨v, L, x, ⟨h.loc.recolor e (Nat.le_refl _), h.row.recolor e (by omega), h.isL, fun y hy => ?_, h.finApart, fun s hs d hd => ?_, h.apart, h.few, h.nxt⟩⟩
  · have k := h.fin y hy
    exact ⟨k.col, k.acts.recolor e (by have := k.col; omega), fun z hz => (k.lists z hz).recolor e (by omega), k.len⟩
  · have k := h.one s hs d hd
    exact ⟨k.loc.recolor e (by have := k.col; omega), k.row.recolor e (by have := k.col; omega), k.isA, fun z hz => (k.lists z hz).recolor e (by omega), k.col, k.len⟩

end

/-- A hall steps, and then a book is told. -/
theorem noted_two {B0 h b nx N : Nat} {g g1 g2 : Nat → Nat} {w0 w w1 w2 : World} {H1 : Ht} {B : Bk} (hB : Base B0 w0 g w) (hE1 : Evo 1 18 g g1 w w1) (hH : HallAt w1 g1 1 h H1)
    (hE2 : Evo 20 nx (paint g1 w 0) g2 w1 w2) (hK : BookAt w2 g2 20 b nx N B) : ∃ g3, HallAt w2 g3 1 h H1 ∧ BookAt w2 g3 20 b nx N B ∧ Base B0 w0 g3 w2 := by
  have hM := hE2.mix (by omega)
  refine ⟨_, hH.frame hM (by omega), hK.recolor (fun j hj => ?_), (hB.step hE1 (by omega)).step hM (by omega)⟩
  by_cases e : j < w1.heap.size
  · have h2 := hE2.col j e
    show (if j < w1.heap.size then g1 j else g2 j) = g2 j
    rw [if_pos e, h2]
    unfold paint at h2 ⊢
    by_cases e2 : j < w.heap.size
    · rw [if_pos e2]
    · rw [if_neg e2] at h2; omega
  · show (if j < w1.heap.size then g1 j else g2 j) = g2 j
    rw [if_neg e]

end Go.Proofs.Ytoiobhcgpajogad

/- What noted keeps: plain. -/
namespace Go.Proofs.Ytoiobhcgpajogad
open Go.RowKit

/-- A hall and its book take a step. -/
def stepN (r : Ht × Bk) (x : St) : Ht × Bk := ((doH r.1 x).2, noteK r.2 x (doH r.1 x).1 r.1.v.tab.last)
def runN (r : Ht × Bk) (l : List St) : Ht × Bk := l.foldl stepN r
def notedS (l : List St) : List Dn := (runN (Ht.new, Bk.new) l).2.l

theorem runN_take (r : Ht × Bk) (l : List St) {k : Nat} (hk : k < l.length) : runN r (l.take (k + 1)) = stepN (runN r (l.take k)) l[k] := by
  unfold runN
  rw [List.take_succ_eq_append_getElem hk, List.foldl_append]
  rfl

/-- What stands behind each step. -/
structure GoodN (r : Ht × Bk) : Prop where
  sound : r.1.v.Sound
  begs : BegsH r.1
  kept : Kept r.1 r.2

theorem GoodN.start : GoodN (Ht.new, Bk.new) := ⟨Vt.new_sound, BegsH.start, Kept.start⟩

theorem deed_beg0 {H : Ht} (hT : H.v.tab.Ok) (hB : BegsH H) {n : Nat} (hn : n < 5) {D : Ded} (hD : H.seats n = some D) : 0 ≤ D.beg := by
  have h1 := (hB n hn D hD).1 0 (by omega)
  have h2 := (hT.1 0).1.2.2
  omega

theorem HallAt.deedsOk0 {w : World} {g : Nat → Nat} {p h : Nat} {H : Ht} (k : HallAt w g p h H) : ∀ s, s < 5 → ∀ D, H.seats s = some D → D.Ok := by
  obtain ⟨vp, ds, k⟩ := k
  exact fun s hs D hD => (k.deed s hs D hD).1

theorem GoodN.step {r : Ht × Bk} (h : GoodN r) (hH : r.1.v.Ok) (hT : r.1.v.tab.Ok) (hDs : ∀ s, s < 5 → ∀ D, r.1.seats s = some D → D.Ok) (x : St) : GoodN (stepN r x) :=
  ⟨doH_sound hH hT h.sound x, doH_begs hH hT h.sound h.begs hDs x, kept_step h.kept hH hT h.sound h.begs hDs (fun _ hs _ hD => deed_beg0 hT h.begs hs hD) x⟩

theorem runN_fst (r : Ht × Bk) (l : List St) : (runN r l).1 = l.foldl (fun H x => (doH H x).2) r.1 := by
  unfold runN
  induction l generalizing r with
  | nil => rfl
  | cons x l ih => rw [List.foldl_cons, List.foldl_cons, ih]; rfl

end Go.Proofs.Ytoiobhcgpajogad
