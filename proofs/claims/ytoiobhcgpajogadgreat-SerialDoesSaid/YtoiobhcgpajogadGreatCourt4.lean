/- A court in memory: recoloring; a hall and a court step one behind the other. -/
import Derived.Test.YtoiobhcgpajogadGreatCourt3
import Derived.Test.YtoiobhcgpajogadGreatHallP
namespace Go.Proofs.YtoiobhcgpajogadGreat
open Go.RowKit

section
variable {w : World} {g g' : Nat → Nat} {p : Nat}

theorem PairSls.recolor {q : Nat} (hg : ∀ k, g k = q → g' k = q) : ∀ {vs : List Value} {ls : List (List Ent)}, PairSls w g q vs ls → PairSls w g' q vs ls
  | [], [], _ => trivial
  | _ :: _, _ :: _, ⟨⟨a, cap, h1, h2, h3⟩, h⟩ => ⟨⟨a, cap, h1, h2, fun ad e => ⟨(h3 ad e).1, hg _ (h3 ad e).2⟩⟩, PairSls.recolor hg h⟩

theorem RollAt.recolor {b : Nat} {sv : Value} {qs : List Value} {G : Lg} (h : RollAt w g p b sv qs G) (hg : ∀ k, p ≤ g k → g k < p + 4 → g' k = g k) : RollAt w g' p b sv qs G := by
  obtain ⟨vl, svs, ta, tc, h1, h2, h3, h4, h5⟩ := h
  exact ⟨vl, svs, ta, tc, ⟨h1.1, (hg _ (by rw [h1.2]; omega) (by rw [h1.2]; omega)).trans h1.2⟩, h2, fun r hr => (hg _ (by rw [h3 r hr]; omega) (by rw [h3 r hr]; omega)).trans (h3 r hr),
    h4.recolor (fun k e => (hg k (by omega) (by omega)).trans e), h5.recolor2 (fun k e => (hg k (by omega) (by omega)).trans e)⟩

theorem SheetAt.recolor {s : Nat} {T : Tab} (h : SheetAt w g p s T) (hg : ∀ k, p ≤ g k → g k < p + 2 → g' k = g k) : SheetAt w g' p s T := by
  obtain ⟨h0, v, h1, h2⟩ := h
  exact ⟨h0, v, ⟨h1.1, (hg _ (by rw [h1.2]; omega) (by rw [h1.2]; omega)).trans h1.2⟩, fun j hj => (h2 j hj).lift (Nat.le_refl _) (fun b _ e => ⟨rfl, hg b (by omega) (by omega)⟩)⟩

theorem WorkAt.recolor {b N : Nat} {D : Ded} (h : WorkAt w g p b D N) {p' : Nat} (hg : ∀ k j, j < 3 → g k = p + j → g' k = p' + j) : WorkAt w g' p' b D N := by
  obtain ⟨W, vr, vw, h⟩ := h
  exact ⟨W, vr, vw, h.ok, h.abs, h.reads, h.wrote, ⟨h.loc.1, hg _ 0 (by omega) h.loc.2⟩, ⟨h.rr.1, fun r hr => hg _ 1 (by omega) (h.rr.2 r hr)⟩, ⟨h.rw.1, fun r hr => hg _ 2 (by omega) (h.rw.2 r hr)⟩⟩

theorem CourtL.recolor {c s N : Nat} {ds : Nat → Nat} {T : Tab} {G : Lg} {S : Nat → Option Ded} (k : CourtL w g p c s ds N T G S) (hg : ∀ k, p ≤ g k → g k < p + 21 → g' k = g k) : CourtL w g' p c s ds N T G S :=
  ⟨k.lok, k.roll.recolor (fun j h1 h2 => hg j (by omega) (by omega)), k.sheet.recolor (fun j h1 h2 => hg j (by omega) (by omega)), fun i hi D hD => (k.work i hi D hD).recolor (fun b j hj e => (hg b (by omega) (by omega)).trans e)⟩

theorem CourtAt.recolor {c N : Nat} {H : Ht} (k : CourtAt w g p c N H) (hg : ∀ k, p ≤ g k → g k < p + 21 → g' k = g k) : CourtAt w g' p c N H := by
  obtain ⟨h, s, ds, k⟩ := k
  exact ⟨h, s, ds, k.recolor hg⟩
end

end Go.Proofs.YtoiobhcgpajogadGreat
