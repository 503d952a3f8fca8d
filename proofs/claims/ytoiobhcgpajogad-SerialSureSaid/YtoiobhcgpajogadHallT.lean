/- Two halls in one memory; SameEvent. -/
import Derived.Test.YtoiobhcgpajogadHall7
import Derived.Test.YtoiobhcgpajogadVals
namespace Go.Proofs.Ytoiobhcgpajogad
open Go.RowKit

def paint (g : Nat → Nat) (w : World) (c : Nat) : Nat → Nat := fun k => if k < w.heap.size then g k else c

theorem Evo.paint {lo hi : Nat} {g g' : Nat → Nat} {w w' : World} (h : Evo lo hi g g' w w') (c : Nat) : Evo lo hi g (paint g' w c) w w' :=
  ⟨h.os, h.tape, h.output, h.size, fun b hb => by unfold Go.Proofs.Ytoiobhcgpajogad.paint; rw [if_pos hb]; exact h.col b hb, h.same⟩

theorem Evo.mix {lo hi c : Nat} {g1 g2 : Nat → Nat} {w w1 w2 : World} (h : Evo lo hi (Go.Proofs.Ytoiobhcgpajogad.paint g1 w c) g2 w1 w2) (hc : c < lo ∨ hi ≤ c) : Evo lo hi g1 (fun k => if k < w1.heap.size then g1 k else g2 k) w1 w2 := by
  refine ⟨h.os, h.tape, h.output, h.size, fun b hb => if_pos hb, fun b hb hn => h.same b hb ?_⟩
  unfold Go.Proofs.Ytoiobhcgpajogad.paint
  by_cases e : b < w.heap.size
  · rw [if_pos e]; exact hn
  · rw [if_neg e]; omega

theorem RowB.recolor2 {w : World} {g g' : Nat → Nat} {p p' : Nat} {a : Option Addr} {cap : Nat} {l : List UInt8} (h : RowB w g p a cap l) (hg : ∀ k, g k = p → g' k = p') : RowB w g' p' a cap l := by
  obtain ⟨h1, h2, h3, h4, h5⟩ := h
  exact ⟨h1, h2, h3, fun ad e => ⟨(h4 ad e).1, (h4 ad e).2.1, hg _ (h4 ad e).2.2.1, (h4 ad e).2.2.2⟩, h5⟩

theorem LogAt.recolor2 {w : World} {g g' : Nat → Nat} {p p' b : Nat} {G : Lg} (h : LogAt w g p b G) (hg : ∀ k, g k = p → g' k = p') : LogAt w g' p' b G := by
  obtain ⟨a, cap, h1, h2, h3⟩ := h
  exact ⟨a, cap, ⟨h1.1, hg _ h1.2⟩, h2.recolor2 hg, h3⟩

section
variable {g g' : Nat → Nat} {w : World} {p : Nat}
theorem VaultAt.recolor {v : Nat} {V : Vt} (h : VaultAt w g p v V) (hg : ∀ k, p ≤ g k → g k < p + 11 → g' k = g k) : VaultAt w g' p v V := by
  obtain ⟨t, b, h0, h1, h2, h3⟩ := h
  exact ⟨t, b, h0, ⟨h1.1, (hg _ (by rw [h1.2]; omega) (by rw [h1.2]; omega)).trans h1.2⟩, h2.recolor (fun k j hj e => (hg k (by omega) (by omega)).trans e), h3.recolor2 (fun k e => (hg k (by omega) (by omega)).trans e)⟩

theorem HallAt.recolor {h : Nat} {H : Ht} (k : HallAt w g p h H) (hg : ∀ k, p ≤ g k → g k < p + 17 → g' k = g k) : HallAt w g' p h H := by
  obtain ⟨vp, ds, k⟩ := k
  refine ⟨vp, ds, ⟨⟨k.loc.1, (hg _ (by rw [k.loc.2]; omega) (by rw [k.loc.2]; omega)).trans k.loc.2⟩, k.vault.recolor (fun j h1 h2 => hg j (by omega) (by omega)), fun s hs D hD => ?_⟩⟩
  have d := k.deed s hs D hD
  exact ⟨d.1, d.2.1, (hg _ (by rw [d.2.2]; omega) (by rw [d.2.2]; omega)).trans d.2.2⟩
end

/-- One hall steps, and then the other one; what the first step told stands. -/
theorem two_step {p q c B h k : Nat} {g g1 g2 : Nat → Nat} {w0 w w1 w2 : World} {H1 G2 : Ht} (hB : Base B w0 g w) (hE1 : Evo p (p + 17) g g1 w w1) (hH : HallAt w1 g1 p h H1)
    (hE2 : Evo q (q + 17) (paint g1 w c) g2 w1 w2) (hG : HallAt w2 g2 q k G2) (h1 : 1 ≤ p) (hpq : p + 17 ≤ q) (hc : q + 17 ≤ c) :
    ∃ g3, HallAt w2 g3 p h H1 ∧ HallAt w2 g3 q k G2 ∧ Base B w0 g3 w2 := by
  have hM := hE2.mix (by omega)
  refine ⟨_, hH.frame hM (by omega), hG.recolor (fun j j1 j2 => ?_), (hB.step hE1 (by omega)).step hM (by omega)⟩
  by_cases e : j < w1.heap.size
  · have h2 := hE2.col j e
    show (if j < w1.heap.size then g1 j else g2 j) = g2 j
    rw [if_pos e, h2]
    unfold paint at h2 ⊢
    by_cases e2 : j < w.heap.size
    · rw [if_pos e2]
    · rw [if_neg e2] at h2; omega
  · show (if j < w1.heap.size then g1 j else g2 j) = g2 j
    rw [if_neg e]

theorem told_stays {q c : Nat} {g1 g2 : Nat → Nat} {w w1 w2 : World} {a : Option Addr} {cells : List Value} (hs : SliceAt w1 a cells) (ha : ∀ ad, a = some ad → w.heap.size ≤ ad.block)
    (hE2 : Evo q (q + 17) (paint g1 w c) g2 w1 w2) (hc : q + 17 ≤ c) : SliceAt w2 a cells := by
  by_cases e : cells = []
  · exact .inl e
  · obtain ⟨b, off, rfl, hb⟩ := hs.lt e
    refine hs.lift (fun ad had => ?_)
    cases had
    have := ha _ rfl
    refine hE2.same b hb ?_
    unfold paint
    rw [if_neg (by exact Nat.not_lt.2 this)]
    omega

end Go.Proofs.Ytoiobhcgpajogad
