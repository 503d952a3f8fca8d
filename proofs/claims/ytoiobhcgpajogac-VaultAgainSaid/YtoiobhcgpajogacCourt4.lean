/- A court in memory: recoloring; a hall and a court step one behind the other. -/
import Derived.Test.YtoiobhcgpajogacCourt3
import Derived.Test.YtoiobhcgpajogacHallT
namespace Go.Proofs.Ytoiobhcgpajogac
open Go.RowKit

section
variable {w : World} {g g' : Nat → Nat} {p : Nat}

theorem PairSls.recolor {q : Nat} (hg : ∀ k, g k = q → g' k = q) : ∀ {vs : List Value} {ls : List (List Ent)}, PairSls w g q vs ls → PairSls w g' q vs ls
  | [], [], _ => trivial
  | _ :: _, _ :: _, ⟨⟨a, cap, h1, h2, h3⟩, h⟩ => ⟨⟨a, cap, h1, h2, fun ad e => ⟨(h3 ad e).1, hg _ (h3 ad e).2⟩⟩, PairSls.recolor hg h⟩

theorem RollAt.recolor {b : Nat} {sv : Value} {qs : List Value} {G : Lg} (h : RollAt w g p b sv qs G) (hg : ∀ k, p ≤ g k → g k < p + 4 → g' k = g k) : RollAt w g' p b sv qs G := by
  obtain ⟨vl, svs, ta, tc, h1, h2, h3, h4, h5⟩ := h
  exact ⟨vl, svs, ta, tc, ⟨h1.1, (hg _ (by rw [h1.2]; omega) (by rw [h1.2]; omega)).trans h1.2⟩, h2, fun r hr => (hg _ (by rw [h3 r hr]; omega) (by rw [h3 r hr]; omega)).trans (h3 r hr),
    h4.recolor (fun k e => (hg k (by omega) (by omega)).trans e), h5.recolor2 (fun k e => (hg k (by omega) (by omega)).trans e)⟩

theorem SheetAt.recolor {s : Nat} {T : Tab} (h : SheetAt w g p s T) (hg : ∀ k, p ≤ g k → g k < p + 2 → g' k = g k) : SheetAt w g' p s T := by
  obtain ⟨h0, v, h1, h2⟩ := h
  exact ⟨h0, v, ⟨h1.1, (hg _ (by rw [h1.2]; omega) (by rw [h1.2]; omega)).trans h1.2⟩, fun j hj => (h2 j hj).lift (Nat.le_refl _) (fun b _ e => ⟨rfl, hg b (by omega) (by omega)⟩)⟩

theorem WorkAt.recolor {b N : Nat} {D : Ded} (h : WorkAt w g p b D N) {p' : Nat} (hg : ∀ k j, j < 3 → g k = p + j → g' k = p' + j) : WorkAt w g' p' b D N := by
  obtain ⟨W, vr, vw, h⟩ := h
  exact ⟨W, vr, vw, h.ok, h.abs, h.reads, h.wrote, ⟨h.loc.1, hg _ 0 (by omega) h.loc.2⟩, ⟨h.rr.1, fun r hr => hg _ 1 (by omega) (h.rr.2 r hr)⟩, ⟨h.rw.1, fun r hr => hg _ 2 (by omega) (h.rw.2 r hr)⟩⟩

theorem CourtL.recolor {c s N : Nat} {ds : Nat → Nat} {T : Tab} {G : Lg} {S : Nat → Option Ded} (k : CourtL w g p c s ds N T G S) (hg : ∀ k, p ≤ g k → g k < p + 21 → g' k = g k) : CourtL w g' p c s ds N T G S :=
  ⟨k.lok, k.roll.recolor (fun j h1 h2 => hg j (by omega) (by omega)), k.sheet.recolor (fun j h1 h2 => hg j (by omega) (by omega)), fun i hi D hD => (k.work i hi D hD).recolor (fun b j hj e => (hg b (by omega) (by omega)).trans e)⟩

theorem CourtAt.recolor {c N : Nat} {H : Ht} (k : CourtAt w g p c N H) (hg : ∀ k, p ≤ g k → g k < p + 21 → g' k = g k) : CourtAt w g' p c N H := by
  obtain ⟨h, s, ds, k⟩ := k
  exact ⟨h, s, ds, k.recolor hg⟩
end

/-- A hall steps, and then a court; what the first step told stands. -/
theorem two_stepC {p q c B h k N : Nat} {g g1 g2 : Nat → Nat} {w0 w w1 w2 : World} {H1 G2 : Ht} (hB : Base B w0 g w) (hE1 : Evo p (p + 17) g g1 w w1) (hH : HallAt w1 g1 p h H1)
    (hE2 : Evo q (q + 21) (paint g1 w c) g2 w1 w2) (hG : CourtAt w2 g2 q k N G2) (h1 : 1 ≤ p) (hpq : p + 17 ≤ q) (hc : q + 21 ≤ c) :
    ∃ g3, HallAt w2 g3 p h H1 ∧ CourtAt w2 g3 q k N G2 ∧ Base B w0 g3 w2 := by
  have hM := hE2.mix (by omega)
  refine ⟨_, hH.frame hM (by omega), hG.recolor (fun j j1 j2 => ?_), (hB.step hE1 (by omega)).step hM (by omega)⟩
  by_cases e : j < w1.heap.size
  · have h2 := hE2.col j e
    show (if j < w1.heap.size then g1 j else g2 j) = g2 j
    rw [if_pos e, h2]
    unfold paint at h2 ⊢
    by_cases e2 : j < w.heap.size
    · rw [if_pos e2]
    · rw [if_neg e2] at h2; omega
  · show (if j < w1.heap.size then g1 j else g2 j) = g2 j
    rw [if_neg e]

theorem told_staysC {q c : Nat} {g1 g2 : Nat → Nat} {w w1 w2 : World} {a : Option Addr} {cells : List Value} (hs : SliceAt w1 a cells) (ha : ∀ ad, a = some ad → w.heap.size ≤ ad.block)
    (hE2 : Evo q (q + 21) (paint g1 w c) g2 w1 w2) (hc : q + 21 ≤ c) : SliceAt w2 a cells := by
  by_cases e : cells = []
  · exact .inl e
  · obtain ⟨b, off, rfl, hb⟩ := hs.lt e
    refine hs.lift (fun ad had => ?_)
    cases had
    have := ha _ rfl
    refine hE2.same b hb ?_
    unfold paint
    rw [if_neg (by exact Nat.not_lt.2 this)]
    omega

theorem listDGo_len8 {T : Tab} : ∀ (ks : List Nat) (D : Ded) (out : List Ent), (listDGo T ks D out).1.1.length ≤ out.length + ks.length
  | [], D, out => by simp [listDGo]
  | k :: ks, D, out => by
    rw [listDGo]
    split
    · simp
    · have h := listDGo_len8 (T := T) ks (getD D T k).2 (if (getD D T k).1.1.there then out ++ [⟨k, (getD D T k).1.1⟩] else out)
      have h2 : (if (getD D T k).1.1.there then out ++ [⟨(k : Int), (getD D T k).1.1⟩] else out).length ≤ out.length + 1 := by split <;> simp
      simp only [List.length_cons]
      omega

theorem doH_told (H : Ht) (x : St) : (doH H x).1.l.length ≤ 8 := by
  have hl : ∀ (D : Ded) (T : Tab) (f u : Int), (listD D T f u).1.1.length ≤ 8 := by
    intro D T f u
    unfold listD
    split
    · simp
    · have h := listDGo_len8 (T := T) ((List.range (u.toNat + 1)).drop f.toNat) D []
      simp only [List.length_drop, List.length_range, List.length_nil] at h
      omega
  unfold doH
  split
  · simp [Evt.of]
  split
  · simp [Evt.of]
  split
  · simp [Evt.of]
  split
  · simp [Evt.of]
  split
  · unfold beginH
    split
    · simp [Evt.of]
    · split <;> simp [Evt.of]
  · unfold deedO
    split
    · simp [Evt.of]
    · unfold deedH
      split
      · simp
      split
      · simp [Evt.of]
      split
      · simp [Evt.of]
      split
      · exact hl _ _ _ _
      repeat' split
      all_goals simp [Evt.of]

theorem Evo.drewn {lo hi : Nat} {g g' : Nat → Nat} {w w' : World} (h : Evo lo hi g g' w w') : Evo lo hi g g' w w'.drew := ⟨h.os, h.tape, h.output, h.size, h.col, h.same⟩

theorem quietOf {F : Nat} {args : Array Value} {w : World} {r : Value} (h : ∀ n, Calls Try.prog F args (w.drewN n) (fun e w' => e = .returned r ∧ w.drewN n = w')) (n : Nat) :
    Calls Try.prog F args (w.drewN n) (fun e w' => e = .returned r ∧ ∃ m, w' = w.drewN m) := (h n).mono (fun _ _ h => ⟨h.1, n, h.2.symm⟩)

end Go.Proofs.Ytoiobhcgpajogac
