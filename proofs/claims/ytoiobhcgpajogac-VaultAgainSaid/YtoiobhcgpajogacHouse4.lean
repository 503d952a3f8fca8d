/- The house of a vault's law: memory. -/
import Derived.Test.YtoiobhcgpajogacHouse3
namespace Go.Proofs.Ytoiobhcgpajogac
open Go.RowKit

/-- A deed of the house: the colour from which on its four lie, where the deed and its work lie, what both are. -/
structure En where
  cl : Nat
  d : Nat
  b : Nat
  D : Ded
  E : Ded

def rowD (n : Nat) (x : Nat → En) : List Value := (List.range n).map (fun i => .pointer (some ⟨(x i).d, 0, none⟩))
def rowB (n : Nat) (x : Nat → En) : List Value := (List.range n).map (fun i => .pointer (some ⟨(x i).b, 0, none⟩))

theorem rowD_length (n : Nat) (x : Nat → En) : (rowD n x).length = n := by simp [rowD]
theorem rowB_length (n : Nat) (x : Nat → En) : (rowB n x).length = n := by simp [rowB]
theorem rowD_get {n : Nat} (x : Nat → En) {i : Nat} (hi : i < n) : (rowD n x)[i]? = some (.pointer (some ⟨(x i).d, 0, none⟩)) := by simp [rowD, hi]
theorem rowB_get {n : Nat} (x : Nat → En) {i : Nat} (hi : i < n) : (rowB n x)[i]? = some (.pointer (some ⟨(x i).b, 0, none⟩)) := by simp [rowB, hi]
theorem rowD_congr {n : Nat} {x y : Nat → En} (h : ∀ i, i < n → (x i).d = (y i).d) : rowD n x = rowD n y := by
  unfold rowD
  refine List.map_congr_left fun i hi => ?_
  rw [h i (by simpa using hi)]
theorem rowB_congr {n : Nat} {x y : Nat → En} (h : ∀ i, i < n → (x i).b = (y i).b) : rowB n x = rowB n y := by
  unfold rowB
  refine List.map_congr_left fun i hi => ?_
  rw [h i (by simpa using hi)]
theorem rowD_more (n : Nat) (x : Nat → En) (y : En) : rowD (n + 1) (upd x n y) = rowD n x ++ [.pointer (some ⟨y.d, 0, none⟩)] := by
  rw [rowD, List.range_succ, List.map_append]
  congr 1
  · exact rowD_congr (fun i hi => by rw [upd_other _ _ (by omega)])
  · simp [upd_same]
theorem rowB_more (n : Nat) (x : Nat → En) (y : En) : rowB (n + 1) (upd x n y) = rowB n x ++ [.pointer (some ⟨y.b, 0, none⟩)] := by
  rw [rowB, List.range_succ, List.map_append]
  congr 1
  · exact rowB_congr (fun i hi => by rw [upd_other _ _ (by omega)])
  · simp [upd_same]

/-- All but the one. -/
def less (x : Nat → En) (k : Nat) : Nat → En := fun i => if i < k then x i else x (i + 1)

theorem rows_less {α : Type} (f : Nat → α) {n k : Nat} (hk : k < n) : (List.range (n - 1)).map (fun i => if i < k then f i else f (i + 1)) = ((List.range n).map f).take k ++ ((List.range n).map f).drop (k + 1) := by
  apply List.ext_getElem?
  intro i
  rw [List.getElem?_append]
  by_cases h : i < k
  · have h1 : i < n - 1 := by omega
    have h3 : min k n = k := by omega
    simp [h, h1, h3]
  · have h3 : min k n = k := by omega
    simp only [List.length_take, List.length_map, List.length_range, h3, h, if_false, List.getElem?_drop]
    by_cases h1 : i < n - 1
    · have h2 : k + 1 + (i - k) < n := by omega
      have h4 : k + 1 + (i - k) = i + 1 := by omega
      have h5 : i + 1 < n := by omega
      simp [h, h1, h4, h5]
    · have h2 : ¬ k + 1 + (i - k) < n := by omega
      rw [List.getElem?_eq_none (by simp; omega), List.getElem?_eq_none (by simp; omega)]

theorem rowD_less {n k : Nat} (x : Nat → En) (hk : k < n) : rowD (n - 1) (less x k) = (rowD n x).take k ++ (rowD n x).drop (k + 1) := by
  rw [rowD, rowD, ← rows_less _ hk]
  refine List.map_congr_left fun i _ => ?_
  unfold less
  split <;> rfl
theorem rowB_less {n k : Nat} (x : Nat → En) (hk : k < n) : rowB (n - 1) (less x k) = (rowB n x).take k ++ (rowB n x).drop (k + 1) := by
  rw [rowB, rowB, ← rows_less _ hk]
  refine List.map_congr_left fun i _ => ?_
  unfold less
  split <;> rfl

/-- The house: V is what the vault has, U what the court has. -/
structure HouseC (w : World) (g : Nat → Nat) (p h vp c : Nat) (vd vw : Value) (nx N n : Nat) (V U : Vt) (x : Nat → En) : Prop where
  loc : LocC w g p h 69 [.pointer (some ⟨vp, 0, none⟩), .pointer (some ⟨c, 0, none⟩), vd, vw]
  vault : VaultAt w g (p + 1) vp V
  court : CourtAt w g (p + 12) c N ⟨U, fun _ => none⟩
  rd : RowP w g (p + 33) 31 vd (rowD n x)
  rb : RowP w g (p + 34) 33 vw (rowB n x)
  deed : ∀ i, i < n → DeedAt w g (x i).cl (x i).d (x i).D
  work : ∀ i, i < n → WorkAt w g ((x i).cl + 1) (x i).b (x i).E N
  col : ∀ i, i < n → p + 40 ≤ (x i).cl ∧ (x i).cl + 4 ≤ nx
  apart : ∀ i j, i < n → j < n → i ≠ j → (x i).cl + 4 ≤ (x j).cl ∨ (x j).cl + 4 ≤ (x i).cl
  nxt : p + 40 ≤ nx
  few : n ≤ 6

section
variable {lo hi : Nat} {w w' : World} {g g' : Nat → Nat} {p h vp c nx N n : Nat} {vd vw : Value} {V U : Vt} {x : Nat → En}

theorem HouseC.frame (k : HouseC w g p h vp c vd vw nx N n V U x) (e : Evo lo hi g g' w w') (hc : nx ≤ lo ∨ hi ≤ p) : HouseC w' g' p h vp c vd vw nx N n V U x := by
  have h0 := k.nxt
  exact ⟨k.loc.frame e (by omega), k.vault.frame e (by omega), k.court.frame e (by omega), k.rd.frame e (by omega), k.rb.frame e (by omega), fun i hi => (k.deed i hi).frame e (by have := k.col i hi; omega),
    fun i hi => (k.work i hi).frame e (by have := k.col i hi; omega), k.col, k.apart, h0, k.few⟩

theorem HouseC.below (k : HouseC w g p h vp c vd vw nx N n V U x) (e : Below w.heap.size w w') : HouseC w' g p h vp c vd vw nx N n V U x :=
  ⟨k.loc.below e, k.vault.below e, k.court.below e, k.rd.below e, k.rb.below e, fun i hi => (k.deed i hi).below e, fun i hi => (k.work i hi).below e, k.col, k.apart, k.nxt, k.few⟩

theorem HouseC.newVault (k : HouseC w g p h vp c vd vw nx N n V U x) {V2 : Vt} (e : Evo (p + 1) (p + 1 + 11) g g' w w') (hv : VaultAt w' g' (p + 1) vp V2) : HouseC w' g' p h vp c vd vw nx N n V2 U x :=
  ⟨k.loc.frame e (by omega), hv, k.court.frame e (by omega), k.rd.frame e (by omega), k.rb.frame e (by omega), fun i hi => (k.deed i hi).frame e (by have := k.col i hi; omega),
    fun i hi => (k.work i hi).frame e (by have := k.col i hi; omega), k.col, k.apart, k.nxt, k.few⟩

theorem HouseC.newCourt (k : HouseC w g p h vp c vd vw nx N n V U x) {N2 : Nat} {U2 : Vt} (hN : N ≤ N2) (e : Evo (p + 12) (p + 12 + 21) g g' w w') (hv : CourtAt w' g' (p + 12) c N2 ⟨U2, fun _ => none⟩) : HouseC w' g' p h vp c vd vw nx N2 n V U2 x :=
  ⟨k.loc.frame e (by omega), k.vault.frame e (by omega), hv, k.rd.frame e (by omega), k.rb.frame e (by omega), fun i hi => (k.deed i hi).frame e (by have := k.col i hi; omega),
    fun i hi => ((k.work i hi).frame e (by have := k.col i hi; omega)).more hN, k.col, k.apart, k.nxt, k.few⟩

theorem HouseC.newDeed (k : HouseC w g p h vp c vd vw nx N n V U x) {i : Nat} (hi : i < n) {D2 : Ded} (e : Evo (x i).cl ((x i).cl + 1) g g' w w') (hd : DeedAt w' g' (x i).cl (x i).d D2) :
    HouseC w' g' p h vp c vd vw nx N n V U (upd x i { x i with D := D2 }) := by
  have h0 := k.col i hi
  have hcl : ∀ j, (upd x i { x i with D := D2 } j).cl = (x j).cl ∧ (upd x i { x i with D := D2 } j).d = (x j).d ∧ (upd x i { x i with D := D2 } j).b = (x j).b ∧ (upd x i { x i with D := D2 } j).E = (x j).E := fun j => by
    by_cases e : j = i
    · subst e; rw [upd_same]; exact ⟨rfl, rfl, rfl, rfl⟩
    · rw [upd_other _ _ e]; exact ⟨rfl, rfl, rfl, rfl⟩
  refine ⟨k.loc.frame e (by omega), k.vault.frame e (by omega), k.court.frame e (by omega), ?_, ?_, fun j hj => ?_, fun j hj => ?_, fun j hj => by rw [(hcl j).1]; exact k.col j hj,
    fun j m hj hm hne => by rw [(hcl j).1, (hcl m).1]; exact k.apart j m hj hm hne, k.nxt, k.few⟩
  · rw [rowD_congr (fun j _ => (hcl j).2.1)]; exact k.rd.frame e (by omega)
  · rw [rowB_congr (fun j _ => (hcl j).2.2.1)]; exact k.rb.frame e (by omega)
  · by_cases ej : j = i
    · subst ej; rw [upd_same]; exact hd
    · rw [upd_other _ _ ej]; exact (k.deed j hj).frame e (by have := k.apart j i hj hi ej; omega)
  · rw [(hcl j).1, (hcl j).2.2.1, (hcl j).2.2.2]
    refine (k.work j hj).frame e ?_
    by_cases ej : j = i
    · subst ej; omega
    · have := k.apart j i hj hi ej; omega

theorem HouseC.newWork (k : HouseC w g p h vp c vd vw nx N n V U x) {i N2 : Nat} (hi : i < n) (hN : N ≤ N2) {E2 : Ded} (e : Evo ((x i).cl + 1) ((x i).cl + 1 + 3) g g' w w') (hd : WorkAt w' g' ((x i).cl + 1) (x i).b E2 N2) :
    HouseC w' g' p h vp c vd vw nx N2 n V U (upd x i { x i with E := E2 }) := by
  have h0 := k.col i hi
  have hcl : ∀ j, (upd x i { x i with E := E2 } j).cl = (x j).cl ∧ (upd x i { x i with E := E2 } j).d = (x j).d ∧ (upd x i { x i with E := E2 } j).b = (x j).b ∧ (upd x i { x i with E := E2 } j).D = (x j).D := fun j => by
    by_cases e : j = i
    · subst e; rw [upd_same]; exact ⟨rfl, rfl, rfl, rfl⟩
    · rw [upd_other _ _ e]; exact ⟨rfl, rfl, rfl, rfl⟩
  refine ⟨k.loc.frame e (by omega), k.vault.frame e (by omega), (k.court.frame e (by omega)).more hN, ?_, ?_, fun j hj => ?_, fun j hj => ?_, fun j hj => by rw [(hcl j).1]; exact k.col j hj,
    fun j m hj hm hne => by rw [(hcl j).1, (hcl m).1]; exact k.apart j m hj hm hne, k.nxt, k.few⟩
  · rw [rowD_congr (fun j _ => (hcl j).2.1)]; exact k.rd.frame e (by omega)
  · rw [rowB_congr (fun j _ => (hcl j).2.2.1)]; exact k.rb.frame e (by omega)
  · rw [(hcl j).1, (hcl j).2.1, (hcl j).2.2.2]
    refine (k.deed j hj).frame e ?_
    by_cases ej : j = i
    · subst ej; omega
    · have := k.apart j i hj hi ej; omega
  · by_cases ej : j = i
    · subst ej; rw [upd_same]; exact hd
    · rw [upd_other _ _ ej]; exact ((k.work j hj).frame e (by have := k.apart j i hj hi ej; omega)).more hN

/-- The house without its own block and its rows. -/
structure HouseR (w : World) (g : Nat → Nat) (p vp c nx N n : Nat) (V U : Vt) (x : Nat → En) : Prop where
  vault : VaultAt w g (p + 1) vp V
  court : CourtAt w g (p + 12) c N ⟨U, fun _ => none⟩
  deed : ∀ i, i < n → DeedAt w g (x i).cl (x i).d (x i).D
  work : ∀ i, i < n → WorkAt w g ((x i).cl + 1) (x i).b (x i).E N
  col : ∀ i, i < n → p + 40 ≤ (x i).cl ∧ (x i).cl + 4 ≤ nx
  apart : ∀ i j, i < n → j < n → i ≠ j → (x i).cl + 4 ≤ (x j).cl ∨ (x j).cl + 4 ≤ (x i).cl
  nxt : p + 40 ≤ nx
  few : n ≤ 6

theorem HouseC.rest (k : HouseC w g p h vp c vd vw nx N n V U x) : HouseR w g p vp c nx N n V U x := ⟨k.vault, k.court, k.deed, k.work, k.col, k.apart, k.nxt, k.few⟩

theorem HouseR.with (k : HouseR w g p vp c nx N n V U x) (hl : LocC w g p h 69 [.pointer (some ⟨vp, 0, none⟩), .pointer (some ⟨c, 0, none⟩), vd, vw])
    (hd : RowP w g (p + 33) 31 vd (rowD n x)) (hb : RowP w g (p + 34) 33 vw (rowB n x)) : HouseC w g p h vp c vd vw nx N n V U x :=
  ⟨hl, k.vault, k.court, hd, hb, k.deed, k.work, k.col, k.apart, k.nxt, k.few⟩

theorem HouseR.frame (k : HouseR w g p vp c nx N n V U x) (e : Evo lo hi g g' w w') (hc : nx ≤ lo ∨ hi ≤ p + 1 ∨ p + 33 ≤ lo ∧ hi ≤ p + 40) : HouseR w' g' p vp c nx N n V U x := by
  have h0 := k.nxt
  exact ⟨k.vault.frame e (by omega), k.court.frame e (by omega), fun i hi => (k.deed i hi).frame e (by have := k.col i hi; omega),
    fun i hi => (k.work i hi).frame e (by have := k.col i hi; omega), k.col, k.apart, h0, k.few⟩

theorem HouseR.below (k : HouseR w g p vp c nx N n V U x) (e : Below w.heap.size w w') : HouseR w' g p vp c nx N n V U x :=
  ⟨k.vault.below e, k.court.below e, fun i hi => (k.deed i hi).below e, fun i hi => (k.work i hi).below e, k.col, k.apart, k.nxt, k.few⟩

/-- One more deed, of the colours from nx on. -/
theorem HouseR.more (k : HouseR w g p vp c nx N n V U x) (h6 : n < 6) {y : En} (hy : y.cl = nx) (hd : DeedAt w g nx y.d y.D) (hw : WorkAt w g (nx + 1) y.b y.E N) : HouseR w g p vp c (nx + 4) N (n + 1) V U (upd x n y) := by
  have h0 := k.nxt
  refine ⟨k.vault, k.court, fun i hi => ?_, fun i hi => ?_, fun i hi => ?_, fun i j hi hj hne => ?_, by omega, by omega⟩
  · by_cases e : i = n
    · subst e; rw [upd_same, hy]; exact hd
    · rw [upd_other _ _ e]; exact k.deed i (by omega)
  · by_cases e : i = n
    · subst e; rw [upd_same, hy]; exact hw
    · rw [upd_other _ _ e]; exact k.work i (by omega)
  · by_cases e : i = n
    · subst e; rw [upd_same, hy]; omega
    · rw [upd_other _ _ e]; have := k.col i (by omega); omega
  · by_cases e : i = n
    · subst e
      rw [upd_same, upd_other _ _ (by omega), hy]
      have := k.col j (by omega); omega
    · rw [upd_other _ _ e]
      by_cases e' : j = n
      · subst e'; rw [upd_same, hy]; have := k.col i (by omega); omega
      · rw [upd_other _ _ e']; exact k.apart i j (by omega) (by omega) hne

theorem less_at (x : Nat → En) (k i : Nat) : ∃ j, less x k i = x j ∧ (i < k ∧ j = i ∨ k ≤ i ∧ j = i + 1) := by
  unfold less
  by_cases h : i < k
  · exact ⟨i, by rw [if_pos h], .inl ⟨h, rfl⟩⟩
  · exact ⟨i + 1, by rw [if_neg h], .inr ⟨by omega, rfl⟩⟩

/-- One deed less. -/
theorem HouseR.drop (k : HouseR w g p vp c nx N n V U x) {m : Nat} (hm : m < n) : HouseR w g p vp c nx N (n - 1) V U (less x m) := by
  refine ⟨k.vault, k.court, fun i hi => ?_, fun i hi => ?_, fun i hi => ?_, fun i j hi hj hne => ?_, k.nxt, by have := k.few; omega⟩
  · obtain ⟨j, ej, hj⟩ := less_at x m i
    rw [ej]; exact k.deed j (by omega)
  · obtain ⟨j, ej, hj⟩ := less_at x m i
    rw [ej]; exact k.work j (by omega)
  · obtain ⟨j, ej, hj⟩ := less_at x m i
    rw [ej]; exact k.col j (by omega)
  · obtain ⟨i', ei, hi'⟩ := less_at x m i
    obtain ⟨j', ej, hj'⟩ := less_at x m j
    rw [ei, ej]; exact k.apart i' j' (by omega) (by omega) (by omega)
end

end Go.Proofs.Ytoiobhcgpajogac
