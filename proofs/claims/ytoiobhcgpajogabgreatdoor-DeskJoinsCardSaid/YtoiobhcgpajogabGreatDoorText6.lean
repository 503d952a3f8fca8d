/- What the texts of bytes say, in plain words. -/
import Derived.Test.YtoiobhcgpajogabGreatDoorText5
namespace Go.Proofs.YtoiobhcgpajogabGreatDoor
open Go.RowKit

theorem hexI_hexD (n : Nat) (h : n < 16) : hexI (hexD n) = n := by
  have e : ∀ n : Fin 16, hexI (hexD n.val) = (n.val : Int) := by decide
  exact e ⟨n, h⟩

theorem plainB_ne {c : UInt8} (h : plainB c = true) : c ≠ 92 := by
  rintro rfl
  revert h
  decide

theorem rawMean_show (c : UInt8) (u : List UInt8) : rawMean (showByte c ++ u) = (rawMean u).map (fun r => c :: r) := by
  unfold showByte
  split
  · rename_i h
    exact rawMean_cons c u (plainB_ne h)
  · have := c.toNat_lt
    have h1 := hexI_hexD (c.toNat / 16) (by omega)
    have h2 := hexI_hexD (c.toNat % 16) (by omega)
    show rawMean (92 :: hexD (c.toNat / 16) :: hexD (c.toNat % 16) :: u) = _
    rw [rawMean_long, h1, h2, if_neg (by omega)]
    have e : ((c.toNat / 16 : Nat) : Int) * 16 + ((c.toNat % 16 : Nat) : Int) = (c.toNat : Int) := by omega
    rw [e]
    simp

theorem rawMean_showL (r : List UInt8) : rawMean (showL r) = some r := by
  induction r with
  | nil => rfl
  | cons c r ih =>
    show rawMean (showByte c ++ showL r) = _
    rw [rawMean_show, ih]
    rfl

theorem meanL_showL (r : List UInt8) : meanL (showL r) = some r := meanL_some (rawMean_showL r) rfl

theorem meanL_iff (t r : List UInt8) : meanL t = some r ↔ showL r = t := by
  constructor
  · intro h
    obtain ⟨r', h1, h2⟩ := Option.bind_eq_some_iff.1 h
    split at h2
    · cases h2; assumption
    · cases h2
  · rintro rfl
    exact meanL_showL r

theorem showL_inj {a b : List UInt8} (h : showL a = showL b) : a = b := by
  have := meanL_showL a
  rw [h, meanL_showL] at this
  exact (Option.some.inj this).symm

theorem showL_split (a r rest : List UInt8) (h : showL r = showL a ++ rest) : ∃ r', r = a ++ r' ∧ showL r' = rest := by
  induction a generalizing r with
  | nil => exact ⟨r, rfl, h⟩
  | cons c a ih =>
    have h' : showL r = showByte c ++ (showL a ++ rest) := by rw [h]; simp [showL]
    have h2 := rawMean_showL r
    rw [h', rawMean_show] at h2
    obtain ⟨r2, _, rfl⟩ := Option.map_eq_some_iff.1 h2
    have h3 : showByte c ++ showL r2 = showByte c ++ (showL a ++ rest) := h'
    obtain ⟨r3, rfl, h4⟩ := ih r2 (List.append_cancel_left h3)
    exact ⟨r3, rfl, h4⟩

theorem showL_one (c : UInt8) : showL [c] = showByte c := by simp [showL]

/-- No byte's text stands at the head of the rest: then the whole is no text. -/
theorem meanL_stuck {t acc : List UInt8} (k : Nat) (hk : k < t.length) (h : showL acc = t.take k) (hno : ∀ c : UInt8, ¬ (showByte c <+: t.drop k)) : meanL t = none := by
  cases hm : meanL t with
  | none => rfl
  | some r =>
    exfalso
    have h1 := (meanL_iff t r).1 hm
    have h2 : showL r = showL acc ++ t.drop k := by rw [h1, h, List.take_append_drop]
    obtain ⟨r', rfl, h3⟩ := showL_split _ _ _ h2
    rcases r' with _ | ⟨c, r'⟩
    · have : (t.drop k).length = 0 := by rw [← h3]; rfl
      simp at this
      omega
    · exact hno c ⟨showL r', h3⟩

theorem showL_step {t acc : List UInt8} (k : Nat) (c : UInt8) (h : showL acc = t.take k) (hp : showByte c <+: t.drop k) : showL (acc ++ [c]) = t.take (k + (showByte c).length) := by
  obtain ⟨u, hu⟩ := hp
  rw [showL_append, showL_one, h, List.take_add, ← hu]
  simp

/-- Bytes of a text lie from 33 to 126. -/
theorem showByte_range (c : UInt8) : ∀ x ∈ showByte c, 33 ≤ x.toNat ∧ x.toNat ≤ 126 := by
  have hx : ∀ n : Fin 16, 33 ≤ (hexD n.val).toNat ∧ (hexD n.val).toNat ≤ 126 := by decide
  intro x h
  unfold showByte at h
  split at h
  · rename_i hp
    simp at h
    subst h
    unfold plainB at hp
    simp at hp
    omega
  · have := c.toNat_lt
    simp at h
    rcases h with rfl | rfl | rfl
    · decide
    · exact hx ⟨_, by omega⟩
    · exact hx ⟨_, by omega⟩

theorem showL_range (s : List UInt8) : ∀ x ∈ showL s, 33 ≤ x.toNat ∧ x.toNat ≤ 126 := by
  intro x h
  obtain ⟨c, _, hc⟩ := List.mem_flatMap.1 h
  exact showByte_range c x hc

end Go.Proofs.YtoiobhcgpajogabGreatDoor
