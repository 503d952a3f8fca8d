/- The walk of Mean. -/
import Derived.Test.YtoiobhcgpajogabGreatDoorText3
namespace Go.Proofs.YtoiobhcgpajogabGreatDoor
open Go.RowKit

def hexI (c : UInt8) : Int := Lib.indexByte hexL c

def rawMean : List UInt8 → Option (List UInt8)
  | [] => some []
  | [c] => if c = 92 then none else some [c]
  | [c, d] => if c = 92 then none else if d = 92 then none else some [c, d]
  | c :: a :: b :: t => if c = 92 then (if hexI a < 0 ∨ hexI b < 0 then none else (rawMean t).map (fun r => UInt8.ofNat (hexI a * 16 + hexI b).toNat :: r)) else (rawMean (a :: b :: t)).map (fun r => c :: r)

def meanL (t : List UInt8) : Option (List UInt8) := (rawMean t).bind fun r => if showL r = t then some r else none

def MeanPost (m : Option (List UInt8)) (w : World) (e : Ending) (w' : World) : Prop := e = .returned (.tuple #[.string ⟨(m.getD []).toArray⟩, .bool m.isSome]) ∧ Below w.heap.size w w'

theorem hexI_range (c : UInt8) : -1 ≤ hexI c ∧ hexI c < 16 := by
  refine ⟨Lib.indexByte_ge _ _, ?_⟩
  have h : ∀ (l : List UInt8) (c : UInt8), Lib.indexByte l c < l.length ∨ l = [] := by
    intro l
    induction l with
    | nil => intro c; right; rfl
    | cons b l ih =>
      intro c
      left
      unfold Lib.indexByte
      split
      · simp
      · split
        · simp; omega
        · rcases ih c with h | h
          · simp; omega
          · subst h; simp [Lib.indexByte] at *
  rcases h hexL c with h | h
  · exact h
  · cases h

theorem rawMean_cons (c : UInt8) (t : List UInt8) (h : c ≠ 92) : rawMean (c :: t) = (rawMean t).map (fun r => c :: r) := by
  rcases t with _ | ⟨a, _ | ⟨b, t⟩⟩
  · simp [rawMean, h]
  · simp only [rawMean, h, if_false]
    split <;> rfl
  · simp [rawMean, h]

theorem rawMean_short (t : List UInt8) (h : t.length < 2) : rawMean (92 :: t) = none := by
  rcases t with _ | ⟨a, _ | ⟨b, t⟩⟩
  · rfl
  · rfl
  · simp at h; omega

theorem rawMean_long (a b : UInt8) (t : List UInt8) : rawMean (92 :: a :: b :: t) = if hexI a < 0 ∨ hexI b < 0 then none else (rawMean t).map (fun r => UInt8.ofNat (hexI a * 16 + hexI b).toNat :: r) := by
  simp [rawMean]

theorem rawMean_length (n : Nat) (t r : List UInt8) (hn : t.length ≤ n) (h : rawMean t = some r) : r.length ≤ t.length := by
  induction n generalizing t r with
  | zero =>
    obtain rfl : t = [] := List.eq_nil_of_length_eq_zero (by omega)
    simp [rawMean] at h
    subst h
    simp
  | succ n ih =>
    rcases t with _ | ⟨c, t⟩
    · simp [rawMean] at h
      subst h
      simp
    · simp only [List.length_cons] at hn ⊢
      by_cases hc : c = 92
      · subst hc
        rcases t with _ | ⟨a, _ | ⟨b, t⟩⟩
        · simp [rawMean] at h
        · simp [rawMean] at h
        · rw [rawMean_long] at h
          split at h
          · cases h
          · obtain ⟨r', h1, rfl⟩ := Option.map_eq_some_iff.1 h
            have := ih t r' (by simp at hn; omega) h1
            simp
            omega
      · rw [rawMean_cons c t hc] at h
        obtain ⟨r', h1, rfl⟩ := Option.map_eq_some_iff.1 h
        have := ih t r' (by omega) h1
        simp
        omega

theorem idx_any (c : UInt8) (w : World) : Calls Tryz.prog 59 #[.string ⟨#[48, 49, 50, 51, 52, 53, 54, 55, 56, 57, 97, 98, 99, 100, 101, 102]⟩, .int .u8 c.toNat] w fun e w' => e = .returned (.int .i64 (hexI c)) ∧ w' = w := by
  refine (Tryz.strings_IndexByte _ _ w).mono ?_
  rintro e w' ⟨rfl, rfl⟩
  refine ⟨?_, rfl⟩
  have : ((c.toNat : Int).toNat).toUInt8 = c := by simp
  rw [this]
  rfl

end Go.Proofs.YtoiobhcgpajogabGreatDoor
