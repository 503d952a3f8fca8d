/- The walk of PairsOf. -/
import Derived.Test.YtoiobhcgpajogabGreatDoorCodec7
namespace Go.Proofs.YtoiobhcgpajogabGreatDoor
open Go.RowKit

def sub (l : List UInt8) (m c : Nat) : List UInt8 := (l.take c).drop m

theorem sub_length {l : List UInt8} {m c : Nat} (hc : c ≤ l.length) : (sub l m c).length = c - m := by
  unfold sub; rw [List.length_drop, List.length_take]; omega

theorem sub_cons {l : List UInt8} {m c : Nat} (hm : m + 2 ≤ c) (hc : c ≤ l.length) : sub l m c = l[m] :: l[m + 1] :: sub l (m + 2) c := by
  unfold sub
  rw [List.drop_eq_getElem_cons (by rw [List.length_take]; omega), List.drop_eq_getElem_cons (i := m + 1) (by rw [List.length_take]; omega)]
  simp

theorem sub_short {l : List UInt8} {m c : Nat} (hm : c < m + 2) (hc : c ≤ l.length) : partD (sub l m c) = none := by
  have h := sub_length (m := m) hc
  match sub l m c, h with
  | [], _ => rfl
  | [_], _ => rfl
  | _ :: _ :: _, h => simp at h; omega

theorem sub_none {l : List UInt8} {m c : Nat} (hm : m + 2 ≤ c) (hc : c ≤ l.length) (hk : l[m + 1].toNat = 255) : partD (sub l m c) = some (⟨l[m].toNat, ⟨false, ⟨#[]⟩⟩⟩, sub l (m + 2) c) := by
  rw [sub_cons hm hc, partD, if_pos hk]

theorem sub_long {l : List UInt8} {m c : Nat} (hm : m + 2 ≤ c) (hc : c ≤ l.length) (hk : l[m + 1].toNat ≠ 255) (h : c < m + 2 + l[m + 1].toNat) : partD (sub l m c) = none := by
  rw [sub_cons hm hc, partD, if_neg hk, if_pos (by rw [sub_length hc]; omega)]

theorem sub_some {l : List UInt8} {m c : Nat} (hm : m + 2 ≤ c) (hc : c ≤ l.length) (hk : l[m + 1].toNat ≠ 255) (h : m + 2 + l[m + 1].toNat ≤ c) :
    partD (sub l m c) = some (⟨l[m].toNat, ⟨true, ⟨((sub l (m + 2) c).take l[m + 1].toNat).toArray⟩⟩⟩, sub l (m + 2 + l[m + 1].toNat) c) := by
  rw [sub_cons hm hc, partD, if_neg hk, if_neg (by rw [sub_length hc]; omega)]
  unfold sub
  rw [List.drop_drop]

end Go.Proofs.YtoiobhcgpajogabGreatDoor
