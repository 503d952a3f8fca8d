/- What bytes begin with, in plain words; there and back. -/
import Derived.Test.YtoiobhcgpajogabCodec7
namespace Go.Proofs.Ytoiobhcgpajogab
open Go.RowKit

def partD : List UInt8 → Option (Ent × List UInt8)
  | k :: n :: t => if n.toNat = 255 then some (⟨k.toNat, ⟨false, ⟨#[]⟩⟩⟩, t) else if t.length < n.toNat then none else some (⟨k.toNat, ⟨true, ⟨(t.take n.toNat).toArray⟩⟩⟩, t.drop n.toNat)
  | _ => none

def partsD : Nat → List UInt8 → Option (List Ent × List UInt8)
  | 0, t => some ([], t)
  | m + 1, t => (partD t).bind fun x => (partsD m x.2).map fun y => (x.1 :: y.1, y.2)

def decL (b : List UInt8) : List Ent × Int × Int :=
  match b with
  | [] => ([], 0, 6)
  | c :: _ => if b.length < c.toNat then ([], 0, 6) else if c.toNat < 2 then ([], 0, 4) else
    match partsD (b.getD 1 0).toNat ((b.take c.toNat).drop 2) with
    | none => ([], 0, 4)
    | some y => if y.2 ≠ [] then ([], 0, 4) else if ckPs (-1) y.1 ≠ 0 then ([], 0, ckPs (-1) y.1) else (y.1, c.toNat, 0)

theorem partD_body (x : Ent) (u : List UInt8) (h : OkE x) : partD (bodyE x ++ u) = some (x, u) := by
  obtain ⟨n, ⟨t, s⟩⟩ := x
  obtain ⟨h1, h2, h3, h4⟩ := h
  simp only at h1 h2 h3 h4
  have hk := keyB_toNat ⟨h1, h2⟩
  cases t
  · have hs := h4 rfl
    have he : s = ⟨#[]⟩ := by
      cases s with | mk d =>
      have : d = #[] := Array.eq_empty_of_size_eq_zero hs
      rw [this]
    subst he
    show partD (keyB n :: 255 :: u) = _
    simp [partD, hk]
  · show partD (keyB n :: UInt8.ofNat s.size :: (s.data.toList ++ u)) = _
    have e : (UInt8.ofNat s.size).toNat = s.size := by simp; omega
    have e2 : s.data.toList.length = s.size := by simp
    rw [partD, e, if_neg (by omega), if_neg (by simp), List.take_left' e2, List.drop_left' e2, hk]

theorem partsD_body (l : List Ent) (u : List UInt8) (h : ∀ x ∈ l, OkE x) : partsD l.length (bodyL l ++ u) = some (l, u) := by
  induction l with
  | nil => rfl
  | cons x l ih =>
    have e : bodyL (x :: l) ++ u = bodyE x ++ (bodyL l ++ u) := by simp [bodyL]
    rw [e, List.length_cons, partsD, partD_body x _ (h x (List.mem_cons_self ..))]
    simp [ih (fun y hy => h y (List.mem_cons_of_mem _ hy))]

theorem encL_length (l : List Ent) : (encL l).length = 2 + (bodyL l).length := by simp [encL]; omega

theorem ok_of {l : List Ent} (h : ckPs (-1) l = 0) : (∀ x ∈ l, OkE x) ∧ l.length ≤ 8 ∧ (bodyL l).length ≤ 112 := by
  obtain ⟨h1, h2, -⟩ := ckPs_zero l (-1) (by omega) (by omega) h
  have := bodyL_length h1
  exact ⟨h1, by omega, by omega⟩

theorem decL_encL (l : List Ent) (u : List UInt8) (h : ckPs (-1) l = 0) : decL (encL l ++ u) = (l, ((encL l).length : Int), 0) := by
  obtain ⟨h1, h2, h3⟩ := ok_of h
  have e1 : (UInt8.ofNat (2 + (bodyL l).length)).toNat = 2 + (bodyL l).length := by simp; omega
  have e2 : (UInt8.ofNat l.length).toNat = l.length := by simp; omega
  have e3 : encL l ++ u = UInt8.ofNat (2 + (bodyL l).length) :: UInt8.ofNat l.length :: (bodyL l ++ u) := rfl
  have e4 : ((encL l ++ u).take (2 + (bodyL l).length)).drop 2 = bodyL l := by
    rw [e3, show 2 + (bodyL l).length = (bodyL l).length + 1 + 1 by omega, List.take_succ_cons, List.take_succ_cons]
    simp
  have e5 := partsD_body l [] h1
  rw [List.append_nil] at e5
  rw [encL_length]
  rw [e3] at e4 ⊢
  simp only [decL, e1, List.getD_cons_succ, List.getD_cons_zero, e2]
  rw [if_neg (by simp; omega), if_neg (by omega), e4, e5]
  simp [h]

theorem partD_inv {t u : List UInt8} {x : Ent} (h : partD t = some (x, u)) (hv : x.v.bytes.size ≤ 12) : bodyE x ++ u = t := by
  match t, h with
  | k :: n :: t, h =>
    rw [partD] at h
    have hk : keyB ((k.toNat : Nat) : Int) = k := by simp [keyB]
    split at h
    · rename_i hn
      cases h
      have : n = 255 := UInt8.toNat_inj.1 (by simpa using hn)
      subst this
      show keyB _ :: 255 :: ([] ++ u) = _
      rw [hk]
      rfl
    · split at h
      · cases h
      · rename_i hn hl
        cases h
        have hs : (⟨(t.take n.toNat).toArray⟩ : ByteArray).size = n.toNat := by
          show (t.take n.toNat).length = _
          simp
          omega
        show keyB _ :: UInt8.ofNat _ :: (t.take n.toNat ++ t.drop n.toNat) = _
        rw [hk, hs, List.take_append_drop]
        simp

theorem partsD_inv (m : Nat) {t u : List UInt8} {l : List Ent} (h : partsD m t = some (l, u)) (hv : ∀ x ∈ l, x.v.bytes.size ≤ 12) : bodyL l ++ u = t ∧ l.length = m := by
  induction m generalizing t l with
  | zero => cases h; exact ⟨rfl, rfl⟩
  | succ m ih =>
    rw [partsD] at h
    obtain ⟨⟨x, r⟩, h1, h2⟩ := Option.bind_eq_some_iff.1 h
    obtain ⟨⟨l', q⟩, h3, h4⟩ := Option.map_eq_some_iff.1 h2
    cases h4
    have h5 := partD_inv h1 (hv x (List.mem_cons_self ..))
    obtain ⟨h6, h7⟩ := ih h3 (fun y hy => hv y (List.mem_cons_of_mem _ hy))
    refine ⟨?_, by simp [h7]⟩
    have h6' : bodyL l' ++ q = r := h6
    show bodyL (x :: l') ++ q = t
    rw [← h5, ← h6']
    simp [bodyL]

theorem decL_inv {b : List UInt8} {l : List Ent} {n : Int} (h : decL b = (l, n, 0)) : ckPs (-1) l = 0 ∧ n = ((encL l).length : Int) ∧ (encL l).length ≤ b.length ∧ b.take (encL l).length = encL l := by
  match b, h with
  | c :: b, h =>
    simp only [decL] at h
    split at h
    · cases h
    · split at h
      · cases h
      · rename_i h1 h2
        split at h
        · cases h
        · rename_i y hy
          split at h
          · cases h
          · split at h
            · rename_i h3 h4
              exact absurd (congrArg (fun z => z.2.2) h) h4
            · rename_i h3 h4
              have h4' : ckPs (-1) y.1 = 0 := by simpa using h4
              obtain ⟨l', q⟩ := y
              cases h
              have h3' : q = [] := by simpa using h3
              subst h3'
              obtain ⟨o1, o2, o3⟩ := ok_of h4'
              obtain ⟨p1, p2⟩ := partsD_inv _ hy (fun x hx => (o1 x hx).2.2.1)
              rw [List.append_nil] at p1
              match b, hy, p1, p2, h1 with
              | [], hy, p1, p2, h1 => simp at h1; omega
              | d :: b, hy, p1, p2, h1 =>
                obtain ⟨j, hj⟩ : ∃ j, c.toNat = j + 1 + 1 := ⟨c.toNat - 2, by omega⟩
                simp only [List.length_cons] at h1
                have p1' : bodyL l' = b.take j := by rw [p1, hj]; simp
                have p2' : l'.length = d.toNat := by rw [p2]; simp
                have hlen : (bodyL l').length = j := by rw [p1', List.length_take]; omega
                have e : encL l' = c :: d :: b.take j := by
                  unfold encL
                  rw [p2', hlen, show 2 + j = c.toNat by omega, ← p1']
                  simp
                refine ⟨h4', ?_, ?_, ?_⟩
                · rw [encL_length, hlen, hj]; simp; omega
                · rw [encL_length, hlen]; simp; omega
                · rw [encL_length, hlen, e, show 2 + j = j + 1 + 1 by omega]; simp

end Go.Proofs.Ytoiobhcgpajogab
