/- The walk of BytesOf, of pairs that may be. -/
import Derived.Test.YtoiobhcgpajogabGreatDoorCodec1
import Derived.Test.YtoiobhcgpajogabGreatDoorKit
import Derived.ArgAppend
namespace Go.Proofs.YtoiobhcgpajogabGreatDoor
open Go.RowKit

end Go.Proofs.YtoiobhcgpajogabGreatDoor
/- What bytes begin with, in plain words; there and back. -/
namespace Go.Proofs.YtoiobhcgpajogabGreatDoor
open Go.RowKit

def partD : List UInt8 → Option (Ent × List UInt8)
  | k :: n :: t => if n.toNat = 255 then some (⟨k.toNat, ⟨false, ⟨#[]⟩⟩⟩, t) else if t.length < n.toNat then none else some (⟨k.toNat, ⟨true, ⟨(t.take n.toNat).toArray⟩⟩⟩, t.drop n.toNat)
  | _ => none

def partsD : Nat → List UInt8 → Option (List Ent × List UInt8)
  | 0, t => some ([], t)
  | m + 1, t => (partD t).bind fun x => (partsD m x.2).map fun y => (x.1 :: y.1, y.2)

def decL (b : List UInt8) : List Ent × Int × Int :=
  match b with
  | [] => ([], 0, 6)
  | c :: _ => if b.length < c.toNat then ([], 0, 6) else if c.toNat < 2 then ([], 0, 4) else
    match partsD (b.getD 1 0).toNat ((b.take c.toNat).drop 2) with
    | none => ([], 0, 4)
    | some y => if y.2 ≠ [] then ([], 0, 4) else if ckPs (-1) y.1 ≠ 0 then ([], 0, ckPs (-1) y.1) else (y.1, c.toNat, 0)

theorem partD_body (x : Ent) (u : List UInt8) (h : OkE x) : partD (bodyE x ++ u) = some (x, u) := by
  obtain ⟨n, ⟨t, s⟩⟩ := x
  obtain ⟨h1, h2, h3, h4⟩ := h
  simp only at h1 h2 h3 h4
  have hk := keyB_toNat ⟨h1, h2⟩
  cases t
  · have hs := h4 rfl
    have he : s = ⟨#[]⟩ := by
      cases s with | mk d =>
      have : d = #[] := Array.eq_empty_of_size_eq_zero hs
      rw [this]
    subst he
    show partD (keyB n :: 255 :: u) = _
    simp [partD, hk]
  · show partD (keyB n :: UInt8.ofNat s.size :: (s.data.toList ++ u)) = _
    have e : (UInt8.ofNat s.size).toNat = s.size := by simp; omega
    have e2 : s.data.toList.length = s.size := by simp
    rw [partD, e, if_neg (by omega), if_neg (by simp), List.take_left' e2, List.drop_left' e2, hk]

theorem partsD_body (l : List Ent) (u : List UInt8) (h : ∀ x ∈ l, OkE x) : partsD l.length (bodyL l ++ u) = some (l, u) := by
  induction l with
  | nil => rfl
  | cons x l ih =>
    have e : bodyL (x :: l) ++ u = bodyE x ++ (bodyL l ++ u) := by simp [bodyL]
    rw [e, List.length_cons, partsD, partD_body x _ (h x (List.mem_cons_self ..))]
    simp [ih (fun y hy => h y (List.mem_cons_of_mem _ hy))]

theorem encL_length (l : List Ent) : (encL l).length = 2 + (bodyL l).length := by simp [encL]; omega

theorem ok_of {l : List Ent} (h : ckPs (-1) l = 0) : (∀ x ∈ l, OkE x) ∧ l.length ≤ 8 ∧ (bodyL l).length ≤ 112 := by
  obtain ⟨h1, h2, -⟩ := ckPs_zero l (-1) (by omega) (by omega) h
  have := bodyL_length h1
  exact ⟨h1, by omega, by omega⟩

theorem decL_encL (l : List Ent) (u : List UInt8) (h : ckPs (-1) l = 0) : decL (encL l ++ u) = (l, ((encL l).length : Int), 0) := by
  obtain ⟨h1, h2, h3⟩ := ok_of h
  have e1 : (UInt8.ofNat (2 + (bodyL l).length)).toNat = 2 + (bodyL l).length := by simp; omega
  have e2 : (UInt8.ofNat l.length).toNat = l.length := by simp; omega
  have e3 : encL l ++ u = UInt8.ofNat (2 + (bodyL l).length) :: UInt8.ofNat l.length :: (bodyL l ++ u) := rfl
  have e4 : ((encL l ++ u).take (2 + (bodyL l).length)).drop 2 = bodyL l := by
    rw [e3, show 2 + (bodyL l).length = (bodyL l).length + 1 + 1 by omega, List.take_succ_cons, List.take_succ_cons]
    simp
  have e5 := partsD_body l [] h1
  rw [List.append_nil] at e5
  rw [encL_length]
  rw [e3] at e4 ⊢
  simp only [decL, e1, List.getD_cons_succ, List.getD_cons_zero, e2]
  rw [if_neg (by simp; omega), if_neg (by omega), e4, e5]
  simp [h]

theorem partD_inv {t u : List UInt8} {x : Ent} (h : partD t = some (x, u)) (hv : x.v.bytes.size ≤ 12) : bodyE x ++ u = t := by
  match t, h with
  | k :: n :: t, h =>
    rw [partD] at h
    have hk : keyB ((k.toNat : Nat) : Int) = k := by simp [keyB]
    split at h
    · rename_i hn
      cases h
      have : n = 255 := UInt8.toNat_inj.1 (by simpa using hn)
      subst this
      show keyB _ :: 255 :: ([] ++ u) = _
      rw [hk]
      rfl
    · split at h
      · cases h
      · rename_i hn hl
        cases h
        have hs : (⟨(t.take n.toNat).toArray⟩ : ByteArray).size = n.toNat := by
          show (t.take n.toNat).length = _
          simp
          omega
        show keyB _ :: UInt8.ofNat _ :: (t.take n.toNat ++ t.drop n.toNat) = _
        rw [hk, hs, List.take_append_drop]
        simp

theorem partsD_inv (m : Nat) {t u : List UInt8} {l : List Ent} (h : partsD m t = some (l, u)) (hv : ∀ x ∈ l, x.v.bytes.size ≤ 12) : bodyL l ++ u = t ∧ l.length = m := by
  induction m generalizing t l with
  | zero => cases h; exact ⟨rfl, rfl⟩
  | succ m ih =>
    rw [partsD] at h
    obtain ⟨⟨x, r⟩, h1, h2⟩ := Option.bind_eq_some_iff.1 h
    obtain ⟨⟨l', q⟩, h3, h4⟩ := Option.map_eq_some_iff.1 h2
    cases h4
    have h5 := partD_inv h1 (hv x (List.mem_cons_self ..))
    obtain ⟨h6, h7⟩ := ih h3 (fun y hy => hv y (List.mem_cons_of_mem _ hy))
    refine ⟨?_, by simp [h7]⟩
    have h6' : bodyL l' ++ q = r := h6
    show bodyL (x :: l') ++ q = t
    rw [← h5, ← h6']
    simp [bodyL]

theorem decL_inv {b : List UInt8} {l : List Ent} {n : Int} (h : decL b = (l, n, 0)) : ckPs (-1) l = 0 ∧ n = ((encL l).length : Int) ∧ (encL l).length ≤ b.length ∧ b.take (encL l).length = encL l := by
  match b, h with
  | c :: b, h =>
    simp only [decL] at h
    split at h
    · cases h
    · split at h
      · cases h
      · rename_i h1 h2
        split at h
        · cases h
        · rename_i y hy
          split at h
          · cases h
          · split at h
            · rename_i h3 h4
              exact absurd (congrArg (fun z => z.2.2) h) h4
            · rename_i h3 h4
              have h4' : ckPs (-1) y.1 = 0 := by simpa using h4
              obtain ⟨l', q⟩ := y
              cases h
              have h3' : q = [] := by simpa using h3
              subst h3'
              obtain ⟨o1, o2, o3⟩ := ok_of h4'
              obtain ⟨p1, p2⟩ := partsD_inv _ hy (fun x hx => (o1 x hx).2.2.1)
              rw [List.append_nil] at p1
              match b, hy, p1, p2, h1 with
              | [], hy, p1, p2, h1 => simp at h1; omega
              | d :: b, hy, p1, p2, h1 =>
                obtain ⟨j, hj⟩ : ∃ j, c.toNat = j + 1 + 1 := ⟨c.toNat - 2, by omega⟩
                simp only [List.length_cons] at h1
                have p1' : bodyL l' = b.take j := by rw [p1, hj]; simp
                have p2' : l'.length = d.toNat := by rw [p2]; simp
                have hlen : (bodyL l').length = j := by rw [p1', List.length_take]; omega
                have e : encL l' = c :: d :: b.take j := by
                  unfold encL
                  rw [p2', hlen, show 2 + j = c.toNat by omega, ← p1']
                  simp
                refine ⟨h4', ?_, ?_, ?_⟩
                · rw [encL_length, hlen, hj]; simp; omega
                · rw [encL_length, hlen]; simp; omega
                · rw [encL_length, hlen, e, show 2 + j = j + 1 + 1 by omega]; simp

end Go.Proofs.YtoiobhcgpajogabGreatDoor
/- string(b), of bytes that lie in memory; plain laws of bytes of commits. -/
namespace Go.Proofs.YtoiobhcgpajogabGreatDoor
open Go.RowKit

theorem conv_sliceAt (w : World) (a : Option Addr) (cap : Nat) (l : List UInt8) (h : SliceAt w a (Lib.byteCells l)) :
    (convert 36 9 (.slice a l.length cap)).run Tryz.prog w = .ok (.string ⟨l.toArray⟩) w := by
  have vac : ∀ ad : Addr, l = [] → ∀ j (hj : j < l.length), w.cell? (ad.add j) = some (.int .u8 (l[j].toNat : Int)) := by
    intro ad hl j hj
    subst hl
    simp at hj
  cases a with
  | none =>
    have hl : l = [] := by
      rcases h with h | ⟨b, off, h, -⟩
      · simpa [Lib.byteCells] using h
      · cases h
    subst hl
    show (convert 36 9 (.slice none 0 cap)).run Tryz.prog w = _
    rw [run_convert_bytes_string w 36 9 5 none 0 cap Tryz.underlying36 Tryz.underlying5 Tryz.underlying9]
    simp [Conv.bytesToString, Sem.run_pure]
    rfl
  | some ad =>
    by_cases hl : l = []
    · exact run_convert_bytes_back w 36 9 5 ad cap l Tryz.underlying36 Tryz.underlying5 Tryz.underlying9 (vac ad hl)
    · rcases h with h | ⟨b, off, e, hc⟩
      · exact absurd (by simpa [Lib.byteCells] using h) hl
      · cases e
        refine run_convert_bytes_back w 36 9 5 ⟨b, off, none⟩ cap l Tryz.underlying36 Tryz.underlying5 Tryz.underlying9 ?_
        intro j hj
        have e : (⟨b, off, none⟩ : Addr).add j = ⟨b, off + j, none⟩ := by unfold Addr.add; split <;> simp_all
        rw [e]
        exact hc j _ (by simp [Lib.byteCells, List.getElem?_eq_getElem hj])

theorem decL_cut (l : List Ent) (h : ckPs (-1) l = 0) (k : Nat) (hk : k < (encL l).length) : decL ((encL l).take k) = ([], 0, 6) := by
  obtain ⟨h1, h2, h3⟩ := ok_of h
  have e1 : (UInt8.ofNat (2 + (bodyL l).length)).toNat = 2 + (bodyL l).length := by simp; omega
  rw [encL_length] at hk
  cases k with
  | zero => rfl
  | succ k =>
    have e : (encL l).take (k + 1) = UInt8.ofNat (2 + (bodyL l).length) :: (UInt8.ofNat l.length :: bodyL l).take k := rfl
    rw [e]
    simp only [decL, e1]
    rw [if_pos]
    simp only [List.length_cons, List.length_take]
    omega

theorem encL_bound {l : List Ent} (h : ckPs (-1) l = 0) : 2 ≤ (encL l).length ∧ (encL l).length ≤ 114 := by
  obtain ⟨h1, h2, h3⟩ := ok_of h
  rw [encL_length]
  omega

end Go.Proofs.YtoiobhcgpajogabGreatDoor
/- The walk of part. -/
namespace Go.Proofs.YtoiobhcgpajogabGreatDoor
open Go.RowKit

/-- A slice that lies in memory, cut within a greater one, in a block below B: its cells. -/
def BytesAt (B : Nat) (w : World) (v : Value) (t : List UInt8) : Prop := ∃ a cap, v = .slice a t.length cap ∧ t.length ≤ cap ∧ SliceAt w a (Lib.byteCells t) ∧ ∀ ad, a = some ad → ad.block < B

theorem BytesAt.below {B : Nat} {w w' : World} {v : Value} {t : List UInt8} (h : BytesAt B w v t) (k : Below w.heap.size w w') : BytesAt B w' v t := by
  obtain ⟨a, cap, rfl, h1, h2, h3⟩ := h
  exact ⟨a, cap, rfl, h1, sliceAt_below h2 k, h3⟩

theorem BytesAt.same {B : Nat} {w w1 w2 : World} {v : Value} {t : List UInt8} (h : BytesAt B w1 v t) (k1 : Below B w w1) (k2 : Below B w w2) : BytesAt B w2 v t := by
  obtain ⟨a, cap, rfl, h1, h2, h3⟩ := h
  exact ⟨a, cap, rfl, h1, h2.lift (fun ad ha => by rw [k2.block _ (h3 ad ha), k1.block _ (h3 ad ha)]), h3⟩

def PartPost (B : Nat) (t : List UInt8) (w : World) (e : Ending) (w' : World) : Prop :=
  match partD t with
  | none => ∃ v p, e = .returned (.tuple #[p, v, .int .i64 4]) ∧ (∃ x : Ent, p = .agg #[.int .i64 x.n, .bool x.v.there, .string x.v.bytes]) ∧ BytesAt B w' v [] ∧ Below w.heap.size w w'
  | some y => ∃ v, e = .returned (.tuple #[.agg #[.int .i64 y.1.n, .bool y.1.v.there, .string y.1.v.bytes], v, .int .i64 0]) ∧ BytesAt B w' v y.2 ∧ Below w.heap.size w w'

set_option maxHeartbeats 4000000 in
set_option maxRecDepth 100000 in
theorem codec_part (B : Nat) (v : Value) (t : List UInt8) (w : World) (hn : t.length ≤ 1000000) (h : BytesAt B w v t) : Calls Tryz.prog 125 #[v] w (PartPost B t w) := by
  obtain ⟨a, cap, rfl, hcap, hs, hBb⟩ := h
  by_cases h2 : t.length < 2
  · have hp : partD t = none := by
      match t, h2 with
      | [], _ => rfl
      | [_], _ => rfl
    have hl : (t.length : Int) < 2 := by omega
    unfold PartPost
    rw [hp]
    clear hp hs
    go_enter Tryz.func125, Tryz.ntmps125
    go_wp2
    refine bodyPost_ret (v := .tuple #[.agg #[.int .i64 0, .bool false, .string ByteArray.empty], .slice none 0 0, .int .i64 4]) (by simp [results, Tryz.results125, go_sem]; rfl) rfl ⟨_, _, rfl, ⟨⟨0, ⟨false, _⟩⟩, rfl⟩, ⟨none, 0, rfl, Nat.le_refl _, .inl rfl, fun _ h => by cases h⟩, ?_⟩
    exact (Below.refl _ _).alloc (Nat.le_refl _) _
  · obtain ⟨k, n, r, rfl⟩ : ∃ k n r, t = k :: n :: r := by
      match t, h2 with
      | [], h2 => simp at h2
      | [_], h2 => simp at h2
      | k :: n :: r, _ => exact ⟨k, n, r, rfl⟩
    have hl : (2 : Int) ≤ ((k :: n :: r).length : Int) := by simp; omega
    rcases hs with hs | ⟨b, off, rfl, hc⟩
    · cases hs
    have hbB : b < B := hBb _ rfl
    clear hBb
    have c0 := hc 0 _ rfl
    have c1 := hc 1 _ rfl
    simp only [Nat.add_zero] at c0
    have lb := World.block_lt_of_cell? w _ c0
    simp only at lb
    have HC := hid hc
    have kb : (k.toNat : Int) < 256 := by have := k.toNat_lt; omega
    have nb : (n.toNat : Int) < 256 := by have := n.toNat_lt; omega
    have hln : (k :: n :: r).length = r.length + 2 := by simp
    clear hc h2
    generalize (k :: n :: r).length = L at *
    have hlr : L - 2 = r.length := by omega
    have hl2 : 2 ≤ L := by omega
    have tail : ∀ w' : World, Below w.heap.size w w' → BytesAt B w' (.slice (some ⟨b, off + 2, none⟩) (L - 2) (cap - 2)) r := by
      intro w' hb
      rw [hlr]
      refine ⟨_, _, rfl, by omega, .inr ⟨b, off + 2, rfl, fun j u hu => ?_⟩, fun _ h => by cases h; exact hbB⟩
      rw [below_cell hb lb, show off + 2 + j = off + (j + 2) by omega]
      exact HC.out (j + 2) u (by simpa [Lib.byteCells] using hu)
    have tail2 : cap = 2 → ∀ (w' : World) (o' : Nat), BytesAt B w' (.slice (some ⟨b, o', none⟩) (L - 2) 0) r := by
      intro hc2 w' a'
      have : r = [] := List.eq_nil_of_length_eq_zero (by omega)
      subst this
      rw [hlr]
      exact ⟨_, _, rfl, by simp, .inl rfl, fun _ h => by cases h; exact hbB⟩
    have TL2 := hid tail2
    clear tail2
    have TL := hid tail
    have HL := hid hln
    have HLR := hid hlr
    clear tail hln hlr
    by_cases h255 : n.toNat = 255
    · have z : ((n.toNat : Int) == 255) = true := by simp [h255]
      unfold PartPost
      have hp : partD (k :: n :: r) = some (⟨k.toNat, ⟨false, ⟨#[]⟩⟩⟩, r) := by rw [partD, if_pos h255]
      rw [hp]
      clear hp h255
      go_enter Tryz.func125, Tryz.ntmps125
      by_cases hc2 : cap = 2
      · go_wp2
        refine bodyPost_ret (v := .tuple #[.agg #[.int .i64 k.toNat, .bool false, .string ⟨#[]⟩], .slice (some ⟨b, off, none⟩) (L - 2) 0, .int .i64 0]) (by simp [results, Tryz.results125, go_sem]) rfl ⟨_, rfl, TL2.out hc2 _ _, ?_⟩
        exact ((Below.refl _ _).alloc (Nat.le_refl _) _).alloc (by simp) _
      · go_wp2
        refine bodyPost_ret (v := .tuple #[.agg #[.int .i64 k.toNat, .bool false, .string ⟨#[]⟩], .slice (some ⟨b, off + 2, none⟩) (L - 2) (cap - 2), .int .i64 0]) (by simp [results, Tryz.results125, go_sem]) rfl ⟨_, rfl, TL.out _ ?_, ?_⟩
        all_goals exact ((Below.refl _ _).alloc (Nat.le_refl _) _).alloc (by simp) _
    · have z : ((n.toNat : Int) == 255) = false := by simp; omega
      have z2 : ((n.toNat : Int) = 255) = False := by simp; omega
      have hn0 : (0 : Int) ≤ (n.toNat : Int) := by omega
      unfold PartPost
      by_cases hsh : r.length < n.toNat
      · have hp : partD (k :: n :: r) = none := by rw [partD, if_neg h255, if_pos hsh]
        rw [hp]
        have hsh1 : ((L - 2 : Nat) : Int) < (n.toNat : Int) := by have := HLR.out; omega
        clear hp h255 z2
        go_enter Tryz.func125, Tryz.ntmps125
        by_cases hc2 : cap = 2
        · go_wp2
          refine bodyPost_ret (v := .tuple #[.agg #[.int .i64 0, .bool false, .string ByteArray.empty], .slice none 0 0, .int .i64 4]) (by simp [results, Tryz.results125, go_sem]; rfl) rfl ⟨_, _, rfl, ⟨⟨0, ⟨false, _⟩⟩, rfl⟩, ⟨none, 0, rfl, Nat.le_refl _, .inl rfl, fun _ h => by cases h⟩, ?_⟩
          exact ((Below.refl _ _).alloc (Nat.le_refl _) _).alloc (by simp) _
        · go_wp2
          refine bodyPost_ret (v := .tuple #[.agg #[.int .i64 0, .bool false, .string ByteArray.empty], .slice none 0 0, .int .i64 4]) (by simp [results, Tryz.results125, go_sem]; rfl) rfl ⟨_, _, rfl, ⟨⟨0, ⟨false, _⟩⟩, rfl⟩, ⟨none, 0, rfl, Nat.le_refl _, .inl rfl, fun _ h => by cases h⟩, ?_⟩
          exact ((Below.refl _ _).alloc (Nat.le_refl _) _).alloc (by simp) _
      · have hp : partD (k :: n :: r) = some (⟨k.toNat, ⟨true, ⟨(r.take n.toNat).toArray⟩⟩⟩, r.drop n.toNat) := by rw [partD, if_neg h255, if_neg hsh]
        rw [hp]
        have hnr : n.toNat ≤ r.length := by omega
        have hsh1 : ((n.toNat : Int)) ≤ ((L - 2 : Nat) : Int) := by have := HLR.out; omega
        have htl : (r.take n.toNat).length = n.toNat := by rw [List.length_take]; omega
        have hcells : ∀ w' : World, Below w.heap.size w w' → SliceAt w' (some ⟨b, off + 2, none⟩) (Lib.byteCells (r.take n.toNat)) := by
          intro w' hb
          refine .inr ⟨b, off + 2, rfl, fun j u hu => ?_⟩
          rw [below_cell hb lb, show off + 2 + j = off + (j + 2) by omega]
          refine HC.out (j + 2) u ?_
          have hu' : (Lib.byteCells r)[j]? = some u := by
            rw [Lib.byteCells, List.map_take, List.getElem?_take] at hu
            split at hu
            · exact hu
            · cases hu
          simpa [Lib.byteCells] using hu'
        have kc := fun (o1 o2 : Obj) => conv_sliceAt ((w.alloc o1).alloc o2) (some ⟨b, off + 2, none⟩) (cap - 2) (r.take n.toNat) (hcells _ (((Below.refl _ _).alloc (Nat.le_refl _) _).alloc (by simp) _))
        rw [htl] at kc
        have drp : ∀ (w' : World), Below w.heap.size w w' → n.toNat ≠ cap - 2 → BytesAt B w' (.slice (some ⟨b, off + 2 + n.toNat, none⟩) (L - 2 - n.toNat) (cap - 2 - n.toNat)) (r.drop n.toNat) := by
          intro w' hb hne
          have hl' : L - 2 - n.toNat = (r.drop n.toNat).length := by rw [List.length_drop, HLR.out]
          rw [hl']
          refine ⟨_, _, rfl, by have := HLR.out; rw [List.length_drop]; omega, .inr ⟨b, off + 2 + n.toNat, rfl, fun j u hu => ?_⟩, fun _ h => by cases h; exact hbB⟩
          rw [below_cell hb lb, show off + 2 + n.toNat + j = off + (n.toNat + j + 2) by omega]
          refine HC.out (n.toNat + j + 2) u ?_
          have hu' : (Lib.byteCells r)[n.toNat + j]? = some u := by
            rw [Lib.byteCells, List.map_drop, List.getElem?_drop] at hu
            exact hu
          simpa [Lib.byteCells] using hu'
        have drp0 : r.length ≤ n.toNat → ∀ (w' : World) (o' : Nat) (c' : Nat), BytesAt B w' (.slice (some ⟨b, o', none⟩) 0 c') (r.drop n.toNat) := by
          intro h0 w' a' c'
          have : r.drop n.toNat = [] := List.drop_eq_nil_of_le h0
          rw [this]
          exact ⟨_, _, rfl, Nat.zero_le _, .inl rfl, fun _ h => by cases h; exact hbB⟩
        have D := hid drp
        have D0 := hid drp0
        generalize hst : r.take n.toNat = st at *
        have HST := hid hst
        clear hp h255 z2 hsh drp drp0 hcells hst htl
        by_cases hc2 : cap = 2
        · have hL2 : L = 2 := by omega
          have hr0 : r = [] := List.eq_nil_of_length_eq_zero (by have := HLR.out; omega)
          have hn0 : n = 0 := UInt8.toNat_inj.1 (by have := HLR.out; simp; omega)
          subst hL2
          subst hc2
          subst hn0
          subst hr0
          have hst0 : st = [] := by rw [← HST.out]; rfl
          subst hst0
          have kc2 := fun (o1 o2 : Obj) => conv_sliceAt ((w.alloc o1).alloc o2) (some ⟨b, off, none⟩) 0 [] (.inl rfl)
          simp only [List.length_nil] at kc2
          clear kc D HLR HL HST TL TL2 HC
          go_enter Tryz.func125, Tryz.ntmps125
          go_wp2_with fail
          have q1 : (w.alloc (.cells #[.int .i64 0, .bool false, .string ⟨#[]⟩] 107)).heap.size = w.heap.size + 1 := by simp
          go_region
          all_goals
            go_wp2
            refine bodyPost_ret (v := .tuple #[.agg #[.int .i64 k.toNat, .bool true, .string ⟨#[]⟩], .slice (some ⟨b, off, none⟩) 0 0, .int .i64 0]) (by simp [results, Tryz.results125, go_sem]) rfl ⟨_, rfl, ⟨_, _, rfl, Nat.zero_le _, .inl rfl, fun _ h => by cases h; exact hbB⟩, ?_⟩
            all_goals (repeat' first | exact Below.refl _ _ | assumption | refine Below.setCell ?_ ?_ _ | refine Below.alloc ?_ ?_ _ | refine Below.drew ?_ | (simp; done) | (simp; omega))
        · by_cases hc3 : n.toNat = cap - 2
          · obtain rfl : cap = n.toNat + 2 := by omega
            have hle : r.length ≤ n.toNat := by have := HLR.out; omega
            have e2 : n.toNat + 2 - 2 = n.toNat := by omega
            rw [e2] at kc
            have hn00 : ¬ n.toNat = 0 := by omega
            clear hc3 e2 D TL TL2
            have HLE := hid hle
            clear hle
            go_enter Tryz.func125, Tryz.ntmps125
            go_wp2_with fail
            have q1 : (w.alloc (.cells #[.int .i64 0, .bool false, .string ⟨#[]⟩] 107)).heap.size = w.heap.size + 1 := by simp
            go_region
            all_goals
              go_wp2
              refine bodyPost_ret (v := .tuple #[.agg #[.int .i64 k.toNat, .bool true, .string ⟨st.toArray⟩], .slice (some ⟨b, off + 2, none⟩) 0 0, .int .i64 0]) (by simp [results, Tryz.results125, go_sem]) rfl ⟨_, rfl, D0.out HLE.out _ _ _, ?_⟩
              all_goals (repeat' first | exact Below.refl _ _ | assumption | refine Below.setCell ?_ ?_ _ | refine Below.alloc ?_ ?_ _ | refine Below.drew ?_ | (simp; done) | (simp; omega))
          · clear TL2 D0
            go_enter Tryz.func125, Tryz.ntmps125
            go_wp2_with fail
            have q1 : (w.alloc (.cells #[.int .i64 0, .bool false, .string ⟨#[]⟩] 107)).heap.size = w.heap.size + 1 := by simp
            go_region
            all_goals
              go_wp2
              refine bodyPost_ret (v := .tuple #[.agg #[.int .i64 k.toNat, .bool true, .string ⟨st.toArray⟩], .slice (some ⟨b, off + 2 + n.toNat, none⟩) (L - 2 - n.toNat) (cap - 2 - n.toNat), .int .i64 0]) (by simp [results, Tryz.results125, go_sem]) rfl ⟨_, rfl, D.out _ ?_ hc3, ?_⟩
              all_goals (repeat' first | exact Below.refl _ _ | assumption | refine Below.setCell ?_ ?_ _ | refine Below.alloc ?_ ?_ _ | refine Below.drew ?_ | (simp; done) | (simp; omega))

end Go.Proofs.YtoiobhcgpajogabGreatDoor
/- The walk of Decode. -/
namespace Go.Proofs.YtoiobhcgpajogabGreatDoor
open Go.RowKit

/-- .. and what it hands back lies in new memory. -/
def DecPost2 (x : List Ent × Int × Int) (w : World) (e : Ending) (w' : World) : Prop :=
  ∃ a cap, e = .returned (.tuple #[.slice a x.1.length cap, .int .i64 x.2.1, .int .i64 x.2.2]) ∧ SliceAt w' a (encEnts x.1) ∧ Below w.heap.size w w' ∧ ∀ ad, a = some ad → w.heap.size ≤ ad.block

theorem Tryz.infoPair : (Tryz.prog.info? 107).map (fun i => (i.zero, i.size, i.bytes)) = some (some (.agg #[.int .i64 0, .bool false, .string ByteArray.empty]), 3, 32) := by kernel_rfl

theorem partD_size {t u : List UInt8} {x : Ent} (h : partD t = some (x, u)) : x.v.bytes.size ≤ 255 ∧ u.length ≤ t.length := by
  match t, h with
  | k :: n :: t, h =>
    rw [partD] at h
    have hn := n.toNat_lt
    split at h
    · cases h
      exact ⟨by simp [ByteArray.size], by simp; omega⟩
    · split at h
      · cases h
      · cases h
        refine ⟨?_, by simp; omega⟩
        show (t.take n.toNat).toArray.size ≤ 255
        simp
        omega

theorem partsD_more {m k : Nat} {t rest more : List UInt8} {acc : List Ent} {x : Ent} (h : partsD m t = (partsD (m - k) rest).map (fun y => (acc ++ y.1, y.2))) (hk : k < m) (hp : partD rest = some (x, more)) :
    partsD m t = (partsD (m - (k + 1)) more).map (fun y => ((acc ++ [x]) ++ y.1, y.2)) := by
  obtain ⟨j, hj⟩ : ∃ j, m - k = j + 1 := ⟨m - k - 1, by omega⟩
  have hj' : m - (k + 1) = j := by omega
  rw [h, hj, hj', partsD, hp]
  simp only [Option.bind_some, Option.map_map]
  congr 1
  funext y
  simp

theorem partsD_stop {m k : Nat} {t rest : List UInt8} {acc : List Ent} (h : partsD m t = (partsD (m - k) rest).map (fun y => (acc ++ y.1, y.2))) (hk : k < m) (hp : partD rest = none) : partsD m t = none := by
  obtain ⟨j, hj⟩ : ∃ j, m - k = j + 1 := ⟨m - k - 1, by omega⟩
  rw [h, hj, partsD, hp]
  rfl

theorem partsD_end {m : Nat} {t rest : List UInt8} {acc : List Ent} (h : partsD m t = (partsD (m - m) rest).map (fun y => (acc ++ y.1, y.2))) : partsD m t = some (acc, rest) := by
  rw [h, Nat.sub_self, partsD]
  simp

theorem decL_long (c : UInt8) (t : List UInt8) (h : (c :: t).length < c.toNat) : decL (c :: t) = ([], 0, 6) := by simp only [decL]; rw [if_pos h]
theorem decL_few (c : UInt8) (t : List UInt8) (h : ¬ (c :: t).length < c.toNat) (h2 : c.toNat < 2) : decL (c :: t) = ([], 0, 4) := by simp only [decL]; rw [if_neg h, if_pos h2]
theorem decL_parts (c d : UInt8) (t : List UInt8) (h : ¬ (c :: d :: t).length < c.toNat) (h2 : ¬ c.toNat < 2) : decL (c :: d :: t) = match partsD d.toNat (((c :: d :: t).take c.toNat).drop 2) with
    | none => ([], 0, 4)
    | some y => if y.2 ≠ [] then ([], 0, 4) else if ckPs (-1) y.1 ≠ 0 then ([], 0, ckPs (-1) y.1) else (y.1, (c.toNat : Int), 0) := by
  simp only [decL]
  rw [if_neg h, if_neg h2]
  rfl

set_option maxHeartbeats 1000000 in
set_option maxRecDepth 100000 in
theorem codec_Decode2 (a : Option Addr) (cap : Nat) (l : List UInt8) (w : World) (hn : l.length ≤ 1000000) (h : BytesIn w a cap l) : Calls Tryz.prog 107 #[.slice a l.length cap] w (DecPost2 (decL l) w) := by
  obtain ⟨hcap, hs⟩ := h
  match l with
  | [] =>
    have e : decL [] = ([], 0, 6) := rfl
    rw [e]
    go_enter Tryz.func107, Tryz.ntmps107
    go_wp2
    go_ret3
    exact ⟨none, 0, rfl, .inl rfl, Below.refl _ _, nofun⟩
  | c :: t =>
    rcases hs with hs | ⟨b, off, rfl, hc⟩
    · cases hs
    have c0 := hc 0 _ rfl
    simp only [Nat.add_zero] at c0
    have lb := World.block_lt_of_cell? w _ c0
    simp only at lb
    have HC := hid hc
    have hlp : 0 < (c :: t).length := by simp
    have hlp2 : ¬ ((c :: t).length : Int) = 0 := by omega
    have kb : (c.toNat : Int) < 256 := by have := c.toNat_lt; omega
    clear hc
    by_cases h1 : (c :: t).length < c.toNat
    · rw [decL_long c t h1]
      generalize (c :: t).length = L at *
      go_enter Tryz.func107, Tryz.ntmps107
      go_wp2
      go_ret3
      exact ⟨none, 0, rfl, .inl rfl, Below.refl _ _, nofun⟩
    · by_cases h2 : c.toNat < 2
      · rw [decL_few c t h1 h2]
        generalize (c :: t).length = L at *
        go_enter Tryz.func107, Tryz.ntmps107
        go_wp2
        go_ret3
        exact ⟨none, 0, rfl, .inl rfl, Below.refl _ _, nofun⟩
      · match t with
        | [] => simp at h1; omega
        | d :: t =>
          have c1 := HC.out 1 _ rfl
          have hD := hid (decL_parts c d t h1 h2)
          have hrl : (((c :: d :: t).take c.toNat).drop 2).length = c.toNat - 2 := by rw [List.length_drop, List.length_take]; omega
          have hlen : (c :: d :: t).length = t.length + 2 := by simp
          have HLEN := hid hlen
          have hin : ∀ (w' : World) (a' : Option Addr), Below w.heap.size w w' → (cap ≠ 2 → a' = some ⟨b, off + 2, none⟩) → (∃ o', a' = some ⟨b, o', none⟩) → BytesAt w.heap.size w' (.slice a' (c.toNat - 2) (cap - 2)) (((c :: d :: t).take c.toNat).drop 2) := by
            rintro w' a' hb ha ⟨o', ho'⟩
            have hbk : ∀ ad, a' = some ad → ad.block < w.heap.size := by rintro ad rfl; cases ho'; exact lb
            by_cases hc2 : cap = 2
            · have : ((c :: d :: t).take c.toNat).drop 2 = [] := List.eq_nil_of_length_eq_zero (by omega)
              rw [this, show c.toNat - 2 = 0 by omega]
              exact ⟨_, _, rfl, Nat.zero_le _, .inl rfl, hbk⟩
            · rw [ha hc2, ← hrl]
              refine ⟨_, _, rfl, by omega, .inr ⟨b, off + 2, rfl, fun j u hu => ?_⟩, by rw [← ha hc2]; exact hbk⟩
              rw [below_cell hb lb, show off + 2 + j = off + (2 + j) by omega]
              refine HC.out (2 + j) u ?_
              rw [Lib.byteCells, List.map_drop, List.getElem?_drop, List.map_take, List.getElem?_take] at hu
              split at hu
              · exact hu
              · cases hu
          have IN := hid hin
          have hr6 : (((c :: d :: t).take c.toNat).drop 2).length ≤ 1000000 := by omega
          clear hin hlen hrl
          generalize ((c :: d :: t).take c.toNat).drop 2 = t0 at *
          generalize decL (c :: d :: t) = x at *
          generalize hL : (c :: d :: t).length = L at *
          clear hL
          have hcL : (c.toNat : Int) ≤ L := by omega
          have hc2 : (2 : Int) ≤ c.toNat := by omega
          have hLc : (L : Int) ≤ cap := by omega
          have db : (d.toNat : Int) < 256 := by have := d.toNat_lt; omega
          have F0 := hid (fun (h : partsD d.toNat t0 = none) => (show x = ([], 0, 4) by rw [hD.out, h]))
          have F1 := hid (fun (acc : List Ent) (rest : List UInt8) (h : partsD d.toNat t0 = some (acc, rest)) (h2 : rest ≠ []) => (show x = ([], 0, 4) by rw [hD.out, h]; simp [h2]))
          have F2 := hid (fun (acc : List Ent) (rest : List UInt8) (h : partsD d.toNat t0 = some (acc, rest)) (h2 : rest = []) (h3 : ckPs (-1) acc ≠ 0) => (show x = ([], 0, ckPs (-1) acc) by rw [hD.out, h]; simp [h2, h3]))
          have F3 := hid (fun (acc : List Ent) (rest : List UInt8) (h : partsD d.toNat t0 = some (acc, rest)) (h2 : rest = []) (h3 : ckPs (-1) acc = 0) => (show x = (acc, (c.toNat : Int), 0) by rw [hD.out, h]; simp [h2, h3]))
          clear hD
          obtain ⟨i0, hi, hz0, hz1, hz2⟩ := info_parts Tryz.infoPair
          have N0 := hid (World.ownsRow_nil w w.heap.size 107 3)
          by_cases hcap2 : cap = 2
          case' pos => subst hcap2
          all_goals
            go_enter Tryz.func107, Tryz.ntmps107
            go_wp2_with fail
            go_loopw [6, 7, 37] (fun r o i wr => ∃ (k : Nat) (acc : List Ent) (rest : List UInt8), k ≤ d.toNat ∧ i = .int .i64 k ∧ BytesAt w.heap.size wr r rest ∧ wr.ownsRow w.heap.size 107 3 o acc.length (encEnts acc) ∧ acc.length = k ∧
                Hid (partsD d.toNat t0 = (partsD (d.toNat - k) rest).map (fun y => (acc ++ y.1, y.2))) ∧ rest.length ≤ 1000000 ∧ Hid (∀ y ∈ acc, y.v.bytes.size ≤ maxLen) ∧ Below w.heap.size w wr) (fun _ _ i _ => d.toNat - (intOf i).toNat)
            case atStart => exact ⟨0, [], t0, Nat.zero_le _, rfl, IN.out _ _ (Below.refl _ _) (by first | exact fun h => absurd rfl h | exact fun _ => rfl) ⟨_, rfl⟩, N0.out, rfl, hid (by simp), hr6, hid (by simp), Below.refl _ _⟩
            case round =>
              obtain ⟨k, acc, rest, hk, rfl, hB, ho, hak, HP, hrl, HS, hb⟩ := hrel
              clear N0
              by_cases hlt : k < d.toNat
              · have HB := hid hb
                obtain ⟨ar, capr, rfl, hB1, hB2, hB3⟩ := hB
                obtain ⟨ao, capo, rfl, -, -⟩ := ownsRow.sliceAt ho
                have HO := hid ho
                have hpart := codec_part w.heap.size (.slice ar rest.length capr) rest wr hrl ⟨ar, capr, rfl, hB1, hB2, hB3⟩
                have HPT := hid hpart
                have hdk : (k : Int) < (d.toNat : Int) := by omega
                clear hb ho hB1 hB2 hB3 hpart
                cases hp : partD rest with
                | none =>
                  have E := hid (F0.out (partsD_stop HP.out hlt hp))
                  have HPD := hid hp
                  clear hp
                  go_wp2_with fail
                  (with_reducible refine HPT.out.mono ?_)
                  intro e w1 hQ
                  unfold PartPost at hQ
                  rw [HPD.out] at hQ
                  obtain ⟨v, p, rfl, ⟨x', rfl⟩, -, hb1⟩ := hQ
                  have HB1 := hid (HB.out.trans (hb1.mono HB.out.size))
                  clear hb1 HPT
                  go_wp2
                  go_ret3
                  rw [E.out]
                  exact ⟨none, 0, rfl, .inl rfl, HB1.out.alloc HB1.out.size _, nofun⟩
                | some y =>
                  obtain ⟨y, more⟩ := y
                  have HM := hid (partsD_more HP.out hlt hp)
                  have hsz := partD_size hp
                  have HPD := hid hp
                  clear hp
                  have q1 : acc.length + 1 ≤ maxLen := by unfold maxLen; omega
                  have q2 : (acc.length + 1) * 32 ≤ 140737488355328 := by omega
                  have HAK := hid hak
                  clear hak
                  go_wp2_with fail
                  (with_reducible refine HPT.out.mono ?_)
                  intro e w1 hQ
                  unfold PartPost at hQ
                  rw [HPD.out] at hQ
                  obtain ⟨v, rfl, hB1, hb1⟩ := hQ
                  have HB1 := hid (HB.out.trans (hb1.mono HB.out.size))
                  have HO1 := hid ((show w1.ownsRow w.heap.size 107 3 (.slice ao acc.length capo) acc.length (encEnts acc) from ownsRow.lift HO.out (fun r hr => hb1.block r (HO.out.lt r hr).2)).alloc (.cells (encEnt y).toArray 107))
                  have HBM := hid hB1
                  clear hb1 HPT HB HO hB1
                  go_wp2_with (refine wpList_append_own _ rfl (.tmp 48) (.tmp 50) 85 rfl w.heap.size 107 i0 (.agg #[.int .i64 0, .bool false, .string ByteArray.empty]) 3 32 Tryz.underlying85 hi hz0 hz1 hz2 rfl (by decide) (.slice ao acc.length capo) acc.length (encEnts acc) rfl (HO1.out.alloc _) ⟨w1.heap.size + 1, 0, none⟩ 1 1 (encEnt y) rfl rfl ?c1 (encEnt_one _) q1 q2 ?c5 ?_)
                  case c1 => have := cells_new (w1.alloc (.cells (encEnt y).toArray 107)) (encEnt y) 107; rw [World.size_alloc] at this; exact this
                  case c5 => have := HB1.out.size; simp; omega
                  intro v' w2 hown' hgrow _
                  have HB2 := hid (((HB1.out.alloc HB1.out.size (.cells (encEnt y).toArray 107)).alloc (by have := HB1.out.size; simp; omega) (.cells (encEnt y).toArray 107)).grown hgrow (by have := HB1.out.size; simp; omega) (fun j hj => (HO1.out.lt j hj).1))
                  have HBM2 := hid (HBM.out.same HB1.out HB2.out)
                  have HS2 := hid (show ∀ z ∈ acc ++ [y], z.v.bytes.size ≤ maxLen from fun z hz => by rcases List.mem_append.1 hz with h | h; exact HS.out z h; (rw [List.mem_singleton] at h; subst h; unfold maxLen; omega))
                  have HO2 := hid (show w2.ownsRow w.heap.size 107 3 v' (acc ++ [y]).length (encEnts (acc ++ [y])) by rw [encEnts_append, List.length_append]; simpa [encEnts] using hown')
                  clear hown' hgrow HBM
                  go_wp2
                  go_roundw
                  case rel => exact ⟨k + 1, acc ++ [y], more, by omega, by go_num, HBM2.out, HO2.out, by simp [HAK.out], HM, by omega, HS2, HB2.out⟩
                  case measure => simp [intOf]; omega
              · obtain rfl : k = d.toNat := by omega
                obtain ⟨ar, capr, rfl, hB1, hB2, hB3⟩ := hB
                obtain ⟨ao, capo, rfl, hos, hob⟩ := ownsRow.sliceAt ho
                have HNEW := hid (fun (ad : Addr) (h : ao = some ad) => (ho.lt ad.block (hob ad h)).1)
                clear hob
                have HE := hid (partsD_end HP.out)
                have hal : acc.length ≤ 1000000 := by omega
                clear hak
                have HB := hid hb
                have HOS := hid hos
                clear hb ho hB2 hB3 HP hos
                by_cases hr0 : rest = []
                · subst hr0
                  have HCK := hid (table_Check ao capo acc wr hal HS.out HOS.out)
                  by_cases hck : ckPs (-1) acc = 0
                  · have E := hid (F3.out _ _ HE.out rfl hck)
                    rw [hck] at HCK
                    clear hck
                    go_wp2_with fail
                    (with_reducible refine HCK.out.mono ?_)
                    rintro e w1 ⟨rfl, hb1⟩
                    have HOS1 := hid (sliceAt_below HOS.out hb1)
                    have HB1 := hid (HB.out.trans (hb1.mono HB.out.size))
                    clear hb1
                    go_wp2
                    go_ret3
                    rw [E.out]
                    exact ⟨_, _, rfl, HOS1.out, HB1.out, HNEW.out⟩
                  · have E := hid (F2.out _ _ HE.out rfl hck)
                    have hc' : (ckPs (-1) acc != 0) = true := by simpa using hck
                    clear hck
                    generalize ckPs (-1) acc = code at *
                    go_wp2_with fail
                    (with_reducible refine HCK.out.mono ?_)
                    rintro e w1 ⟨rfl, hb1⟩
                    have HB1 := hid (HB.out.trans (hb1.mono HB.out.size))
                    clear hb1
                    go_wp2
                    go_ret3
                    rw [E.out]
                    exact ⟨none, 0, rfl, .inl rfl, HB1.out, nofun⟩
                · have hpos : 0 < rest.length := List.length_pos_iff.2 hr0
                  have E := hid (F1.out _ _ HE.out hr0)
                  clear hr0
                  go_wp2
                  go_ret3
                  rw [E.out]
                  exact ⟨none, 0, rfl, .inl rfl, HB.out, nofun⟩

end Go.Proofs.YtoiobhcgpajogabGreatDoor
/- append onto a slice that has no room left, whatever lies behind it; an append that may be guarded. -/
namespace Go.Proofs.YtoiobhcgpajogabGreatDoor
open Go.RowKit

section
variable {P : Program} {ops : Array Oper} {rest : List Oper} {o : Oper} {a : Act} {w : World} {Q : Exit → Act → World → Prop}

theorem wpList_append_run (hw : Region.wanted o (yielded ops a.tmps) = true) (s x : Operand) (t : TypeId) (hop : o.op = Op.call { callee := Callee.builtin Builtin.append, args := #[s, x], argTypes := #[t, t] })
    (sv xv v' : Value) (w' : World) (hs : a.eval s = sv) (hx : a.eval x = xv) (hrun : (Builtin.append_ #[t, t] o.type #[sv, xv]).run P w = .ok v' w') (hK : wpList P ops Q rest (a.put o.dst v') w') : wpList P ops Q (o :: rest) a w :=
  wpList_step fun K hK' => by
    rw [if_pos hw]
    unfold Oper.wp
    simp [execOp, hop, resolve, invoke, builtin, hs, hx, hrun, Result.andThen]
    exact hK' _ _ hK
end

/-- Nothing is appended. -/
theorem run_append_nil {P : Program} (w : World) (t ty e : TypeId) (i : TypeInfo) (ht : P.underlying t = some (.slice e)) (hi : P.info? e = some i) (base : Option Addr) (n cap : Nat) (hle : n ≤ cap) (ad : Option Addr) (c : Nat) :
    (Builtin.append_ #[t, t] ty #[.slice base n cap, .slice ad 0 c]).run P w = .ok (.slice base n cap) w := by
  cases base <;> cases ad <;> simp [Builtin.append_, run_underlying ht, sizeOf, typeInfo, hi, Builtin.lenOf, hle, storeCells, Builtin.firstCells, loadCells, loadCellsFrom]

end Go.Proofs.YtoiobhcgpajogabGreatDoor
