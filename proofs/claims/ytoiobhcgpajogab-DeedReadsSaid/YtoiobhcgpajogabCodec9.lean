/- The walk of part. -/
import Derived.Test.YtoiobhcgpajogabConv
namespace Go.Proofs.Ytoiobhcgpajogab
open Go.RowKit

/-- A slice that lies in memory, cut within a greater one, in a block below B: its cells. -/
def BytesAt (B : Nat) (w : World) (v : Value) (t : List UInt8) : Prop := ∃ a cap, v = .slice a t.length cap ∧ t.length ≤ cap ∧ SliceAt w a (Lib.byteCells t) ∧ ∀ ad, a = some ad → ad.block < B

theorem BytesAt.below {B : Nat} {w w' : World} {v : Value} {t : List UInt8} (h : BytesAt B w v t) (k : Below w.heap.size w w') : BytesAt B w' v t := by
  obtain ⟨a, cap, rfl, h1, h2, h3⟩ := h
  exact ⟨a, cap, rfl, h1, sliceAt_below h2 k, h3⟩

theorem BytesAt.same {B : Nat} {w w1 w2 : World} {v : Value} {t : List UInt8} (h : BytesAt B w1 v t) (k1 : Below B w w1) (k2 : Below B w w2) : BytesAt B w2 v t := by
  obtain ⟨a, cap, rfl, h1, h2, h3⟩ := h
  exact ⟨a, cap, rfl, h1, h2.lift (fun ad ha => by rw [k2.block _ (h3 ad ha), k1.block _ (h3 ad ha)]), h3⟩

def PartPost (B : Nat) (t : List UInt8) (w : World) (e : Ending) (w' : World) : Prop :=
  match partD t with
  | none => ∃ v p, e = .returned (.tuple #[p, v, .int .i64 4]) ∧ (∃ x : Ent, p = .agg #[.int .i64 x.n, .bool x.v.there, .string x.v.bytes]) ∧ BytesAt B w' v [] ∧ Below w.heap.size w w'
  | some y => ∃ v, e = .returned (.tuple #[.agg #[.int .i64 y.1.n, .bool y.1.v.there, .string y.1.v.bytes], v, .int .i64 0]) ∧ BytesAt B w' v y.2 ∧ Below w.heap.size w w'

set_option maxHeartbeats 4000000 in
set_option maxRecDepth 100000 in
theorem codec_part (B : Nat) (v : Value) (t : List UInt8) (w : World) (hn : t.length ≤ 1000000) (h : BytesAt B w v t) : Calls Try.prog 82 #[v] w (PartPost B t w) := by
  obtain ⟨a, cap, rfl, hcap, hs, hBb⟩ := h
  by_cases h2 : t.length < 2
  · have hp : partD t = none := by
      match t, h2 with
      | [], _ => rfl
      | [_], _ => rfl
    have hl : (t.length : Int) < 2 := by omega
    unfold PartPost
    rw [hp]
    clear hp hs
    go_enter Try.func82, Try.ntmps82
    go_wp2
    refine bodyPost_ret (v := .tuple #[.agg #[.int .i64 0, .bool false, .string ByteArray.empty], .slice none 0 0, .int .i64 4]) (by simp [results, Try.results82, go_sem]; rfl) rfl ⟨_, _, rfl, ⟨⟨0, ⟨false, _⟩⟩, rfl⟩, ⟨none, 0, rfl, Nat.le_refl _, .inl rfl, fun _ h => by cases h⟩, ?_⟩
    exact (Below.refl _ _).alloc (Nat.le_refl _) _
  · obtain ⟨k, n, r, rfl⟩ : ∃ k n r, t = k :: n :: r := by
      match t, h2 with
      | [], h2 => simp at h2
      | [_], h2 => simp at h2
      | k :: n :: r, _ => exact ⟨k, n, r, rfl⟩
    have hl : (2 : Int) ≤ ((k :: n :: r).length : Int) := by simp; omega
    rcases hs with hs | ⟨b, off, rfl, hc⟩
    · cases hs
    have hbB : b < B := hBb _ rfl
    clear hBb
    have c0 := hc 0 _ rfl
    have c1 := hc 1 _ rfl
    simp only [Nat.add_zero] at c0
    have lb := World.block_lt_of_cell? w _ c0
    simp only at lb
    have HC := hid hc
    have kb : (k.toNat : Int) < 256 := by have := k.toNat_lt; omega
    have nb : (n.toNat : Int) < 256 := by have := n.toNat_lt; omega
    have hln : (k :: n :: r).length = r.length + 2 := by simp
    clear hc h2
    generalize (k :: n :: r).length = L at *
    have hlr : L - 2 = r.length := by omega
    have hl2 : 2 ≤ L := by omega
    have tail : ∀ w' : World, Below w.heap.size w w' → BytesAt B w' (.slice (some ⟨b, off + 2, none⟩) (L - 2) (cap - 2)) r := by
      intro w' hb
      rw [hlr]
      refine ⟨_, _, rfl, by omega, .inr ⟨b, off + 2, rfl, fun j u hu => ?_⟩, fun _ h => by cases h; exact hbB⟩
      rw [below_cell hb lb, show off + 2 + j = off + (j + 2) by omega]
      exact HC.out (j + 2) u (by simpa [Lib.byteCells] using hu)
    have tail2 : cap = 2 → ∀ (w' : World) (o' : Nat), BytesAt B w' (.slice (some ⟨b, o', none⟩) (L - 2) 0) r := by
      intro hc2 w' a'
      have : r = [] := List.eq_nil_of_length_eq_zero (by omega)
      subst this
      rw [hlr]
      exact ⟨_, _, rfl, by simp, .inl rfl, fun _ h => by cases h; exact hbB⟩
    have TL2 := hid tail2
    clear tail2
    have TL := hid tail
    have HL := hid hln
    have HLR := hid hlr
    clear tail hln hlr
    by_cases h255 : n.toNat = 255
    · have z : ((n.toNat : Int) == 255) = true := by simp [h255]
      unfold PartPost
      have hp : partD (k :: n :: r) = some (⟨k.toNat, ⟨false, ⟨#[]⟩⟩⟩, r) := by rw [partD, if_pos h255]
      rw [hp]
      clear hp h255
      go_enter Try.func82, Try.ntmps82
      by_cases hc2 : cap = 2
      · go_wp2
        refine bodyPost_ret (v := .tuple #[.agg #[.int .i64 k.toNat, .bool false, .string ⟨#[]⟩], .slice (some ⟨b, off, none⟩) (L - 2) 0, .int .i64 0]) (by simp [results, Try.results82, go_sem]) rfl ⟨_, rfl, TL2.out hc2 _ _, ?_⟩
        exact ((Below.refl _ _).alloc (Nat.le_refl _) _).alloc (by simp) _
      · go_wp2
        refine bodyPost_ret (v := .tuple #[.agg #[.int .i64 k.toNat, .bool false, .string ⟨#[]⟩], .slice (some ⟨b, off + 2, none⟩) (L - 2) (cap - 2), .int .i64 0]) (by simp [results, Try.results82, go_sem]) rfl ⟨_, rfl, TL.out _ ?_, ?_⟩
        all_goals exact ((Below.refl _ _).alloc (Nat.le_refl _) _).alloc (by simp) _
    · have z : ((n.toNat : Int) == 255) = false := by simp; omega
      have z2 : ((n.toNat : Int) = 255) = False := by simp; omega
      have hn0 : (0 : Int) ≤ (n.toNat : Int) := by omega
      unfold PartPost
      by_cases hsh : r.length < n.toNat
      · have hp : partD (k :: n :: r) = none := by rw [partD, if_neg h255, if_pos hsh]
        rw [hp]
        have hsh1 : ((L - 2 : Nat) : Int) < (n.toNat : Int) := by have := HLR.out; omega
        clear hp h255 z2
        go_enter Try.func82, Try.ntmps82
        by_cases hc2 : cap = 2
        · go_wp2
          refine bodyPost_ret (v := .tuple #[.agg #[.int .i64 0, .bool false, .string ByteArray.empty], .slice none 0 0, .int .i64 4]) (by simp [results, Try.results82, go_sem]; rfl) rfl ⟨_, _, rfl, ⟨⟨0, ⟨false, _⟩⟩, rfl⟩, ⟨none, 0, rfl, Nat.le_refl _, .inl rfl, fun _ h => by cases h⟩, ?_⟩
          exact ((Below.refl _ _).alloc (Nat.le_refl _) _).alloc (by simp) _
        · go_wp2
          refine bodyPost_ret (v := .tuple #[.agg #[.int .i64 0, .bool false, .string ByteArray.empty], .slice none 0 0, .int .i64 4]) (by simp [results, Try.results82, go_sem]; rfl) rfl ⟨_, _, rfl, ⟨⟨0, ⟨false, _⟩⟩, rfl⟩, ⟨none, 0, rfl, Nat.le_refl _, .inl rfl, fun _ h => by cases h⟩, ?_⟩
          exact ((Below.refl _ _).alloc (Nat.le_refl _) _).alloc (by simp) _
      · have hp : partD (k :: n :: r) = some (⟨k.toNat, ⟨true, ⟨(r.take n.toNat).toArray⟩⟩⟩, r.drop n.toNat) := by rw [partD, if_neg h255, if_neg hsh]
        rw [hp]
        have hnr : n.toNat ≤ r.length := by omega
        have hsh1 : ((n.toNat : Int)) ≤ ((L - 2 : Nat) : Int) := by have := HLR.out; omega
        have htl : (r.take n.toNat).length = n.toNat := by rw [List.length_take]; omega
        have hcells : ∀ w' : World, Below w.heap.size w w' → SliceAt w' (some ⟨b, off + 2, none⟩) (Lib.byteCells (r.take n.toNat)) := by
          intro w' hb
          refine .inr ⟨b, off + 2, rfl, fun j u hu => ?_⟩
          rw [below_cell hb lb, show off + 2 + j = off + (j + 2) by omega]
          refine HC.out (j + 2) u ?_
          have hu' : (Lib.byteCells r)[j]? = some u := by
            rw [Lib.byteCells, List.map_take, List.getElem?_take] at hu
            split at hu
            · exact hu
            · cases hu
          simpa [Lib.byteCells] using hu'
        have kc := fun (o1 o2 : Obj) => conv_sliceAt ((w.alloc o1).alloc o2) (some ⟨b, off + 2, none⟩) (cap - 2) (r.take n.toNat) (hcells _ (((Below.refl _ _).alloc (Nat.le_refl _) _).alloc (by simp) _))
        rw [htl] at kc
        have drp : ∀ (w' : World), Below w.heap.size w w' → n.toNat ≠ cap - 2 → BytesAt B w' (.slice (some ⟨b, off + 2 + n.toNat, none⟩) (L - 2 - n.toNat) (cap - 2 - n.toNat)) (r.drop n.toNat) := by
          intro w' hb hne
          have hl' : L - 2 - n.toNat = (r.drop n.toNat).length := by rw [List.length_drop, HLR.out]
          rw [hl']
          refine ⟨_, _, rfl, by have := HLR.out; rw [List.length_drop]; omega, .inr ⟨b, off + 2 + n.toNat, rfl, fun j u hu => ?_⟩, fun _ h => by cases h; exact hbB⟩
          rw [below_cell hb lb, show off + 2 + n.toNat + j = off + (n.toNat + j + 2) by omega]
          refine HC.out (n.toNat + j + 2) u ?_
          have hu' : (Lib.byteCells r)[n.toNat + j]? = some u := by
            rw [Lib.byteCells, List.map_drop, List.getElem?_drop] at hu
            exact hu
          simpa [Lib.byteCells] using hu'
        have drp0 : r.length ≤ n.toNat → ∀ (w' : World) (o' : Nat) (c' : Nat), BytesAt B w' (.slice (some ⟨b, o', none⟩) 0 c') (r.drop n.toNat) := by
          intro h0 w' a' c'
          have : r.drop n.toNat = [] := List.drop_eq_nil_of_le h0
          rw [this]
          exact ⟨_, _, rfl, Nat.zero_le _, .inl rfl, fun _ h => by cases h; exact hbB⟩
        have D := hid drp
        have D0 := hid drp0
        generalize hst : r.take n.toNat = st at *
        have HST := hid hst
        clear hp h255 z2 hsh drp drp0 hcells hst htl
        by_cases hc2 : cap = 2
        · have hL2 : L = 2 := by omega
          have hr0 : r = [] := List.eq_nil_of_length_eq_zero (by have := HLR.out; omega)
          have hn0 : n = 0 := UInt8.toNat_inj.1 (by have := HLR.out; simp; omega)
          subst hL2
          subst hc2
          subst hn0
          subst hr0
          have hst0 : st = [] := by rw [← HST.out]; rfl
          subst hst0
          have kc2 := fun (o1 o2 : Obj) => conv_sliceAt ((w.alloc o1).alloc o2) (some ⟨b, off, none⟩) 0 [] (.inl rfl)
          simp only [List.length_nil] at kc2
          clear kc D HLR HL HST TL TL2 HC
          go_enter Try.func82, Try.ntmps82
          go_wp2_with fail
          have q1 : (w.alloc (.cells #[.int .i64 0, .bool false, .string ⟨#[]⟩] 42)).heap.size = w.heap.size + 1 := by simp
          go_region
          all_goals
            go_wp2
            refine bodyPost_ret (v := .tuple #[.agg #[.int .i64 k.toNat, .bool true, .string ⟨#[]⟩], .slice (some ⟨b, off, none⟩) 0 0, .int .i64 0]) (by simp [results, Try.results82, go_sem]) rfl ⟨_, rfl, ⟨_, _, rfl, Nat.zero_le _, .inl rfl, fun _ h => by cases h; exact hbB⟩, ?_⟩
            all_goals (repeat' first | exact Below.refl _ _ | assumption | refine Below.setCell ?_ ?_ _ | refine Below.alloc ?_ ?_ _ | refine Below.drew ?_ | (simp; done) | (simp; omega))
        · by_cases hc3 : n.toNat = cap - 2
          · obtain rfl : cap = n.toNat + 2 := by omega
            have hle : r.length ≤ n.toNat := by have := HLR.out; omega
            have e2 : n.toNat + 2 - 2 = n.toNat := by omega
            rw [e2] at kc
            have hn00 : ¬ n.toNat = 0 := by omega
            clear hc3 e2 D TL TL2
            have HLE := hid hle
            clear hle
            go_enter Try.func82, Try.ntmps82
            go_wp2_with fail
            have q1 : (w.alloc (.cells #[.int .i64 0, .bool false, .string ⟨#[]⟩] 42)).heap.size = w.heap.size + 1 := by simp
            go_region
            all_goals
              go_wp2
              refine bodyPost_ret (v := .tuple #[.agg #[.int .i64 k.toNat, .bool true, .string ⟨st.toArray⟩], .slice (some ⟨b, off + 2, none⟩) 0 0, .int .i64 0]) (by simp [results, Try.results82, go_sem]) rfl ⟨_, rfl, D0.out HLE.out _ _ _, ?_⟩
              all_goals (repeat' first | exact Below.refl _ _ | assumption | refine Below.setCell ?_ ?_ _ | refine Below.alloc ?_ ?_ _ | refine Below.drew ?_ | (simp; done) | (simp; omega))
          · clear TL2 D0
            go_enter Try.func82, Try.ntmps82
            go_wp2_with fail
            have q1 : (w.alloc (.cells #[.int .i64 0, .bool false, .string ⟨#[]⟩] 42)).heap.size = w.heap.size + 1 := by simp
            go_region
            all_goals
              go_wp2
              refine bodyPost_ret (v := .tuple #[.agg #[.int .i64 k.toNat, .bool true, .string ⟨st.toArray⟩], .slice (some ⟨b, off + 2 + n.toNat, none⟩) (L - 2 - n.toNat) (cap - 2 - n.toNat), .int .i64 0]) (by simp [results, Try.results82, go_sem]) rfl ⟨_, rfl, D.out _ ?_ hc3, ?_⟩
              all_goals (repeat' first | exact Below.refl _ _ | assumption | refine Below.setCell ?_ ?_ _ | refine Below.alloc ?_ ?_ _ | refine Below.drew ?_ | (simp; done) | (simp; omega))

end Go.Proofs.Ytoiobhcgpajogab
