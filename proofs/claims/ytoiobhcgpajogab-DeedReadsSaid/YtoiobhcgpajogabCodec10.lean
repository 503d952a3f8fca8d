/- The walk of Decode. -/
import Derived.Test.YtoiobhcgpajogabCodec9
namespace Go.Proofs.Ytoiobhcgpajogab
open Go.RowKit

def DecPost (x : List Ent × Int × Int) (w : World) (e : Ending) (w' : World) : Prop :=
  ∃ a cap, e = .returned (.tuple #[.slice a x.1.length cap, .int .i64 x.2.1, .int .i64 x.2.2]) ∧ SliceAt w' a (encEnts x.1) ∧ Below w.heap.size w w'

/-- .. and what it hands back lies in new memory. -/
def DecPost2 (x : List Ent × Int × Int) (w : World) (e : Ending) (w' : World) : Prop :=
  ∃ a cap, e = .returned (.tuple #[.slice a x.1.length cap, .int .i64 x.2.1, .int .i64 x.2.2]) ∧ SliceAt w' a (encEnts x.1) ∧ Below w.heap.size w w' ∧ ∀ ad, a = some ad → w.heap.size ≤ ad.block

theorem DecPost2.weak {x : List Ent × Int × Int} {w : World} {e : Ending} {w' : World} (h : DecPost2 x w e w') : DecPost x w e w' := by
  obtain ⟨a, cap, h1, h2, h3, -⟩ := h
  exact ⟨a, cap, h1, h2, h3⟩

theorem Try.infoPair : (Try.prog.info? 42).map (fun i => (i.zero, i.size, i.bytes)) = some (some (.agg #[.int .i64 0, .bool false, .string ByteArray.empty]), 3, 32) := by kernel_rfl

theorem partD_size {t u : List UInt8} {x : Ent} (h : partD t = some (x, u)) : x.v.bytes.size ≤ 255 ∧ u.length ≤ t.length := by
  match t, h with
  | k :: n :: t, h =>
    rw [partD] at h
    have hn := n.toNat_lt
    split at h
    · cases h
      exact ⟨by simp [ByteArray.size], by simp; omega⟩
    · split at h
      · cases h
      · cases h
        refine ⟨?_, by simp; omega⟩
        show (t.take n.toNat).toArray.size ≤ 255
        simp
        omega

theorem partsD_more {m k : Nat} {t rest more : List UInt8} {acc : List Ent} {x : Ent} (h : partsD m t = (partsD (m - k) rest).map (fun y => (acc ++ y.1, y.2))) (hk : k < m) (hp : partD rest = some (x, more)) :
    partsD m t = (partsD (m - (k + 1)) more).map (fun y => ((acc ++ [x]) ++ y.1, y.2)) := by
  obtain ⟨j, hj⟩ : ∃ j, m - k = j + 1 := ⟨m - k - 1, by omega⟩
  have hj' : m - (k + 1) = j := by omega
  rw [h, hj, hj', partsD, hp]
  simp only [Option.bind_some, Option.map_map]
  congr 1
  funext y
  simp

theorem partsD_stop {m k : Nat} {t rest : List UInt8} {acc : List Ent} (h : partsD m t = (partsD (m - k) rest).map (fun y => (acc ++ y.1, y.2))) (hk : k < m) (hp : partD rest = none) : partsD m t = none := by
  obtain ⟨j, hj⟩ : ∃ j, m - k = j + 1 := ⟨m - k - 1, by omega⟩
  rw [h, hj, partsD, hp]
  rfl

theorem partsD_end {m : Nat} {t rest : List UInt8} {acc : List Ent} (h : partsD m t = (partsD (m - m) rest).map (fun y => (acc ++ y.1, y.2))) : partsD m t = some (acc, rest) := by
  rw [h, Nat.sub_self, partsD]
  simp

theorem decL_long (c : UInt8) (t : List UInt8) (h : (c :: t).length < c.toNat) : decL (c :: t) = ([], 0, 6) := by simp only [decL]; rw [if_pos h]
theorem decL_few (c : UInt8) (t : List UInt8) (h : ¬ (c :: t).length < c.toNat) (h2 : c.toNat < 2) : decL (c :: t) = ([], 0, 4) := by simp only [decL]; rw [if_neg h, if_pos h2]
theorem decL_parts (c d : UInt8) (t : List UInt8) (h : ¬ (c :: d :: t).length < c.toNat) (h2 : ¬ c.toNat < 2) : decL (c :: d :: t) = match partsD d.toNat (((c :: d :: t).take c.toNat).drop 2) with
    | none => ([], 0, 4)
    | some y => if y.2 ≠ [] then ([], 0, 4) else if ckPs (-1) y.1 ≠ 0 then ([], 0, ckPs (-1) y.1) else (y.1, (c.toNat : Int), 0) := by
  simp only [decL]
  rw [if_neg h, if_neg h2]
  rfl

set_option maxHeartbeats 1000000 in
set_option maxRecDepth 100000 in
theorem codec_Decode2 (a : Option Addr) (cap : Nat) (l : List UInt8) (w : World) (hn : l.length ≤ 1000000) (h : BytesIn w a cap l) : Calls Try.prog 72 #[.slice a l.length cap] w (DecPost2 (decL l) w) := by
  obtain ⟨hcap, hs⟩ := h
  match l with
  | [] =>
    have e : decL [] = ([], 0, 6) := rfl
    rw [e]
    go_enter Try.func72, Try.ntmps72
    go_wp2
    go_ret3
    exact ⟨none, 0, rfl, .inl rfl, Below.refl _ _, nofun⟩
  | c :: t =>
    rcases hs with hs | ⟨b, off, rfl, hc⟩
    · cases hs
    have c0 := hc 0 _ rfl
    simp only [Nat.add_zero] at c0
    have lb := World.block_lt_of_cell? w _ c0
    simp only at lb
    have HC := hid hc
    have hlp : 0 < (c :: t).length := by simp
    have hlp2 : ¬ ((c :: t).length : Int) = 0 := by omega
    have kb : (c.toNat : Int) < 256 := by have := c.toNat_lt; omega
    clear hc
    by_cases h1 : (c :: t).length < c.toNat
    · rw [decL_long c t h1]
      generalize (c :: t).length = L at *
      go_enter Try.func72, Try.ntmps72
      go_wp2
      go_ret3
      exact ⟨none, 0, rfl, .inl rfl, Below.refl _ _, nofun⟩
    · by_cases h2 : c.toNat < 2
      · rw [decL_few c t h1 h2]
        generalize (c :: t).length = L at *
        go_enter Try.func72, Try.ntmps72
        go_wp2
        go_ret3
        exact ⟨none, 0, rfl, .inl rfl, Below.refl _ _, nofun⟩
      · match t with
        | [] => simp at h1; omega
        | d :: t =>
          have c1 := HC.out 1 _ rfl
          have hD := hid (decL_parts c d t h1 h2)
          have hrl : (((c :: d :: t).take c.toNat).drop 2).length = c.toNat - 2 := by rw [List.length_drop, List.length_take]; omega
          have hlen : (c :: d :: t).length = t.length + 2 := by simp
          have HLEN := hid hlen
          have hin : ∀ (w' : World) (a' : Option Addr), Below w.heap.size w w' → (cap ≠ 2 → a' = some ⟨b, off + 2, none⟩) → (∃ o', a' = some ⟨b, o', none⟩) → BytesAt w.heap.size w' (.slice a' (c.toNat - 2) (cap - 2)) (((c :: d :: t).take c.toNat).drop 2) := by
            rintro w' a' hb ha ⟨o', ho'⟩
            have hbk : ∀ ad, a' = some ad → ad.block < w.heap.size := by rintro ad rfl; cases ho'; exact lb
            by_cases hc2 : cap = 2
            · have : ((c :: d :: t).take c.toNat).drop 2 = [] := List.eq_nil_of_length_eq_zero (by omega)
              rw [this, show c.toNat - 2 = 0 by omega]
              exact ⟨_, _, rfl, Nat.zero_le _, .inl rfl, hbk⟩
            · rw [ha hc2, ← hrl]
              refine ⟨_, _, rfl, by omega, .inr ⟨b, off + 2, rfl, fun j u hu => ?_⟩, by rw [← ha hc2]; exact hbk⟩
              rw [below_cell hb lb, show off + 2 + j = off + (2 + j) by omega]
              refine HC.out (2 + j) u ?_
              rw [Lib.byteCells, List.map_drop, List.getElem?_drop, List.map_take, List.getElem?_take] at hu
              split at hu
              · exact hu
              · cases hu
          have IN := hid hin
          have hr6 : (((c :: d :: t).take c.toNat).drop 2).length ≤ 1000000 := by omega
          clear hin hlen hrl
          generalize ((c :: d :: t).take c.toNat).drop 2 = t0 at *
          generalize decL (c :: d :: t) = x at *
          generalize hL : (c :: d :: t).length = L at *
          clear hL
          have hcL : (c.toNat : Int) ≤ L := by omega
          have hc2 : (2 : Int) ≤ c.toNat := by omega
          have hLc : (L : Int) ≤ cap := by omega
          have db : (d.toNat : Int) < 256 := by have := d.toNat_lt; omega
          have F0 := hid (fun (h : partsD d.toNat t0 = none) => (show x = ([], 0, 4) by rw [hD.out, h]))
          have F1 := hid (fun (acc : List Ent) (rest : List UInt8) (h : partsD d.toNat t0 = some (acc, rest)) (h2 : rest ≠ []) => (show x = ([], 0, 4) by rw [hD.out, h]; simp [h2]))
          have F2 := hid (fun (acc : List Ent) (rest : List UInt8) (h : partsD d.toNat t0 = some (acc, rest)) (h2 : rest = []) (h3 : ckPs (-1) acc ≠ 0) => (show x = ([], 0, ckPs (-1) acc) by rw [hD.out, h]; simp [h2, h3]))
          have F3 := hid (fun (acc : List Ent) (rest : List UInt8) (h : partsD d.toNat t0 = some (acc, rest)) (h2 : rest = []) (h3 : ckPs (-1) acc = 0) => (show x = (acc, (c.toNat : Int), 0) by rw [hD.out, h]; simp [h2, h3]))
          clear hD
          obtain ⟨i0, hi, hz0, hz1, hz2⟩ := info_parts Try.infoPair
          have N0 := hid (World.ownsRow_nil w w.heap.size 42 3)
          by_cases hcap2 : cap = 2
          case' pos => subst hcap2
          all_goals
            go_enter Try.func72, Try.ntmps72
            go_wp2_with fail
            go_loopw [6, 7, 37] (fun r o i wr => ∃ (k : Nat) (acc : List Ent) (rest : List UInt8), k ≤ d.toNat ∧ i = .int .i64 k ∧ BytesAt w.heap.size wr r rest ∧ wr.ownsRow w.heap.size 42 3 o acc.length (encEnts acc) ∧ acc.length = k ∧
                Hid (partsD d.toNat t0 = (partsD (d.toNat - k) rest).map (fun y => (acc ++ y.1, y.2))) ∧ rest.length ≤ 1000000 ∧ Hid (∀ y ∈ acc, y.v.bytes.size ≤ maxLen) ∧ Below w.heap.size w wr) (fun _ _ i _ => d.toNat - (intOf i).toNat)
            case atStart => exact ⟨0, [], t0, Nat.zero_le _, rfl, IN.out _ _ (Below.refl _ _) (by first | exact fun h => absurd rfl h | exact fun _ => rfl) ⟨_, rfl⟩, N0.out, rfl, hid (by simp), hr6, hid (by simp), Below.refl _ _⟩
            case round =>
              obtain ⟨k, acc, rest, hk, rfl, hB, ho, hak, HP, hrl, HS, hb⟩ := hrel
              clear N0
              by_cases hlt : k < d.toNat
              · have HB := hid hb
                obtain ⟨ar, capr, rfl, hB1, hB2, hB3⟩ := hB
                obtain ⟨ao, capo, rfl, -, -⟩ := ownsRow.sliceAt ho
                have HO := hid ho
                have hpart := codec_part w.heap.size (.slice ar rest.length capr) rest wr hrl ⟨ar, capr, rfl, hB1, hB2, hB3⟩
                have HPT := hid hpart
                have hdk : (k : Int) < (d.toNat : Int) := by omega
                clear hb ho hB1 hB2 hB3 hpart
                cases hp : partD rest with
                | none =>
                  have E := hid (F0.out (partsD_stop HP.out hlt hp))
                  have HPD := hid hp
                  clear hp
                  go_wp2_with fail
                  (with_reducible refine HPT.out.mono ?_)
                  intro e w1 hQ
                  unfold PartPost at hQ
                  rw [HPD.out] at hQ
                  obtain ⟨v, p, rfl, ⟨x', rfl⟩, -, hb1⟩ := hQ
                  have HB1 := hid (HB.out.trans (hb1.mono HB.out.size))
                  clear hb1 HPT
                  go_wp2
                  go_ret3
                  rw [E.out]
                  exact ⟨none, 0, rfl, .inl rfl, HB1.out.alloc HB1.out.size _, nofun⟩
                | some y =>
                  obtain ⟨y, more⟩ := y
                  have HM := hid (partsD_more HP.out hlt hp)
                  have hsz := partD_size hp
                  have HPD := hid hp
                  clear hp
                  have q1 : acc.length + 1 ≤ maxLen := by unfold maxLen; omega
                  have q2 : (acc.length + 1) * 32 ≤ 140737488355328 := by omega
                  have HAK := hid hak
                  clear hak
                  go_wp2_with fail
                  (with_reducible refine HPT.out.mono ?_)
                  intro e w1 hQ
                  unfold PartPost at hQ
                  rw [HPD.out] at hQ
                  obtain ⟨v, rfl, hB1, hb1⟩ := hQ
                  have HB1 := hid (HB.out.trans (hb1.mono HB.out.size))
                  have HO1 := hid ((show w1.ownsRow w.heap.size 42 3 (.slice ao acc.length capo) acc.length (encEnts acc) from ownsRow.lift HO.out (fun r hr => hb1.block r (HO.out.lt r hr).2)).alloc (.cells (encEnt y).toArray 42))
                  have HBM := hid hB1
                  clear hb1 HPT HB HO hB1
                  go_wp2_with (refine wpList_append_own _ rfl (.tmp 48) (.tmp 50) 23 rfl w.heap.size 42 i0 (.agg #[.int .i64 0, .bool false, .string ByteArray.empty]) 3 32 Try.underlying23 hi hz0 hz1 hz2 rfl (by decide) (.slice ao acc.length capo) acc.length (encEnts acc) rfl (HO1.out.alloc _) ⟨w1.heap.size + 1, 0, none⟩ 1 1 (encEnt y) rfl rfl ?c1 (encEnt_one _) q1 q2 ?c5 ?_)
                  case c1 => have := cells_new (w1.alloc (.cells (encEnt y).toArray 42)) (encEnt y) 42; rw [World.size_alloc] at this; exact this
                  case c5 => have := HB1.out.size; simp; omega
                  intro v' w2 hown' hgrow _
                  have HB2 := hid (((HB1.out.alloc HB1.out.size (.cells (encEnt y).toArray 42)).alloc (by have := HB1.out.size; simp; omega) (.cells (encEnt y).toArray 42)).grown hgrow (by have := HB1.out.size; simp; omega) (fun j hj => (HO1.out.lt j hj).1))
                  have HBM2 := hid (HBM.out.same HB1.out HB2.out)
                  have HS2 := hid (show ∀ z ∈ acc ++ [y], z.v.bytes.size ≤ maxLen from fun z hz => by rcases List.mem_append.1 hz with h | h; exact HS.out z h; (rw [List.mem_singleton] at h; subst h; unfold maxLen; omega))
                  have HO2 := hid (show w2.ownsRow w.heap.size 42 3 v' (acc ++ [y]).length (encEnts (acc ++ [y])) by rw [encEnts_append, List.length_append]; simpa [encEnts] using hown')
                  clear hown' hgrow HBM
                  go_wp2
                  go_roundw
                  case rel => exact ⟨k + 1, acc ++ [y], more, by omega, by go_num, HBM2.out, HO2.out, by simp [HAK.out], HM, by omega, HS2, HB2.out⟩
                  case measure => simp [intOf]; omega
              · obtain rfl : k = d.toNat := by omega
                obtain ⟨ar, capr, rfl, hB1, hB2, hB3⟩ := hB
                obtain ⟨ao, capo, rfl, hos, hob⟩ := ownsRow.sliceAt ho
                have HNEW := hid (fun (ad : Addr) (h : ao = some ad) => (ho.lt ad.block (hob ad h)).1)
                clear hob
                have HE := hid (partsD_end HP.out)
                have hal : acc.length ≤ 1000000 := by omega
                clear hak
                have HB := hid hb
                have HOS := hid hos
                clear hb ho hB2 hB3 HP hos
                by_cases hr0 : rest = []
                · subst hr0
                  have HCK := hid (table_Check ao capo acc wr hal HS.out HOS.out)
                  by_cases hck : ckPs (-1) acc = 0
                  · have E := hid (F3.out _ _ HE.out rfl hck)
                    rw [hck] at HCK
                    clear hck
                    go_wp2_with fail
                    (with_reducible refine HCK.out.mono ?_)
                    rintro e w1 ⟨rfl, hb1⟩
                    have HOS1 := hid (sliceAt_below HOS.out hb1)
                    have HB1 := hid (HB.out.trans (hb1.mono HB.out.size))
                    clear hb1
                    go_wp2
                    go_ret3
                    rw [E.out]
                    exact ⟨_, _, rfl, HOS1.out, HB1.out, HNEW.out⟩
                  · have E := hid (F2.out _ _ HE.out rfl hck)
                    have hc' : (ckPs (-1) acc != 0) = true := by simpa using hck
                    clear hck
                    generalize ckPs (-1) acc = code at *
                    go_wp2_with fail
                    (with_reducible refine HCK.out.mono ?_)
                    rintro e w1 ⟨rfl, hb1⟩
                    have HB1 := hid (HB.out.trans (hb1.mono HB.out.size))
                    clear hb1
                    go_wp2
                    go_ret3
                    rw [E.out]
                    exact ⟨none, 0, rfl, .inl rfl, HB1.out, nofun⟩
                · have hpos : 0 < rest.length := List.length_pos_iff.2 hr0
                  have E := hid (F1.out _ _ HE.out hr0)
                  clear hr0
                  go_wp2
                  go_ret3
                  rw [E.out]
                  exact ⟨none, 0, rfl, .inl rfl, HB.out, nofun⟩


theorem codec_Decode (a : Option Addr) (cap : Nat) (l : List UInt8) (w : World) (hn : l.length ≤ 1000000) (h : BytesIn w a cap l) : Calls Try.prog 72 #[.slice a l.length cap] w (DecPost (decL l) w) :=
  (codec_Decode2 a cap l w hn h).mono fun _ _ h => h.weak

end Go.Proofs.Ytoiobhcgpajogab
