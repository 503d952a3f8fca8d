/- The walk of PairsOf. -/
import Derived.Test.YtoiobhcgpajogabCodec7
namespace Go.Proofs.Ytoiobhcgpajogab
open Go.RowKit

def sub (l : List UInt8) (m c : Nat) : List UInt8 := (l.take c).drop m

theorem sub_length {l : List UInt8} {m c : Nat} (hc : c ≤ l.length) : (sub l m c).length = c - m := by
  unfold sub; rw [List.length_drop, List.length_take]; omega

theorem sub_cons {l : List UInt8} {m c : Nat} (hm : m + 2 ≤ c) (hc : c ≤ l.length) : sub l m c = l[m] :: l[m + 1] :: sub l (m + 2) c := by
  unfold sub
  rw [List.drop_eq_getElem_cons (by rw [List.length_take]; omega), List.drop_eq_getElem_cons (i := m + 1) (by rw [List.length_take]; omega)]
  simp

theorem sub_short {l : List UInt8} {m c : Nat} (hm : c < m + 2) (hc : c ≤ l.length) : partD (sub l m c) = none := by
  have h := sub_length (m := m) hc
  match sub l m c, h with
  | [], _ => rfl
  | [_], _ => rfl
  | _ :: _ :: _, h => simp at h; omega

theorem sub_none {l : List UInt8} {m c : Nat} (hm : m + 2 ≤ c) (hc : c ≤ l.length) (hk : l[m + 1].toNat = 255) : partD (sub l m c) = some (⟨l[m].toNat, ⟨false, ⟨#[]⟩⟩⟩, sub l (m + 2) c) := by
  rw [sub_cons hm hc, partD, if_pos hk]

theorem sub_long {l : List UInt8} {m c : Nat} (hm : m + 2 ≤ c) (hc : c ≤ l.length) (hk : l[m + 1].toNat ≠ 255) (h : c < m + 2 + l[m + 1].toNat) : partD (sub l m c) = none := by
  rw [sub_cons hm hc, partD, if_neg hk, if_pos (by rw [sub_length hc]; omega)]

theorem sub_some {l : List UInt8} {m c : Nat} (hm : m + 2 ≤ c) (hc : c ≤ l.length) (hk : l[m + 1].toNat ≠ 255) (h : m + 2 + l[m + 1].toNat ≤ c) :
    partD (sub l m c) = some (⟨l[m].toNat, ⟨true, ⟨((sub l (m + 2) c).take l[m + 1].toNat).toArray⟩⟩⟩, sub l (m + 2 + l[m + 1].toNat) c) := by
  rw [sub_cons hm hc, partD, if_neg hk, if_neg (by rw [sub_length hc]; omega)]
  unfold sub
  rw [List.drop_drop]

set_option maxHeartbeats 1000000 in
set_option maxRecDepth 100000 in
theorem ref_PairsOf2 (a : Option Addr) (cap : Nat) (l : List UInt8) (w : World) (hn : l.length ≤ 1000000) (h : BytesIn w a cap l) : Calls Try.prog 73 #[.slice a l.length cap] w (DecPost2 (decL l) w) := by
  obtain ⟨hcap, hs⟩ := h
  match l with
  | [] =>
    have e : decL [] = ([], 0, 6) := rfl
    rw [e]
    go_enter Try.func73, Try.ntmps73
    go_wp2
    go_ret3
    exact ⟨none, 0, rfl, .inl rfl, Below.refl _ _, nofun⟩
  | c :: t =>
    rcases hs with hs | ⟨b, off, rfl, hc⟩
    · cases hs
    have c0 := hc 0 _ rfl
    simp only [Nat.add_zero] at c0
    have lb := World.block_lt_of_cell? w _ c0
    simp only at lb
    have HC := hid hc
    have hlp : 0 < (c :: t).length := by simp
    have hlp2 : ¬ ((c :: t).length : Int) = 0 := by omega
    have kb : (c.toNat : Int) < 256 := by have := c.toNat_lt; omega
    clear hc
    by_cases h1 : (c :: t).length < c.toNat
    · rw [decL_long c t h1]
      generalize (c :: t).length = L at *
      go_enter Try.func73, Try.ntmps73
      go_wp2
      go_ret3
      exact ⟨none, 0, rfl, .inl rfl, Below.refl _ _, nofun⟩
    · by_cases h2 : c.toNat < 2
      · rw [decL_few c t h1 h2]
        have h1' : c.toNat ≤ (c :: t).length := by omega
        generalize (c :: t).length = L at *
        go_enter Try.func73, Try.ntmps73
        go_wp2
        go_ret3
        exact ⟨none, 0, rfl, .inl rfl, Below.refl _ _, nofun⟩
      · match t with
        | [] => simp at h1; omega
        | d :: t =>
          have c1 := HC.out 1 _ rfl
          have hD := hid (decL_parts c d t h1 h2)
          have hcl : c.toNat ≤ (c :: d :: t).length := by omega
          have HCL := hid hcl
          have hl2 : 2 ≤ (c :: d :: t).length := by simp
          generalize decL (c :: d :: t) = x at *
          generalize hla : c :: d :: t = la at *
          have F0 := hid (fun (h : partsD d.toNat (sub la 2 c.toNat) = none) => (show x = ([], 0, 4) by rw [hD.out, show (la.take c.toNat).drop 2 = sub la 2 c.toNat from rfl, h]))
          have F1 := hid (fun (acc : List Ent) (rest : List UInt8) (h : partsD d.toNat (sub la 2 c.toNat) = some (acc, rest)) (h2 : rest ≠ []) => (show x = ([], 0, 4) by rw [hD.out, show (la.take c.toNat).drop 2 = sub la 2 c.toNat from rfl, h]; simp [h2]))
          have F2 := hid (fun (acc : List Ent) (rest : List UInt8) (h : partsD d.toNat (sub la 2 c.toNat) = some (acc, rest)) (h2 : rest = []) (h3 : ckPs (-1) acc ≠ 0) => (show x = ([], 0, ckPs (-1) acc) by rw [hD.out, show (la.take c.toNat).drop 2 = sub la 2 c.toNat from rfl, h]; simp [h2, h3]))
          have F3 := hid (fun (acc : List Ent) (rest : List UInt8) (h : partsD d.toNat (sub la 2 c.toNat) = some (acc, rest)) (h2 : rest = []) (h3 : ckPs (-1) acc = 0) => (show x = (acc, (c.toNat : Int), 0) by rw [hD.out, show (la.take c.toNat).drop 2 = sub la 2 c.toNat from rfl, h]; simp [h2, h3]))
          clear hD hla
          generalize hL : la.length = L at *
          have HLL := hid hL
          clear hL
          have hcL : (c.toNat : Int) ≤ L := by omega
          have hc2 : (2 : Int) ≤ c.toNat := by omega
          have hLc : (L : Int) ≤ cap := by omega
          have db : (d.toNat : Int) < 256 := by have := d.toNat_lt; omega
          obtain ⟨i0, hi, hz0, hz1, hz2⟩ := info_parts Try.infoPair
          have N0 := hid (World.ownsRow_nil w w.heap.size 42 3)
          have HC1 := hid c1
          go_enter Try.func73, Try.ntmps73
          go_wp2_with fail
          go_loopw [6, 7, 8] (fun at_ o i wr => ∃ (k m : Nat) (acc : List Ent), k ≤ d.toNat ∧ i = .int .i64 k ∧ at_ = .int .i64 m ∧ 2 ≤ m ∧ m ≤ c.toNat ∧ wr.ownsRow w.heap.size 42 3 o acc.length (encEnts acc) ∧ acc.length = k ∧
              Hid (partsD d.toNat (sub la 2 c.toNat) = (partsD (d.toNat - k) (sub la m c.toNat)).map (fun y => (acc ++ y.1, y.2))) ∧ Hid (∀ y ∈ acc, y.v.bytes.size ≤ maxLen) ∧ Below w.heap.size w wr) (fun _ _ i _ => d.toNat - (intOf i).toNat)
          case atStart => exact ⟨0, 2, [], Nat.zero_le _, rfl, rfl, Nat.le_refl _, by omega, N0.out, rfl, hid (by simp), hid (by simp), Below.refl _ _⟩
          case round =>
            obtain ⟨k, m, acc, hk, rfl, rfl, hm2, hmc, ho, hak, HP, HS, hb⟩ := hrel
            clear N0 c0 c1
            have c1 := (below_cell hb lb).trans HC1.out
            obtain ⟨ao, capo, rfl, hos, hob⟩ := ownsRow.sliceAt ho
            have HNEW := hid (fun (ad : Addr) (h : ao = some ad) => (ho.lt ad.block (hob ad h)).1)
            clear hob
            have HB := hid hb
            have HO := hid ho
            have HOS := hid hos
            have hal : acc.length ≤ 1000000 := by omega
            have HAK := hid hak
            clear hb ho hos hak
            by_cases hlt : k < d.toNat
            · have hdk : (k : Int) < (d.toNat : Int) := by omega
              by_cases hs : c.toNat < m + 2
              · have E := hid (F0.out (partsD_stop HP.out hlt (sub_short hs (by rw [HLL.out]; omega))))
                go_wp2
                go_ret3
                rw [E.out]
                exact ⟨none, 0, rfl, .inl rfl, HB.out, nofun⟩
              · have hm2c : m + 2 ≤ c.toNat := by omega
                have hm1 : m + 1 < la.length := by rw [HLL.out]; omega
                have g0 := (below_cell HB.out lb).trans (HC.out m _ (by simp [Lib.byteCells, List.getElem?_eq_getElem (show m < la.length by omega)]; rfl))
                have g1 := (below_cell HB.out lb).trans (HC.out (m + 1) _ (by simp [Lib.byteCells, List.getElem?_eq_getElem hm1]; rfl))
                have hcla : c.toNat ≤ la.length := by rw [HLL.out]; omega
                have S1 := hid (fun h => sub_none (l := la) (m := m) (c := c.toNat) hm2c hcla h)
                have S2 := hid (fun h h' => sub_long (l := la) (m := m) (c := c.toNat) hm2c hcla h h')
                have S3 := hid (fun h h' => sub_some (l := la) (m := m) (c := c.toNat) hm2c hcla h h')
                have SC : ∀ (j : Nat) (w' : World), Below w.heap.size w w' → SliceAt w' (some ⟨b, off + (m + 2), none⟩) (Lib.byteCells ((sub la (m + 2) c.toNat).take j)) := by
                  intro j w' hb
                  refine .inr ⟨b, off + (m + 2), rfl, fun i u hu => ?_⟩
                  rw [below_cell hb lb, show off + (m + 2) + i = off + (m + 2 + i) by omega]
                  refine HC.out _ u ?_
                  unfold sub at hu
                  rw [Lib.byteCells, List.map_take, List.map_drop, List.map_take, List.getElem?_take] at hu
                  split at hu
                  · rw [List.getElem?_drop, List.getElem?_take] at hu
                    split at hu
                    · exact hu
                    · cases hu
                  · cases hu
                have SCH := hid SC
                have SLEN := hid (fun j (hj : j ≤ c.toNat - (m + 2)) => (show ((sub la (m + 2) c.toNat).take j).length = j by rw [List.length_take, sub_length hcla]; omega))
                clear SC
                generalize la[m] = km at *
                generalize la[m + 1] = nm at *
                have kmb : (km.toNat : Int) < 256 := by have := km.toNat_lt; omega
                have nmb : (nm.toNat : Int) < 256 := by have := nm.toNat_lt; omega
                have q1 : acc.length + 1 ≤ maxLen := by unfold maxLen; omega
                have q2 : (acc.length + 1) * 32 ≤ 140737488355328 := by omega
                have lbw : b < wr.heap.size := by have := HB.out.size; omega
                have w1 : (m : Int) < (L : Int) := by omega
                have w2 : (m : Int) + 1 < (L : Int) := by omega
                have w3 : (0 : Int) ≤ (m : Int) := by omega
                have w4 : (m : Int) + 2 ≤ (c.toNat : Int) := by omega
                by_cases h255 : nm.toNat = 255
                · have z : ((nm.toNat : Int) != 255) = false := by simp [h255]
                  have HM := hid (partsD_more HP.out hlt (S1.out h255))
                  clear h255
                  have HO1 := hid (HO.out.alloc (.cells (encEnt ⟨km.toNat, ⟨false, ⟨#[]⟩⟩⟩).toArray 42))
                  have HB1 := hid (HB.out.alloc HB.out.size (.cells (encEnt ⟨km.toNat, ⟨false, ⟨#[]⟩⟩⟩).toArray 42))
                  go_wp2_with (refine wpList_append_own _ rfl (.tmp 70) (.tmp 72) 23 rfl w.heap.size 42 i0 (.agg #[.int .i64 0, .bool false, .string ByteArray.empty]) 3 32 Try.underlying23 hi hz0 hz1 hz2 rfl (by decide) (.slice ao acc.length capo) acc.length (encEnts acc) rfl (HO1.out.alloc _) ⟨wr.heap.size + 1, 0, none⟩ 1 1 (encEnt ⟨km.toNat, ⟨false, ⟨#[]⟩⟩⟩) rfl rfl ?c1 (encEnt_one _) q1 q2 ?c5 ?_)
                  case c1 => have := cells_new (wr.alloc (.cells (encEnt (⟨(km.toNat : Int), ⟨false, ⟨#[]⟩⟩⟩ : Ent)).toArray 42)) (encEnt ⟨(km.toNat : Int), ⟨false, ⟨#[]⟩⟩⟩) 42; rw [World.size_alloc] at this; exact this
                  case c5 => have := HB1.out.size; simp at this; simp; omega
                  intro v' w2 hown' hgrow _
                  have HB2 := hid ((HB1.out.alloc HB1.out.size (.cells (encEnt ⟨km.toNat, ⟨false, ⟨#[]⟩⟩⟩).toArray 42)).grown hgrow (by have := HB1.out.size; simp at this; simp; omega) (fun j hj => (HO1.out.lt j hj).1))
                  have HO2 := hid (show w2.ownsRow w.heap.size 42 3 v' (acc ++ [(⟨km.toNat, ⟨false, ⟨#[]⟩⟩⟩ : Ent)]).length (encEnts (acc ++ [(⟨km.toNat, ⟨false, ⟨#[]⟩⟩⟩ : Ent)])) by rw [encEnts_append, List.length_append]; simpa [encEnts] using hown')
                  have HS2 := hid (show ∀ z ∈ acc ++ [(⟨km.toNat, ⟨false, ⟨#[]⟩⟩⟩ : Ent)], z.v.bytes.size ≤ maxLen from fun z hz => by rcases List.mem_append.1 hz with h | h; exact HS.out z h; (rw [List.mem_singleton] at h; subst h; simp [ByteArray.size]))
                  clear hown' hgrow g0 g1 c1
                  go_wp2
                  go_roundw
                  case rel => exact ⟨k + 1, m + 2, _, by omega, by go_num, by go_num, by omega, by omega, HO2.out, by simp [HAK.out], HM, HS2, HB2.out⟩
                  case measure => simp [intOf]; omega
                · have z : ((nm.toNat : Int) != 255) = true := by simp; omega
                  by_cases hl : c.toNat < m + 2 + nm.toNat
                  · have E := hid (F0.out (partsD_stop HP.out hlt (S2.out h255 hl)))
                    clear h255
                    go_wp2
                    go_ret3
                    rw [E.out]
                    exact ⟨none, 0, rfl, .inl rfl, HB.out.alloc HB.out.size _, nofun⟩
                  · have HM := hid (partsD_more HP.out hlt (S3.out h255 (by omega)))
                    have hl' : m + 2 + nm.toNat ≤ c.toNat := by omega
                    have slen := SLEN.out nm.toNat (by omega)
                    have kc := fun (o1 : Obj) => conv_sliceAt (wr.alloc o1) (some ⟨b, off + (m + 2), none⟩) (cap - (m + 2)) _ (SCH.out nm.toNat (wr.alloc o1) (HB.out.alloc HB.out.size o1))
                    rw [slen] at kc
                    clear h255 hl hs slen
                    generalize hst : (sub la (m + 2) c.toNat).take nm.toNat = st at *
                    have HST := hid hst
                    have HSZ := hid (show (⟨st.toArray⟩ : ByteArray).size ≤ maxLen by
                      show st.length ≤ maxLen
                      rw [← HST.out, SLEN.out nm.toNat (by omega)]
                      unfold maxLen; omega)
                    have w5 : (m : Int) + 2 + (nm.toNat : Int) ≤ (cap : Int) := by omega
                    have w6 : (0 : Int) ≤ (nm.toNat : Int) := by omega
                    clear hst
                    have HO1 := hid (HO.out.alloc (.cells (encEnt ⟨km.toNat, ⟨true, ⟨st.toArray⟩⟩⟩).toArray 42))
                    have HB1 := hid (HB.out.alloc HB.out.size (.cells (encEnt ⟨km.toNat, ⟨true, ⟨st.toArray⟩⟩⟩).toArray 42))
                    by_cases hcm : cap = m + 2
                    case' pos =>
                      subst hcm
                      have hnm0 : nm = 0 := UInt8.toNat_inj.1 (by simp; omega)
                      subst hnm0
                      have hst0 : st = [] := by rw [← HST.out]; rfl
                      have kc2 : ∀ o1 : Obj, (convert 60 9 (.slice (some ⟨b, off, none⟩) 0 0)).run Try.prog (wr.alloc o1) = .ok (.string ⟨st.toArray⟩) (wr.alloc o1) := fun o1 => by
                        rw [hst0]
                        exact conv_sliceAt (wr.alloc o1) (some ⟨b, off, none⟩) 0 [] (.inl rfl)
                      clear hst0
                    all_goals
                      go_wp2_with (refine wpList_append_own _ rfl (.tmp 70) (.tmp 72) 23 rfl w.heap.size 42 i0 (.agg #[.int .i64 0, .bool false, .string ByteArray.empty]) 3 32 Try.underlying23 hi hz0 hz1 hz2 rfl (by decide) (.slice ao acc.length capo) acc.length (encEnts acc) rfl (HO1.out.alloc _) ⟨wr.heap.size + 1, 0, none⟩ 1 1 (encEnt ⟨(km.toNat : Int), ⟨true, ⟨st.toArray⟩⟩⟩) rfl rfl ?c1 (encEnt_one _) q1 q2 ?c5 ?_)
                      case c1 => have := cells_new (wr.alloc (.cells (encEnt ⟨(km.toNat : Int), ⟨true, ⟨st.toArray⟩⟩⟩).toArray 42)) (encEnt ⟨(km.toNat : Int), ⟨true, ⟨st.toArray⟩⟩⟩) 42; rw [World.size_alloc] at this; exact this
                      case c5 => have := HB1.out.size; simp at this; simp; omega
                      intro v' w2 hown' hgrow _
                      have HB2 := hid ((HB1.out.alloc HB1.out.size (.cells (encEnt ⟨(km.toNat : Int), ⟨true, ⟨st.toArray⟩⟩⟩).toArray 42)).grown hgrow (by have := HB1.out.size; simp at this; simp; omega) (fun j hj => (HO1.out.lt j hj).1))
                      have HO2 := hid (show w2.ownsRow w.heap.size 42 3 v' (acc ++ [(⟨km.toNat, ⟨true, ⟨st.toArray⟩⟩⟩ : Ent)]).length (encEnts (acc ++ [(⟨km.toNat, ⟨true, ⟨st.toArray⟩⟩⟩ : Ent)])) by rw [encEnts_append, List.length_append]; simpa [encEnts] using hown')
                      have HS2 := hid (show ∀ z ∈ acc ++ [(⟨km.toNat, ⟨true, ⟨st.toArray⟩⟩⟩ : Ent)], z.v.bytes.size ≤ maxLen from fun z hz => by rcases List.mem_append.1 hz with h | h; exact HS.out z h; (rw [List.mem_singleton] at h; subst h; exact HSZ.out))
                      clear hown' hgrow g0 g1 c1 kc
                      go_wp2
                      go_roundw
                      case rel => exact ⟨k + 1, _, _, by omega, by go_num, by first | rfl | go_num | (simp; done), by omega, by first | omega | (simp; omega), HO2.out, by simp [HAK.out], HM, HS2, HB2.out⟩
                      case measure => simp [intOf]; omega
            · obtain rfl : k = d.toNat := by omega
              have HE := hid (partsD_end HP.out)
              by_cases hmc' : m = c.toNat
              · subst hmc'
                have hr0 : sub la c.toNat c.toNat = [] := List.eq_nil_of_length_eq_zero (by rw [sub_length (by rw [HLL.out]; omega)]; omega)
                have HCK := hid (ref_PairsFault ao capo acc wr hal HS.out HOS.out)
                by_cases hck : ckPs (-1) acc = 0
                · have E := hid (F3.out _ _ HE.out hr0 hck)
                  rw [hck] at HCK
                  clear hck hr0
                  go_wp2_with fail
                  (with_reducible refine HCK.out.mono ?_)
                  rintro e w1 ⟨rfl, hb1⟩
                  have HOS1 := hid (sliceAt_below HOS.out hb1)
                  have HB1 := hid (HB.out.trans (hb1.mono HB.out.size))
                  clear hb1
                  go_wp2
                  go_ret3
                  rw [E.out]
                  exact ⟨_, _, rfl, HOS1.out, HB1.out, HNEW.out⟩
                · have E := hid (F2.out _ _ HE.out hr0 hck)
                  have hc' : (ckPs (-1) acc != 0) = true := by simpa using hck
                  clear hck hr0
                  generalize ckPs (-1) acc = code at *
                  go_wp2_with fail
                  (with_reducible refine HCK.out.mono ?_)
                  rintro e w1 ⟨rfl, hb1⟩
                  have HB1 := hid (HB.out.trans (hb1.mono HB.out.size))
                  clear hb1
                  go_wp2
                  go_ret3
                  rw [E.out]
                  exact ⟨none, 0, rfl, .inl rfl, HB1.out, nofun⟩
              · have hr0 : sub la m c.toNat ≠ [] := fun h => by have := congrArg List.length h; rw [sub_length (by rw [HLL.out]; omega)] at this; simp at this; omega
                have E := hid (F1.out _ _ HE.out hr0)
                have hne : ((m : Int) != (c.toNat : Int)) = true := by simp; omega
                clear hr0 hmc'
                go_wp2
                go_ret3
                rw [E.out]
                exact ⟨none, 0, rfl, .inl rfl, HB.out, nofun⟩


theorem ref_PairsOf (a : Option Addr) (cap : Nat) (l : List UInt8) (w : World) (hn : l.length ≤ 1000000) (h : BytesIn w a cap l) : Calls Try.prog 73 #[.slice a l.length cap] w (DecPost (decL l) w) :=
  (ref_PairsOf2 a cap l w hn h).mono fun _ _ h => h.weak

end Go.Proofs.Ytoiobhcgpajogab
