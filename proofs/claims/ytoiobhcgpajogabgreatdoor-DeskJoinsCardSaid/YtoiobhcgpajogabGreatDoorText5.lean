/- The walk of Mean. -/
import Derived.Test.YtoiobhcgpajogabGreatDoorText4
namespace Go.Proofs.YtoiobhcgpajogabGreatDoor
open Go.RowKit

theorem meanL_none {l : List UInt8} (h : rawMean l = none) : meanL l = none := by simp [meanL, h]
theorem meanL_some {l r : List UInt8} (h : rawMean l = some r) (h2 : showL r = l) : meanL l = some r := by simp [meanL, h, h2]
theorem meanL_not {l r : List UInt8} (h : rawMean l = some r) (h2 : showL r ≠ l) : meanL l = none := by simp [meanL, h, h2]

theorem IsBuilderF_below {T e : TypeId} {B b : Nat} {bs : List Value} {w w' : World} (h : Lib.IsBuilderF T e B b bs w) (k : Below w.heap.size w w') : Lib.IsBuilderF T e B b bs w' := by
  have one : ∀ {p : Value}, Lib.BuilderAtF T e B b p bs w → Lib.BuilderAtF T e B b p bs w' := by
    intro p hp
    have hlt := Lib.BuilderAtF.lt hp
    obtain ⟨hB, v, hb, hown, hne⟩ := hp
    refine ⟨hB, v, (k.block b hlt).trans hb, ⟨hown.1, ?_⟩, hne⟩
    rcases hown.2 with hn | ⟨g, cap, cur, fz, hv, hb', hg, rest⟩
    · exact .inl hn
    · exact .inr ⟨g, cap, cur, fz, hv, hb', (k.block g (lt_of_block hg)).trans hg, rest⟩
  exact h.elim (fun x => .inl (one x)) (fun x => .inr (one x))

theorem bits_or (m n : Nat) (hm : m < 16) (hn : n < 16) : bits BinOp.or IntKind.i64 ((m : Int) * 16) (n : Int) % 256 = ((m * 16 + n : Nat) : Int) := by
  have h : ∀ m : Fin 16, ∀ n : Fin 16, bits BinOp.or IntKind.i64 ((m.val : Int) * 16) (n.val : Int) % 256 = ((m.val * 16 + n.val : Nat) : Int) := by decide
  exact h ⟨m, hm⟩ ⟨n, hn⟩

theorem byteCells_or {acc : List UInt8} (m n : Nat) (hm : m < 16) (hn : n < 16) : Lib.byteCells (acc ++ [UInt8.ofNat (m * 16 + n)]) = Lib.byteCells acc ++ [.int .u8 ((m * 16 + n : Nat) : Int)] := by
  have : (UInt8.ofNat (m * 16 + n)).toNat = m * 16 + n := by simp; omega
  simp only [Lib.byteCells, List.map_append, List.map_cons, List.map_nil, this]

set_option maxHeartbeats 4000000 in
set_option maxRecDepth 100000 in
theorem text_Mean (t : ByteArray) (w : World) (ht : t.size ≤ 1000000) : Calls Tryz.prog 32 #[.string t] w (MeanPost (meanL t.data.toList) w) := by
  go_enter Tryz.func32, Tryz.ntmps32
  go_wp2
  go_loopw [5] (fun i wr => ∃ (k : Nat) (acc : List UInt8), k ≤ t.size ∧ acc.length ≤ k ∧ i = .int .i64 k ∧ Hid (rawMean t.data.toList = (rawMean (t.data.toList.drop k)).map (fun r => acc ++ r)) ∧ Lib.IsBuilder 38 5 w.heap.size w.heap.size (Lib.byteCells acc) wr ∧ Below w.heap.size w wr) (fun i _ => t.size - (intOf i).toNat)
  case atStart => exact ⟨0, [], Nat.zero_le _, Nat.le_refl _, rfl, hid (by simp), .inl ⟨Nat.le_refl _, _, heap_alloc_new w _, World.ownsRow_nil _ _ _ _, by simp [Value.ownBlock]⟩, (Below.refl _ _).alloc (Nat.le_refl _) _⟩
  case round =>
    obtain ⟨k, acc, hk, hak, rfl, HR, hB, hb⟩ := hrel
    have HBB := hid hB
    have HB := hid hb
    clear hB hb
    by_cases hlt : k < t.size
    · have hlt' : k < t.data.toList.length := by simpa using hlt
      have hst := hid (List.drop_eq_getElem_cons hlt')
      have hbl : (Lib.byteCells acc).length + 1 ≤ 140737488355328 := by simp [Lib.byteCells]; omega
      have HL := hid hbl
      clear hbl
      have hgc : t.data.toList[k] = t[k] := rfl
      rw [hgc] at hst
      clear hgc
      generalize hc : t[k] = c at *
      by_cases hp : c = 92
      · subst hp
        by_cases hlt2 : k + 2 < t.size
        · have i1 : k + 1 < t.data.toList.length := by simpa using (by omega : k + 1 < t.size)
          have i2 : k + 2 < t.data.toList.length := by simpa using hlt2
          have hst1 := List.drop_eq_getElem_cons i1
          have hst2 := List.drop_eq_getElem_cons i2
          have hg1 : t.data.toList[k + 1] = t[k + 1] := rfl
          have hg2 : t.data.toList[k + 2] = t[k + 2] := rfl
          rw [hg1] at hst1
          rw [hg2] at hst2
          clear hg1 hg2
          have HST1 := hid hst1
          have HST2 := hid hst2
          clear hst1 hst2
          have z1 : (k : Int) + 1 < (t.size : Int) := by omega
          have z2 : (k : Int) + 2 < (t.size : Int) := by omega
          have z3 : (0 : Int) ≤ (k : Int) + 1 := by omega
          have z4 : (0 : Int) ≤ (k : Int) + 2 := by omega
          generalize ha : t[k + 1] = a at *
          generalize hb : t[k + 2] = b at *
          have z5 : decide ((t.size : Int) ≤ (k : Int) + 2) = false := by simp; omega
          have v1 : IntKind.i64.wrap ((k : Int) + 1) = (k : Int) + 1 := IntWalk.i64_in _ ⟨by omega, by omega⟩
          have v2 : IntKind.i64.wrap ((k : Int) + 2) = (k : Int) + 2 := IntWalk.i64_in _ ⟨by omega, by omega⟩
          have v3 : ((k : Int) + 1).toNat = k + 1 := by omega
          have v4 : ((k : Int) + 2).toNat = k + 2 := by omega
          go_wp2
          go_quiet ((go_at_call 59; first | exact Calls.quiet_of_same (idx_any a _) | exact Calls.quiet_of_same (idx_any b _)))
          have ra := hexI_range a
          have rb := hexI_range b
          have HB1 := hid (HB.out.trans ((below_drewN wr nq).mono HB.out.size))
          have HBB1 := hid (show Lib.IsBuilder _ _ _ _ _ (wr.drewN nq) from HBB.out)
          have hrl := rawMean_long a b (t.data.toList.drop (k + 3))
          rw [← show t.data.toList.drop (k + 2) = b :: t.data.toList.drop (k + 3) from HST2.out, ← show t.data.toList.drop (k + 1) = a :: t.data.toList.drop (k + 2) from HST1.out, ← hst.out] at hrl
          generalize wr.drewN nq = wq at *
          clear ha hb v1 v3 v4 z1 z3 z4 HST1 HST2
          generalize hexI a = x at *
          generalize hexI b = y at *
          have HRL := hid hrl
          clear hrl
          by_cases hx : x < 0
          · have hn : rawMean t.data.toList = none := by rw [HR.out, HRL.out, if_pos (.inl hx)]; rfl
            have HM := hid (meanL_none hn)
            clear hn
            go_wp2
            exact bodyPost_ret (v := .tuple #[.string ⟨#[]⟩, .bool false]) (by simp [results, Tryz.results32, go_sem]) rfl ⟨by rw [HM.out]; rfl, HB1.out⟩
          · have hx' : 0 ≤ x := by omega
            have dx : decide (x < 0) = false := by simp; omega
            by_cases hy : y < 0
            · have hn : rawMean t.data.toList = none := by rw [HR.out, HRL.out, if_pos (.inr hy)]; rfl
              have HM := hid (meanL_none hn)
              clear hn
              go_wp2
              exact bodyPost_ret (v := .tuple #[.string ⟨#[]⟩, .bool false]) (by simp [results, Tryz.results32, go_sem]) rfl ⟨by rw [HM.out]; rfl, HB1.out⟩
            · have hy' : 0 ≤ y := by omega
              have dy : decide (y < 0) = false := by simp; omega
              have hn := hid (show rawMean (t.data.toList.drop k) = (rawMean (t.data.toList.drop (k + 3))).map (fun r => UInt8.ofNat (x * 16 + y).toNat :: r) by rw [HRL.out, if_neg (by omega)])
              obtain ⟨m, rfl⟩ := Int.eq_ofNat_of_zero_le hx'
              obtain ⟨n, rfl⟩ := Int.eq_ofNat_of_zero_le hy'
              have hm : m < 16 := by omega
              have hn' : n < 16 := by omega
              have HRR := hid (And.intro ra rb)
              clear ra rb
              go_wp2_with fail
              rw [bits_or _ _ hm hn']
              refine (Builder_WriteByte w.heap.size w.heap.size _ _ _ HBB1.out (by have := HL.out; omega) HB1.out.size).mono ?_
              rintro e w1 ⟨rfl, hB2, hb2⟩
              have HB2 := hid (HB1.out.trans hb2)
              have HBB2 := hid hB2
              clear hB2 hb2
              go_wp2
              go_roundw
              case rel => exact ⟨k + 3, acc ++ [UInt8.ofNat (m * 16 + n)], by omega, by simp; omega, by go_num, hid (by rw [HR.out, hn.out, show ((m : Int) * 16 + n).toNat = m * 16 + n by omega]; cases rawMean (t.data.toList.drop (k + 3)) <;> simp), by rw [byteCells_or m n hm hn']; exact HBB2.out, HB2.out⟩
              case measure => simp [intOf]; omega
        · have hge : (t.size : Int) ≤ (k : Int) + 2 := by omega
          have hn : rawMean (t.data.toList.drop k) = none := by
            rw [hst.out]
            exact rawMean_short _ (by simp; omega)
          have hm := meanL_none (by rw [HR.out, hn]; rfl : rawMean t.data.toList = none)
          have HM := hid hm
          clear hm hn
          go_wp2
          exact bodyPost_ret (v := .tuple #[.string ⟨#[]⟩, .bool false]) (by simp [results, Tryz.results32, go_sem]) rfl ⟨by rw [HM.out]; rfl, HB.out⟩
      · have p3' : ((c.toNat : Int) != 92) = true := by
          simp
          intro e
          apply hp
          exact UInt8.toNat_inj.1 (by simpa using (by omega : c.toNat = 92))
        have hrw := hid (rawMean_cons c (t.data.toList.drop (k + 1)) hp)
        clear hp
        go_wp2_with fail
        refine (Builder_WriteByte w.heap.size w.heap.size _ _ _ HBB.out (by have := HL.out; omega) HB.out.size).mono ?_
        rintro e w1 ⟨rfl, hB1, hb1⟩
        have HB1 := hid (HB.out.trans hb1)
        have HBB1 := hid hB1
        clear hB1 hb1
        go_wp2
        go_roundw
        case rel => exact ⟨k + 1, acc ++ [c], by omega, by simp; omega, by go_num, hid (by rw [HR.out, hst.out, hrw.out]; cases rawMean (t.data.toList.drop (k + 1)) <;> simp), by simpa [Lib.byteCells] using HBB1.out, HB1.out⟩
        case measure => simp [intOf]; omega
    · obtain rfl : k = t.size := by omega
      have hr : rawMean t.data.toList = some acc := by
        rw [HR.out, List.drop_eq_nil_of_le (by simp)]
        simp [rawMean]
      have HM := hid hr
      clear hr
      go_wp2_with fail
      refine (Tryz.Builder_String_any_f w.heap.size w.heap.size _ _ (Lib.IsBuilderF.of HBB.out) HB.out.size).mono ?_
      rintro e w1 ⟨rfl, hB1, hb1⟩
      have HB1 := hid (HB.out.trans hb1)
      have HBB1 := hid hB1
      clear hB1 hb1
      go_wp2_with fail
      refine (text_Show _ _ (by have := hak; show acc.length ≤ _; omega)).mono ?_
      rintro e w2 ⟨rfl, hb2⟩
      by_cases he : showL acc = t.data.toList
      · have hm := hid (meanL_some HM.out he)
        have he3 : (showL acc == t.toList) = true := by rw [toList_data]; simpa using he
        have HB2 := hid (HB1.out.trans (hb2.mono HB1.out.size))
        have HBB2 := hid (IsBuilderF_below HBB1.out hb2)
        clear hb2 he
        go_wp2_with fail
        refine (Tryz.Builder_String_any_f w.heap.size w.heap.size _ _ HBB2.out HB2.out.size).mono ?_
        rintro e w3 ⟨rfl, hB3, hb3⟩
        have HB3 := hid (HB2.out.trans hb3)
        clear hB3 hb3
        go_wp2
        exact bodyPost_ret (v := .tuple #[.string ⟨acc.toArray⟩, .bool true]) (by simp [results, Tryz.results32, go_sem]) rfl ⟨by rw [hm.out]; rfl, HB3.out⟩
      · have hm := hid (meanL_not HM.out he)
        have he3 : (showL acc == t.toList) = false := by rw [toList_data]; simpa using he
        have HB2 := hid (HB1.out.trans (hb2.mono HB1.out.size))
        clear hb2 he
        go_wp2
        exact bodyPost_ret (v := .tuple #[.string ⟨#[]⟩, .bool false]) (by simp [results, Tryz.results32, go_sem]) rfl ⟨by rw [hm.out]; rfl, HB2.out⟩

end Go.Proofs.YtoiobhcgpajogabGreatDoor
