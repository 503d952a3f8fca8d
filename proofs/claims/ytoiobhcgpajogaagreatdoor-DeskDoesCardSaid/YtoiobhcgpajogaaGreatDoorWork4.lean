/- The walks of List: of a deed, and of the document's. -/
import Derived.Test.YtoiobhcgpajogaaGreatDoorWork1
namespace Go.Proofs.YtoiobhcgpajogaaGreatDoor
open Go.RowKit

theorem Evo.beyond {lo hi : Nat} {g0 g : Nat → Nat} {w w1 w2 : World} {row : Option Nat} (h : Evo lo hi g0 g w w1) (hg : w1.grownBy w2 row) (hr : ∀ r, row = some r → w.heap.size ≤ r) (q : Nat) : Evo lo hi g0 (extc g w1 q) w w2 :=
  ⟨hg.os.trans h.os, hg.tape.trans h.tape, hg.output.trans h.output, Nat.le_trans h.size hg.size, fun k hk => (extc_old (Nat.lt_of_lt_of_le hk h.size)).trans (h.col k hk),
    fun k hk hn => (hg.block k (Nat.lt_of_lt_of_le hk h.size) (by rintro rfl; have := hr k rfl; omega)).trans (h.same k hk hn)⟩

def DListPost (g : Nat → Nat) (p d : Nat) (x : (List Ent × Int) × Ded) (w : World) (e : Ending) (w' : World) : Prop :=
  ∃ a cap g', e = .returned (.tuple #[.slice a x.1.1.length cap, .int .i64 x.1.2]) ∧ DeedAt w' g' p d x.2 ∧ Evo p (p + 1) g g' w w' ∧ SliceAt w' a (encEnts x.1.1) ∧ (∀ ad, a = some ad → w.heap.size ≤ ad.block ∧ ad.block < w'.heap.size)

theorem DListPost.same {g : Nat → Nat} {p d c : Nat} {D : Ded} {w w' : World} (h : DeedAt w g p d D) (hb : Below w.heap.size w w') : DListPost g p d (([], (c : Int)), D) w (.returned (.tuple #[.slice none 0 0, .int .i64 (c : Int)])) w' :=
  ⟨none, 0, extc g w p, rfl, (h.frame (Evo.of_below (lo := 0) (hi := 0) g p hb) (by omega)), Evo.of_below g p hb, .inl rfl, nofun⟩

set_option maxHeartbeats 4000000 in
set_option maxRecDepth 100000 in
theorem deed_List (g0 : Nat → Nat) (p d : Nat) (D : Ded) (q t : Nat) (T : Tab) (w : World) (f u : Int) (hq : q + 9 ≤ p ∨ p + 1 ≤ q) (hD : DeedAt w g0 p d D) (hT : TableAt w g0 q t T) :
    Calls Tryz.prog 142 #[.pointer (some ⟨d, 0, none⟩), .pointer (some ⟨t, 0, none⟩), .int .i64 f, .int .i64 u] w (DListPost g0 p d (listD D T f u) w) := by
  by_cases h0 : f < 0 ∨ 8 ≤ f
  · have e1 : listD D T f u = (([], 1), D) := by unfold listD; rw [if_pos (by omega)]
    rw [e1]
    have CK := hid (fun w => chain_Key_out f w h0)
    clear h0 e1 hT
    go_enter Tryz.func142, Tryz.ntmps142
    go_wp2_with fail
    refine (CK.out _).mono ?_
    rintro e w1 ⟨rfl, rfl⟩
    go_wp2
    go_ret2
    exact DListPost.same (c := 1) hD (Below.refl _ _)
  · obtain ⟨n, hn, rfl⟩ := key_nat h0
    have CK := hid (fun w => chain_Key_in n w ⟨by omega, by omega⟩)
    by_cases h1 : u < 0 ∨ 8 ≤ u
    · have e1 : listD D T n u = (([], 1), D) := by unfold listD; rw [if_pos (by omega)]
      rw [e1]
      have CK2 := hid (fun w => chain_Key_out u w h1)
      clear h0 h1 e1 hT
      go_enter Tryz.func142, Tryz.ntmps142
      go_wp2_with fail
      refine (CK.out _).mono ?_
      rintro e w1 ⟨rfl, rfl⟩
      go_wp2_with fail
      refine (CK2.out _).mono ?_
      rintro e w1 ⟨rfl, rfl⟩
      go_wp2
      go_ret2
      exact DListPost.same (c := 1) hD (Below.refl _ _)
    · obtain ⟨m, hm, rfl⟩ := key_nat h1
      have CK2 := hid (fun w => chain_Key_in m w ⟨by omega, by omega⟩)
      have e1 : listD D T n m = listDGo T ((List.range (m + 1)).drop n) D [] := by unfold listD; rw [if_neg (by omega)]; rfl
      have HT := hid hT
      have HD := hid hD
      clear h0 h1 hT hD
      generalize listD D T n m = x at *
      have E1 := hid e1
      clear e1
      obtain ⟨i0, hi, hz0, hz1, hz2⟩ := info_parts Tryz.infoPair
      have N0 : Hid (RowC w g0 (p + 1) 106 3 (.slice none 0 0) 0 (encEnts [])) := hid ⟨World.ownsRow_nil w 0 106 3, nofun⟩
      go_enter Tryz.func142, Tryz.ntmps142
      go_wp2_with fail
      refine (CK.out _).mono ?_
      rintro e w1 ⟨rfl, rfl⟩
      go_wp2_with fail
      refine (CK2.out _).mono ?_
      rintro e w1 ⟨rfl, rfl⟩
      go_wp2_with fail
      go_loopw [10, 11] (fun o i wr => ∃ (k : Nat) (out : List Ent) (Dk : Ded) (g : Nat → Nat), k ≤ 8 ∧ i = .int .i64 k ∧ out.length ≤ k ∧ Hid (RowC wr g (p + 1) 106 3 o out.length (encEnts out)) ∧ Hid (∀ r, o.ownBlock = some r → w.heap.size ≤ r) ∧
          Hid (x = listDGo T ((List.range (m + 1)).drop k) Dk out) ∧ Hid (DeedAt wr g p d Dk) ∧ Hid (Evo p (p + 1) g0 g w wr)) (fun _ i _ => 9 - (intOf i).toNat)
      case atStart => exact ⟨n, [], D, g0, by omega, rfl, Nat.zero_le _, N0, hid nofun, E1, HD, hid (Evo.refl _ _ _ _)⟩
      case round =>
        obtain ⟨k, out, Dk, g, hk, rfl, hol, HR, HN, HX, HDk, HE⟩ := hrel
        clear N0 E1
        by_cases hkm : k ≤ m
        · have hkm' : (k : Int) ≤ (m : Int) := by omega
          have HG := hid (deed_Get g p d Dk g q t T k wr HDk.out (HT.out.frame HE.out (by omega)))
          obtain ⟨ao, capo, rfl, -, -⟩ := ownsRow.sliceAt HR.out.1
          have hx := HX.out
          rw [range_drop m k hkm, listDGo] at hx
          generalize hy : getD Dk T k = y at *
          clear hy HX
          obtain ⟨⟨⟨yt, ys⟩, yc⟩, Dy⟩ := y
          go_wp2_with fail
          (with_reducible refine HG.out.mono ?_)
          rintro e w1 ⟨rfl, g1, hD1, hE1⟩
          have HR1 := hid (HR.out.frame hE1 (by omega))
          have HD1 := hid hD1
          have HE1 := hid (HE.out.trans hE1)
          clear HG HR HE HDk hD1 hE1
          go_upto_region 8 with (fail)
          have EA := Evo.alloc g1 p w1 (.cells #[.bool yt, .string ys] 99)
          have HR2 := hid (HR1.out.frame EA (by omega))
          have HD2 := hid (HD1.out.frame EA (by omega))
          have HE2 := hid (HE1.out.trans (EA.none (Nat.le_refl _)))
          have L2 := hid (Loc.new w1 99 [.bool yt, .string ys])
          generalize extc g1 w1 p = g2 at *
          generalize w1.alloc (.cells #[.bool yt, .string ys] 99) = w2 at *
          generalize w1.heap.size = m1 at *
          obtain ⟨l1, l2, l3, l4⟩ := L2.out.two
          clear EA HR1 HD1 HE1
          by_cases hc : yc = 0
          · subst hc
            rw [if_neg (by simp)] at hx
            cases yt with
            | false =>
              have HX := hid hx
              clear hx
              go_wp2
              go_roundw
              case rel => exact ⟨k + 1, out, Dy, g2, by omega, by go_num, by omega, HR2, HN, HX, HD2, HE2⟩
              case measure => simp [intOf]; omega
            | true =>
              have HX := hid hx
              clear hx
              have q1 : out.length + 1 ≤ maxLen := by unfold maxLen; omega
              have q2 : (out.length + 1) * 32 ≤ 140737488355328 := by omega
              generalize hye : (⟨k, ⟨true, ys⟩⟩ : Ent) = ye at *
              have hye2 : encEnt ye = [.int .i64 k, .bool true, .string ys] := by subst hye; rfl
              have HYE := hid hye2
              clear hye hye2
              have EA := Evo.alloc g2 p w2 (.cells #[.int .i64 k, .bool true, .string ys] 106)
              have HR3 := hid (HR2.out.frame EA (by omega))
              have HD3 := hid (HD2.out.frame EA (by omega))
              have HE3 := hid (HE2.out.trans (EA.none (Nat.le_refl _)))
              clear EA HR2 HD2 HE2
              go_wp2_with (refine wpList_append2 rfl (.tmp 40) (.tmp 44) 100 rfl 106 i0 (.agg #[.int .i64 0, .bool false, .string ByteArray.empty]) 3 32 Tryz.underlying100 hi hz0 hz1 hz2 rfl (by decide) (.slice ao out.length capo) out.length (encEnts out) rfl HR3.out.1 ⟨w2.heap.size, 0, none⟩ 1 1 (encEnt ye) rfl (by rw [HYE.out]; rfl) (by rw [HYE.out]; exact cells_new w2 [.int .i64 k, .bool true, .string ys] 106) (encEnt_one _) q1 q2 ?_)
              intro v4 w4 ho hg hf
              have hf' : v4.ownBlock = (Value.slice ao out.length capo).ownBlock ∨ ∀ k_1, v4.ownBlock = some k_1 → (w2.alloc (.cells #[.int .i64 k, .bool true, .string ys] 106)).heap.size ≤ k_1 := by rw [World.size_alloc]; exact hf
              obtain ⟨hR4, hE4⟩ := HR3.out.grown ho hg hf'
              have HR4 := hid (show RowC w4 _ (p + 1) 106 3 v4 (out ++ [ye]).length (encEnts (out ++ [ye])) by rw [encEnts_append, List.length_append]; simpa [encEnts] using hR4)
              have HD4 := hid (HD3.out.frame hE4 (by omega))
              have HN4 := hid (show ∀ r, v4.ownBlock = some r → w.heap.size ≤ r by
                intro r hr
                rcases hf' with h | h
                · exact HN.out r (by rw [← h]; exact hr)
                · exact Nat.le_trans HE3.out.size (h r hr))
              have HE4 := hid (HE3.out.beyond hg (fun r hr => HN.out r hr) (p + 1))
              generalize extc (extc g2 w2 p) (w2.alloc (.cells #[.int .i64 k, .bool true, .string ys] 106)) (p + 1) = g4 at *
              clear ho hg hf hf' hR4 hE4 HR3 HD3 HE3 HN l1 l2 l3 l4
              go_wp2
              go_roundw
              case rel => exact ⟨k + 1, out ++ [ye], Dy, g4, by omega, by go_num, by simp; omega, HR4, HN4, HX, HD4, HE4⟩
              case measure => simp [intOf]; omega
          · rw [if_pos (by simpa using hc)] at hx
            have HX := hid hx
            have hc' : (yc != 0) = true := by simpa using hc
            clear hx hc
            go_wp2
            go_ret2
            rw [HX.out]
            exact ⟨none, 0, g2, rfl, HD2.out, HE2.out, .inl rfl, nofun⟩
        · have hkm' : (m : Int) < (k : Int) := by omega
          have hx := HX.out
          rw [range_drop_nil m k (by omega)] at hx
          have hx' : x = ((out, 0), Dk) := hx
          have HX' := hid hx'
          obtain ⟨ao, capo, rfl, hs, hob⟩ := ownsRow.sliceAt HR.out.1
          have HZ := hid (fun (r : Nat) (hr : (Value.slice ao out.length capo).ownBlock = some r) => HR.out.1.lt r hr)
          have HS := hid hs
          have HOB := hid hob
          clear hx hx' HX hs hob
          go_wp2
          go_ret2
          rw [HX'.out]
          exact ⟨ao, capo, g, rfl, HDk.out, HE.out, HS.out, fun ad e => ⟨HN.out _ (HOB.out ad e), (HZ.out _ (HOB.out ad e)).2⟩⟩

def WListPost (g : Nat → Nat) (p d N ql : Nat) (x : (List Ent × Int) × Ded) (w : World) (e : Ending) (w' : World) : Prop :=
  ∃ a cap g', e = .returned (.tuple #[.slice a x.1.1.length cap, .int .i64 x.1.2]) ∧ WorkAt w' g' p d x.2 (N + 8) ∧ Evo p (p + 3) g g' w w' ∧ SliceAt w' a (encEnts x.1.1) ∧ (∀ ad, a = some ad → w.heap.size ≤ ad.block ∧ ad.block < w'.heap.size) ∧ ∀ ad, a = some ad → g' ad.block = ql

theorem WListPost.same {g : Nat → Nat} {p d N c ql : Nat} {D : Ded} {w w' : World} (h : WorkAt w g p d D N) (hb : Below w.heap.size w w') : WListPost g p d N ql (([], (c : Int)), D) w (.returned (.tuple #[.slice none 0 0, .int .i64 (c : Int)])) w' :=
  ⟨none, 0, extc g w p, rfl, WorkAt.more (h.frame (Evo.of_below (lo := 0) (hi := 0) g p hb) (by omega)) (by omega), Evo.of_below g p hb, .inl rfl, nofun, nofun⟩

set_option maxHeartbeats 4000000 in
set_option maxRecDepth 100000 in
theorem work_List (g0 : Nat → Nat) (p d : Nat) (D : Ded) (N : Nat) (q t : Nat) (T : Tab) (w : World) (f u : Int) (ql : Nat) (hql : p + 3 ≤ ql) (hN : N + 8 < 1000000) (hq : q + 2 ≤ p ∨ p + 3 ≤ q) (hD : WorkAt w g0 p d D N) (hT : SheetAt w g0 q t T) :
    Calls Tryz.prog 77 #[.pointer (some ⟨d, 0, none⟩), .pointer (some ⟨t, 0, none⟩), .int .i64 f, .int .i64 u] w (WListPost g0 p d N ql (listD D T f u) w) := by
  by_cases h0 : f < 0 ∨ 8 ≤ f
  · have e1 : listD D T f u = (([], 1), D) := by unfold listD; rw [if_pos (by omega)]
    rw [e1]
    have CK := hid (fun w => ref_IsKey_out f w h0)
    clear h0 e1 hT
    go_enter Tryz.func77, Tryz.ntmps77
    go_wp2_with fail
    refine (CK.out _).mono ?_
    rintro e w1 ⟨rfl, rfl⟩
    go_wp2
    go_ret2
    exact WListPost.same (c := 1) hD (Below.refl _ _)
  · obtain ⟨n, hn, rfl⟩ := key_nat h0
    have CK := hid (fun w => ref_IsKey_in n w ⟨by omega, by omega⟩)
    by_cases h1 : u < 0 ∨ 8 ≤ u
    · have e1 : listD D T n u = (([], 1), D) := by unfold listD; rw [if_pos (by omega)]
      rw [e1]
      have CK2 := hid (fun w => ref_IsKey_out u w h1)
      clear h0 h1 e1 hT
      go_enter Tryz.func77, Tryz.ntmps77
      go_wp2_with fail
      refine (CK.out _).mono ?_
      rintro e w1 ⟨rfl, rfl⟩
      go_wp2_with fail
      refine (CK2.out _).mono ?_
      rintro e w1 ⟨rfl, rfl⟩
      go_wp2
      go_ret2
      exact WListPost.same (c := 1) hD (Below.refl _ _)
    · obtain ⟨m, hm, rfl⟩ := key_nat h1
      have CK2 := hid (fun w => ref_IsKey_in m w ⟨by omega, by omega⟩)
      have e1 : listD D T n m = listDGo T ((List.range (m + 1)).drop n) D [] := by unfold listD; rw [if_neg (by omega)]; rfl
      have HT := hid hT
      have HD := hid hD
      clear h0 h1 hT hD
      generalize listD D T n m = x at *
      have E1 := hid e1
      clear e1
      obtain ⟨i0, hi, hz0, hz1, hz2⟩ := info_parts Tryz.infoPair
      have N0 : Hid (RowC w g0 ql 106 3 (.slice none 0 0) 0 (encEnts [])) := hid ⟨World.ownsRow_nil w 0 106 3, nofun⟩
      go_enter Tryz.func77, Tryz.ntmps77
      go_wp2_with fail
      refine (CK.out _).mono ?_
      rintro e w1 ⟨rfl, rfl⟩
      go_wp2_with fail
      refine (CK2.out _).mono ?_
      rintro e w1 ⟨rfl, rfl⟩
      go_wp2_with fail
      go_loopw [10, 11] (fun o i wr => ∃ (k : Nat) (out : List Ent) (Dk : Ded) (g : Nat → Nat), k ≤ 8 ∧ i = .int .i64 k ∧ out.length ≤ k ∧ Hid (RowC wr g ql 106 3 o out.length (encEnts out)) ∧ Hid (∀ r, o.ownBlock = some r → w.heap.size ≤ r) ∧
          Hid (x = listDGo T ((List.range (m + 1)).drop k) Dk out) ∧ Hid (WorkAt wr g p d Dk (N + k)) ∧ Hid (Evo p (p + 3) g0 g w wr)) (fun _ i _ => 9 - (intOf i).toNat)
      case atStart => exact ⟨n, [], D, g0, by omega, rfl, Nat.zero_le _, N0, hid nofun, E1, hid (HD.out.more (by omega)), hid (Evo.refl _ _ _ _)⟩
      case round =>
        obtain ⟨k, out, Dk, g, hk, rfl, hol, HR, HN, HX, HDk, HE⟩ := hrel
        clear N0 E1
        by_cases hkm : k ≤ m
        · have hkm' : (k : Int) ≤ (m : Int) := by omega
          have HG := hid (work_Get g p d Dk (N + k) g q t T k wr (by omega) HDk.out (HT.out.frame HE.out (by omega)))
          obtain ⟨ao, capo, rfl, -, -⟩ := ownsRow.sliceAt HR.out.1
          have hx := HX.out
          rw [range_drop m k hkm, listDGo] at hx
          generalize hy : getD Dk T k = y at *
          clear hy HX
          obtain ⟨⟨⟨yt, ys⟩, yc⟩, Dy⟩ := y
          go_wp2_with fail
          (with_reducible refine HG.out.mono ?_)
          rintro e w1 ⟨rfl, g1, hD1, hE1⟩
          have HR1 := hid (HR.out.frame hE1 (by omega))
          have HD1 := hid hD1
          have HE1 := hid (HE.out.trans hE1)
          clear HG HR HE HDk hD1 hE1
          go_upto_region 8 with (fail)
          have EA := Evo.alloc g1 p w1 (.cells #[.bool yt, .string ys] 99)
          have HR2 := hid (HR1.out.frame EA (by omega))
          have HD2 := hid (HD1.out.frame EA (by omega))
          have HE2 := hid (HE1.out.trans (EA.none (Nat.le_refl _)))
          have L2 := hid (Loc.new w1 99 [.bool yt, .string ys])
          generalize extc g1 w1 p = g2 at *
          generalize w1.alloc (.cells #[.bool yt, .string ys] 99) = w2 at *
          generalize w1.heap.size = m1 at *
          obtain ⟨l1, l2, l3, l4⟩ := L2.out.two
          clear EA HR1 HD1 HE1
          by_cases hc : yc = 0
          · subst hc
            rw [if_neg (by simp)] at hx
            cases yt with
            | false =>
              have HX := hid hx
              clear hx
              go_wp2
              go_roundw
              case rel => exact ⟨k + 1, out, Dy, g2, by omega, by go_num, by omega, HR2, HN, HX, hid HD2.out, HE2⟩
              case measure => simp [intOf]; omega
            | true =>
              have HX := hid hx
              clear hx
              have q1 : out.length + 1 ≤ maxLen := by unfold maxLen; omega
              have q2 : (out.length + 1) * 32 ≤ 140737488355328 := by omega
              generalize hye : (⟨k, ⟨true, ys⟩⟩ : Ent) = ye at *
              have hye2 : encEnt ye = [.int .i64 k, .bool true, .string ys] := by subst hye; rfl
              have HYE := hid hye2
              clear hye hye2
              have EA := Evo.alloc g2 p w2 (.cells #[.int .i64 k, .bool true, .string ys] 106)
              have HR3 := hid (HR2.out.frame EA (by omega))
              have HD3 := hid (HD2.out.frame EA (by omega))
              have HE3 := hid (HE2.out.trans (EA.none (Nat.le_refl _)))
              clear EA HR2 HD2 HE2
              go_wp2_with (refine wpList_append2 rfl (.tmp 40) (.tmp 44) 100 rfl 106 i0 (.agg #[.int .i64 0, .bool false, .string ByteArray.empty]) 3 32 Tryz.underlying100 hi hz0 hz1 hz2 rfl (by decide) (.slice ao out.length capo) out.length (encEnts out) rfl HR3.out.1 ⟨w2.heap.size, 0, none⟩ 1 1 (encEnt ye) rfl (by rw [HYE.out]; rfl) (by rw [HYE.out]; exact cells_new w2 [.int .i64 k, .bool true, .string ys] 106) (encEnt_one _) q1 q2 ?_)
              intro v4 w4 ho hg hf
              have hf' : v4.ownBlock = (Value.slice ao out.length capo).ownBlock ∨ ∀ k_1, v4.ownBlock = some k_1 → (w2.alloc (.cells #[.int .i64 k, .bool true, .string ys] 106)).heap.size ≤ k_1 := by rw [World.size_alloc]; exact hf
              obtain ⟨hR4, hE4⟩ := HR3.out.grown ho hg hf'
              have HR4 := hid (show RowC w4 _ ql 106 3 v4 (out ++ [ye]).length (encEnts (out ++ [ye])) by rw [encEnts_append, List.length_append]; simpa [encEnts] using hR4)
              have HD4 := hid (HD3.out.frame hE4 (by omega))
              have HN4 := hid (show ∀ r, v4.ownBlock = some r → w.heap.size ≤ r by
                intro r hr
                rcases hf' with h | h
                · exact HN.out r (by rw [← h]; exact hr)
                · exact Nat.le_trans HE3.out.size (h r hr))
              have HE4 := hid (HE3.out.beyond hg (fun r hr => HN.out r hr) ql)
              generalize extc (extc g2 w2 p) (w2.alloc (.cells #[.int .i64 k, .bool true, .string ys] 106)) ql = g4 at *
              clear ho hg hf hf' hR4 hE4 HR3 HD3 HE3 HN l1 l2 l3 l4
              go_wp2
              go_roundw
              case rel => exact ⟨k + 1, out ++ [ye], Dy, g4, by omega, by go_num, by simp; omega, HR4, HN4, HX, hid HD4.out, HE4⟩
              case measure => simp [intOf]; omega
          · rw [if_pos (by simpa using hc)] at hx
            have HX := hid hx
            have hc' : (yc != 0) = true := by simpa using hc
            clear hx hc
            go_wp2
            go_ret2
            rw [HX.out]
            exact ⟨none, 0, g2, rfl, HD2.out.more (by omega), HE2.out, .inl rfl, nofun, nofun⟩
        · have hkm' : (m : Int) < (k : Int) := by omega
          have hx := HX.out
          rw [range_drop_nil m k (by omega)] at hx
          have hx' : x = ((out, 0), Dk) := hx
          have HX' := hid hx'
          obtain ⟨ao, capo, rfl, hs, hob⟩ := ownsRow.sliceAt HR.out.1
          have HZ := hid (fun (r : Nat) (hr : (Value.slice ao out.length capo).ownBlock = some r) => HR.out.1.lt r hr)
          have HQL := hid HR.out.2
          have HS := hid hs
          have HOB := hid hob
          clear hx hx' HX hs hob
          go_wp2
          go_ret2
          rw [HX'.out]
          exact ⟨ao, capo, g, rfl, HDk.out.more (by omega), HE.out, HS.out, fun ad e => ⟨HN.out _ (HOB.out ad e), (HZ.out _ (HOB.out ad e)).2⟩, fun ad e => HQL.out _ (HOB.out ad e)⟩

end Go.Proofs.YtoiobhcgpajogaaGreatDoor
