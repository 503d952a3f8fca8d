/- The walks of a table: List, Write, Clear. -/
import Derived.Test.YtoiobhcgpajogabTab3
import Derived.Test.YtoiobhcgpajogabCodec10
namespace Go.Proofs.Ytoiobhcgpajogab
open Go.RowKit

theorem clip_Pair (B : Nat) (v : Value) (l : List Ent) (w : World) (hl : l.length ≤ 1000000) (ho : w.ownsRow B 42 3 v l.length (encEnts l)) :
    Calls Try.prog 59 #[v] w fun e w' => (∃ a, e = .returned (.slice a l.length l.length) ∧ SliceAt w a (encEnts l) ∧ ∀ ad, a = some ad → B ≤ ad.block) ∧ w' = w := by
  obtain ⟨a, cap, rfl, hs, hb⟩ := ownsRow.sliceAt ho
  rcases ho.2 with ⟨h0, h1⟩ | ⟨g, cap', cur, h0, h1, h2, h3, -⟩
  · have hl0 : l = [] := List.eq_nil_of_length_eq_zero h1
    subst hl0
    obtain ⟨rfl, -, rfl⟩ := Value.slice.inj h0
    go_enter Try.func59, Try.ntmps59
    go_wp2
    go_ret
    exact ⟨⟨none, rfl, .inl rfl, by intro ad h; cases h⟩, rfl⟩
  · obtain ⟨rfl, -, rfl⟩ := Value.slice.inj h0
    have HS := hid hs
    have h3' : (l.length : Int) ≤ (cap : Int) := by omega
    generalize hL : l.length = L at *
    have HL := hid hL
    clear hL hs ho h0
    go_enter Try.func59, Try.ntmps59
    go_wp2
    go_ret
    exact ⟨⟨_, rfl, HS.out, by rintro ad ⟨⟩; exact h1⟩, rfl⟩

def ListPost (full : Bool) (x : List Ent × Int) (w : World) (e : Ending) (w' : World) : Prop :=
  ∃ a cap, e = .returned (.tuple #[.slice a x.1.length cap, .int .i64 x.2]) ∧ SliceAt w' a (encEnts x.1) ∧ Below w.heap.size w w' ∧ (full = true → cap = x.1.length)

theorem range_drop (m k : Nat) (h : k ≤ m) : (List.range (m + 1)).drop k = k :: (List.range (m + 1)).drop (k + 1) := by
  rw [List.drop_eq_getElem_cons (by simpa using by omega)]
  simp

theorem range_drop_nil (m k : Nat) (h : m < k) : (List.range (m + 1)).drop k = [] := List.drop_eq_nil_of_le (by simpa using by omega)

set_option maxHeartbeats 1000000 in
set_option maxRecDepth 100000 in
theorem table_List (g : Nat → Nat) (p t : Nat) (T : Tab) (w : World) (f u a : Int) (hT : TableAt w g p t T) :
    Calls Try.prog 23 #[.pointer (some ⟨t, 0, none⟩), .int .i64 f, .int .i64 u, .int .i64 a] w (ListPost true (listT T f u a) w) := by
  by_cases h0 : f < 0 ∨ 8 ≤ f
  · have e1 : listT T f u a = ([], 1) := by unfold listT; rw [if_pos (by omega)]
    rw [e1]
    have CK := hid (fun w => chain_Key_out f w h0)
    clear h0 e1 hT
    go_enter Try.func23, Try.ntmps23
    go_wp2_with fail
    refine (CK.out _).mono ?_
    rintro e w1 ⟨rfl, rfl⟩
    go_wp2
    go_ret2
    exact ⟨none, 0, rfl, .inl rfl, Below.refl _ _, fun _ => rfl⟩
  · obtain ⟨n, hn, rfl⟩ := key_nat h0
    have CK := hid (fun w => chain_Key_in n w ⟨by omega, by omega⟩)
    by_cases h1 : u < 0 ∨ 8 ≤ u
    · have e1 : listT T n u a = ([], 1) := by unfold listT; rw [if_pos (by omega)]
      rw [e1]
      have CK2 := hid (fun w => chain_Key_out u w h1)
      clear h0 h1 e1 hT
      go_enter Try.func23, Try.ntmps23
      go_wp2_with fail
      refine (CK.out _).mono ?_
      rintro e w1 ⟨rfl, rfl⟩
      go_wp2_with fail
      refine (CK2.out _).mono ?_
      rintro e w1 ⟨rfl, rfl⟩
      go_wp2
      go_ret2
      exact ⟨none, 0, rfl, .inl rfl, Below.refl _ _, fun _ => rfl⟩
    · obtain ⟨m, hm, rfl⟩ := key_nat h1
      have CK2 := hid (fun w => chain_Key_in m w ⟨by omega, by omega⟩)
      have e1 : listT T n m a = listGo T a ((List.range (m + 1)).drop n) [] := by unfold listT; rw [if_neg (by omega)]; rfl
      have HT := hid hT
      clear h0 h1 hT
      generalize listT T n m a = x at *
      have E1 := hid e1
      clear e1
      obtain ⟨i0, hi, hz0, hz1, hz2⟩ := info_parts Try.infoPair
      have N0 := hid (World.ownsRow_nil w w.heap.size 42 3)
      go_enter Try.func23, Try.ntmps23
      go_wp2_with fail
      refine (CK.out _).mono ?_
      rintro e w1 ⟨rfl, rfl⟩
      go_wp2_with fail
      refine (CK2.out _).mono ?_
      rintro e w1 ⟨rfl, rfl⟩
      go_wp2_with fail
      go_loopw [10, 11] (fun o i wr => ∃ (k : Nat) (out : List Ent), k ≤ 8 ∧ i = .int .i64 k ∧ wr.ownsRow w.heap.size 42 3 o out.length (encEnts out) ∧ out.length ≤ k ∧
          Hid (x = listGo T a ((List.range (m + 1)).drop k) out) ∧ Below w.heap.size w wr) (fun _ i _ => 9 - (intOf i).toNat)
      case atStart => exact ⟨n, [], by omega, rfl, N0.out, Nat.zero_le _, E1, Below.refl _ _⟩
      case round =>
        obtain ⟨k, out, hk, rfl, ho, hol, HX, hb⟩ := hrel
        clear N0 E1
        by_cases hkm : k ≤ m
        · have hkm' : (k : Int) ≤ (m : Int) := by omega
          have HR := hid (table_Read g p t T wr k a (HT.out.below hb))
          obtain ⟨ao, capo, rfl, -, -⟩ := ownsRow.sliceAt ho
          have hx := HX.out
          rw [range_drop m k hkm, listGo] at hx
          have HO := hid ho
          have HB := hid hb
          generalize hy : readT T k a = y at *
          clear hy hb ho
          obtain ⟨⟨yt, ys⟩, yc⟩ := y
          go_wp2_with fail
          (with_reducible refine HR.out.mono ?_)
          rintro e w1 ⟨rfl, hb⟩
          have HB1 := hid (HB.out.trans (hb.mono HB.out.size))
          have HO1 := hid ((show w1.ownsRow w.heap.size 42 3 (.slice ao out.length capo) out.length (encEnts out) from ownsRow.lift HO.out (fun r hr => hb.block r (HO.out.lt r hr).2)).alloc (.cells #[.bool yt, .string ys] 32))
          clear hb HO HB HR HX
          by_cases hc : yc = 0
          · subst hc
            rw [if_neg (by simp)] at hx
            cases yt with
            | false =>
              have HX := hid hx
              clear hx
              go_wp2
              go_roundw
              case rel => exact ⟨k + 1, out, by omega, by go_num, HO1.out, by omega, HX, HB1.out.alloc HB1.out.size _⟩
              case measure => simp [intOf]; omega
            | true =>
              have HX := hid hx
              clear hx
              have q1 : out.length + 1 ≤ maxLen := by unfold maxLen; omega
              have q2 : (out.length + 1) * 32 ≤ 140737488355328 := by omega
              generalize hye : (⟨k, ⟨true, ys⟩⟩ : Ent) = ye at *
              have hye2 : encEnt ye = [.int .i64 k, .bool true, .string ys] := by subst hye; rfl
              have HYE := hid hye2
              clear hye hye2
              have hwz := HB1.out.size
              go_wp2_with (refine wpList_append_own _ rfl (.tmp 40) (.tmp 44) 23 rfl w.heap.size 42 i0 (.agg #[.int .i64 0, .bool false, .string ByteArray.empty]) 3 32 Try.underlying23 hi hz0 hz1 hz2 rfl (by decide) (.slice ao out.length capo) out.length (encEnts out) rfl (HO1.out.alloc _) ⟨w1.heap.size + 1, 0, none⟩ 1 1 (encEnt ye) rfl (by rw [HYE.out]; rfl) ?c1 (encEnt_one _) q1 q2 ?c5 ?_)
              case c1 => rw [HYE.out]; have := cells_new (w1.alloc (.cells #[.bool true, .string ys] 32)) [.int .i64 k, .bool true, .string ys] 42; rw [World.size_alloc] at this; exact this
              case c5 => simp; omega
              intro v' w2 hown' hgrow _
              have HB2 := hid (((HB1.out.alloc HB1.out.size (.cells #[.bool true, .string ys] 32)).alloc (by simp; omega) (.cells #[.int .i64 k, .bool true, .string ys] 42)).grown hgrow (by simp; omega) (fun j hj => (HO1.out.lt j hj).1))
              have HO2 := hid (show w2.ownsRow w.heap.size 42 3 v' (out ++ [ye]).length (encEnts (out ++ [ye])) by rw [encEnts_append, List.length_append]; simpa [encEnts] using hown')
              clear hown' hgrow
              go_wp2
              go_roundw
              case rel => exact ⟨k + 1, out ++ [ye], by omega, by go_num, HO2.out, by simp; omega, HX, HB2.out⟩
              case measure => simp [intOf]; omega
          · rw [if_pos (by simpa using hc)] at hx
            have HX := hid hx
            have hc' : (yc != 0) = true := by simpa using hc
            clear hx hc
            go_wp2
            go_ret2
            rw [HX.out]
            exact ⟨none, 0, rfl, .inl rfl, HB1.out.alloc HB1.out.size _, fun _ => rfl⟩
        · have hkm' : (m : Int) < (k : Int) := by omega
          have hx := HX.out
          rw [range_drop_nil m k (by omega)] at hx
          have hx' : x = (out, 0) := hx
          have HX' := hid hx'
          have HC := hid (clip_Pair w.heap.size _ out wr (by omega) ho)
          have HB := hid hb
          obtain ⟨ao, capo, rfl, -, -⟩ := ownsRow.sliceAt ho
          clear hx hx' HX hb ho
          go_wp2_with fail
          (with_reducible refine HC.out.mono ?_)
          rintro e w1 ⟨⟨a', rfl, hs, -⟩, rfl⟩
          have HS := hid hs
          clear hs
          go_wp2
          go_ret2
          rw [HX'.out]
          exact ⟨_, _, rfl, HS.out, HB.out, fun _ => rfl⟩

end Go.Proofs.Ytoiobhcgpajogab
