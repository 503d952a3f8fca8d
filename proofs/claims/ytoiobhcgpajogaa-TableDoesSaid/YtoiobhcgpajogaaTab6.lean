/- The walks of the document's sheet that only read: Read, Since, First, List. -/
import Derived.Test.YtoiobhcgpajogaaTab5
import Derived.Test.YtoiobhcgpajogaaLine3
namespace Go.Proofs.Ytoiobhcgpajogaa
open Go.RowKit

/-- A sheet, and its lines. -/
def SheetC (w : World) (g : Nat → Nat) (p s : Nat) (T : Tab) (v : Nat → Value) : Prop :=
  T.Ok ∧ LocC w g p s 82 ((List.range 8).map v ++ [.int .i64 T.last]) ∧ ∀ k, k < 8 → LineAt w g (p + 1) (v k) (T.l k)

theorem SheetAt.c {w : World} {g : Nat → Nat} {p s : Nat} {T : Tab} (h : SheetAt w g p s T) : ∃ v, SheetC w g p s T v := by
  obtain ⟨h0, v, h1, h2⟩ := h
  exact ⟨v, h0, h1, h2⟩

theorem SheetC.at {w : World} {g : Nat → Nat} {p s : Nat} {T : Tab} {v : Nat → Value} (h : SheetC w g p s T v) : SheetAt w g p s T := ⟨h.1, v, h.2.1, h.2.2⟩

theorem SheetC.frame {lo hi : Nat} {g g' : Nat → Nat} {w w' : World} {p s : Nat} {T : Tab} {v : Nat → Value} (h : SheetC w g p s T v) (k : Evo lo hi g g' w w') (hc : p + 2 ≤ lo ∨ hi ≤ p) : SheetC w' g' p s T v :=
  ⟨h.1, h.2.1.frame k (by omega), fun j hj => (h.2.2 j hj).frame k (by omega)⟩

theorem SheetC.fresh {g g' : Nat → Nat} {w w' : World} {p s : Nat} {T : Tab} {v : Nat → Value} (h : SheetC w g p s T v) (k : Evo 0 0 g g' w w') : SheetC w' g' p s T v := h.frame k (by omega)

theorem SheetC.cells {w : World} {g : Nat → Nat} {p s : Nat} {T : Tab} {v : Nat → Value} (h : SheetC w g p s T v) {k : Nat} (hk : k < 8) :
    w.cell? ⟨s, k, none⟩ = some (v k) ∧ w.cell? ⟨s, 8, none⟩ = some (.int .i64 T.last) ∧ LineAt w g (p + 1) (v k) (T.l k) ∧ s < w.heap.size ∧ w.frozen? ⟨s, k, none⟩ = false :=
  ⟨(h.2.1.1.cell k).trans (get8 _ _ k hk), (h.2.1.1.cell 8).trans (get8_last _ _), h.2.2 k hk, h.2.1.1.lt, h.2.1.1.free k⟩

set_option maxHeartbeats 1000000 in
set_option maxRecDepth 100000 in
theorem sheet_Read (g : Nat → Nat) (p s : Nat) (T : Tab) (w : World) (k a : Int) (hS : SheetAt w g p s T) :
    Calls Try.prog 51 #[.pointer (some ⟨s, 0, none⟩), .int .i64 k, .int .i64 a] w (ReadPost (readT T k a) w) := by
  have hlong := hS.1.long
  have hsort := hid (fun k => (hS.1.1 k).1)
  obtain ⟨v, hC⟩ := hS.c
  obtain ⟨-, h8, -, ht, -⟩ := hC.cells (k := 0) (by omega)
  by_cases h0 : k < 0 ∨ 8 ≤ k
  · have e1 : readT T k a = (Val.zero, 1) := by unfold readT; rw [if_pos (by omega)]
    rw [e1]
    have CK := hid (fun w => ref_IsKey_out k w h0)
    clear hC hlong h0 hS
    go_enter Try.func51, Try.ntmps51
    go_wp2_with fail
    refine (CK.out _).mono ?_
    rintro e w1 ⟨rfl, rfl⟩
    go_wp2
    refine bodyPost_ret (v := .tuple #[.agg #[.bool false, .string ByteArray.empty], .int .i64 1]) (by simp [results, Try.results51, go_sem]; rfl) rfl ⟨rfl, ?_⟩
    exact (Below.refl _ _).alloc (Nat.le_refl _) _
  · obtain ⟨n, hn, rfl⟩ := key_nat h0
    have CK := hid (fun w => ref_IsKey_in n w ⟨by omega, by omega⟩)
    obtain ⟨hcn, -, hL, -⟩ := hC.cells hn
    by_cases h1 : (T.last : Int) < a
    · have e1 : readT T n a = (Val.zero, 1) := by unfold readT; rw [if_pos (by omega)]
      rw [e1]
      clear hC hlong h0 hS hL
      go_enter Try.func51, Try.ntmps51
      go_wp2_with fail
      refine (CK.out _).mono ?_
      rintro e w1 ⟨rfl, rfl⟩
      go_wp2
      refine bodyPost_ret (v := .tuple #[.agg #[.bool false, .string ByteArray.empty], .int .i64 1]) (by simp [results, Try.results51, go_sem]; rfl) rfl ⟨rfl, ?_⟩
      exact (Below.refl _ _).alloc (Nat.le_refl _) _
    · have e1 : readT T n a = readR (T.l n) a := by unfold readT; rw [if_neg (by omega), read_same (hsort.out n)]; rfl
      rw [e1]
      have h1' : a ≤ (T.last : Int) := by omega
      have hl := hlong n
      clear hC hlong h0 e1 hS
      generalize hy : readR (T.l n) a = y at *
      have HY := hid hy
      clear hy
      have HL := hid hL
      clear hL
      go_enter Try.func51, Try.ntmps51
      go_wp2_with fail
      refine (CK.out _).mono ?_
      rintro e w1 ⟨rfl, rfl⟩
      go_wp2_with fail
      refine (line_Read g _ _ _ _ a hl (HL.out.alloc _)).mono ?_
      rintro e w2 ⟨rfl, hb⟩
      rw [HY.out]
      have L := (Loc.new w 24 [.bool false, .string ⟨#[]⟩]).keep hb
      have HB := hid hb
      obtain ⟨q1, q2, q3, q4⟩ := L.two
      clear hb
      go_wp2
      refine bodyPost_ret (v := .tuple #[.agg #[.bool y.1.there, .string y.1.bytes], .int .i64 y.2]) (by simp [results, Try.results51, go_sem, q1, q2]) rfl ⟨rfl, ?_⟩
      exact ((((Below.refl _ _).alloc (Nat.le_refl _) _).trans (HB.out.mono (by simp))).setCell (by simp) _).setCell (by simp) _

theorem sheet_Since (g : Nat → Nat) (p s : Nat) (T : Tab) (w : World) (k : Int) (hS : SheetAt w g p s T) :
    Calls Try.prog 57 #[.pointer (some ⟨s, 0, none⟩), .int .i64 k] w (ValPost (sinceT T k) w) := by
  have hlong := hS.1.long
  obtain ⟨v, hC⟩ := hS.c
  obtain ⟨-, h8, -, ht, -⟩ := hC.cells (k := 0) (by omega)
  by_cases h0 : k < 0 ∨ 8 ≤ k
  · have e1 : sinceT T k = -1 := by unfold sinceT; rw [if_pos (by omega)]
    rw [e1]
    have CK := hid (fun w => ref_IsKey_out k w h0)
    clear hC hlong h0 hS
    go_enter Try.func57, Try.ntmps57
    go_wp2_with fail
    refine (CK.out _).mono ?_
    rintro e w1 ⟨rfl, rfl⟩
    go_wp2
    go_ret
    exact ⟨rfl, Below.refl _ _⟩
  · obtain ⟨n, hn, rfl⟩ := key_nat h0
    have CK := hid (fun w => ref_IsKey_in n w ⟨by omega, by omega⟩)
    obtain ⟨hcn, -, hL, -⟩ := hC.cells hn
    have e1 : sinceT T n = lastN (T.l n) := by unfold sinceT; rw [if_neg (by omega)]; rfl
    rw [e1]
    have hl := hlong n
    have HL := hid hL
    clear hC hlong h0 e1 hS hL
    go_enter Try.func57, Try.ntmps57
    go_wp2_with fail
    refine (CK.out _).mono ?_
    rintro e w1 ⟨rfl, rfl⟩
    go_wp2_with fail
    refine (line_Last g _ _ _ _ hl HL.out).mono ?_
    rintro e w2 ⟨rfl, rfl⟩
    go_wp2
    go_ret
    exact ⟨rfl, Below.refl _ _⟩

set_option maxHeartbeats 1000000 in
theorem sheet_First (g : Nat → Nat) (p s : Nat) (T : Tab) (w : World) (hS : SheetAt w g p s T) :
    Calls Try.prog 59 #[.pointer (some ⟨s, 0, none⟩)] w (ValPost (firstT T) w) := by
  obtain ⟨v, hC⟩ := hS.c
  obtain ⟨-, -, -, ht, -⟩ := hC.cells (k := 0) (by omega)
  have HC := hid hC
  clear hC hS
  have E : ∀ x, firstT T = x → ValPost (firstT T) w (.returned (.int .i64 x)) w := fun x hx => ⟨by rw [hx], Below.refl _ _⟩
  have F := hid E
  clear E
  go_enter Try.func59, Try.ntmps59
  go_wp2
  go_loop [3, 4] (fun n i => ∃ k : Nat, k ≤ 8 ∧ n = .int .i64 (firstGo T k) ∧ i = .int .i64 k) (fun _ i => 8 - (intOf i).toNat)
  case atStart => exact ⟨0, by omega, rfl, rfl⟩
  case round =>
    obtain ⟨k, hk, rfl, rfl⟩ := hrel
    by_cases hlt : k < 8
    · obtain ⟨hcn, -, hL, -⟩ := HC.out.cells hlt
      have hst : firstGo T (k + 1) = if firstGo T k < firstN (T.l k) then firstN (T.l k) else firstGo T k := rfl
      have HST := hid hst
      have HL := hid hL
      have hki : (k : Int) < 8 := by omega
      have hk0 : (0 : Int) ≤ (k : Int) := by omega
      clear hst hL
      generalize firstGo T k = m at *
      go_wp2_with fail
      refine (line_First g _ _ _ _ HL.out).mono ?_
      rintro e w2 ⟨rfl, rfl⟩
      generalize hfn : firstN (T.l k) = fn at *
      have HFN := hid hfn
      clear hfn
      by_cases hgt : m < fn
      · go_wp2_with fail
        refine (line_First g _ _ _ _ HL.out).mono ?_
        rintro e w2 ⟨rfl, rfl⟩
        rw [HFN.out]
        go_wp2
        go_round
        case rel => exact ⟨k + 1, by omega, by rw [HST.out, if_pos (by omega)], by go_num⟩
        case measure => simp [intOf]; omega
      · have hgt' : fn ≤ m := by omega
        go_wp2
        go_round
        case rel => exact ⟨k + 1, by omega, by rw [HST.out, if_neg (by omega)], by go_num⟩
        case measure => simp [intOf]; omega
    · obtain rfl : k = 8 := by omega
      go_wp2
      go_ret
      exact F.out _ rfl

set_option maxHeartbeats 1000000 in
set_option maxRecDepth 100000 in
theorem sheet_List (g : Nat → Nat) (p s : Nat) (T : Tab) (w : World) (f u a : Int) (hT : SheetAt w g p s T) :
    Calls Try.prog 53 #[.pointer (some ⟨s, 0, none⟩), .int .i64 f, .int .i64 u, .int .i64 a] w (ListPost false (listT T f u a) w) := by
  by_cases h0 : f < 0 ∨ 8 ≤ f
  · have e1 : listT T f u a = ([], 1) := by unfold listT; rw [if_pos (by omega)]
    rw [e1]
    have CK := hid (fun w => ref_IsKey_out f w h0)
    clear h0 e1 hT
    go_enter Try.func53, Try.ntmps53
    go_wp2_with fail
    refine (CK.out _).mono ?_
    rintro e w1 ⟨rfl, rfl⟩
    go_wp2
    go_ret2
    exact ⟨none, 0, rfl, .inl rfl, Below.refl _ _, nofun⟩
  · obtain ⟨n, hn, rfl⟩ := key_nat h0
    have CK := hid (fun w => ref_IsKey_in n w ⟨by omega, by omega⟩)
    by_cases h1 : u < 0 ∨ 8 ≤ u
    · have e1 : listT T n u a = ([], 1) := by unfold listT; rw [if_pos (by omega)]
      rw [e1]
      have CK2 := hid (fun w => ref_IsKey_out u w h1)
      clear h0 h1 e1 hT
      go_enter Try.func53, Try.ntmps53
      go_wp2_with fail
      refine (CK.out _).mono ?_
      rintro e w1 ⟨rfl, rfl⟩
      go_wp2_with fail
      refine (CK2.out _).mono ?_
      rintro e w1 ⟨rfl, rfl⟩
      go_wp2
      go_ret2
      exact ⟨none, 0, rfl, .inl rfl, Below.refl _ _, nofun⟩
    · obtain ⟨m, hm, rfl⟩ := key_nat h1
      have CK2 := hid (fun w => ref_IsKey_in m w ⟨by omega, by omega⟩)
      have e1 : listT T n m a = listGo T a ((List.range (m + 1)).drop n) [] := by unfold listT; rw [if_neg (by omega)]; rfl
      have HT := hid hT
      clear h0 h1 hT
      generalize listT T n m a = x at *
      have E1 := hid e1
      clear e1
      obtain ⟨i0, hi, hz0, hz1, hz2⟩ := info_parts Try.infoPair
      have N0 := hid (World.ownsRow_nil w w.heap.size 70 3)
      go_enter Try.func53, Try.ntmps53
      go_wp2_with fail
      refine (CK.out _).mono ?_
      rintro e w1 ⟨rfl, rfl⟩
      go_wp2_with fail
      refine (CK2.out _).mono ?_
      rintro e w1 ⟨rfl, rfl⟩
      go_wp2_with fail
      go_loopw [10, 11] (fun o i wr => ∃ (k : Nat) (out : List Ent), k ≤ 8 ∧ i = .int .i64 k ∧ wr.ownsRow w.heap.size 70 3 o out.length (encEnts out) ∧ out.length ≤ k ∧
          Hid (x = listGo T a ((List.range (m + 1)).drop k) out) ∧ Below w.heap.size w wr) (fun _ i _ => 9 - (intOf i).toNat)
      case atStart => exact ⟨n, [], by omega, rfl, N0.out, Nat.zero_le _, E1, Below.refl _ _⟩
      case round =>
        obtain ⟨k, out, hk, rfl, ho, hol, HX, hb⟩ := hrel
        clear N0 E1
        by_cases hkm : k ≤ m
        · have hkm' : (k : Int) ≤ (m : Int) := by omega
          have HR := hid (sheet_Read g p s T wr k a (HT.out.below hb))
          obtain ⟨ao, capo, rfl, -, -⟩ := ownsRow.sliceAt ho
          have hx := HX.out
          rw [range_drop m k hkm, listGo] at hx
          have HO := hid ho
          have HB := hid hb
          generalize hy : readT T k a = y at *
          clear hy hb ho
          obtain ⟨⟨yt, ys⟩, yc⟩ := y
          go_wp2_with fail
          (with_reducible refine HR.out.mono ?_)
          rintro e w1 ⟨rfl, hb⟩
          have HB1 := hid (HB.out.trans (hb.mono HB.out.size))
          have HO1 := hid ((show w1.ownsRow w.heap.size 70 3 (.slice ao out.length capo) out.length (encEnts out) from ownsRow.lift HO.out (fun r hr => hb.block r (HO.out.lt r hr).2)).alloc (.cells #[.bool yt, .string ys] 24))
          clear hb HO HB HR HX
          by_cases hc : yc = 0
          · subst hc
            rw [if_neg (by simp)] at hx
            cases yt with
            | false =>
              have HX := hid hx
              clear hx
              go_wp2
              go_roundw
              case rel => exact ⟨k + 1, out, by omega, by go_num, HO1.out, by omega, HX, HB1.out.alloc HB1.out.size _⟩
              case measure => simp [intOf]; omega
            | true =>
              have HX := hid hx
              clear hx
              have q1 : out.length + 1 ≤ maxLen := by unfold maxLen; omega
              have q2 : (out.length + 1) * 32 ≤ 140737488355328 := by omega
              generalize hye : (⟨k, ⟨true, ys⟩⟩ : Ent) = ye at *
              have hye2 : encEnt ye = [.int .i64 k, .bool true, .string ys] := by subst hye; rfl
              have HYE := hid hye2
              clear hye hye2
              have hwz := HB1.out.size
              go_wp2_with (refine wpList_append_own _ rfl (.tmp 40) (.tmp 44) 55 rfl w.heap.size 70 i0 (.agg #[.int .i64 0, .bool false, .string ByteArray.empty]) 3 32 Try.underlying55 hi hz0 hz1 hz2 rfl (by decide) (.slice ao out.length capo) out.length (encEnts out) rfl (HO1.out.alloc _) ⟨w1.heap.size + 1, 0, none⟩ 1 1 (encEnt ye) rfl (by rw [HYE.out]; rfl) ?c1 (encEnt_one _) q1 q2 ?c5 ?_)
              case c1 => rw [HYE.out]; have := cells_new (w1.alloc (.cells #[.bool true, .string ys] 24)) [.int .i64 k, .bool true, .string ys] 70; rw [World.size_alloc] at this; exact this
              case c5 => simp; omega
              intro v' w2 hown' hgrow _
              have HB2 := hid (((HB1.out.alloc HB1.out.size (.cells #[.bool true, .string ys] 24)).alloc (by simp; omega) (.cells #[.int .i64 k, .bool true, .string ys] 70)).grown hgrow (by simp; omega) (fun j hj => (HO1.out.lt j hj).1))
              have HO2 := hid (show w2.ownsRow w.heap.size 70 3 v' (out ++ [ye]).length (encEnts (out ++ [ye])) by rw [encEnts_append, List.length_append]; simpa [encEnts] using hown')
              clear hown' hgrow
              go_wp2
              go_roundw
              case rel => exact ⟨k + 1, out ++ [ye], by omega, by go_num, HO2.out, by simp; omega, HX, HB2.out⟩
              case measure => simp [intOf]; omega
          · rw [if_pos (by simpa using hc)] at hx
            have HX := hid hx
            have hc' : (yc != 0) = true := by simpa using hc
            clear hx hc
            go_wp2
            go_ret2
            rw [HX.out]
            exact ⟨none, 0, rfl, .inl rfl, HB1.out.alloc HB1.out.size _, nofun⟩
        · have hkm' : (m : Int) < (k : Int) := by omega
          have hx := HX.out
          rw [range_drop_nil m k (by omega)] at hx
          have hx' : x = (out, 0) := hx
          have HX' := hid hx'
          have HB := hid hb
          obtain ⟨ao, capo, rfl, hs, -⟩ := ownsRow.sliceAt ho
          have HS := hid hs
          clear hx hx' HX hb ho hs
          go_wp2
          go_ret2
          rw [HX'.out]
          exact ⟨_, _, rfl, HS.out, HB.out, nofun⟩

end Go.Proofs.Ytoiobhcgpajogaa
