/- The document's desk: the walk of line, whole. -/
import Derived.Test.YtoiobhcgpajogaaGreatDoorRDk6
namespace Go.Proofs.YtoiobhcgpajogaaGreatDoor
open Go.RowKit

def RLinePost (g : Nat → Nat) (q d c : Nat) (t : List UInt8) (N : Nat) (H : Ht) (s : ByteArray) (w : World) (e : Ending) (w' : World) : Prop :=
  e = .returned (.tuple #[]) ∧ ∃ g', RDk w g q d c (t ++ (lineD H s.data.toList).1) (N + 8) (lineD H s.data.toList).2 g' w'

theorem rline_end {g : Nat → Nat} {q d c N : Nat} {t : List UInt8} {H : Ht} {s : ByteArray} {w : World} (e' : Exit) (a' : Act) (w' : World) (he : e' = .normal ∨ e' = .ret) (hd : a'.defers = [])
    (h : ∃ g', RDk w g q d c (t ++ (lineD H s.data.toList).1) (N + 8) (lineD H s.data.toList).2 g' w') : bodyPost Tryz.prog Tryz.f18 (RLinePost g q d c t N H s w) e' a' w' := by
  rcases he with rfl | rfl
  · exact bodyPost_end (v := .tuple #[]) (by simp [results, Tryz.results18]) hd ⟨rfl, h⟩
  · exact bodyPost_ret (v := .tuple #[]) (by simp [results, Tryz.results18]) hd ⟨rfl, h⟩

theorem putD3_len {r : List (List UInt8)} (h : r.length ≠ 3) : putD3 r = none := by
  match r with
  | [] => rfl
  | [_] => rfl
  | [_, _] => rfl
  | [_, _, _] => exact absurd rfl h
  | _ :: _ :: _ :: _ :: _ => rfl

theorem putD3_no {a b c : List UInt8} (h : c.head? ≠ some 61 ∨ meanL c.tail = none) : putD3 [a, b, c] = none := by
  unfold putD3
  simp only
  rcases h with h | h
  · split
    · rw [if_neg h]
    · rfl
  · split
    · split
      · rw [h]; rfl
      · rfl
    · rfl

set_option maxHeartbeats 8000000 in
set_option maxRecDepth 100000 in
theorem ref_line (g : Nat → Nat) (q d c N : Nat) (t : List UInt8) (H : Ht) (w : World) (hq : 1 ≤ q) (hN : N + 8 < 1000000) (KR : RDk w g q d c t N H g w) (hO : ∀ x, EvOk (doH H x).1) (hB1 : I64 H.v.tab.last) (hB2 : I64 (firstT H.v.tab)) (hB3 : I64 (leastH H)) (ht : t.length ≤ 700000000) (s : ByteArray) (hs : s.size ≤ 9500) :
    Calls Tryz.prog 18 #[.pointer (some ⟨d, 0, none⟩), .string s] w (RLinePost g q d c t N H s w) := by
  have OK := hid hO
  have LH := hid (And.intro hB1 (And.intro hB2 hB3))
  have K0 := hid KR
  have CW := hid (ref_Words s w (by omega))
  have HQ := hid (show wordsD s.data.toList = (wordsB s).map (·.data.toList) from (wordsB_data s).symm)
  have HZ := hid (fun x (hx : x ∈ wordsB s) => Nat.le_trans (wordsB_le hx) hs)
  have hcl := count_len s
  have hwl := wordsB_len s
  clear KR hO hB1 hB2 hB3
  go_enter Tryz.func18, Tryz.ntmps18
  go_wp2_with fail
  refine CW.out.mono ?_
  rintro e w1 ⟨v, rfl, hown, hb1⟩
  obtain ⟨an, cn, rfl, hsl, -⟩ := ownsRow.sliceAt hown
  have hcap : (wordsB s).length ≤ cn := by
    rcases hown.2 with ⟨h1, h2⟩ | ⟨r, cap2, cur, h, _, _, h3, -⟩
    · have := Value.slice.inj h1; omega
    · have := Value.slice.inj h; omega
  have K1 := hid (K0.out.below hb1)
  have S1 := hid hsl
  clear hown hb1 hsl CW
  generalize wordsB s = ys at *
  have hyl : ys.length ≤ 10000 := by omega
  clear hcl hwl
  cases ys with
  | nil =>
    have HP := hid (show RLinePost g q d c t N H s w (.returned (.tuple #[])) w1 from ⟨rfl, g, by
      rw [lineD_res, HQ.out]
      show RDk w g q d c (t ++ []) (N + 8) H g w1
      rw [List.append_nil]
      exact K1.out.more (by omega)⟩)
    clear S1 K1 HQ
    go_wp2
    go_end0
    exact HP.out
  | cons x xs =>
    obtain ⟨bw, ow, rfl, hCX⟩ : ∃ bw ow, an = some ⟨bw, ow, none⟩ ∧ ∀ j (y : ByteArray), (x :: xs)[j]? = some y → w1.cell? ⟨bw, ow + j, none⟩ = some (.string y) := by
      rcases S1.out with h | ⟨b, o, e, hc⟩
      · simp at h
      · exact ⟨b, o, e, fun j y hj => hc j _ (by rw [List.getElem?_map, hj]; rfl)⟩
    have X1 := hid hCX
    have hxl : xs.length ≤ 10000 := by simp at hyl; omega
    have hxli : (xs.length : Int) ≤ 10000 := by omega
    clear hCX S1 hyl
    have hl0 : ((x :: xs).length : Int) = (xs.length : Int) + 1 := by simp
    rw [List.length_cons]
    go_upto_region 5 with (fail)
    rename_i K1q h1 K2q h2
    have HK1 := hid h1
    clear h1
    have hbA := (Below.refl w1.heap.size w1).alloc (Nat.le_refl _) (.cells #[.string ⟨#[115, 104, 111, 116]⟩, .string ⟨#[115, 117, 114, 101]⟩, .string ⟨#[108, 111, 111, 107]⟩, .string ⟨#[103, 101, 116]⟩, .string ⟨#[112, 117, 116]⟩, .string ⟨#[100, 114, 111, 112]⟩, .string ⟨#[108, 105, 115, 116]⟩, .string ⟨#[99, 111, 109, 109, 105, 116]⟩, .string ⟨#[97, 98, 111, 114, 116]⟩, .string ⟨#[99, 108, 101, 97, 114]⟩, .string ⟨#[99, 114, 97, 115, 104]⟩, .string ⟨#[116, 101, 97, 114]⟩, .string ⟨#[108, 97, 115, 116]⟩] 9)
    have hbB := hbA.trans (((Below.refl (w1.alloc (.cells #[.string ⟨#[115, 104, 111, 116]⟩, .string ⟨#[115, 117, 114, 101]⟩, .string ⟨#[108, 111, 111, 107]⟩, .string ⟨#[103, 101, 116]⟩, .string ⟨#[112, 117, 116]⟩, .string ⟨#[100, 114, 111, 112]⟩, .string ⟨#[108, 105, 115, 116]⟩, .string ⟨#[99, 111, 109, 109, 105, 116]⟩, .string ⟨#[97, 98, 111, 114, 116]⟩, .string ⟨#[99, 108, 101, 97, 114]⟩, .string ⟨#[99, 114, 97, 115, 104]⟩, .string ⟨#[116, 101, 97, 114]⟩, .string ⟨#[108, 97, 115, 116]⟩] 9)).heap.size (w1.alloc (.cells #[.string ⟨#[115, 104, 111, 116]⟩, .string ⟨#[115, 117, 114, 101]⟩, .string ⟨#[108, 111, 111, 107]⟩, .string ⟨#[103, 101, 116]⟩, .string ⟨#[112, 117, 116]⟩, .string ⟨#[100, 114, 111, 112]⟩, .string ⟨#[108, 105, 115, 116]⟩, .string ⟨#[99, 111, 109, 109, 105, 116]⟩, .string ⟨#[97, 98, 111, 114, 116]⟩, .string ⟨#[99, 108, 101, 97, 114]⟩, .string ⟨#[99, 114, 97, 115, 104]⟩, .string ⟨#[116, 101, 97, 114]⟩, .string ⟨#[108, 97, 115, 116]⟩] 9))).alloc (Nat.le_refl _) (.cells #[.int .i64 1, .int .i64 1, .int .i64 2, .int .i64 2, .int .i64 2, .int .i64 2, .int .i64 3, .int .i64 1, .int .i64 1, .int .i64 0, .int .i64 0, .int .i64 2, .int .i64 0] 3)).mono hbA.size)
    have K3 := hid (K1.out.below hbB)
    have X3 := hid (fun j y hj => cell_below (X1.out j y hj) hbB)
    have NM := hid (show ∀ j (x : ByteArray), nmB[j]? = some x → ((w1.alloc (.cells #[.string ⟨#[115, 104, 111, 116]⟩, .string ⟨#[115, 117, 114, 101]⟩, .string ⟨#[108, 111, 111, 107]⟩, .string ⟨#[103, 101, 116]⟩, .string ⟨#[112, 117, 116]⟩, .string ⟨#[100, 114, 111, 112]⟩, .string ⟨#[108, 105, 115, 116]⟩, .string ⟨#[99, 111, 109, 109, 105, 116]⟩, .string ⟨#[97, 98, 111, 114, 116]⟩, .string ⟨#[99, 108, 101, 97, 114]⟩, .string ⟨#[99, 114, 97, 115, 104]⟩, .string ⟨#[116, 101, 97, 114]⟩, .string ⟨#[108, 97, 115, 116]⟩] 9)).alloc (.cells #[.int .i64 1, .int .i64 1, .int .i64 2, .int .i64 2, .int .i64 2, .int .i64 2, .int .i64 3, .int .i64 1, .int .i64 1, .int .i64 0, .int .i64 0, .int .i64 2, .int .i64 0] 3)).cell? ⟨w1.heap.size, 0 + j, none⟩ = some (.string x) from fun j x hj => cell_below (cells_strs w1 nmB 9 j x hj) ((Below.refl (w1.alloc (.cells #[.string ⟨#[115, 104, 111, 116]⟩, .string ⟨#[115, 117, 114, 101]⟩, .string ⟨#[108, 111, 111, 107]⟩, .string ⟨#[103, 101, 116]⟩, .string ⟨#[112, 117, 116]⟩, .string ⟨#[100, 114, 111, 112]⟩, .string ⟨#[108, 105, 115, 116]⟩, .string ⟨#[99, 111, 109, 109, 105, 116]⟩, .string ⟨#[97, 98, 111, 114, 116]⟩, .string ⟨#[99, 108, 101, 97, 114]⟩, .string ⟨#[99, 114, 97, 115, 104]⟩, .string ⟨#[116, 101, 97, 114]⟩, .string ⟨#[108, 97, 115, 116]⟩] 9)).heap.size (w1.alloc (.cells #[.string ⟨#[115, 104, 111, 116]⟩, .string ⟨#[115, 117, 114, 101]⟩, .string ⟨#[108, 111, 111, 107]⟩, .string ⟨#[103, 101, 116]⟩, .string ⟨#[112, 117, 116]⟩, .string ⟨#[100, 114, 111, 112]⟩, .string ⟨#[108, 105, 115, 116]⟩, .string ⟨#[99, 111, 109, 109, 105, 116]⟩, .string ⟨#[97, 98, 111, 114, 116]⟩, .string ⟨#[99, 108, 101, 97, 114]⟩, .string ⟨#[99, 114, 97, 115, 104]⟩, .string ⟨#[116, 101, 97, 114]⟩, .string ⟨#[108, 97, 115, 116]⟩] 9))).alloc (Nat.le_refl _) (.cells #[.int .i64 1, .int .i64 1, .int .i64 2, .int .i64 2, .int .i64 2, .int .i64 2, .int .i64 3, .int .i64 1, .int .i64 1, .int .i64 0, .int .i64 0, .int .i64 2, .int .i64 0] 3)))
    have MN := hid (show ∀ j (m : Nat), mnL[j]? = some m → ((w1.alloc (.cells #[.string ⟨#[115, 104, 111, 116]⟩, .string ⟨#[115, 117, 114, 101]⟩, .string ⟨#[108, 111, 111, 107]⟩, .string ⟨#[103, 101, 116]⟩, .string ⟨#[112, 117, 116]⟩, .string ⟨#[100, 114, 111, 112]⟩, .string ⟨#[108, 105, 115, 116]⟩, .string ⟨#[99, 111, 109, 109, 105, 116]⟩, .string ⟨#[97, 98, 111, 114, 116]⟩, .string ⟨#[99, 108, 101, 97, 114]⟩, .string ⟨#[99, 114, 97, 115, 104]⟩, .string ⟨#[116, 101, 97, 114]⟩, .string ⟨#[108, 97, 115, 116]⟩] 9)).alloc (.cells #[.int .i64 1, .int .i64 1, .int .i64 2, .int .i64 2, .int .i64 2, .int .i64 2, .int .i64 3, .int .i64 1, .int .i64 1, .int .i64 0, .int .i64 0, .int .i64 2, .int .i64 0] 3)).cell? ⟨w1.heap.size + 1, 0 + j, none⟩ = some (.int .i64 m) from fun j m hj => by
      have h := (Loc.new (w1.alloc (.cells #[.string ⟨#[115, 104, 111, 116]⟩, .string ⟨#[115, 117, 114, 101]⟩, .string ⟨#[108, 111, 111, 107]⟩, .string ⟨#[103, 101, 116]⟩, .string ⟨#[112, 117, 116]⟩, .string ⟨#[100, 114, 111, 112]⟩, .string ⟨#[108, 105, 115, 116]⟩, .string ⟨#[99, 111, 109, 109, 105, 116]⟩, .string ⟨#[97, 98, 111, 114, 116]⟩, .string ⟨#[99, 108, 101, 97, 114]⟩, .string ⟨#[99, 114, 97, 115, 104]⟩, .string ⟨#[116, 101, 97, 114]⟩, .string ⟨#[108, 97, 115, 116]⟩] 9)) 3 (mnL.map (fun m : Nat => Value.int .i64 m))).cell (0 + j)
      rw [World.size_alloc] at h
      refine Eq.trans h ?_
      rw [Nat.zero_add, List.getElem?_map, hj]
      rfl)
    have c0 : ((w1.alloc (.cells #[.string ⟨#[115, 104, 111, 116]⟩, .string ⟨#[115, 117, 114, 101]⟩, .string ⟨#[108, 111, 111, 107]⟩, .string ⟨#[103, 101, 116]⟩, .string ⟨#[112, 117, 116]⟩, .string ⟨#[100, 114, 111, 112]⟩, .string ⟨#[108, 105, 115, 116]⟩, .string ⟨#[99, 111, 109, 109, 105, 116]⟩, .string ⟨#[97, 98, 111, 114, 116]⟩, .string ⟨#[99, 108, 101, 97, 114]⟩, .string ⟨#[99, 114, 97, 115, 104]⟩, .string ⟨#[116, 101, 97, 114]⟩, .string ⟨#[108, 97, 115, 116]⟩] 9)).alloc (.cells #[.int .i64 1, .int .i64 1, .int .i64 2, .int .i64 2, .int .i64 2, .int .i64 2, .int .i64 3, .int .i64 1, .int .i64 1, .int .i64 0, .int .i64 0, .int .i64 2, .int .i64 0] 3)).cell? ⟨bw, ow, none⟩ = some (.string x) := X3.out 0 x rfl
    clear hbA hbB K1 X1
    generalize ((w1.alloc (.cells #[.string ⟨#[115, 104, 111, 116]⟩, .string ⟨#[115, 117, 114, 101]⟩, .string ⟨#[108, 111, 111, 107]⟩, .string ⟨#[103, 101, 116]⟩, .string ⟨#[112, 117, 116]⟩, .string ⟨#[100, 114, 111, 112]⟩, .string ⟨#[108, 105, 115, 116]⟩, .string ⟨#[99, 111, 109, 109, 105, 116]⟩, .string ⟨#[97, 98, 111, 114, 116]⟩, .string ⟨#[99, 108, 101, 97, 114]⟩, .string ⟨#[99, 114, 97, 115, 104]⟩, .string ⟨#[116, 101, 97, 114]⟩, .string ⟨#[108, 97, 115, 116]⟩] 9)).alloc (.cells #[.int .i64 1, .int .i64 1, .int .i64 2, .int .i64 2, .int .i64 2, .int .i64 2, .int .i64 3, .int .i64 1, .int .i64 1, .int .i64 0, .int .i64 0, .int .i64 2, .int .i64 0] 3)) = w3 at *
    generalize w1.heap.size + 1 = bm at *
    generalize w1.heap.size = bz at *
    have hcap2 : xs.length + 1 ≤ cn := by simpa using hcap
    have hcapi : (xs.length : Int) + 1 ≤ (cn : Int) := by omega
    have hl1 : (0 : Int) < (xs.length : Int) + 1 := by omega
    have hl2 : 0 < xs.length + 1 := by omega
    clear hcap hl0
    by_cases hp : x.data.toList = b_put
    · have ht1 : (x.toList == [112, 117, 116]) = true := by rw [toList_data, hp]; rfl
      have HPUT := hid (show askD ((x :: xs).map (·.data.toList)) = askD (b_put :: xs.map (·.data.toList)) from by rw [List.map_cons, hp])
      by_cases h3 : xs.length = 3
      · obtain ⟨xa, xb, xc, rfl⟩ : ∃ xa xb xc, xs = [xa, xb, xc] := by
          match xs, h3 with
          | [xa, xb, xc], _ => exact ⟨xa, xb, xc, rfl⟩
        have c3 : w3.cell? ⟨bw, ow + 3, none⟩ = some (.string xc) := X3.out 3 xc rfl
        have hcn4 : (4 : Int) ≤ (cn : Int) := by simp at hcapi; omega
        have hcn3 : (3 : Int) ≤ (cn : Int) := by omega
        have hcn5 : 3 ≤ cn := by omega
        have hxcz := HZ.out xc (by simp)
        have hxci : (xc.size : Int) ≤ 9500 := by omega
        have HB := hid hp
        clear h3 hp hxl hxli hl1 hl2 hcapi hcap2
        simp only [List.length_cons, List.length_nil]
        by_cases hz : 0 < xc.size
        · have hzi : (0 : Int) < (xc.size : Int) := by omega
          have hz1 : (1 : Int) ≤ (xc.size : Int) := by omega
          have hhd : xc.data.toList.head? = some xc[0] := by
            have hl : 0 < xc.data.toList.length := by simpa using hz
            rw [List.head?_eq_getElem?, List.getElem?_eq_getElem hl]; rfl
          have HHD := hid hhd
          clear hhd
          by_cases h61 : xc[0] = 61
          · have CM := ref_Meant (xc.extract 1 xc.size) w3 (by simp only [ByteArray.size_extract]; omega)
            rw [show (xc.extract 1 xc.size).data.toList = xc.data.toList.tail from by rw [Lib.extract_to_end, List.drop_one]] at CM
            have HH61 := hid (show xc.data.toList.head? = some 61 from by rw [HHD.out, h61])
            have CM := hid CM
            generalize hch : xc[0] = ch at *
            have hci : ((ch.toNat : Int) == 61) = true := by rw [h61]; rfl
            clear h61
            cases hm : meanL xc.data.toList.tail with
            | none =>
              rw [hm] at CM
              have HM := hid hm
              clear hm
              go_wp2_with fail
              refine CM.out.mono ?_
              rintro e w4 ⟨rfl, hb4⟩
              have K4 := hid (K3.out.below hb4)
              clear hb4 CM
              have HP0 := hid (show lineD H s.data.toList = (b_what ++ [10], H) from by
                rw [lineD_res, HQ.out, HPUT.out]
                show resD H (askD (b_put :: [xa.data.toList, xb.data.toList, xc.data.toList])) = _
                rw [askD_putNo (putD3_no (.inr HM.out))]
                rfl)
              have HSY := hid (ref_say g q d c t b_what w4 K4.out.desk (by simp only [b_what, List.length_cons, List.length_nil]; omega))
              go_wp2_with fail
              refine HSY.out.mono ?_
              rintro e w9 ⟨rfl, hL9, hE9⟩
              have HP := hid (show RLinePost g q d c t N H s w (.returned (.tuple #[])) w9 from ⟨rfl, g, by rw [HP0.out]; exact (K4.out.said hq hE9 hL9).more (by omega)⟩)
              clear hL9 hE9 HSY
              go_wp2
              go_end0
              exact HP.out
            | some v =>
              rw [hm] at CM
              have hvl := meanL_le hm
              have HM := hid hm
              have htl : xc.data.toList.tail.length ≤ 9500 := by
                have : xc.data.toList.length = xc.size := by simp
                rw [List.length_tail]; omega
              clear hm
              go_wp2_with fail
              refine CM.out.mono ?_
              rintro e w4 ⟨rfl, hb4⟩
              have HL := hid (show lineD H s.data.toList = resD H (refAskN x.data.toList ⟨v.toArray⟩ (numsD (([xa, xb] : List ByteArray).map (·.data.toList)))) from by
                rw [lineD_res, HQ.out, HPUT.out]
                show resD H (askD (b_put :: [xa.data.toList, xb.data.toList, xc.data.toList])) = _
                rw [askD_putYes HH61.out HM.out, HB.out]
                show _ = resD H (refAskN b_put ⟨v.toArray⟩ (numsD [xa.data.toList, xb.data.toList]))
                cases numsD [xa.data.toList, xb.data.toList] <;> rfl)
              have K4 := hid (K3.out.below hb4)
              have N4 := hid (fun j (y : ByteArray) hj => cell_below (NM.out j y hj) hb4)
              have M4 := hid (fun j (m : Nat) hj => cell_below (MN.out j m hj) hb4)
              have d0 := cell_below c0 hb4
              have d1 := cell_below (X3.out 1 xa rfl) hb4
              have d2 := cell_below (X3.out 2 xb rfl) hb4
              have D12 := hid (And.intro d1 d2)
              have hvz : (⟨v.toArray⟩ : ByteArray).size ≤ maxLen := by show v.toArray.size ≤ _; simp only [List.size_toArray]; unfold maxLen; omega
              clear hb4 CM d1 d2 hvl htl c0 c3
              go_wp2_with fail
              refine HK1.out _ _ ?_
              exact rline_nums w w4 g g q d c N t H hq hN bw ow cn bz 0 bm 0 x ⟨v.toArray⟩ [xa, xb] (by simp) (fun y hy => Nat.le_trans (HZ.out y (by simp at hy ⊢; rcases hy with rfl | rfl <;> simp)) (by omega)) hvz d0 (hid fun j hj => match j, hj with
                | 0, _ => D12.out.1
                | 1, _ => D12.out.2
                | j + 2, h => absurd h (by simp)) N4 M4 K4 OK LH ht _ (by kernel_rfl) _ _ _ _ _ _ _ _ _ _ _ _ _ _ _ _ _ _ _ _ _ _ _ _ _ _ _ _ _ _ _ _ _ _ _ _ _ _ _ _ _ _ _ _ _ _ _ _ _ _ _ _ _ _ _ _ _ _ _ _ _ _ _ _ _ _ _ _ _ _ _ _ _ _ _ _ _ _ _ _ _ _ _ _ _ _ _ _ _ _ _ _ _ _ _ _ _ _ _ _ _ _ _ _ _ _ _ _ _ _ _ _ _ _ _ _ _ _ _ _ _ _ _ _ _ _ _ _ _ _ _ _ _ _ _ _ _ _ _ _ _ _ _ _ _ _ _ _ _ _ _ _ _ _ _ _ _ _ _ _ _ _ _ _ _ _ _ _ _ _ _ _ _ _ _ _ _ _ _ _ _ _ _ _ _ _ _ _ _ _ _ _ _ _ _ _ _ _ _ _ _ _ _ _ _ _ _ _ _ _ _ _ _ _ _ _ _ _ _ _ _ _ _ _ _ _ _ _ _ _ _ _ _ _ _ _ _ _ _ _ _ _ _ _ _ _ _ _ _ _ _ _ _ _ _ _ _ _ _ _ _ _ _ _ _ _ _ _ _ _ _ _ _ _ _ _ _ _ _ _ _ _ _ _ _ _ _ _ _ _ _ _ _ _ _ _ _ _ _ _ _ _ _ _ _ _ _ _ _ _ _ _ (fun e' a' w' he hd h => rline_end e' a' w' he hd (by rw [HL.out]; exact h))
          · have H61 := hid h61
            generalize hch : xc[0] = ch at *
            have hci : ((ch.toNat : Int) == 61) = false := by
              rw [beq_eq_false_iff_ne]; intro e; exact h61 (UInt8.toNat_inj.1 (by simpa using (by omega : ch.toNat = 61)))
            clear h61
            have HP0 := hid (show lineD H s.data.toList = (b_what ++ [10], H) from by
              rw [lineD_res, HQ.out, HPUT.out]
              show resD H (askD (b_put :: [xa.data.toList, xb.data.toList, xc.data.toList])) = _
              rw [askD_putNo (putD3_no (.inl (by rw [HHD.out]; intro h; exact H61.out (Option.some.inj h))))]
              rfl)
            have HSY := hid (ref_say g q d c t b_what w3 K3.out.desk (by simp only [b_what, List.length_cons, List.length_nil]; omega))
            go_wp2_with fail
            refine HSY.out.mono ?_
            rintro e w9 ⟨rfl, hL9, hE9⟩
            have HP := hid (show RLinePost g q d c t N H s w (.returned (.tuple #[])) w9 from ⟨rfl, g, by rw [HP0.out]; exact (K3.out.said hq hE9 hL9).more (by omega)⟩)
            clear hL9 hE9 HSY
            go_wp2
            go_end0
            exact HP.out
        · have HZ0 := hid (show xc.data.toList = [] from List.eq_nil_of_length_eq_zero ((show xc.data.toList.length = xc.size by simp).trans (by omega)))
          have hzi : ¬ (0 : Int) < (xc.size : Int) := by omega
          have HP0 := hid (show lineD H s.data.toList = (b_what ++ [10], H) from by
            rw [lineD_res, HQ.out, HPUT.out]
            show resD H (askD (b_put :: [xa.data.toList, xb.data.toList, xc.data.toList])) = _
            rw [askD_putNo (putD3_no (.inl (by rw [HZ0.out]; simp)))]
            rfl)
          have HSY := hid (ref_say g q d c t b_what w3 K3.out.desk (by simp only [b_what, List.length_cons, List.length_nil]; omega))
          go_wp2_with fail
          refine HSY.out.mono ?_
          rintro e w9 ⟨rfl, hL9, hE9⟩
          have HP := hid (show RLinePost g q d c t N H s w (.returned (.tuple #[])) w9 from ⟨rfl, g, by rw [HP0.out]; exact (K3.out.said hq hE9 hL9).more (by omega)⟩)
          clear hL9 hE9 HSY
          go_wp2
          go_end0
          exact HP.out
      · have H3 := hid h3
        have hn4 : ((xs.length : Int) + 1 == 4) = false := by rw [beq_eq_false_iff_ne]; omega
        clear h3 hp
        have HP0 := hid (show lineD H s.data.toList = (b_what ++ [10], H) from by
          rw [lineD_res, HQ.out, HPUT.out]
          rw [askD_putNo (putD3_len (by rw [List.length_map]; exact H3.out))]
          rfl)
        have HSY := hid (ref_say g q d c t b_what w3 K3.out.desk (by simp only [b_what, List.length_cons, List.length_nil]; omega))
        go_wp2_with fail
        refine HSY.out.mono ?_
        rintro e w9 ⟨rfl, hL9, hE9⟩
        have HP := hid (show RLinePost g q d c t N H s w (.returned (.tuple #[])) w9 from ⟨rfl, g, by rw [HP0.out]; exact (K3.out.said hq hE9 hL9).more (by omega)⟩)
        clear hL9 hE9 HSY
        go_wp2
        go_end0
        exact HP.out
    · have ht1 : (x.toList == [112, 117, 116]) = false := by rw [toList_data, beq_eq_false_iff_ne]; exact hp
      have HL := hid (show lineD H s.data.toList = resD H (refAskN x.data.toList ⟨#[]⟩ (numsD (xs.map (·.data.toList)))) from by
        rw [lineD_res, HQ.out, List.map_cons, askD_askN _ _ (by rw [if_neg hp])]
        cases hn : numsD (xs.map (·.data.toList)) with
        | none => rw [askN_none hn]; rfl
        | some vs => rw [askN_ref hp hn ⟨#[]⟩]; rfl)
      clear hp
      go_wp2_with fail
      refine HK1.out _ _ ?_
      exact rline_nums w w3 g g q d c N t H hq hN bw ow cn bz 0 bm 0 x ⟨#[]⟩ xs (by omega) (fun y hy => Nat.le_trans (HZ.out y (List.mem_cons_of_mem _ hy)) (by omega)) (Nat.zero_le _) c0 (hid fun j hj => X3.out (j + 1) xs[j] (by simp [List.getElem?_eq_getElem hj])) NM MN K3 OK LH ht _ (by kernel_rfl) _ _ _ _ _ _ _ _ _ _ _ _ _ _ _ _ _ _ _ _ _ _ _ _ _ _ _ _ _ _ _ _ _ _ _ _ _ _ _ _ _ _ _ _ _ _ _ _ _ _ _ _ _ _ _ _ _ _ _ _ _ _ _ _ _ _ _ _ _ _ _ _ _ _ _ _ _ _ _ _ _ _ _ _ _ _ _ _ _ _ _ _ _ _ _ _ _ _ _ _ _ _ _ _ _ _ _ _ _ _ _ _ _ _ _ _ _ _ _ _ _ _ _ _ _ _ _ _ _ _ _ _ _ _ _ _ _ _ _ _ _ _ _ _ _ _ _ _ _ _ _ _ _ _ _ _ _ _ _ _ _ _ _ _ _ _ _ _ _ _ _ _ _ _ _ _ _ _ _ _ _ _ _ _ _ _ _ _ _ _ _ _ _ _ _ _ _ _ _ _ _ _ _ _ _ _ _ _ _ _ _ _ _ _ _ _ _ _ _ _ _ _ _ _ _ _ _ _ _ _ _ _ _ _ _ _ _ _ _ _ _ _ _ _ _ _ _ _ _ _ _ _ _ _ _ _ _ _ _ _ _ _ _ _ _ _ _ _ _ _ _ _ _ _ _ _ _ _ _ _ _ _ _ _ _ _ _ _ _ _ _ _ _ _ _ _ _ _ _ _ _ _ _ _ _ _ _ _ _ _ _ _ (fun e' a' w' he hd h => rline_end e' a' w' he hd (by rw [HL.out]; exact h))

end Go.Proofs.YtoiobhcgpajogaaGreatDoor

/- The document's desk: Do, NewDesk. -/
namespace Go.Proofs.YtoiobhcgpajogaaGreatDoor
open Go.RowKit

theorem CourtAt.oks {w : World} {g : Nat → Nat} {p c N : Nat} {H : Ht} (k : CourtAt w g p c N H) : H.v.Ok ∧ H.v.tab.Ok ∧ ∀ s, s < 5 → ∀ D, H.seats s = some D → D.Ok := by
  obtain ⟨hv, s, ds, hCL⟩ := k
  exact ⟨hv, hCL.sheet.1, fun i hi D hD => by
    obtain ⟨_, _, _, hh⟩ := hCL.work i hi D hD
    exact hh.ok⟩

theorem GoodD.evokC {w : World} {g : Nat → Nat} {p c N : Nat} {H : Ht} (k : GoodD H) (hA : CourtAt w g p c N H) (x : St) : EvOk (doH H x).1 :=
  doH_evok hA.oks.1 hA.oks.2.1 k.small hA.oks.2.2 x

def DoPostR (g : Nat → Nat) (q d c N : Nat) (H : Ht) (L : List (List UInt8)) (w : World) (e : Ending) (w' : World) : Prop :=
  e = .returned (.string ⟨(linesD ([], H) L).1.toArray⟩) ∧ GoodD (linesD ([], H) L).2 ∧ ∃ g', RDk w g q d c (linesD ([], H) L).1 (N + 1200) (linesD ([], H) L).2 g' w'

theorem RDk.told {w0 w : World} {g0 g : Nat → Nat} {q d c N : Nat} {t t' : List UInt8} {H : Ht} (k : RDk w0 g0 q d c t N H g w) (hq : 1 ≤ q) : RDk w0 g0 q d c t' N H g (w.setCell ⟨d, 0, none⟩ (.string ⟨t'.toArray⟩)) :=
  k.said hq (evo_store _ k.desk.2) (k.desk.set 0 (.string ⟨t'.toArray⟩))

set_option maxHeartbeats 4000000 in
set_option maxRecDepth 100000 in
theorem ref_Do (g : Nat → Nat) (q d c N : Nat) (t : List UInt8) (H : Ht) (w : World) (hq : 1 ≤ q) (hN : N + 1300 < 1000000) (KR : RDk w g q d c t N H g w) (hG : GoodD H) (a : Option Addr) (cap : Nat) (xs : List ByteArray) (hA : LinesAt w g a xs) (hs : ∀ x ∈ xs, x.size ≤ 9500) (hn : xs.length ≤ 150) :
    Calls Tryz.prog 10 #[.pointer (some ⟨d, 0, none⟩), .slice a xs.length cap] w (DoPostR g q d c N H (xs.map (·.data.toList)) w) := by
  have HG := hid hG
  have HS := hid hs
  have c0 : w.cell? ⟨d, 0, none⟩ = some (.string ⟨t.toArray⟩) := KR.desk.1.cell 0
  have f0 : w.frozen? ⟨d, 0, none⟩ = false := KR.desk.1.free 0
  have K1 := hid (KR.told (t' := []) hq)
  have A1 := hid (hA.evo (evo_store (w := w) (i := 0) (.string ⟨#[]⟩) KR.desk.2) (by omega))
  have hni : (xs.length : Int) ≤ 150 := by omega
  clear KR hG hA hs
  go_enter Tryz.func10, Tryz.ntmps10
  go_upto_region 2 with (fail)
  generalize hw1 : w.setCell ⟨d, 0, none⟩ (.string ⟨#[]⟩) = w1 at *
  clear hw1 c0 f0
  go_wp2_with fail
  go_loopw [5] (fun i wr => ∃ (k : Nat) (g2 : Nat → Nat), k ≤ xs.length ∧ i = .int .i64 k ∧ Hid (RDk w g q d c (linesD ([], H) ((xs.map (·.data.toList)).take k)).1 (N + 8 * k) (linesD ([], H) ((xs.map (·.data.toList)).take k)).2 g2 wr) ∧ Hid (GoodD (linesD ([], H) ((xs.map (·.data.toList)).take k)).2) ∧ Hid (LinesAt wr g2 a xs) ∧ Hid ((linesD ([], H) ((xs.map (·.data.toList)).take k)).1.length ≤ 701 * k)) (fun i _ => xs.length - (intOf i).toNat)
  case atStart => exact ⟨0, g, Nat.zero_le _, rfl, K1, HG, A1, hid (Nat.zero_le _)⟩
  case round =>
    clear K1 A1
    obtain ⟨k, g2, hk, rfl, K3, G3, A3, T3⟩ := hrel
    by_cases hlt : k < xs.length
    · obtain ⟨b, o, rfl, c0⟩ := A3.out.get hlt
      have hki : (k : Int) < (xs.length : Int) := by omega
      have hk0 : (0 : Int) ≤ (k : Int) := by omega
      have TK := hid (show (xs.map (·.data.toList)).take (k + 1) = (xs.map (·.data.toList)).take k ++ [xs[k].data.toList] from by
        rw [List.take_succ_eq_append_getElem (by simpa using hlt), List.getElem_map])
      have hsz := HS.out xs[k] (List.getElem_mem _)
      generalize xs[k] = s at *
      generalize hr : linesD ([], H) ((xs.map (·.data.toList)).take k) = r at *
      obtain ⟨t1, H1⟩ := r
      have HR := hid hr
      clear hr
      simp only at K3 G3 T3
      have hok := K3.out.court.oks
      have hO := fun x => G3.out.evokC K3.out.court x
      have i1 := i64_last hok.2.1
      have i2 := i64_first hok.2.1
      have i3 := i64_least hok.2.1 G3.out.begs
      have CL := hid (ref_line g2 q d c (N + 8 * k) t1 H1 wr hq (by omega) K3.out.self hO i1 i2 i3 (by have := T3.out; omega) s hsz)
      have HGN := hid (lineD_good G3.out hok.1 hok.2.1 hok.2.2 s.data.toList)
      have HLN := hid (lineD_le hO i1 i2 i3 s.data.toList)
      clear hok hO i1 i2 i3 hsz
      go_wp2_with fail
      refine CL.out.mono ?_
      rintro e w3 ⟨rfl, g3, hk3⟩
      have K4 := hid (show RDk w g q d c (t1 ++ (lineD H1 s.data.toList).1) (N + 8 * (k + 1)) (lineD H1 s.data.toList).2 g3 w3 from ⟨hk3.desk, by have := hk3.court; rwa [show N + 8 * k + 8 = N + 8 * (k + 1) by omega] at this, hk3.glob, K3.out.evo.trans hk3.evo⟩)
      have A4 := hid (A3.out.evo hk3.evo (by omega))
      clear hk3 CL K3 A3 c0
      go_wp2
      go_roundw
      case rel =>
        refine ⟨k + 1, g3, by omega, by go_num, ?_⟩
        rw [TK.out, linesD_snoc, HR.out]
        exact ⟨K4, HGN, A4, hid (by have := HLN.out; have := T3.out; simp only [List.length_append]; omega)⟩
      case measure => simp [intOf]; omega
    · obtain rfl : k = xs.length := by omega
      have e : (xs.map (·.data.toList)).take xs.length = xs.map (·.data.toList) := by rw [List.take_of_length_le (by simp)]
      rw [e] at K3 G3 T3
      clear e hlt
      have d0 : wr.cell? ⟨d, 0, none⟩ = some (.string ⟨(linesD ([], H) (xs.map (·.data.toList))).1.toArray⟩) := K3.out.desk.1.cell 0
      have HP := hid (show DoPostR g q d c N H (xs.map (·.data.toList)) w (.returned (.string ⟨(linesD ([], H) (xs.map (·.data.toList))).1.toArray⟩)) wr from ⟨rfl, G3.out, g2, K3.out.more (by omega)⟩)
      clear K3 A3 T3
      go_wp2
      go_ret
      exact HP.out

def NewPostR (g : Nat → Nat) (q : Nat) (w : World) (e : Ending) (w' : World) : Prop :=
  ∃ d c g', e = .returned (.pointer (some ⟨d, 0, none⟩)) ∧ Evo 0 0 g g' w w' ∧ w.heap.size ≤ d ∧ RDk w' g' q d c [] 0 Ht.new g' w'

set_option maxHeartbeats 2000000 in
theorem ref_New (g : Nat → Nat) (q : Nat) (w : World) (hG : GlobC w g) :
    Calls Tryz.prog 7 #[] w (NewPostR g q w) := by
  have HG := hid hG
  clear hG
  have CN := hid (court_New g (q + 1) w)
  go_enter Tryz.func7, Tryz.ntmps7
  go_wp2_with fail
  refine CN.out.mono ?_
  rintro e w1 ⟨c, g1, rfl, hE, hc, hC⟩
  have E2 := Evo.alloc g1 q w1 (.cells #[.string ⟨#[]⟩, .pointer (some ⟨c, 0, none⟩)] 48)
  have HP := hid (show NewPostR g q w (.returned (.pointer (some ⟨w1.heap.size, 0, none⟩))) (w1.alloc (.cells #[.string ⟨#[]⟩, .pointer (some ⟨c, 0, none⟩)] 48)) from
    ⟨w1.heap.size, c, _, rfl, hE.trans E2, hE.size, ⟨LocC.new g1 q w1 48 [.string ⟨#[]⟩, .pointer (some ⟨c, 0, none⟩)], hC.frame E2 (by omega), HG.out.frame (hE.trans E2) (by omega), Evo.refl _ _ _ _⟩⟩)
  clear hE hc hC E2 CN
  go_wp2
  go_ret
  exact HP.out

end Go.Proofs.YtoiobhcgpajogaaGreatDoor

/- The walk of the law DeskDoes. -/
namespace Go.Proofs.YtoiobhcgpajogaaGreatDoor
open Go.RowKit

theorem faultD_le {L : List (List UInt8)} (h : (faultD L).1 = 0) : L.length ≤ 150 := by
  refine Classical.byContradiction fun hn => ?_
  rw [faultD_many (by omega)] at h
  simp at h

theorem faultD_eq {L : List (List UInt8)} (h : (faultD L).1 = 0) : faultD L = (0, 0) := by
  unfold faultD at h ⊢
  split
  · rename_i h1; rw [if_pos h1] at h; simp at h
  · rename_i h1
    rw [if_neg h1] at h
    cases e : L.findIdx? nlD with
    | none => rfl
    | some i => rw [e] at h; simp at h

set_option maxHeartbeats 8000000 in
set_option maxRecDepth 100000 in
theorem walk_DeskDoes (a : Option Addr) (ca : Nat) (xs : List ByteArray) (b : Option Addr) (cb : Nat) (ys : List ByteArray) (w : World)
    (hn1 : xs.length ≤ maxLen) (_ : xs.length ≤ ca) (hx1 : ∀ x ∈ xs, x.size ≤ 140737488355328) (hA1 : LinesAt w (fun _ => 0) a xs)
    (hn2 : ys.length ≤ maxLen) (_ : ys.length ≤ cb) (hx2 : ∀ x ∈ ys, x.size ≤ 140737488355328) (hA2 : LinesAt w (fun _ => 0) b ys) (hG : GlobC w (fun _ => 0)) :
    Calls Tryz.prog 3 #[.slice a xs.length ca, .slice b ys.length cb] w fun e w' => e = .returned (.bool true) ∧ Below w.heap.size w w' := by
  have CB := hid (law_begun w hG)
  have HA := hid hA1
  have HY := hid hA2
  have HG := hid hG
  have H1 := hid hx1
  have H2 := hid hx2
  have hm1 := hid hn1
  have hm2 := hid hn2
  have hi1 : (xs.length : Int) ≤ 9223372036854775807 := by unfold maxLen at hn1; omega
  have hi2 : (ys.length : Int) ≤ 9223372036854775807 := by unfold maxLen at hn2; omega
  clear hA1 hA2 hG hx1 hx2 hn1 hn2
  go_enter Tryz.func3, Tryz.ntmps3
  go_wp2_with fail
  refine CB.out.mono ?_
  rintro e w1 ⟨rfl, hb1⟩
  have A1 := hid (HA.out.below hb1)
  have Y1 := hid (HY.out.below hb1)
  have G1 := hid (HG.out.below hb1)
  have B1 := hid hb1
  clear hb1 CB HA HY HG
  by_cases h200 : 200 < xs.length
  · have h1 : (200 : Int) < (xs.length : Int) := by omega
    clear h200
    go_wp2
    go_ret
    exact ⟨rfl, B1.out⟩
  by_cases h201 : 200 < ys.length
  · have h1 : ¬ (200 : Int) < (xs.length : Int) := by omega
    have h2 : (200 : Int) < (ys.length : Int) := by omega
    clear h200 h201
    go_wp2
    go_ret
    exact ⟨rfl, B1.out⟩
  have hle1 : xs.length ≤ 200 := by omega
  have hle2 : ys.length ≤ 200 := by omega
  have hli1 : (xs.length : Int) ≤ 200 := by omega
  have hli2 : (ys.length : Int) ≤ 200 := by omega
  have CS := hid (law_slow (fun _ => 0) a ca xs w1 A1.out hm1.out H1.out)
  clear h200 h201
  go_wp2_with fail
  refine CS.out.mono ?_
  rintro e w2 ⟨hb2, bs, rfl, hsl⟩
  have A2 := hid (A1.out.below hb2)
  have Y2 := hid (Y1.out.below hb2)
  have G2 := hid (G1.out.below hb2)
  have B2 := hid (B1.out.trans (hb2.mono B1.out.size))
  clear hb2 CS A1 Y1 G1 B1
  cases bs with
  | true =>
    go_wp2
    go_ret
    exact ⟨rfl, B2.out⟩
  | false =>
    have S1 := hid (hsl rfl)
    clear hsl
    have CS := hid (law_slow (fun _ => 0) b cb ys w2 Y2.out hm2.out H2.out)
    go_wp2_with fail
    refine CS.out.mono ?_
    rintro e w3 ⟨hb3, bs, rfl, hsl⟩
    have A3 := hid (A2.out.below hb3)
    have Y3 := hid (Y2.out.below hb3)
    have G3 := hid (G2.out.below hb3)
    have B3 := hid (B2.out.trans (hb3.mono B2.out.size))
    clear hb3 CS A2 Y2 G2 B2 hm1 hm2 H1 H2
    cases bs with
    | true =>
      go_wp2
      go_ret
      exact ⟨rfl, B3.out⟩
    | false =>
      have S2 := hid (hsl rfl)
      clear hsl
      have CN := hid (desk_New (fun _ => 0) 1 w3 G3.out)
      go_wp2_with fail
      refine CN.out.mono ?_
      rintro e w4 ⟨d, hh, g4, rfl, hE4, -, hK4⟩
      have E4 := hid hE4
      have K4 := hid hK4
      have G4 := hid (G3.out.frame hE4 (by omega))
      have A4 := hid (A3.out.evo hE4 (by omega))
      have Y4 := hid (Y3.out.evo hE4 (by omega))
      have CM := hid (ref_New g4 23 w4 G4.out)
      clear hE4 hK4 CN A3 Y3 G3
      go_wp2_with fail
      refine CM.out.mono ?_
      rintro e w5 ⟨d', c', g5, rfl, hE5, -, hK5⟩
      go_upto_region 8 with (fail)
      have hA6 := Evo.alloc g5 0 w5 (.cells #[.slice a xs.length ca, .slice b ys.length cb] 22)
      have L6 := hid (LocC.new g5 0 w5 22 [.slice a xs.length ca, .slice b ys.length cb])
      have E6 := hid (show Evo 1 100 (fun _ => 0) (extc g5 w5 0) w3 (w5.alloc (.cells #[.slice a xs.length ca, .slice b ys.length cb] 22)) from ((E4.out.trans hE5).trans hA6).none (by omega))
      have K6 := hid (((K4.out.fresh hE5).fresh hA6).self)
      have R6 := hid ((hK5.fresh hA6).self)
      have A6 := hid ((A4.out.evo hE5 (by omega)).evo hA6 (by omega))
      have Y6 := hid ((Y4.out.evo hE5 (by omega)).evo hA6 (by omega))
      clear hE5 hK5 hA6 CM E4 K4 G4 A4 Y4
      generalize w5.alloc (.cells #[.slice a xs.length ca, .slice b ys.length cb] 22) = w6 at *
      generalize extc g5 w5 0 = g6 at *
      generalize w5.heap.size = bl at *
      go_wp2_with fail
      go_loopw [8] (fun i wr => ∃ (k : Nat) (H : Ht) (t : List UInt8) (g2 : Nat → Nat), k ≤ 2 ∧ i = .int .i64 k ∧ Hid (DkIdle wr g2 1 d hh H g2 wr) ∧ Hid (RDk wr g2 23 d' c' t (1200 * k) H g2 wr) ∧ Hid (GoodD H) ∧ Hid (LinesAt wr g2 a xs) ∧ Hid (LinesAt wr g2 b ys) ∧ Hid (LocC wr g2 0 bl 22 [.slice a xs.length ca, .slice b ys.length cb]) ∧ Hid (Evo 1 100 (fun _ => 0) g2 w3 wr)) (fun i _ => 2 - (intOf i).toNat)
      case atStart => exact ⟨0, Ht.new, [], g6, Nat.zero_le _, rfl, K6, R6, hid GoodD.new, A6, Y6, L6, E6⟩
      case round =>
        clear K6 R6 A6 Y6 L6 E6
        obtain ⟨k, H, t, g2, hk, rfl, K, R, GD, A, Y, L, E⟩ := hrel
        by_cases hlt : k < 2
        · have hki : (k : Int) < 2 := by omega
          have hk0 : (0 : Int) ≤ (k : Int) := by omega
          obtain ⟨al, cl, zs, c0, hZA, hZS, hZL⟩ : ∃ al cl zs, wr.cell? ⟨bl, k, none⟩ = some (.slice al zs.length cl) ∧ LinesAt wr g2 al zs ∧ (∀ x ∈ zs, x.size ≤ 9000) ∧ zs.length ≤ 200 := by
            match k, hlt with
            | 0, _ => exact ⟨a, ca, xs, L.out.1.cell 0, A.out, S1.out, hle1⟩
            | 1, _ => exact ⟨b, cb, ys, L.out.1.cell 1, Y.out, S2.out, hle2⟩
          have ZA := hid hZA
          have ZS := hid hZS
          have CD := desk_Do g2 1 d hh H wr (by omega) K.out GD.out al cl zs hZA (fun x hx => Nat.le_trans (hZS x hx) (by omega)) (by omega)
          generalize hZ : zs.map (·.data.toList) = Z at *
          have HZ := hid hZ
          have hZl : Z.length ≤ 200 := by rw [← hZ]; simpa using hZL
          clear hZA hZS hZ
          have CD := hid CD
          by_cases hf : (faultD Z).1 = 0
          · have hF := faultD_eq hf
            have hZ150 := faultD_le hf
            have hd := doD_fine (H := H) hF
            go_wp2_with fail
            refine CD.out.mono ?_
            rintro e w7 ⟨rfl, hg7, -, g7, hK7⟩
            rw [hd] at hg7 hK7
            rw [hd, hF]
            simp only
            clear hd hf
            go_upto_region 12 with (fail)
            have hA8 := Evo.alloc g7 0 w7 (.cells #[.int .i64 (0), .int .i64 (0)] 31)
            have F8 := hid (LocC.new g7 0 w7 31 [.int .i64 (0), .int .i64 (0)])
            have K8 := hid ((hK7.fresh hA8).self)
            have R8 := hid (((R.out.apart hK7.evo (by omega) (by omega)).fresh hA8).self)
            have A8 := hid ((A.out.evo hK7.evo (by omega)).evo hA8 (by omega))
            have Y8 := hid ((Y.out.evo hK7.evo (by omega)).evo hA8 (by omega))
            have Z8 := hid ((ZA.out.evo hK7.evo (by omega)).evo hA8 (by omega))
            have L8 := hid ((L.out.frame hK7.evo (by omega)).frame hA8 (by omega))
            have E8 := hid ((E.out.trans (hK7.evo.wide (by omega) (by omega))).trans (hA8.none (by omega)))
            have c8 := hA8.cell (hK7.evo.cell c0 (.inl (by show g2 bl < 1; rw [L.out.2]; omega))) (.inr (Nat.zero_le _))
            clear hK7 hA8 CD K R A Y L E ZA c0
            generalize w7.alloc (.cells #[.int .i64 (0), .int .i64 (0)] 31) = w8 at *
            generalize extc g7 w7 0 = g8 at *
            generalize w7.heap.size = b10 at *
            have CF := ref_LinesFault g8 al cl zs w8 Z8.out (by omega) (fun x hx => Nat.le_trans (ZS.out x hx) (by omega))
            rw [HZ.out, hF] at CF
            have CF := hid CF
            go_wp2_with fail
            refine CF.out.mono ?_
            rintro e w9 ⟨rfl, hb9⟩
            go_upto_region 13 with (fail)
            have hB10 := hb9.trans (((Below.refl w9.heap.size w9).alloc (Nat.le_refl _) (.cells #[.int .i64 (0), .int .i64 (0)] 31)).mono hb9.size)
            have F10 := hid (F8.out.below hB10)
            have G10 := hid (Loc.new w9 31 [.int .i64 (0), .int .i64 (0)])
            have K10 := hid ((K8.out.below hB10).self)
            have R10 := hid ((R8.out.below hB10).self)
            have A10 := hid (A8.out.below hB10)
            have Y10 := hid (Y8.out.below hB10)
            have Z10 := hid (Z8.out.below hB10)
            have L10 := hid (L8.out.below hB10)
            have E10 := hid (E8.out.trans (Evo.of_same hB10))
            have c10 := cell_below c8 hB10
            clear hb9 hB10 CF K8 R8 A8 Y8 Z8 L8 E8 F8 c8
            generalize w9.alloc (.cells #[.int .i64 (0), .int .i64 (0)] 31) = w10 at *
            generalize w9.heap.size = b11 at *
            have f0 : w10.cell? ⟨b10, 0, none⟩ = some (.int .i64 (0)) := F10.out.1.cell 0
            have f1 : w10.cell? ⟨b10, 1, none⟩ = some (.int .i64 (0)) := F10.out.1.cell 1
            have u0 : w10.cell? ⟨b11, 0, none⟩ = some (.int .i64 (0)) := G10.out.cell 0
            have u1 : w10.cell? ⟨b11, 1, none⟩ = some (.int .i64 (0)) := G10.out.cell 1
            have hzl : zs.length ≤ 150 := by have : (zs.map (·.data.toList)).length ≤ 150 := by rw [HZ.out]; exact hZ150
                                             simpa using this
            have CR := ref_Do g8 23 d' c' (1200 * k) t H w10 (by omega) (by omega) R10.out GD.out al cl zs Z10.out (fun x hx => Nat.le_trans (ZS.out x hx) (by omega)) hzl
            rw [HZ.out] at CR
            have CR := hid CR
            generalize hT : linesD ([], H) Z = T at *
            have HT := hid hT
            clear hT R10
            go_wp2_with fail
            refine CR.out.mono ?_
            rintro e w11 ⟨rfl, -, g11, hR11⟩
            rw [HT.out] at hR11 ⊢
            have K11 := hid ((K10.out.apart hR11.evo (by omega) (by omega)).self)
            have A11 := hid (A10.out.evo hR11.evo (by omega))
            have Y11 := hid (Y10.out.evo hR11.evo (by omega))
            have L11 := hid (L10.out.frame hR11.evo (by omega))
            have E11 := hid (E10.out.trans (hR11.evo.wide (by omega) (by omega)))
            have R11 := hid (show RDk w11 g11 23 d' c' T.1 (1200 * (k + 1)) T.2 g11 w11 from by
              have := hR11.self
              rwa [show 1200 * k + 1200 = 1200 * (k + 1) by omega] at this)
            have GN := hid hg7
            clear hR11 hg7 CR K10 A10 Y10 L10 E10 Z10 F10 G10 f0 f1 u0 u1 c10
            go_wp2
            go_roundw
            case rel => exact ⟨k + 1, T.2, T.1, g11, by omega, by go_num, K11, R11, GN, A11, Y11, L11, E11⟩
            case measure => simp [intOf]; omega
          · have hd := doD_fault (H := H) hf
            obtain ⟨fc, fa, hF⟩ : ∃ fc fa, faultD Z = (fc, fa) := ⟨_, _, rfl⟩
            rw [hF] at hf
            simp only at hf
            go_wp2_with fail
            refine CD.out.mono ?_
            rintro e w7 ⟨rfl, hg7, -, g7, hK7⟩
            rw [hd] at hg7 hK7
            rw [hd, hF]
            simp only
            have hq1 : (fc != 0) = true := by simpa using hf
            have hq2 : (fc == 0) = false := by simpa using hf
            clear hd hf
            go_upto_region 12 with (fail)
            have hA8 := Evo.alloc g7 0 w7 (.cells #[.int .i64 fc, .int .i64 fa] 31)
            have F8 := hid (LocC.new g7 0 w7 31 [.int .i64 fc, .int .i64 fa])
            have K8 := hid ((hK7.fresh hA8).self)
            have R8 := hid (((R.out.apart hK7.evo (by omega) (by omega)).fresh hA8).self)
            have A8 := hid ((A.out.evo hK7.evo (by omega)).evo hA8 (by omega))
            have Y8 := hid ((Y.out.evo hK7.evo (by omega)).evo hA8 (by omega))
            have Z8 := hid ((ZA.out.evo hK7.evo (by omega)).evo hA8 (by omega))
            have L8 := hid ((L.out.frame hK7.evo (by omega)).frame hA8 (by omega))
            have E8 := hid ((E.out.trans (hK7.evo.wide (by omega) (by omega))).trans (hA8.none (by omega)))
            have c8 := hA8.cell (hK7.evo.cell c0 (.inl (by show g2 bl < 1; rw [L.out.2]; omega))) (.inr (Nat.zero_le _))
            clear hK7 hA8 CD K R A Y L E ZA c0
            generalize w7.alloc (.cells #[.int .i64 fc, .int .i64 fa] 31) = w8 at *
            generalize extc g7 w7 0 = g8 at *
            generalize w7.heap.size = b10 at *
            have CF := ref_LinesFault g8 al cl zs w8 Z8.out (by omega) (fun x hx => Nat.le_trans (ZS.out x hx) (by omega))
            rw [HZ.out, hF] at CF
            have CF := hid CF
            go_wp2_with fail
            refine CF.out.mono ?_
            rintro e w9 ⟨rfl, hb9⟩
            go_upto_region 13 with (fail)
            have hB10 := hb9.trans (((Below.refl w9.heap.size w9).alloc (Nat.le_refl _) (.cells #[.int .i64 fc, .int .i64 fa] 31)).mono hb9.size)
            have F10 := hid (F8.out.below hB10)
            have G10 := hid (Loc.new w9 31 [.int .i64 fc, .int .i64 fa])
            have K10 := hid ((K8.out.below hB10).self)
            have R10 := hid ((R8.out.below hB10).self)
            have A10 := hid (A8.out.below hB10)
            have Y10 := hid (Y8.out.below hB10)
            have Z10 := hid (Z8.out.below hB10)
            have L10 := hid (L8.out.below hB10)
            have E10 := hid (E8.out.trans (Evo.of_same hB10))
            have c10 := cell_below c8 hB10
            clear hb9 hB10 CF K8 R8 A8 Y8 Z8 L8 E8 F8 c8
            generalize w9.alloc (.cells #[.int .i64 fc, .int .i64 fa] 31) = w10 at *
            generalize w9.heap.size = b11 at *
            have f0 : w10.cell? ⟨b10, 0, none⟩ = some (.int .i64 fc) := F10.out.1.cell 0
            have f1 : w10.cell? ⟨b10, 1, none⟩ = some (.int .i64 fa) := F10.out.1.cell 1
            have u0 : w10.cell? ⟨b11, 0, none⟩ = some (.int .i64 fc) := G10.out.cell 0
            have u1 : w10.cell? ⟨b11, 1, none⟩ = some (.int .i64 fa) := G10.out.cell 1
            have R11 := hid (R10.out.more (show 1200 * k ≤ 1200 * (k + 1) by omega))
            clear R10 Z10 F10 G10 c10 hg7
            go_wp2
            go_roundw
            case rel => exact ⟨k + 1, H, t, g8, by omega, by go_num, K10, R11, GD, A10, Y10, L10, E10⟩
            case measure => simp [intOf]; omega
        · obtain rfl : k = 2 := by omega
          have HB := hid (B3.out.trans (E.out.none0.mono B3.out.size))
          clear K R A Y L E
          go_wp2
          go_ret
          exact ⟨rfl, HB.out⟩

end Go.Proofs.YtoiobhcgpajogaaGreatDoor
