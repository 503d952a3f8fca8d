/- The walks of the document's Shown and ValueText. -/
import Derived.Test.YtoiobhcgpajogaaText2
namespace Go.Proofs.Ytoiobhcgpajogaa
open Go.RowKit

theorem ext_one (s : ByteArray) (k : Nat) (h : k < s.size) : s.extract k (k + 1) = ⟨#[s[k]]⟩ := by
  apply Go.WideShapes.bytes_inj
  have h' : k < s.data.toList.length := by simpa using h
  simp only [ByteArray.data_extract, Array.toList_extract, List.extract_eq_take_drop]
  rw [List.drop_eq_getElem_cons h']
  simp
  rfl

theorem hex_ext (n : Nat) (h : n < 16) : (⟨#[48, 49, 50, 51, 52, 53, 54, 55, 56, 57, 97, 98, 99, 100, 101, 102]⟩ : ByteArray).extract n (n + 1) = ⟨#[hexD n]⟩ := by
  rw [ext_one _ n (show n < ByteArray.size ⟨#[48, 49, 50, 51, 52, 53, 54, 55, 56, 57, 97, 98, 99, 100, 101, 102]⟩ from h), hex_get n h]

set_option maxHeartbeats 4000000 in
set_option maxRecDepth 100000 in
theorem ref_Shown (s : ByteArray) (w : World) (hs : s.size ≤ 1000000) : Calls Try.prog 35 #[.string s] w (StrPost (showL s.data.toList) w) := by
  go_enter Try.func35, Try.ntmps35
  go_wp2
  go_loopw [4, 5] (fun o i wr => ∃ (k : Nat) (r : ByteArray), k ≤ s.size ∧ i = .int .i64 k ∧ o = .string r ∧ Hid (r = ⟨(showL (s.data.toList.take k)).toArray⟩) ∧ r.size ≤ 3 * k ∧ Below w.heap.size w wr) (fun _ i _ => s.size - (intOf i).toNat)
  case atStart => exact ⟨0, ⟨#[]⟩, Nat.zero_le _, rfl, rfl, hid rfl, by simp [ByteArray.size], Below.refl _ _⟩
  case round =>
    obtain ⟨k, r, hk, rfl, rfl, HR, hr, hb⟩ := hrel
    have HB := hid hb
    clear hb
    by_cases hlt : k < s.size
    · have hlt' : k < s.data.toList.length := by simpa using hlt
      have hst : showL (s.data.toList.take (k + 1)) = showL (s.data.toList.take k) ++ showByte s[k] := by
        rw [List.take_succ_eq_append_getElem hlt', showL_append]; simp [showL]; rfl
      have hx := ext_one s k hlt
      have ST := hid hst
      have HX := hid hx
      clear hst hx
      generalize hc : s[k] = c at *
      have hc256 : c.toNat < 256 := c.toNat_lt
      have hcc : (c.toNat : Int) < 256 := by omega
      by_cases hp : 32 < c.toNat ∧ c.toNat < 127 ∧ c.toNat ≠ 92
      · obtain ⟨p1, p2, p3⟩ := hp
        have p1' : (33 : Int) ≤ (c.toNat : Int) := by omega
        have p2' : (c.toNat : Int) ≤ 126 := by omega
        have p3' : ((c.toNat : Int) != 92) = true := by simp; omega
        have hsb := hid (show showByte c = [c] by unfold showByte plainB; rw [if_pos (by simp; omega)])
        clear p3
        go_wp2
        go_roundw
        case rel =>
          refine ⟨k + 1, _, by omega, by go_num, rfl, hid ?_, ?_, HB.out⟩
          · rw [HX.out, HR.out, ST.out, hsb.out]; exact ba_append _ [c]
          · rw [HX.out]; simp; show _ + 1 ≤ _; omega
        case measure => simp [intOf]; omega
      · have hsb := hid (show showByte c = [92, hexD (c.toNat / 16), hexD (c.toNat % 16)] by unfold showByte plainB; rw [if_neg (by simp; omega)])
        have hcase : c.toNat ≤ 32 ∨ (32 < c.toNat ∧ 127 ≤ c.toNat) ∨ (32 < c.toNat ∧ c.toNat < 127 ∧ c.toNat = 92) := by omega
        clear hp
        have d1 : c.toNat / 16 < 16 := by omega
        have d2 : c.toNat % 16 < 16 := by omega
        rcases hcase with h | ⟨h, h'⟩ | ⟨h, h', h''⟩
        case' inl => have h1 : (c.toNat : Int) < 33 := by omega
        case' inr.inl => have h1 : (33 : Int) ≤ (c.toNat : Int) := by omega
        case' inr.inl => have h2 : (126 : Int) < (c.toNat : Int) := by omega
        case' inr.inr => have h1 : (33 : Int) ≤ (c.toNat : Int) := by omega
        case' inr.inr => have h2 : (c.toNat : Int) ≤ 126 := by omega
        case' inr.inr => have h3 : ((c.toNat : Int) != 92) = false := by simp; omega
        case' inr.inr => clear h''
        all_goals
          go_wp2_with fail
          go_quiet (fail)
          go_wp2
          go_roundw
          case rel =>
            refine ⟨k + 1, _, by omega, by go_num, rfl, hid ?_, ?_, HB.out.trans ((below_drewN _ _).mono HB.out.size)⟩
            · rw [hex_ext _ d1, hex_ext _ d2, HR.out, ST.out, hsb.out]
              rw [show (⟨#[92]⟩ : ByteArray) ++ ⟨#[hexD (c.toNat / 16)]⟩ = ⟨[92, hexD (c.toNat / 16)].toArray⟩ from ba_append [92] [_],
                show (⟨[92, hexD (c.toNat / 16)].toArray⟩ : ByteArray) ++ ⟨#[hexD (c.toNat % 16)]⟩ = ⟨[92, hexD (c.toNat / 16), hexD (c.toNat % 16)].toArray⟩ from ba_append [92, _] [_]]
              exact ba_append _ _
            · rw [hex_ext _ d1, hex_ext _ d2]; simp; show _ + 3 ≤ _; omega
          case measure => simp [intOf]; omega
    · obtain rfl : k = s.size := by omega
      have e : s.data.toList.take s.size = s.data.toList := List.take_of_length_le (by simp)
      rw [e] at HR
      go_wp2
      go_ret
      exact ⟨by rw [← HR.out]; rfl, HB.out⟩

set_option maxHeartbeats 1000000 in
set_option maxRecDepth 100000 in
theorem ref_ValueText (t : Bool) (s : ByteArray) (w : World) (hs : s.size ≤ 1000000) : Calls Try.prog 37 #[.agg #[.bool t, .string s]] w (StrPost (valL ⟨t, s⟩) w) := by
  cases t
  · have e1 : valL ⟨false, s⟩ = [45] := rfl
    rw [e1]
    go_enter Try.func37, Try.ntmps37
    go_wp2
    go_ret
    exact ⟨rfl, (Below.refl _ _).alloc (Nat.le_refl _) _⟩
  · have e1 : valL ⟨true, s⟩ = 61 :: showL s.data.toList := rfl
    rw [e1]
    go_enter Try.func37, Try.ntmps37
    go_wp2_with fail
    refine (ref_Shown s _ hs).mono ?_
    rintro e w1 ⟨rfl, hb1⟩
    have hln := (showL_length s.data.toList).2
    have hs2 : s.data.toList.length = s.size := by simp
    go_wp2
    go_ret
    refine ⟨?_, ((Below.refl _ _).alloc (Nat.le_refl _) _).trans (hb1.mono (by simp))⟩
    show Ending.returned (.string _) = _
    exact congrArg (fun x => Ending.returned (.string x)) (ba_append [61] _)

end Go.Proofs.Ytoiobhcgpajogaa
