/- The walk of TextBack. -/
import Derived.Test.YtoiobhcgpajogaaText8
namespace Go.Proofs.Ytoiobhcgpajogaa
open Go.RowKit

theorem showL_beq (s t : ByteArray) : (showL t.data.toList == showL s.data.toList) = decide (s = t) := by
  by_cases h : s = t
  · subst h; simp
  · have : showL t.data.toList ≠ showL s.data.toList := fun e => h (Go.WideShapes.bytes_inj (showL_inj e).symm)
    rw [beq_eq_false_iff_ne.2 this]
    simp [h]

theorem valL_beq (s t : ByteArray) : (valL ⟨true, s⟩ == valL ⟨true, t⟩) = decide (s = t) := by
  by_cases h : s = t
  · subst h; simp
  · have : valL ⟨true, s⟩ ≠ valL ⟨true, t⟩ := by
      intro e
      have e' : (61 : UInt8) :: showL s.data.toList = 61 :: showL t.data.toList := e
      exact h (Go.WideShapes.bytes_inj (showL_inj (List.cons.inj e').2))
    rw [beq_eq_false_iff_ne.2 this]
    simp [h]

theorem valL_none (s : ByteArray) : (valL ⟨true, s⟩ == valL ⟨false, ⟨#[]⟩⟩) = false := by
  rw [beq_eq_false_iff_ne]
  intro e
  have e' : (61 : UInt8) :: showL s.data.toList = [45] := e
  injection e' with h
  revert h
  decide

theorem back_exact (s : ByteArray) (w : World) (A : ByteArray) (hA : A.data.toList = showL s.data.toList) (h : A.size ≤ 1000000) :
    Calls Try.prog 32 #[.string A] w fun e w' => e = .returned (.tuple #[.string s, .bool true]) ∧ Below w.heap.size w w' := by
  refine (text_Mean A w h).mono ?_
  rw [hA, meanL_showL]
  rintro e w' ⟨rfl, hb⟩
  exact ⟨by rw [show (some s.data.toList).getD [] = s.data.toList from rfl, ba_data]; rfl, hb⟩

set_option maxHeartbeats 8000000 in
set_option maxRecDepth 100000 in
theorem walk_TextBack (s t : ByteArray) (w : World) (hs : s.size ≤ 140737488351232) (ht : t.size ≤ 140737488351232) : Calls Try.prog 7 #[.string s, .string t] w (TruePost w) := by
  by_cases hg : 2000 < s.size + t.size
  · have hg' : (2000 : Int) < (s.size : Int) + (t.size : Int) := by omega
    go_enter Try.func7, Try.ntmps7
    go_wp2_with fail
    refine (law_textBegun _).mono ?_
    rintro e w1 ⟨rfl, hb⟩
    go_wp2
    go_ret
    exact ⟨rfl, hb⟩
  · have hg' : (s.size : Int) + (t.size : Int) ≤ 2000 := by omega
    have S0 := hid (show s.size ≤ 1000000 by omega)
    have T0 := hid (show t.size ≤ 1000000 by omega)
    have SL := hid (show s.size ≤ maxLen by unfold maxLen; omega)
    go_enter Try.func7, Try.ntmps7
    go_wp2_with fail
    refine (law_textBegun _).mono ?_
    rintro e w1 ⟨rfl, hb⟩
    have H1 := hid hb
    clear hb
    go_wp2_with fail
    refine (text_Show s _ S0.out).mono ?_
    rintro e w2 ⟨rfl, hb⟩
    have H2 := hid (H1.out.trans (hb.mono H1.out.size))
    clear hb H1
    have hln : (showL s.data.toList).length ≤ 6000 := by
      have := (showL_length s.data.toList).2
      have q3 : s.data.toList.length = s.size := by simp
      omega
    obtain ⟨A, hA⟩ : ∃ A : ByteArray, A = ⟨(showL s.data.toList).toArray⟩ := ⟨_, rfl⟩
    rw [← hA]
    have hA1 : A.data.toList = showL s.data.toList := by rw [hA]
    have hA2 : A.size ≤ 6000 := by rw [hA]; exact hln
    have hA3 : ∀ i (h : i < A.size), 33 ≤ A[i].toNat ∧ A[i].toNat ≤ 126 := fun i h => showL_range s.data.toList _ (by
      rw [← hA1]
      have : A[i] = A.data.toList[i]'(by simpa using h) := rfl
      rw [this]
      exact List.getElem_mem _)
    have HA1 := hid hA1
    have HA3 := hid hA3
    clear hln hA hA1 hA3
    go_wp2_with fail
    refine (back_exact s _ A HA1.out (by omega)).mono ?_
    rintro e w3 ⟨rfl, hb⟩
    have H3 := hid (H2.out.trans (hb.mono H2.out.size))
    clear hb H2
    by_cases hst : s = t
    · subst hst
      have f1 : (showL s.data.toList == A.toList) = true := by rw [toList_data, HA1.out]; simp
      go_wp2_with fail
      refine (text_Show _ _ S0.out).mono ?_
      rintro e w4 ⟨rfl, hb⟩
      have H4 := hid (H3.out.trans (hb.mono H3.out.size))
      clear hb H3
      go_wp2_with fail
      refine (law_has _ _).mono ?_
      rintro e w5 ⟨rfl, hb⟩
      have H5 := hid (H4.out.trans (hb.mono H4.out.size))
      clear hb H4
      go_wp2_with fail
      refine (text_Value _ _ _ S0.out).mono ?_
      rintro e w6 ⟨rfl, hb⟩
      have H6 := hid (H5.out.trans (hb.mono H5.out.size))
      clear hb H5
      go_wp2_with fail
      refine (law_has _ _).mono ?_
      rintro e w7 ⟨rfl, hb⟩
      have H7 := hid (H6.out.trans (hb.mono H6.out.size))
      clear hb H6
      go_wp2_with fail
      refine (text_Value _ _ _ S0.out).mono ?_
      rintro e w8 ⟨rfl, hb⟩
      have H8 := hid (H7.out.trans (hb.mono H7.out.size))
      clear hb H7
      go_wp2_with fail
      refine (law_has _ _).mono ?_
      rintro e w9 ⟨rfl, hb⟩
      have H9 := hid (H8.out.trans (hb.mono H8.out.size))
      clear hb H8
      go_wp2_with fail
      refine (text_Value _ _ _ S0.out).mono ?_
      rintro e wa ⟨rfl, hb⟩
      have Ha := hid (H9.out.trans (hb.mono H9.out.size))
      clear hb H9
      go_wp2_with fail
      refine (text_Value _ _ _ (by decide)).mono ?_
      rintro e wb ⟨rfl, hb⟩
      have Hb := hid (Ha.out.trans (hb.mono Ha.out.size))
      clear hb Ha
      have f4 := valL_none s
      go_wp2_with fail
      clear f4
      go_loop [8] (fun i => ∃ k : Nat, k ≤ A.size ∧ i = .int .i64 k) (fun i => A.size - (intOf i).toNat)
      case atStart => exact ⟨0, Nat.zero_le _, rfl⟩
      case round =>
        obtain ⟨k, hk, rfl⟩ := hrel
        by_cases hlt : k < A.size
        · have hr := HA3.out k hlt
          generalize hc : A[k] = c at *
          have g1 : (33 : Int) ≤ (c.toNat : Int) := by omega
          have g2 : (c.toNat : Int) ≤ 126 := by omega
          go_wp2
          go_round
          case rel => exact ⟨k + 1, by omega, by go_num⟩
          case measure => simp [intOf]; omega
        · obtain rfl : k = A.size := by omega
          go_wp2_with fail
          refine (text_Mean _ _ S0.out).mono ?_
          generalize hm : meanL _ = m
          cases m with
          | none =>
            rintro e wc ⟨rfl, hb⟩
            have Hc := hid (Hb.out.trans (hb.mono Hb.out.size))
            clear hb Hb
            go_wp2
            go_ret
            exact ⟨rfl, Hc.out⟩
          | some r =>
            have hr := (meanL_iff _ _).1 hm
            have hr2 : r.length ≤ 1000000 := by
              have h1 := (showL_length r).1
              rw [hr] at h1
              have h2 := S0.out
              simp at h1
              omega
            have R2 := hid hr2
            have f5 : (showL r == s.toList) = true := by rw [toList_data, hr]; simp
            clear hm hr hr2
            rintro e wc ⟨rfl, hb⟩
            have Hc := hid (Hb.out.trans (hb.mono Hb.out.size))
            clear hb Hb
            go_wp2_with fail
            refine (text_Show ⟨r.toArray⟩ _ R2.out).mono ?_
            rintro e wd ⟨rfl, hb⟩
            have Hd := hid (Hc.out.trans (hb.mono Hc.out.size))
            clear hb Hc
            go_wp2
            go_ret
            exact ⟨rfl, Hd.out⟩
    · have f1 : (showL t.data.toList == A.toList) = false := by rw [toList_data, HA1.out, showL_beq]; simpa using hst
      have f2 : (s.toList == t.toList) = false := by rw [toList_beq]; simpa using hst
      have f3 : (valL ⟨true, s⟩ == valL ⟨true, t⟩) = false := by rw [valL_beq]; simpa using hst
      clear hst
      go_wp2_with fail
      refine (text_Show _ _ T0.out).mono ?_
      rintro e w4 ⟨rfl, hb⟩
      have H4 := hid (H3.out.trans (hb.mono H3.out.size))
      clear hb H3
      go_wp2_with fail
      refine (law_has _ _).mono ?_
      rintro e w5 ⟨rfl, hb⟩
      have H5 := hid (H4.out.trans (hb.mono H4.out.size))
      clear hb H4
      go_wp2_with fail
      refine (text_Value _ _ _ S0.out).mono ?_
      rintro e w6 ⟨rfl, hb⟩
      have H6 := hid (H5.out.trans (hb.mono H5.out.size))
      clear hb H5
      go_wp2_with fail
      refine (law_has _ _).mono ?_
      rintro e w7 ⟨rfl, hb⟩
      have H7 := hid (H6.out.trans (hb.mono H6.out.size))
      clear hb H6
      go_wp2_with fail
      refine (text_Value _ _ _ T0.out).mono ?_
      rintro e w8 ⟨rfl, hb⟩
      have H8 := hid (H7.out.trans (hb.mono H7.out.size))
      clear hb H7
      go_wp2_with fail
      refine (law_has _ _).mono ?_
      rintro e w9 ⟨rfl, hb⟩
      have H9 := hid (H8.out.trans (hb.mono H8.out.size))
      clear hb H8
      go_wp2_with fail
      refine (text_Value _ _ _ S0.out).mono ?_
      rintro e wa ⟨rfl, hb⟩
      have Ha := hid (H9.out.trans (hb.mono H9.out.size))
      clear hb H9
      go_wp2_with fail
      refine (text_Value _ _ _ (by decide)).mono ?_
      rintro e wb ⟨rfl, hb⟩
      have Hb := hid (Ha.out.trans (hb.mono Ha.out.size))
      clear hb Ha
      have f4 := valL_none s
      go_wp2_with fail
      clear f4
      go_loop [8] (fun i => ∃ k : Nat, k ≤ A.size ∧ i = .int .i64 k) (fun i => A.size - (intOf i).toNat)
      case atStart => exact ⟨0, Nat.zero_le _, rfl⟩
      case round =>
        obtain ⟨k, hk, rfl⟩ := hrel
        by_cases hlt : k < A.size
        · have hr := HA3.out k hlt
          generalize hc : A[k] = c at *
          have g1 : (33 : Int) ≤ (c.toNat : Int) := by omega
          have g2 : (c.toNat : Int) ≤ 126 := by omega
          go_wp2
          go_round
          case rel => exact ⟨k + 1, by omega, by go_num⟩
          case measure => simp [intOf]; omega
        · obtain rfl : k = A.size := by omega
          go_wp2_with fail
          refine (text_Mean _ _ T0.out).mono ?_
          generalize hm : meanL _ = m
          cases m with
          | none =>
            rintro e wc ⟨rfl, hb⟩
            have Hc := hid (Hb.out.trans (hb.mono Hb.out.size))
            clear hb Hb
            go_wp2
            go_ret
            exact ⟨rfl, Hc.out⟩
          | some r =>
            have hr := (meanL_iff _ _).1 hm
            have hr2 : r.length ≤ 1000000 := by
              have h1 := (showL_length r).1
              rw [hr] at h1
              have h2 := T0.out
              simp at h1
              omega
            have R2 := hid hr2
            have f5 : (showL r == t.toList) = true := by rw [toList_data, hr]; simp
            clear hm hr hr2
            rintro e wc ⟨rfl, hb⟩
            have Hc := hid (Hb.out.trans (hb.mono Hb.out.size))
            clear hb Hb
            go_wp2_with fail
            refine (text_Show ⟨r.toArray⟩ _ R2.out).mono ?_
            rintro e wd ⟨rfl, hb⟩
            have Hd := hid (Hc.out.trans (hb.mono Hc.out.size))
            clear hb Hc
            go_wp2
            go_ret
            exact ⟨rfl, Hd.out⟩

end Go.Proofs.Ytoiobhcgpajogaa
