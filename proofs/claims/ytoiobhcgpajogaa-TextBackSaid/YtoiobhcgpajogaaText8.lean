/- The walks of textBegun, TextJoins. -/
import Derived.Test.YtoiobhcgpajogaaText7
import Derived.Test.YtoiobhcgpajogaaLaw01a
namespace Go.Proofs.Ytoiobhcgpajogaa
open Go.RowKit

theorem tb1 : meanL [97, 92, 50, 48, 92, 53, 99] = some [97, 32, 92] := (meanL_iff _ _).2 (by decide)
theorem tb2 : meanL [92, 52, 49] = none := by decide
theorem tb3 : showL [97, 32, 92] = [97, 92, 50, 48, 92, 53, 99] := by decide

theorem beq_same {α : Type} [BEq α] [LawfulBEq α] (a : α) : (a == a) = true := by simp

set_option maxHeartbeats 1000000 in
set_option maxRecDepth 100000 in
theorem law_textBegun (w : World) : Calls Try.prog 31 #[] w (TruePost w) := by
  have m1 := fun w => text_Mean ⟨#[97, 92, 50, 48, 92, 53, 99]⟩ w (by decide)
  rw [show (⟨#[97, 92, 50, 48, 92, 53, 99]⟩ : ByteArray).data.toList = [97, 92, 50, 48, 92, 53, 99] from rfl, tb1] at m1
  have m2 := fun w => text_Mean ⟨#[92, 52, 49]⟩ w (by decide)
  rw [show (⟨#[92, 52, 49]⟩ : ByteArray).data.toList = [92, 52, 49] from rfl, tb2] at m2
  have s1 := fun w => text_Show ⟨#[97, 32, 92]⟩ w (by decide)
  rw [show (⟨#[97, 32, 92]⟩ : ByteArray).data.toList = [97, 32, 92] from rfl, tb3] at s1
  have M1 := hid m1
  have M2 := hid m2
  have S1 := hid s1
  clear m1 m2 s1
  go_enter Try.func31, Try.ntmps31
  go_wp2_with fail
  refine (M1.out _).mono ?_
  rintro e w1 ⟨rfl, hb⟩
  have H1 := hid hb
  clear hb
  go_wp2_with fail
  refine (M2.out _).mono ?_
  rintro e w2 ⟨rfl, hb⟩
  have H2 := hid (H1.out.trans (hb.mono H1.out.size))
  clear hb H1
  go_wp2_with fail
  refine (S1.out _).mono ?_
  rintro e w3 ⟨rfl, hb⟩
  have H3 := hid (H2.out.trans (hb.mono H2.out.size))
  clear hb H2
  go_wp2_with fail
  refine (text_Value _ _ _ (by decide)).mono ?_
  rintro e w4 ⟨rfl, hb⟩
  have H4 := hid (H3.out.trans (hb.mono H3.out.size))
  clear hb H3
  go_wp2_with fail
  refine (law_has _ _).mono ?_
  rintro e w5 ⟨rfl, hb⟩
  have H5 := hid (H4.out.trans (hb.mono H4.out.size))
  clear hb H4
  go_wp2_with fail
  refine (text_Value _ _ _ (by decide)).mono ?_
  rintro e w6 ⟨rfl, hb⟩
  have H6 := hid (H5.out.trans (hb.mono H5.out.size))
  clear hb H5
  go_wp2
  go_ret
  exact ⟨by rw [show valL ⟨true, ⟨#[]⟩⟩ = [61] from rfl]; rfl, H6.out⟩

set_option maxHeartbeats 2000000 in
set_option maxRecDepth 100000 in
theorem walk_TextJoins (s t : ByteArray) (w : World) (hs : s.size ≤ 140737488351232) (ht : t.size ≤ 140737488351232) : Calls Try.prog 8 #[.string s, .string t] w (TruePost w) := by
  by_cases hg : 2000 < s.size + t.size
  · have hg' : (2000 : Int) < (s.size : Int) + (t.size : Int) := by omega
    go_enter Try.func8, Try.ntmps8
    go_wp2_with fail
    refine (law_textBegun _).mono ?_
    rintro e w1 ⟨rfl, hb⟩
    go_wp2
    go_ret
    exact ⟨rfl, hb⟩
  · have hg' : (s.size : Int) + (t.size : Int) ≤ 2000 := by omega
    go_enter Try.func8, Try.ntmps8
    go_wp2_with fail
    refine (law_textBegun _).mono ?_
    rintro e w1 ⟨rfl, hb⟩
    have H1 := hid hb
    clear hb
    go_wp2_with fail
    refine (text_Show s _ (by omega)).mono ?_
    rintro e w2 ⟨rfl, hb⟩
    have H2 := hid (H1.out.trans (hb.mono H1.out.size))
    clear hb H1
    go_wp2_with fail
    refine (text_Show t _ (by omega)).mono ?_
    rintro e w3 ⟨rfl, hb⟩
    have H3 := hid (H2.out.trans (hb.mono H2.out.size))
    clear hb H2
    have q2 := showL_length s.data.toList
    have q3 : s.data.toList.length = s.size := by simp
    rw [q3] at q2
    have r2 := showL_length t.data.toList
    have r3 : t.data.toList.length = t.size := by simp
    rw [r3] at r2
    clear q3 r3
    obtain ⟨q2a, q2⟩ := q2
    obtain ⟨r2a, r2⟩ := r2
    have hst := hid (show (s ++ t).data.toList = s.data.toList ++ t.data.toList by simp)
    go_wp2_with fail
    refine (text_Show (s ++ t) _ (by simp; omega)).mono ?_
    rw [hst.out, showL_append]
    rintro e w4 ⟨rfl, hb⟩
    have H4 := hid (H3.out.trans (hb.mono H3.out.size))
    clear hb H3
    have q1 : ((⟨(showL s.data.toList).toArray⟩ ++ ⟨(showL t.data.toList).toArray⟩ : ByteArray).toList == showL s.data.toList ++ showL t.data.toList) = true := by rw [ba_append, toList_data]; simp
    have q4 : ((s.size : Nat) : Int) ≤ ((showL s.data.toList).length : Int) := by omega
    have q5 : ((showL s.data.toList).length : Int) ≤ 3 * (s.size : Int) := by omega
    go_wp2_with fail
    refine (text_Show s _ (by omega)).mono ?_
    rintro e w5 ⟨rfl, hb⟩
    have H5 := hid (H4.out.trans (hb.mono H4.out.size))
    clear hb H4
    go_wp2_with fail
    refine (text_Show s _ (by omega)).mono ?_
    rintro e w6 ⟨rfl, hb⟩
    have H6 := hid (H5.out.trans (hb.mono H5.out.size))
    clear hb H5
    go_wp2
    go_ret
    exact ⟨rfl, H6.out⟩

end Go.Proofs.Ytoiobhcgpajogaa
