/- The walk of Meant. -/
import Derived.Test.YtoiobhcgpajogaaText6
import Derived.Laws.IdiomStrings
namespace Go.Proofs.Ytoiobhcgpajogaa
open Go.RowKit

def hasP (t : List UInt8) (k : Nat) (c : Nat) : Prop := showByte (UInt8.ofNat c) <+: t.drop k

theorem conv_one (n : Nat) (hn : n < 256) (w : World) : (convert 56 9 (.slice (some ⟨w.heap.size, 0, none⟩) 1 1)).run Try.prog (w.alloc (.cells #[.int .u8 n] 5)) = .ok (.string ⟨#[UInt8.ofNat n]⟩) (w.alloc (.cells #[.int .u8 n] 5)) := by
  refine run_convert_bytes_back _ _ _ 5 ⟨w.heap.size, 0, none⟩ 1 [UInt8.ofNat n] Try.underlying56 Try.underlying5 Try.underlying9 ?_
  intro j hj
  obtain rfl : j = 0 := by simpa using hj
  have e : (UInt8.ofNat n).toNat = n := by simp; omega
  refine (World.cell?_alloc_new w _ _ 0).trans ?_
  simp only [List.getElem_cons_zero, e]
  rfl

theorem pre_of_take {t u : List UInt8} (k : Nat) (h : (t.drop k).take u.length = u) : u <+: t.drop k :=
  ⟨(t.drop k).drop u.length, (congrArg (· ++ (t.drop k).drop u.length) h.symm).trans (List.take_append_drop _ _)⟩

theorem take_of_pre {t u : List UInt8} (k : Nat) (h : u <+: t.drop k) : (t.drop k).take u.length = u := by
  obtain ⟨v, hv⟩ := h
  rw [← hv]
  simp

set_option maxHeartbeats 4000000 in
set_option maxRecDepth 100000 in
theorem ref_Meant (t : ByteArray) (w : World) (ht : t.size ≤ 1000000) : Calls Try.prog 33 #[.string t] w (MeanPost (meanL t.data.toList) w) := by
  go_enter Try.func33, Try.ntmps33
  go_wp2
  go_loopw [4, 5] (fun o i wr => ∃ (k : Nat) (acc : List UInt8), k ≤ t.size ∧ acc.length ≤ k ∧ i = .int .i64 k ∧ o = .string ⟨acc.toArray⟩ ∧ Hid (showL acc = t.data.toList.take k) ∧ Below w.heap.size w wr) (fun _ i _ => t.size - (intOf i).toNat)
  case atStart => exact ⟨0, [], Nat.zero_le _, Nat.le_refl _, rfl, rfl, hid rfl, Below.refl _ _⟩
  case round =>
    obtain ⟨k, acc, hk, hak, rfl, rfl, HR, hb⟩ := hrel
    have HB := hid hb
    clear hb
    by_cases hlt : k < t.size
    · go_wp2
      go_loopw [4, 5, 6, 7] (fun o i h c wr' => ∃ (n : Nat), n ≤ 256 ∧ c = .int .i64 n ∧ Below w.heap.size w wr' ∧
        ((o = .string ⟨acc.toArray⟩ ∧ i = .int .i64 k ∧ h = .bool false ∧ Hid (∀ d < n, ¬ hasP t.data.toList k d)) ∨
         (∃ d < 256, o = .string ⟨(acc ++ [UInt8.ofNat d]).toArray⟩ ∧ i = .int .i64 ((k + (showByte (UInt8.ofNat d)).length : Nat) : Int) ∧ h = .bool true ∧ Hid (hasP t.data.toList k d)))) (fun _ _ _ c _ => 256 - (intOf c).toNat)
      case atStart => exact ⟨0, by omega, rfl, HB.out, .inl ⟨rfl, rfl, rfl, hid (by omega)⟩⟩
      case round =>
        obtain ⟨n, hn, rfl, hb, ⟨rfl, rfl, rfl, HN⟩ | ⟨d, hd, rfl, rfl, rfl, HP⟩⟩ := hrel
        · by_cases hn2 : n < 256
          · have kc := conv_one n hn2
            have HB := hid hb
            clear hb
            go_wp2_with fail
            refine (ref_Shown _ _ (by show 1 ≤ _; omega)).mono ?_
            rintro e w1 ⟨rfl, hb1⟩
            have e1 : showL (⟨#[UInt8.ofNat n]⟩ : ByteArray).data.toList = showByte (UInt8.ofNat n) := showL_one _
            rw [e1]
            have hbn := hid (HB.out.trans (((Below.refl _ _).alloc (Nat.le_refl _) _ |>.mono HB.out.size).trans (hb1.mono (by have := HB.out.size; simp; omega))))
            clear hb1 e1
            have hln := showByte_length (UInt8.ofNat n)
            have HP := hid (show hasP t.data.toList k n ↔ showByte (UInt8.ofNat n) <+: t.data.toList.drop k from Iff.rfl)
            have HU0 : Hid (showByte (UInt8.ofNat n) = showByte (UInt8.ofNat n)) := hid rfl
            generalize hu : showByte (UInt8.ofNat n) = u at hln HP ⊢
            have HU0 := hid hu
            clear hu
            by_cases hfit : k + u.length ≤ t.size
            · have f1 : (k : Int) + (u.length : Int) ≤ (t.size : Int) := by omega
              have hex : (t.extract k (k + u.length)).toList = (t.data.toList.drop k).take u.length := by rw [Lib.extract_toList, Nat.add_sub_cancel_left]
              by_cases hq : (t.data.toList.drop k).take u.length = u
              · have hpre : hasP t.data.toList k n := HP.out.2 (pre_of_take k hq)
                have f2 : ((t.extract k (k + u.length)).toList == u) = true := by rw [hex, hq]; simp
                have HQ := hid hpre
                have HU := hid (show showByte (UInt8.ofNat n) = u from HU0.out)
                clear hq hex hpre
                go_wp2
                go_roundw
                case rel => exact ⟨n + 1, by omega, by go_num, hbn.out.trans (((Below.refl _ _).alloc (Nat.le_refl _) _).mono hbn.out.size), .inr ⟨n, hn2, congrArg Value.string (ba_append acc [UInt8.ofNat n]), by rw [HU.out]; go_num, rfl, HQ⟩⟩
                case measure => simp [intOf]; omega
              · have f2 : ((t.extract k (k + u.length)).toList == u) = false := by rw [hex]; simpa using hq
                have HQ := hid (show ¬ hasP t.data.toList k n from fun h => hq (take_of_pre k (HP.out.1 h)))
                clear hq hex
                go_wp2
                go_roundw
                case rel => exact ⟨n + 1, by omega, by go_num, hbn.out, .inl ⟨rfl, rfl, rfl, hid (fun d hd => by
                  rcases Nat.lt_succ_iff_lt_or_eq.1 hd with h | rfl
                  · exact HN.out d h
                  · exact HQ.out)⟩⟩
                case measure => simp [intOf]; omega
            · have f1 : (t.size : Int) < (k : Int) + (u.length : Int) := by omega
              have f2 : decide ((k : Int) + (u.length : Int) ≤ (t.size : Int)) = false := by simp; omega
              have HQ := hid (show ¬ hasP t.data.toList k n from fun h => by
                have h1 := (HP.out.1 h).length_le
                simp at h1
                omega)
              go_wp2
              go_roundw
              case rel => exact ⟨n + 1, by omega, by go_num, hbn.out, .inl ⟨rfl, rfl, rfl, hid (fun d hd => by
                rcases Nat.lt_succ_iff_lt_or_eq.1 hd with h | rfl
                · exact HN.out d h
                · exact HQ.out)⟩⟩
              case measure => simp [intOf]; omega
          · obtain rfl : n = 256 := by omega
            have hm : meanL t.data.toList = none := meanL_stuck k (by simpa using hlt) HR.out (fun c hc => HN.out c.toNat c.toNat_lt (by unfold hasP; simpa using hc))
            have HM := hid hm
            have HB := hid hb
            clear hm hb
            go_wp2
            exact bodyPost_ret (v := .tuple #[.string ⟨#[]⟩, .bool false]) (by simp [results, Try.results33, go_sem]) rfl ⟨by rw [HM.out]; rfl, HB.out⟩
        · have HB := hid hb
          have hst := showL_step k (UInt8.ofNat d) HR.out HP.out
          have hl := showByte_length (UInt8.ofNat d)
          have hfit : k + (showByte (UInt8.ofNat d)).length ≤ t.size := by
            have h1 := List.IsPrefix.length_le HP.out
            simp at h1
            omega
          have HST := hid hst
          clear hb hst
          generalize showByte (UInt8.ofNat d) = u at *
          by_cases hn2 : n < 256
          all_goals
            go_wp2
            go_roundw
            case rel => exact ⟨k + u.length, acc ++ [UInt8.ofNat d], by omega, by simp; omega, by go_num, rfl, HST, HB.out⟩
            case measure => simp [intOf]; omega
    · obtain rfl : k = t.size := by omega
      have hr : showL acc = t.data.toList := by
        rw [HR.out]
        exact List.take_of_length_le (by simp)
      have HM := hid ((meanL_iff _ _).2 hr)
      clear hr
      go_wp2
      exact bodyPost_ret (v := .tuple #[.string ⟨acc.toArray⟩, .bool true]) (by simp [results, Try.results33, go_sem]) rfl ⟨by rw [HM.out]; rfl, HB.out⟩

end Go.Proofs.Ytoiobhcgpajogaa
