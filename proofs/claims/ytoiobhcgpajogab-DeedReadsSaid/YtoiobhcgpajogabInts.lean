/- The walks of SameInts and In; a deed's Mode and At. -/
import Derived.Test.YtoiobhcgpajogabDeed3
import Derived.Test.YtoiobhcgpajogabCodec4
namespace Go.Proofs.Ytoiobhcgpajogab
open Go.RowKit

set_option maxHeartbeats 1000000 in
set_option maxRecDepth 100000 in
theorem ref_SameInts (a1 a2 : Option Addr) (c1 c2 : Nat) (l1 l2 : List Nat) (w : World) (hn1 : l1.length ≤ 1000000) (hn2 : l2.length ≤ 1000000) (h1 : SliceAt w a1 (encI l1)) (h2 : SliceAt w a2 (encI l2)) :
    Calls Try.prog 68 #[.slice a1 l1.length c1, .slice a2 l2.length c2] w (BoolPost (decide (l1 = l2)) w) := by
  have H1 := hid h1
  have H2 := hid h2
  clear h1 h2
  by_cases hlen : l1.length = l2.length
  · have z : ((l1.length : Int) != (l2.length : Int)) = false := by simp [hlen]
    have HL := hid hlen
    clear hlen
    go_enter Try.func68, Try.ntmps68
    go_wp2
    go_loopw [5] (fun i wr => ∃ k : Nat, k ≤ l1.length ∧ i = .int .i64 k ∧ Hid (l1.take k = l2.take k) ∧ Below w.heap.size w wr) (fun i _ => l1.length - (intOf i).toNat)
    case atStart => exact ⟨0, Nat.zero_le _, rfl, hid rfl, Below.refl _ _⟩
    case round =>
      obtain ⟨k, hk, rfl, HT, hb⟩ := hrel
      by_cases hlt : k < l1.length
      · have hlt2 : k < l2.length := by have := HL.out; omega
        obtain ⟨b1, o1, rfl, v1⟩ := (sliceAt_below H1.out hb).ints (by omega)
        obtain ⟨b2, o2, rfl, v2⟩ := (sliceAt_below H2.out hb).ints (by omega)
        have P1 := v1 k hlt
        have Q1 := v2 k hlt2
        have HB := hid hb
        have s1 := hid (List.take_succ_eq_append_getElem hlt)
        have s2 := hid (List.take_succ_eq_append_getElem hlt2)
        have n1 := hid (List.getElem?_eq_getElem hlt)
        have n2 := hid (List.getElem?_eq_getElem hlt2)
        clear v1 v2 hb
        have hki : (k : Int) < (l1.length : Int) := by omega
        have hki2 : (k : Int) < (l2.length : Int) := by omega
        have hk0 : (0 : Int) ≤ (k : Int) := by omega
        generalize l1[k] = x at *
        generalize l2[k] = y at *
        by_cases he : x = y
        · subst he
          go_wp2_with fail
          go_quiet (fail)
          go_wp2
          go_roundw
          case rel => exact ⟨k + 1, by omega, by go_num, hid (by rw [s1.out, s2.out, HT.out]), HB.out.trans ((below_drewN _ _).mono HB.out.size)⟩
          case measure => simp [intOf]; omega
        · have hne : ¬ (l1 = l2) := by
            intro h
            subst h
            have := n1.out.symm.trans n2.out
            exact he (Option.some.inj this)
          have NE := hid hne
          have g1 : ((x : Int) != (y : Int)) = true := by rw [bne_iff_ne]; omega
          clear hne n1 n2 s1 s2 he
          go_wp2_with fail
          go_quiet (fail)
          go_wp2
          go_ret
          exact ⟨by rw [decide_eq_false NE.out]; rfl, HB.out.trans ((below_drewN _ _).mono HB.out.size)⟩
      · obtain rfl : k = l1.length := by omega
        have HB := hid hb
        have hq : l1 = l2 := by
          have := HT.out
          rw [List.take_length, HL.out, List.take_length] at this
          exact this
        have HQ := hid hq
        clear hq hb
        go_wp2
        go_ret
        exact ⟨by rw [decide_eq_true HQ.out]; rfl, HB.out⟩
  · have z : ((l1.length : Int) != (l2.length : Int)) = true := by rw [bne_iff_ne]; omega
    have NE := hid (show ¬ (l1 = l2) from fun h => hlen (by rw [h]))
    clear hlen
    go_enter Try.func68, Try.ntmps68
    go_wp2
    go_ret
    exact ⟨by rw [decide_eq_false NE.out]; rfl, Below.refl _ _⟩

theorem ints_any (l : List Nat) (n : Int) (k : Nat) (h : k < l.length) : (l.take (k + 1)).any (fun (x : Nat) => (x : Int) == n) = ((l.take k).any (fun (x : Nat) => (x : Int) == n) || ((l[k] : Int) == n)) := by
  rw [List.take_succ_eq_append_getElem h, List.any_append]
  simp

theorem ints_any_of (l : List Nat) (n : Int) (k : Nat) (h : k < l.length) (e : ((l[k] : Int) == n) = true) : l.any (fun (x : Nat) => (x : Int) == n) = true := by
  rw [List.any_eq_true]
  exact ⟨l[k], List.getElem_mem _, e⟩

set_option maxHeartbeats 1000000 in
set_option maxRecDepth 100000 in
theorem ref_In (a : Option Addr) (c : Nat) (l : List Nat) (n : Int) (w : World) (hn : l.length ≤ 1000000) (h : SliceAt w a (encI l)) :
    Calls Try.prog 43 #[.slice a l.length c, .int .i64 n] w (BoolPost (l.any (fun (x : Nat) => (x : Int) == n)) w) := by
  have H := hid h
  clear h
  go_enter Try.func43, Try.ntmps43
  go_wp2
  go_loopw [5] (fun i wr => ∃ k : Nat, k ≤ l.length ∧ i = .int .i64 k ∧ Hid ((l.take k).any (fun (x : Nat) => (x : Int) == n) = false) ∧ Below w.heap.size w wr) (fun i _ => l.length - (intOf i).toNat)
  case atStart => exact ⟨0, Nat.zero_le _, rfl, hid (by simp), Below.refl _ _⟩
  case round =>
    obtain ⟨k, hk, rfl, HT, hb⟩ := hrel
    by_cases hlt : k < l.length
    · obtain ⟨b1, o1, rfl, v1⟩ := (sliceAt_below H.out hb).ints (by omega)
      have P1 := v1 k hlt
      have hs := ints_any l n k hlt
      have ho := ints_any_of l n k hlt
      rw [HT.out, Bool.false_or] at hs
      have HB := hid hb
      clear v1 hb
      have hki : (k : Int) < (l.length : Int) := by omega
      have hk0 : (0 : Int) ≤ (k : Int) := by omega
      generalize l[k] = x at *
      cases hx : ((x : Int) == n) with
      | true =>
        have HO := hid (ho hx)
        clear hs ho
        go_wp2
        go_ret
        exact ⟨by rw [HO.out]; rfl, HB.out⟩
      | false =>
        rw [hx] at hs
        have HS := hid hs
        clear hs ho
        go_wp2
        go_roundw
        case rel => exact ⟨k + 1, by omega, by go_num, HS, HB.out⟩
        case measure => simp [intOf]; omega
    · obtain rfl : k = l.length := by omega
      have HE := HT.out
      rw [List.take_length] at HE
      have HE' := hid HE
      have HB := hid hb
      clear HE hb
      go_wp2
      go_ret
      exact ⟨by rw [HE'.out]; rfl, HB.out⟩

theorem deed_Mode (g : Nat → Nat) (p d : Nat) (D : Ded) (w : World) (hD : DeedAt w g p d D) :
    Calls Try.prog 69 #[.pointer (some ⟨d, 0, none⟩)] w (fun e w' => e = .returned (.int .i64 D.mode) ∧ w = w') := by
  obtain ⟨c0, c1, hlt⟩ := hD.cells
  go_enter Try.func69, Try.ntmps69
  go_wp2
  go_ret
  exact ⟨rfl, rfl⟩

theorem deed_At (g : Nat → Nat) (p d : Nat) (D : Ded) (w : World) (hD : DeedAt w g p d D) :
    Calls Try.prog 70 #[.pointer (some ⟨d, 0, none⟩)] w (fun e w' => e = .returned (.int .i64 D.beg) ∧ w = w') := by
  obtain ⟨c0, c1, hlt⟩ := hD.cells
  go_enter Try.func70, Try.ntmps70
  go_wp2
  go_ret
  exact ⟨rfl, rfl⟩

end Go.Proofs.Ytoiobhcgpajogab
