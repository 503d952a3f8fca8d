/- The walk of Show. -/
import Derived.Test.YtoiobhcgpajogabGreatDoorText1
namespace Go.Proofs.YtoiobhcgpajogabGreatDoor
open Go.RowKit

def hexL : List UInt8 := [48, 49, 50, 51, 52, 53, 54, 55, 56, 57, 97, 98, 99, 100, 101, 102]
def hexD (n : Nat) : UInt8 := hexL.getD n 0
def plainB (c : UInt8) : Bool := decide (32 < c.toNat) && decide (c.toNat < 127) && !decide (c.toNat = 92)
def showByte (c : UInt8) : List UInt8 := if plainB c then [c] else [92, hexD (c.toNat / 16), hexD (c.toNat % 16)]
def showL (s : List UInt8) : List UInt8 := s.flatMap showByte

theorem showByte_length (c : UInt8) : 1 ≤ (showByte c).length ∧ (showByte c).length ≤ 3 := by
  unfold showByte
  split <;> simp

theorem showL_length (s : List UInt8) : s.length ≤ (showL s).length ∧ (showL s).length ≤ 3 * s.length := by
  induction s with
  | nil => simp [showL]
  | cons c s ih =>
    have := showByte_length c
    simp only [showL, List.flatMap_cons, List.length_append, List.length_cons] at *
    omega

theorem showL_append (s t : List UInt8) : showL (s ++ t) = showL s ++ showL t := by simp [showL]

def StrPost (l : List UInt8) (w : World) (e : Ending) (w' : World) : Prop := e = .returned (.string ⟨l.toArray⟩) ∧ Below w.heap.size w w'

theorem hex_get (n : Nat) (h : n < 16) (h' : n < (⟨#[48, 49, 50, 51, 52, 53, 54, 55, 56, 57, 97, 98, 99, 100, 101, 102]⟩ : ByteArray).size) :
    (⟨#[48, 49, 50, 51, 52, 53, 54, 55, 56, 57, 97, 98, 99, 100, 101, 102]⟩ : ByteArray)[n] = hexD n := by
  have e : n = 0 ∨ n = 1 ∨ n = 2 ∨ n = 3 ∨ n = 4 ∨ n = 5 ∨ n = 6 ∨ n = 7 ∨ n = 8 ∨ n = 9 ∨ n = 10 ∨ n = 11 ∨ n = 12 ∨ n = 13 ∨ n = 14 ∨ n = 15 := by omega
  rcases e with rfl | rfl | rfl | rfl | rfl | rfl | rfl | rfl | rfl | rfl | rfl | rfl | rfl | rfl | rfl | rfl <;> rfl

set_option maxHeartbeats 2000000 in
set_option maxRecDepth 100000 in
theorem text_Show (s : ByteArray) (w : World) (hs : s.size ≤ 1000000) : Calls Tryz.prog 60 #[.string s] w (StrPost (showL s.data.toList) w) := by
  go_enter Tryz.func60, Tryz.ntmps60
  go_wp2
  go_loopw [4, 8] (fun _ i wr => ∃ k : Nat, k ≤ s.size ∧ i = .int .i64 k ∧ Lib.IsBuilder 38 5 w.heap.size w.heap.size (Lib.byteCells (showL (s.data.toList.take k))) wr ∧ Below w.heap.size w wr) (fun _ i _ => s.size - (intOf i).toNat)
  case atStart => exact ⟨0, Nat.zero_le _, rfl, .inl ⟨Nat.le_refl _, _, heap_alloc_new w _, World.ownsRow_nil _ _ _ _, by simp [Value.ownBlock]⟩, (Below.refl _ _).alloc (Nat.le_refl _) _⟩
  case round =>
    obtain ⟨k, hk, rfl, hB, hb⟩ := hrel
    by_cases hlt : k < s.size
    · have hlt' : k < s.data.toList.length := by simpa using hlt
      have hst : showL (s.data.toList.take (k + 1)) = showL (s.data.toList.take k) ++ showByte s[k] := by
        rw [List.take_succ_eq_append_getElem hlt', showL_append]; simp [showL]; rfl
      have hln := (showL_length (s.data.toList.take k)).2
      have hln2 : (s.data.toList.take k).length ≤ k := List.length_take_le _ _
      have ST := hid hst
      have HBB := hid hB
      have HB := hid hb
      clear hst hB hb
      generalize hc : s[k] = c at *
      have hc256 : c.toNat < 256 := c.toNat_lt
      have hcc : (c.toNat : Int) < 256 := by omega
      have hbl : (Lib.byteCells (showL (s.data.toList.take k))).length + 3 ≤ 140737488355328 := by simp [Lib.byteCells]; omega
      have HL := hid hbl
      clear hbl
      by_cases hp : 32 < c.toNat ∧ c.toNat < 127 ∧ c.toNat ≠ 92
      · obtain ⟨p1, p2, p3⟩ := hp
        have p1' : (32 : Int) < (c.toNat : Int) := by omega
        have p2' : (c.toNat : Int) < 127 := by omega
        have p3' : ((c.toNat : Int) != 92) = true := by simp; omega
        have hsb := hid (show showByte c = [c] by unfold showByte plainB; rw [if_pos (by simp; omega)])
        clear p3
        go_wp2_with fail
        refine (Builder_WriteByte w.heap.size w.heap.size _ _ _ HBB.out (by have := HL.out; omega) HB.out.size).mono ?_
        rintro e w1 ⟨rfl, hB1, hb1⟩
        have HB1 := hid (HB.out.trans hb1)
        have HBB1 := hid hB1
        clear hB1 hb1
        go_wp2
        go_roundw
        case rel => exact ⟨k + 1, by omega, by go_num, by rw [ST.out, hsb.out]; simpa [Lib.byteCells] using HBB1.out, HB1.out⟩
        case measure => simp [intOf]; omega
      · have hsb := hid (show showByte c = [92, hexD (c.toNat / 16), hexD (c.toNat % 16)] by unfold showByte plainB; rw [if_neg (by simp; omega)])
        have hcase : c.toNat ≤ 32 ∨ (32 < c.toNat ∧ 127 ≤ c.toNat) ∨ (32 < c.toNat ∧ c.toNat < 127 ∧ c.toNat = 92) := by omega
        clear hp
        have d1 : c.toNat / 16 < 16 := by omega
        have d2 : c.toNat % 16 < 16 := by omega
        rcases hcase with h | ⟨h, h'⟩ | ⟨h, h', h''⟩
        case' inl => have h1 : (c.toNat : Int) ≤ 32 := by omega
        case' inr.inl => have h1 : (32 : Int) < (c.toNat : Int) := by omega
        case' inr.inl => have h2 : (127 : Int) ≤ (c.toNat : Int) := by omega
        case' inr.inr => have h1 : (32 : Int) < (c.toNat : Int) := by omega
        case' inr.inr => have h2 : (c.toNat : Int) < 127 := by omega
        case' inr.inr => have h3 : ((c.toNat : Int) != 92) = false := by simp; omega
        case' inr.inr => clear h''
        all_goals
          go_wp2_with fail
          refine (Builder_WriteByte w.heap.size w.heap.size _ _ _ HBB.out (by have := HL.out; omega) HB.out.size).mono ?_
          rintro e w1 ⟨rfl, hB1, hb1⟩
          have HB1 := hid (HB.out.trans hb1)
          have HBB1 := hid hB1
          clear hB1 hb1
          go_wp2_with fail
          refine (Builder_WriteByte w.heap.size w.heap.size _ _ _ HBB1.out (by have := HL.out; simp; omega) HB1.out.size).mono ?_
          rintro e w2 ⟨rfl, hB1, hb1⟩
          have HB2 := hid (HB1.out.trans hb1)
          have HBB2 := hid hB1
          clear hB1 hb1
          go_wp2_with fail
          refine (Builder_WriteByte w.heap.size w.heap.size _ _ _ HBB2.out (by have := HL.out; simp; omega) HB2.out.size).mono ?_
          rintro e w3 ⟨rfl, hB1, hb1⟩
          have HB3 := hid (HB2.out.trans hb1)
          have HBB3 := hid hB1
          clear hB1 hb1
          go_wp2
          go_roundw
          case rel =>
            refine ⟨k + 1, by omega, by go_num, ?_, HB3.out⟩
            rw [ST.out, hsb.out]
            have := HBB3.out
            rw [hex_get _ d1, hex_get _ d2] at this
            simpa [Lib.byteCells] using this
          case measure => simp [intOf]; omega
    · obtain rfl : k = s.size := by omega
      have hB' : Lib.IsBuilder 38 5 w.heap.size w.heap.size (Lib.byteCells (showL s.data.toList)) wr := by
        have e : s.data.toList.take s.size = s.data.toList := List.take_of_length_le (by simp)
        rw [e] at hB
        exact hB
      have HB := hid hb
      have HBB := hid hB'
      clear hB hB' hb
      go_wp2_with fail
      refine (Tryz.Builder_String_any w.heap.size w.heap.size _ _ HBB.out HB.out.size).mono ?_
      rintro e w1 ⟨rfl, hb1⟩
      go_wp2
      go_ret
      exact ⟨rfl, HB.out.trans hb1⟩

theorem ba_append (a b : List UInt8) : (⟨a.toArray⟩ : ByteArray) ++ ⟨b.toArray⟩ = ⟨(a ++ b).toArray⟩ := by
  apply Go.WideShapes.bytes_inj
  simp

def valL (v : Val) : List UInt8 := if v.there then 61 :: showL v.bytes.data.toList else [45]

set_option maxHeartbeats 1000000 in
set_option maxRecDepth 100000 in
theorem text_Value (t : Bool) (s : ByteArray) (w : World) (hs : s.size ≤ 1000000) : Calls Tryz.prog 40 #[.agg #[.bool t, .string s]] w (StrPost (valL ⟨t, s⟩) w) := by
  cases t
  · have e1 : valL ⟨false, s⟩ = [45] := rfl
    rw [e1]
    go_enter Tryz.func40, Tryz.ntmps40
    go_wp2
    go_ret
    exact ⟨rfl, (Below.refl _ _).alloc (Nat.le_refl _) _⟩
  · have e1 : valL ⟨true, s⟩ = 61 :: showL s.data.toList := rfl
    rw [e1]
    go_enter Tryz.func40, Tryz.ntmps40
    go_wp2_with fail
    refine (text_Show s _ hs).mono ?_
    rintro e w1 ⟨rfl, hb1⟩
    have hln := (showL_length s.data.toList).2
    have hs2 : s.data.toList.length = s.size := by simp
    go_wp2
    go_ret
    refine ⟨?_, ((Below.refl _ _).alloc (Nat.le_refl _) _).trans (hb1.mono (by simp))⟩
    show Ending.returned (.string _) = _
    exact congrArg (fun x => Ending.returned (.string x)) (ba_append [61] _)

end Go.Proofs.YtoiobhcgpajogabGreatDoor
