/- The walks of strings.Builder's copyCheck and WriteByte at a builder that the call has made. -/
import Derived.Test.YtoiobhcgpajogabGreatDoorShelf
import Derived.Test.YtoiobhcgpajogabGreatDoorKit
import Derived.Laws.IdiomStrings
namespace Go.Proofs.YtoiobhcgpajogabGreatDoor
open Go.RowKit

theorem Tryz.sizeBuilder : (Tryz.prog.info? 38).map (fun i => i.size) = some 2 := by kernel_rfl
theorem Tryz.liesBuilder : liesAt Tryz.prog Tryz.prog.depth 38 (2 / Tryz.prog.cellsOf 38) 0 38 1 = true := by kernel_rfl

set_option maxHeartbeats 1000000 in
set_option maxRecDepth 100000 in
theorem copyCheck_used (b : Nat) (w : World) (h0 : w.cell? ⟨b, 0, none⟩ = some (.pointer (some ⟨b, 0, none⟩))) :
    Calls Tryz.prog 66 #[.pointer (some ⟨b, 0, none⟩)] w fun e w' => e = .returned (.tuple #[]) ∧ w = w' := by
  obtain ⟨j, hj, hjs⟩ := Option.map_eq_some_iff.1 Tryz.sizeBuilder
  have hne := fun (w : World) => Lib.run_neq_ptr_same (P := Tryz.prog) w (tp := 35) ⟨b, 0, none⟩ Tryz.underlying35 hj
  go_enter Tryz.func66, Tryz.ntmps66
  go_wp2
  go_end0
  exact ⟨rfl, rfl⟩

set_option maxHeartbeats 1000000 in
set_option maxRecDepth 100000 in
theorem copyCheck_fresh (b : Nat) (w : World) (h0 : w.cell? ⟨b, 0, none⟩ = some (.pointer Option.none)) (hsh : w.shape? b = some (38, 2)) (hfz : w.frozen? ⟨b, 0, none⟩ = false) :
    Calls Tryz.prog 66 #[.pointer (some ⟨b, 0, none⟩)] w fun e w' => e = .returned (.tuple #[]) ∧ w' = w.setCell ⟨b, 0, none⟩ (.pointer (some ⟨b, 0, none⟩)) := by
  obtain ⟨j, hj, hjs⟩ := Option.map_eq_some_iff.1 Tryz.sizeBuilder
  have HJ := hid hjs
  have hne := fun (w : World) => Lib.run_neq_ptr_same (P := Tryz.prog) w (tp := 35) ⟨b, 0, none⟩ Tryz.underlying35 hj
  clear hjs
  go_enter Tryz.func66, Tryz.ntmps66
  go_wp2
  rw [Lib.run_to_unsafe w ⟨b, 0, none⟩ Tryz.underlying35 Tryz.underlying131 hj (by rw [HJ.out]; decide) hsh (Nat.zero_lt_succ 1)]
  simp only [Result.andThen]
  rw [Oper.upon_value]
  go_wp2
  rw [run_callFunc_extern Tryz.func84 (by kernel_rfl) (by kernel_rfl) (by kernel_rfl) (e := Extern.AbiNoEscape.same) (by kernel_rfl)]
  rw [Lib.run_noEscape]
  simp only [Result.andThen]
  rw [Oper.upon_value]
  go_wp2
  rw [Lib.run_from_unsafe w ⟨b, 0, none⟩ Tryz.underlying131 Tryz.underlying35 hj hsh Tryz.liesBuilder]
  simp only [Result.andThen]
  rw [Oper.upon_value]
  go_wp2
  go_end0
  exact ⟨rfl, rfl⟩

theorem copyCheck_any (B b : Nat) (bs : List Value) (w : World) (h : Lib.IsBuilder 38 5 B b bs w) :
    Calls Tryz.prog 66 #[.pointer (some ⟨b, 0, none⟩)] w fun e w' => e = .returned (.tuple #[]) ∧ (Lib.BuilderAt 38 5 B b (.pointer (some ⟨b, 0, none⟩)) bs w' ∧ Below B w w') := by
  rcases h with h | h
  · refine (copyCheck_fresh b w h.cell0 h.shape h.frozen0).mono ?_
    rintro e w' ⟨rfl, rfl⟩
    exact ⟨rfl, h.used _, (Below.refl B w).setCell (p := ⟨b, 0, none⟩) h.1 _⟩
  · refine (copyCheck_used b w h.cell0).mono ?_
    rintro e w' ⟨rfl, rfl⟩
    exact ⟨rfl, h, Below.refl B _⟩

set_option maxHeartbeats 2000000 in
set_option maxRecDepth 100000 in
theorem Builder_WriteByte (B b : Nat) (bs : List Value) (c : Int) (w : World) (h : Lib.IsBuilder 38 5 B b bs w) (hlen : bs.length + 1 ≤ 140737488355328) (hBw : B ≤ w.heap.size) :
    Calls Tryz.prog 58 #[.pointer (some ⟨b, 0, none⟩), .int .u8 c] w fun e w' => e = .returned .nilIface ∧ (Lib.IsBuilder 38 5 B b (bs ++ [.int .u8 c]) w' ∧ Below B w w') := by
  obtain ⟨i0, hi, hz0, hz1, hz2⟩ := info_parts Tryz.infoU8
  have l1 : bs.length + 1 ≤ maxLen := by unfold maxLen; omega
  have l2 : (bs.length + 1) * 1 ≤ 140737488355328 := by omega
  go_enter Tryz.func58, Tryz.ntmps58
  go_wp2_with fail
  refine (copyCheck_any B b bs _ h).mono ?_
  rintro e w1 ⟨rfl, h1, hb1⟩
  obtain ⟨hB, v, hbk, hown, hne⟩ := h1
  have c0 : w1.cell? ⟨b, 0, none⟩ = some (.pointer (some ⟨b, 0, none⟩)) := by rw [Lib.cell_of_heap hbk]; rfl
  have c1 : w1.cell? ⟨b, 1, none⟩ = some v := by rw [Lib.cell_of_heap hbk]; rfl
  have HK := hid hbk
  have HO := hid hown
  have HN := hid hne
  clear hbk hown hne
  go_wp2_with (refine wpList_append_own _ rfl (.tmp 11) (.tmp 13) 36 rfl B 5 i0 (.int .u8 0) 1 1 Tryz.underlying36 hi hz0 hz1 hz2 rfl (by decide) v bs.length bs rfl (HO.out.alloc _) ⟨w1.heap.size, 0, none⟩ 1 1 [.int .u8 c] rfl rfl (cells_new w1 _ _) ?c2 l1 l2 ?c5 ?_)
  case c2 => intro u hu; simp at hu; subst hu; rfl
  case c5 => have := hb1.size; simp; omega
  intro v' w2 hown' hgrow _
  have hlt : b < w1.heap.size := lt_of_block HK.out
  have hb2 : w2.heap[b]? = some (.cells #[.pointer (some ⟨b, 0, none⟩), v] 38 (0, 0)) := by
    rw [hgrow.block b (by simp; omega) (fun e => HN.out e.symm), Lib.alloc_old w1 _ b hlt]
    exact HK.out
  have d0 : w2.cell? ⟨b, 0, none⟩ = some (.pointer (some ⟨b, 0, none⟩)) := by rw [Lib.cell_of_heap hb2]; rfl
  have d1 : w2.cell? ⟨b, 1, none⟩ = some v := by rw [Lib.cell_of_heap hb2]; rfl
  have f1 : w2.frozen? ⟨b, 1, none⟩ = false := Lib.frozen_of_heap hb2 1
  obtain ⟨g, cap, rfl⟩ : ∃ g cap, v' = .slice (some ⟨g, 0, none⟩) (bs.length + 1) cap := by
    rcases hown'.2 with ⟨_, h0⟩ | ⟨g, cap, cur, hv, _⟩
    · omega
    · exact ⟨g, cap, hv⟩
  have HK2 := hid hb2
  have HO2 := hid hown'
  have HG2 := hid hgrow
  clear hb2 hown' hgrow
  go_wp2
  go_ret
  refine ⟨rfl, .inr ?_, ?_⟩
  · exact Lib.BuilderAt.put (T := 38) (e := 5) hB HK2.out (bs' := bs ++ [.int .u8 c]) (by simpa using HO2.out) (by decide)
  · exact ((hb1.alloc (by have := hb1.size; omega) _).grown HG2.out (by have := hb1.size; simp; omega) (fun k hk => (HO.out.lt k hk).1)).setCell (p := ⟨b, 1, none⟩) hB _

end Go.Proofs.YtoiobhcgpajogabGreatDoor

/- The walk of Show. -/
namespace Go.Proofs.YtoiobhcgpajogabGreatDoor
open Go.RowKit

def hexL : List UInt8 := [48, 49, 50, 51, 52, 53, 54, 55, 56, 57, 97, 98, 99, 100, 101, 102]
def hexD (n : Nat) : UInt8 := hexL.getD n 0
def plainB (c : UInt8) : Bool := decide (32 < c.toNat) && decide (c.toNat < 127) && !decide (c.toNat = 92)
def showByte (c : UInt8) : List UInt8 := if plainB c then [c] else [92, hexD (c.toNat / 16), hexD (c.toNat % 16)]
def showL (s : List UInt8) : List UInt8 := s.flatMap showByte

theorem showByte_length (c : UInt8) : 1 ≤ (showByte c).length ∧ (showByte c).length ≤ 3 := by
  unfold showByte
  split <;> simp

theorem showL_length (s : List UInt8) : s.length ≤ (showL s).length ∧ (showL s).length ≤ 3 * s.length := by
  induction s with
  | nil => simp [showL]
  | cons c s ih =>
    have := showByte_length c
    simp only [showL, List.flatMap_cons, List.length_append, List.length_cons] at *
    omega

theorem showL_append (s t : List UInt8) : showL (s ++ t) = showL s ++ showL t := by simp [showL]

def StrPost (l : List UInt8) (w : World) (e : Ending) (w' : World) : Prop := e = .returned (.string ⟨l.toArray⟩) ∧ Below w.heap.size w w'

theorem hex_get (n : Nat) (h : n < 16) (h' : n < (⟨#[48, 49, 50, 51, 52, 53, 54, 55, 56, 57, 97, 98, 99, 100, 101, 102]⟩ : ByteArray).size) :
    (⟨#[48, 49, 50, 51, 52, 53, 54, 55, 56, 57, 97, 98, 99, 100, 101, 102]⟩ : ByteArray)[n] = hexD n := by
  have e : n = 0 ∨ n = 1 ∨ n = 2 ∨ n = 3 ∨ n = 4 ∨ n = 5 ∨ n = 6 ∨ n = 7 ∨ n = 8 ∨ n = 9 ∨ n = 10 ∨ n = 11 ∨ n = 12 ∨ n = 13 ∨ n = 14 ∨ n = 15 := by omega
  rcases e with rfl | rfl | rfl | rfl | rfl | rfl | rfl | rfl | rfl | rfl | rfl | rfl | rfl | rfl | rfl | rfl <;> rfl

set_option maxHeartbeats 2000000 in
set_option maxRecDepth 100000 in
theorem text_Show (s : ByteArray) (w : World) (hs : s.size ≤ 1000000) : Calls Tryz.prog 60 #[.string s] w (StrPost (showL s.data.toList) w) := by
  go_enter Tryz.func60, Tryz.ntmps60
  go_wp2
  go_loopw [4, 8] (fun _ i wr => ∃ k : Nat, k ≤ s.size ∧ i = .int .i64 k ∧ Lib.IsBuilder 38 5 w.heap.size w.heap.size (Lib.byteCells (showL (s.data.toList.take k))) wr ∧ Below w.heap.size w wr) (fun _ i _ => s.size - (intOf i).toNat)
  case atStart => exact ⟨0, Nat.zero_le _, rfl, .inl ⟨Nat.le_refl _, _, heap_alloc_new w _, World.ownsRow_nil _ _ _ _, by simp [Value.ownBlock]⟩, (Below.refl _ _).alloc (Nat.le_refl _) _⟩
  case round =>
    obtain ⟨k, hk, rfl, hB, hb⟩ := hrel
    by_cases hlt : k < s.size
    · have hlt' : k < s.data.toList.length := by simpa using hlt
      have hst : showL (s.data.toList.take (k + 1)) = showL (s.data.toList.take k) ++ showByte s[k] := by
        rw [List.take_succ_eq_append_getElem hlt', showL_append]; simp [showL]; rfl
      have hln := (showL_length (s.data.toList.take k)).2
      have hln2 : (s.data.toList.take k).length ≤ k := List.length_take_le _ _
      have ST := hid hst
      have HBB := hid hB
      have HB := hid hb
      clear hst hB hb
      generalize hc : s[k] = c at *
      have hc256 : c.toNat < 256 := c.toNat_lt
      have hcc : (c.toNat : Int) < 256 := by omega
      have hbl : (Lib.byteCells (showL (s.data.toList.take k))).length + 3 ≤ 140737488355328 := by simp [Lib.byteCells]; omega
      have HL := hid hbl
      clear hbl
      by_cases hp : 32 < c.toNat ∧ c.toNat < 127 ∧ c.toNat ≠ 92
      · obtain ⟨p1, p2, p3⟩ := hp
        have p1' : (32 : Int) < (c.toNat : Int) := by omega
        have p2' : (c.toNat : Int) < 127 := by omega
        have p3' : ((c.toNat : Int) != 92) = true := by simp; omega
        have hsb := hid (show showByte c = [c] by unfold showByte plainB; rw [if_pos (by simp; omega)])
        clear p3
        go_wp2_with fail
        refine (Builder_WriteByte w.heap.size w.heap.size _ _ _ HBB.out (by have := HL.out; omega) HB.out.size).mono ?_
        rintro e w1 ⟨rfl, hB1, hb1⟩
        have HB1 := hid (HB.out.trans hb1)
        have HBB1 := hid hB1
        clear hB1 hb1
        go_wp2
        go_roundw
        case rel => exact ⟨k + 1, by omega, by go_num, by rw [ST.out, hsb.out]; simpa [Lib.byteCells] using HBB1.out, HB1.out⟩
        case measure => simp [intOf]; omega
      · have hsb := hid (show showByte c = [92, hexD (c.toNat / 16), hexD (c.toNat % 16)] by unfold showByte plainB; rw [if_neg (by simp; omega)])
        have hcase : c.toNat ≤ 32 ∨ (32 < c.toNat ∧ 127 ≤ c.toNat) ∨ (32 < c.toNat ∧ c.toNat < 127 ∧ c.toNat = 92) := by omega
        clear hp
        have d1 : c.toNat / 16 < 16 := by omega
        have d2 : c.toNat % 16 < 16 := by omega
        rcases hcase with h | ⟨h, h'⟩ | ⟨h, h', h''⟩
        case' inl => have h1 : (c.toNat : Int) ≤ 32 := by omega
        case' inr.inl => have h1 : (32 : Int) < (c.toNat : Int) := by omega
        case' inr.inl => have h2 : (127 : Int) ≤ (c.toNat : Int) := by omega
        case' inr.inr => have h1 : (32 : Int) < (c.toNat : Int) := by omega
        case' inr.inr => have h2 : (c.toNat : Int) < 127 := by omega
        case' inr.inr => have h3 : ((c.toNat : Int) != 92) = false := by simp; omega
        case' inr.inr => clear h''
        all_goals
          go_wp2_with fail
          refine (Builder_WriteByte w.heap.size w.heap.size _ _ _ HBB.out (by have := HL.out; omega) HB.out.size).mono ?_
          rintro e w1 ⟨rfl, hB1, hb1⟩
          have HB1 := hid (HB.out.trans hb1)
          have HBB1 := hid hB1
          clear hB1 hb1
          go_wp2_with fail
          refine (Builder_WriteByte w.heap.size w.heap.size _ _ _ HBB1.out (by have := HL.out; simp; omega) HB1.out.size).mono ?_
          rintro e w2 ⟨rfl, hB1, hb1⟩
          have HB2 := hid (HB1.out.trans hb1)
          have HBB2 := hid hB1
          clear hB1 hb1
          go_wp2_with fail
          refine (Builder_WriteByte w.heap.size w.heap.size _ _ _ HBB2.out (by have := HL.out; simp; omega) HB2.out.size).mono ?_
          rintro e w3 ⟨rfl, hB1, hb1⟩
          have HB3 := hid (HB2.out.trans hb1)
          have HBB3 := hid hB1
          clear hB1 hb1
          go_wp2
          go_roundw
          case rel =>
            refine ⟨k + 1, by omega, by go_num, ?_, HB3.out⟩
            rw [ST.out, hsb.out]
            have := HBB3.out
            rw [hex_get _ d1, hex_get _ d2] at this
            simpa [Lib.byteCells] using this
          case measure => simp [intOf]; omega
    · obtain rfl : k = s.size := by omega
      have hB' : Lib.IsBuilder 38 5 w.heap.size w.heap.size (Lib.byteCells (showL s.data.toList)) wr := by
        have e : s.data.toList.take s.size = s.data.toList := List.take_of_length_le (by simp)
        rw [e] at hB
        exact hB
      have HB := hid hb
      have HBB := hid hB'
      clear hB hB' hb
      go_wp2_with fail
      refine (Tryz.Builder_String_any w.heap.size w.heap.size _ _ HBB.out HB.out.size).mono ?_
      rintro e w1 ⟨rfl, hb1⟩
      go_wp2
      go_ret
      exact ⟨rfl, HB.out.trans hb1⟩

theorem ba_append (a b : List UInt8) : (⟨a.toArray⟩ : ByteArray) ++ ⟨b.toArray⟩ = ⟨(a ++ b).toArray⟩ := by
  apply Go.WideShapes.bytes_inj
  simp

def valL (v : Val) : List UInt8 := if v.there then 61 :: showL v.bytes.data.toList else [45]

set_option maxHeartbeats 1000000 in
set_option maxRecDepth 100000 in
theorem text_Value (t : Bool) (s : ByteArray) (w : World) (hs : s.size ≤ 1000000) : Calls Tryz.prog 40 #[.agg #[.bool t, .string s]] w (StrPost (valL ⟨t, s⟩) w) := by
  cases t
  · have e1 : valL ⟨false, s⟩ = [45] := rfl
    rw [e1]
    go_enter Tryz.func40, Tryz.ntmps40
    go_wp2
    go_ret
    exact ⟨rfl, (Below.refl _ _).alloc (Nat.le_refl _) _⟩
  · have e1 : valL ⟨true, s⟩ = 61 :: showL s.data.toList := rfl
    rw [e1]
    go_enter Tryz.func40, Tryz.ntmps40
    go_wp2_with fail
    refine (text_Show s _ hs).mono ?_
    rintro e w1 ⟨rfl, hb1⟩
    have hln := (showL_length s.data.toList).2
    have hs2 : s.data.toList.length = s.size := by simp
    go_wp2
    go_ret
    refine ⟨?_, ((Below.refl _ _).alloc (Nat.le_refl _) _).trans (hb1.mono (by simp))⟩
    show Ending.returned (.string _) = _
    exact congrArg (fun x => Ending.returned (.string x)) (ba_append [61] _)

end Go.Proofs.YtoiobhcgpajogabGreatDoor

/- The walks of the document's Shown and ValueText. -/
namespace Go.Proofs.YtoiobhcgpajogabGreatDoor
open Go.RowKit

end Go.Proofs.YtoiobhcgpajogabGreatDoor

/- The walk of Mean. -/
namespace Go.Proofs.YtoiobhcgpajogabGreatDoor
open Go.RowKit

def hexI (c : UInt8) : Int := Lib.indexByte hexL c

def rawMean : List UInt8 → Option (List UInt8)
  | [] => some []
  | [c] => if c = 92 then none else some [c]
  | [c, d] => if c = 92 then none else if d = 92 then none else some [c, d]
  | c :: a :: b :: t => if c = 92 then (if hexI a < 0 ∨ hexI b < 0 then none else (rawMean t).map (fun r => UInt8.ofNat (hexI a * 16 + hexI b).toNat :: r)) else (rawMean (a :: b :: t)).map (fun r => c :: r)

def meanL (t : List UInt8) : Option (List UInt8) := (rawMean t).bind fun r => if showL r = t then some r else none

def MeanPost (m : Option (List UInt8)) (w : World) (e : Ending) (w' : World) : Prop := e = .returned (.tuple #[.string ⟨(m.getD []).toArray⟩, .bool m.isSome]) ∧ Below w.heap.size w w'

theorem hexI_range (c : UInt8) : -1 ≤ hexI c ∧ hexI c < 16 := by
  refine ⟨Lib.indexByte_ge _ _, ?_⟩
  have h : ∀ (l : List UInt8) (c : UInt8), Lib.indexByte l c < l.length ∨ l = [] := by
    intro l
    induction l with
    | nil => intro c; right; rfl
    | cons b l ih =>
      intro c
      left
      unfold Lib.indexByte
      split
      · simp
      · split
        · simp; omega
        · rcases ih c with h | h
          · simp; omega
          · subst h; simp [Lib.indexByte] at *
  rcases h hexL c with h | h
  · exact h
  · cases h

theorem rawMean_cons (c : UInt8) (t : List UInt8) (h : c ≠ 92) : rawMean (c :: t) = (rawMean t).map (fun r => c :: r) := by
  rcases t with _ | ⟨a, _ | ⟨b, t⟩⟩
  · simp [rawMean, h]
  · simp only [rawMean, h, if_false]
    split <;> rfl
  · simp [rawMean, h]

theorem rawMean_short (t : List UInt8) (h : t.length < 2) : rawMean (92 :: t) = none := by
  rcases t with _ | ⟨a, _ | ⟨b, t⟩⟩
  · rfl
  · rfl
  · simp at h; omega

theorem rawMean_long (a b : UInt8) (t : List UInt8) : rawMean (92 :: a :: b :: t) = if hexI a < 0 ∨ hexI b < 0 then none else (rawMean t).map (fun r => UInt8.ofNat (hexI a * 16 + hexI b).toNat :: r) := by
  simp [rawMean]

theorem idx_any (c : UInt8) (w : World) : Calls Tryz.prog 59 #[.string ⟨#[48, 49, 50, 51, 52, 53, 54, 55, 56, 57, 97, 98, 99, 100, 101, 102]⟩, .int .u8 c.toNat] w fun e w' => e = .returned (.int .i64 (hexI c)) ∧ w' = w := by
  refine (Tryz.strings_IndexByte _ _ w).mono ?_
  rintro e w' ⟨rfl, rfl⟩
  refine ⟨?_, rfl⟩
  have : ((c.toNat : Int).toNat).toUInt8 = c := by simp
  rw [this]
  rfl

end Go.Proofs.YtoiobhcgpajogabGreatDoor

/- The walk of Mean. -/
namespace Go.Proofs.YtoiobhcgpajogabGreatDoor
open Go.RowKit

theorem meanL_none {l : List UInt8} (h : rawMean l = none) : meanL l = none := by simp [meanL, h]
theorem meanL_some {l r : List UInt8} (h : rawMean l = some r) (h2 : showL r = l) : meanL l = some r := by simp [meanL, h, h2]
theorem meanL_not {l r : List UInt8} (h : rawMean l = some r) (h2 : showL r ≠ l) : meanL l = none := by simp [meanL, h, h2]

theorem IsBuilderF_below {T e : TypeId} {B b : Nat} {bs : List Value} {w w' : World} (h : Lib.IsBuilderF T e B b bs w) (k : Below w.heap.size w w') : Lib.IsBuilderF T e B b bs w' := by
  have one : ∀ {p : Value}, Lib.BuilderAtF T e B b p bs w → Lib.BuilderAtF T e B b p bs w' := by
    intro p hp
    have hlt := Lib.BuilderAtF.lt hp
    obtain ⟨hB, v, hb, hown, hne⟩ := hp
    refine ⟨hB, v, (k.block b hlt).trans hb, ⟨hown.1, ?_⟩, hne⟩
    rcases hown.2 with hn | ⟨g, cap, cur, fz, hv, hb', hg, rest⟩
    · exact .inl hn
    · exact .inr ⟨g, cap, cur, fz, hv, hb', (k.block g (lt_of_block hg)).trans hg, rest⟩
  exact h.elim (fun x => .inl (one x)) (fun x => .inr (one x))

theorem bits_or (m n : Nat) (hm : m < 16) (hn : n < 16) : bits BinOp.or IntKind.i64 ((m : Int) * 16) (n : Int) % 256 = ((m * 16 + n : Nat) : Int) := by
  have h : ∀ m : Fin 16, ∀ n : Fin 16, bits BinOp.or IntKind.i64 ((m.val : Int) * 16) (n.val : Int) % 256 = ((m.val * 16 + n.val : Nat) : Int) := by decide
  exact h ⟨m, hm⟩ ⟨n, hn⟩

theorem byteCells_or {acc : List UInt8} (m n : Nat) (hm : m < 16) (hn : n < 16) : Lib.byteCells (acc ++ [UInt8.ofNat (m * 16 + n)]) = Lib.byteCells acc ++ [.int .u8 ((m * 16 + n : Nat) : Int)] := by
  have : (UInt8.ofNat (m * 16 + n)).toNat = m * 16 + n := by simp; omega
  simp only [Lib.byteCells, List.map_append, List.map_cons, List.map_nil, this]

set_option maxHeartbeats 4000000 in
set_option maxRecDepth 100000 in
theorem text_Mean (t : ByteArray) (w : World) (ht : t.size ≤ 1000000) : Calls Tryz.prog 32 #[.string t] w (MeanPost (meanL t.data.toList) w) := by
  go_enter Tryz.func32, Tryz.ntmps32
  go_wp2
  go_loopw [5] (fun i wr => ∃ (k : Nat) (acc : List UInt8), k ≤ t.size ∧ acc.length ≤ k ∧ i = .int .i64 k ∧ Hid (rawMean t.data.toList = (rawMean (t.data.toList.drop k)).map (fun r => acc ++ r)) ∧ Lib.IsBuilder 38 5 w.heap.size w.heap.size (Lib.byteCells acc) wr ∧ Below w.heap.size w wr) (fun i _ => t.size - (intOf i).toNat)
  case atStart => exact ⟨0, [], Nat.zero_le _, Nat.le_refl _, rfl, hid (by simp), .inl ⟨Nat.le_refl _, _, heap_alloc_new w _, World.ownsRow_nil _ _ _ _, by simp [Value.ownBlock]⟩, (Below.refl _ _).alloc (Nat.le_refl _) _⟩
  case round =>
    obtain ⟨k, acc, hk, hak, rfl, HR, hB, hb⟩ := hrel
    have HBB := hid hB
    have HB := hid hb
    clear hB hb
    by_cases hlt : k < t.size
    · have hlt' : k < t.data.toList.length := by simpa using hlt
      have hst := hid (List.drop_eq_getElem_cons hlt')
      have hbl : (Lib.byteCells acc).length + 1 ≤ 140737488355328 := by simp [Lib.byteCells]; omega
      have HL := hid hbl
      clear hbl
      have hgc : t.data.toList[k] = t[k] := rfl
      rw [hgc] at hst
      clear hgc
      generalize hc : t[k] = c at *
      by_cases hp : c = 92
      · subst hp
        by_cases hlt2 : k + 2 < t.size
        · have i1 : k + 1 < t.data.toList.length := by simpa using (by omega : k + 1 < t.size)
          have i2 : k + 2 < t.data.toList.length := by simpa using hlt2
          have hst1 := List.drop_eq_getElem_cons i1
          have hst2 := List.drop_eq_getElem_cons i2
          have hg1 : t.data.toList[k + 1] = t[k + 1] := rfl
          have hg2 : t.data.toList[k + 2] = t[k + 2] := rfl
          rw [hg1] at hst1
          rw [hg2] at hst2
          clear hg1 hg2
          have HST1 := hid hst1
          have HST2 := hid hst2
          clear hst1 hst2
          have z1 : (k : Int) + 1 < (t.size : Int) := by omega
          have z2 : (k : Int) + 2 < (t.size : Int) := by omega
          have z3 : (0 : Int) ≤ (k : Int) + 1 := by omega
          have z4 : (0 : Int) ≤ (k : Int) + 2 := by omega
          generalize ha : t[k + 1] = a at *
          generalize hb : t[k + 2] = b at *
          have z5 : decide ((t.size : Int) ≤ (k : Int) + 2) = false := by simp; omega
          have v1 : IntKind.i64.wrap ((k : Int) + 1) = (k : Int) + 1 := IntWalk.i64_in _ ⟨by omega, by omega⟩
          have v2 : IntKind.i64.wrap ((k : Int) + 2) = (k : Int) + 2 := IntWalk.i64_in _ ⟨by omega, by omega⟩
          have v3 : ((k : Int) + 1).toNat = k + 1 := by omega
          have v4 : ((k : Int) + 2).toNat = k + 2 := by omega
          go_wp2
          go_quiet ((go_at_call 59; first | exact Calls.quiet_of_same (idx_any a _) | exact Calls.quiet_of_same (idx_any b _)))
          have ra := hexI_range a
          have rb := hexI_range b
          have HB1 := hid (HB.out.trans ((below_drewN wr nq).mono HB.out.size))
          have HBB1 := hid (show Lib.IsBuilder _ _ _ _ _ (wr.drewN nq) from HBB.out)
          have hrl := rawMean_long a b (t.data.toList.drop (k + 3))
          rw [← show t.data.toList.drop (k + 2) = b :: t.data.toList.drop (k + 3) from HST2.out, ← show t.data.toList.drop (k + 1) = a :: t.data.toList.drop (k + 2) from HST1.out, ← hst.out] at hrl
          generalize wr.drewN nq = wq at *
          clear ha hb v1 v3 v4 z1 z3 z4 HST1 HST2
          generalize hexI a = x at *
          generalize hexI b = y at *
          have HRL := hid hrl
          clear hrl
          by_cases hx : x < 0
          · have hn : rawMean t.data.toList = none := by rw [HR.out, HRL.out, if_pos (.inl hx)]; rfl
            have HM := hid (meanL_none hn)
            clear hn
            go_wp2
            exact bodyPost_ret (v := .tuple #[.string ⟨#[]⟩, .bool false]) (by simp [results, Tryz.results32, go_sem]) rfl ⟨by rw [HM.out]; rfl, HB1.out⟩
          · have hx' : 0 ≤ x := by omega
            have dx : decide (x < 0) = false := by simp; omega
            by_cases hy : y < 0
            · have hn : rawMean t.data.toList = none := by rw [HR.out, HRL.out, if_pos (.inr hy)]; rfl
              have HM := hid (meanL_none hn)
              clear hn
              go_wp2
              exact bodyPost_ret (v := .tuple #[.string ⟨#[]⟩, .bool false]) (by simp [results, Tryz.results32, go_sem]) rfl ⟨by rw [HM.out]; rfl, HB1.out⟩
            · have hy' : 0 ≤ y := by omega
              have dy : decide (y < 0) = false := by simp; omega
              have hn := hid (show rawMean (t.data.toList.drop k) = (rawMean (t.data.toList.drop (k + 3))).map (fun r => UInt8.ofNat (x * 16 + y).toNat :: r) by rw [HRL.out, if_neg (by omega)])
              obtain ⟨m, rfl⟩ := Int.eq_ofNat_of_zero_le hx'
              obtain ⟨n, rfl⟩ := Int.eq_ofNat_of_zero_le hy'
              have hm : m < 16 := by omega
              have hn' : n < 16 := by omega
              have HRR := hid (And.intro ra rb)
              clear ra rb
              go_wp2_with fail
              rw [bits_or _ _ hm hn']
              refine (Builder_WriteByte w.heap.size w.heap.size _ _ _ HBB1.out (by have := HL.out; omega) HB1.out.size).mono ?_
              rintro e w1 ⟨rfl, hB2, hb2⟩
              have HB2 := hid (HB1.out.trans hb2)
              have HBB2 := hid hB2
              clear hB2 hb2
              go_wp2
              go_roundw
              case rel => exact ⟨k + 3, acc ++ [UInt8.ofNat (m * 16 + n)], by omega, by simp; omega, by go_num, hid (by rw [HR.out, hn.out, show ((m : Int) * 16 + n).toNat = m * 16 + n by omega]; cases rawMean (t.data.toList.drop (k + 3)) <;> simp), by rw [byteCells_or m n hm hn']; exact HBB2.out, HB2.out⟩
              case measure => simp [intOf]; omega
        · have hge : (t.size : Int) ≤ (k : Int) + 2 := by omega
          have hn : rawMean (t.data.toList.drop k) = none := by
            rw [hst.out]
            exact rawMean_short _ (by simp; omega)
          have hm := meanL_none (by rw [HR.out, hn]; rfl : rawMean t.data.toList = none)
          have HM := hid hm
          clear hm hn
          go_wp2
          exact bodyPost_ret (v := .tuple #[.string ⟨#[]⟩, .bool false]) (by simp [results, Tryz.results32, go_sem]) rfl ⟨by rw [HM.out]; rfl, HB.out⟩
      · have p3' : ((c.toNat : Int) != 92) = true := by
          simp
          intro e
          apply hp
          exact UInt8.toNat_inj.1 (by simpa using (by omega : c.toNat = 92))
        have hrw := hid (rawMean_cons c (t.data.toList.drop (k + 1)) hp)
        clear hp
        go_wp2_with fail
        refine (Builder_WriteByte w.heap.size w.heap.size _ _ _ HBB.out (by have := HL.out; omega) HB.out.size).mono ?_
        rintro e w1 ⟨rfl, hB1, hb1⟩
        have HB1 := hid (HB.out.trans hb1)
        have HBB1 := hid hB1
        clear hB1 hb1
        go_wp2
        go_roundw
        case rel => exact ⟨k + 1, acc ++ [c], by omega, by simp; omega, by go_num, hid (by rw [HR.out, hst.out, hrw.out]; cases rawMean (t.data.toList.drop (k + 1)) <;> simp), by simpa [Lib.byteCells] using HBB1.out, HB1.out⟩
        case measure => simp [intOf]; omega
    · obtain rfl : k = t.size := by omega
      have hr : rawMean t.data.toList = some acc := by
        rw [HR.out, List.drop_eq_nil_of_le (by simp)]
        simp [rawMean]
      have HM := hid hr
      clear hr
      go_wp2_with fail
      refine (Tryz.Builder_String_any_f w.heap.size w.heap.size _ _ (Lib.IsBuilderF.of HBB.out) HB.out.size).mono ?_
      rintro e w1 ⟨rfl, hB1, hb1⟩
      have HB1 := hid (HB.out.trans hb1)
      have HBB1 := hid hB1
      clear hB1 hb1
      go_wp2_with fail
      refine (text_Show _ _ (by have := hak; show acc.length ≤ _; omega)).mono ?_
      rintro e w2 ⟨rfl, hb2⟩
      by_cases he : showL acc = t.data.toList
      · have hm := hid (meanL_some HM.out he)
        have he3 : (showL acc == t.toList) = true := by rw [toList_data]; simpa using he
        have HB2 := hid (HB1.out.trans (hb2.mono HB1.out.size))
        have HBB2 := hid (IsBuilderF_below HBB1.out hb2)
        clear hb2 he
        go_wp2_with fail
        refine (Tryz.Builder_String_any_f w.heap.size w.heap.size _ _ HBB2.out HB2.out.size).mono ?_
        rintro e w3 ⟨rfl, hB3, hb3⟩
        have HB3 := hid (HB2.out.trans hb3)
        clear hB3 hb3
        go_wp2
        exact bodyPost_ret (v := .tuple #[.string ⟨acc.toArray⟩, .bool true]) (by simp [results, Tryz.results32, go_sem]) rfl ⟨by rw [hm.out]; rfl, HB3.out⟩
      · have hm := hid (meanL_not HM.out he)
        have he3 : (showL acc == t.toList) = false := by rw [toList_data]; simpa using he
        have HB2 := hid (HB1.out.trans (hb2.mono HB1.out.size))
        clear hb2 he
        go_wp2
        exact bodyPost_ret (v := .tuple #[.string ⟨#[]⟩, .bool false]) (by simp [results, Tryz.results32, go_sem]) rfl ⟨by rw [hm.out]; rfl, HB2.out⟩

end Go.Proofs.YtoiobhcgpajogabGreatDoor

/- What the texts of bytes say, in plain words. -/
namespace Go.Proofs.YtoiobhcgpajogabGreatDoor
open Go.RowKit

end Go.Proofs.YtoiobhcgpajogabGreatDoor

/- The walk of Meant. -/
namespace Go.Proofs.YtoiobhcgpajogabGreatDoor
open Go.RowKit

end Go.Proofs.YtoiobhcgpajogabGreatDoor
