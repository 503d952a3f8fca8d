/- The walk of Encode. -/
import Derived.Test.YtoiobhcgpajogabCodec5
import Derived.Deep.Cut
namespace Go.Proofs.Ytoiobhcgpajogab
open Go.RowKit

def EncPost (l : List Ent) (w : World) (e : Ending) (w' : World) : Prop :=
  ∃ v n, e = .returned (.tuple #[v, .int .i64 (ckPs (-1) l)]) ∧ w'.ownsRow w.heap.size 5 1 v n (Lib.byteCells (if ckPs (-1) l = 0 then encL l else [])) ∧ Below w.heap.size w w'

theorem byteCells_append (a b : List UInt8) : Lib.byteCells (a ++ b) = Lib.byteCells a ++ Lib.byteCells b := by simp [Lib.byteCells]
theorem byteCells_length (a : List UInt8) : (Lib.byteCells a).length = a.length := by simp [Lib.byteCells]

theorem keyB_toNat {n : Int} (h : 0 ≤ n ∧ n < 8) : ((keyB n).toNat : Int) = n := by
  unfold keyB
  simp
  omega

theorem oneCell_bytes (l : List UInt8) : ∀ u ∈ Lib.byteCells l, u.oneCell' = true := by
  intro u hu
  obtain ⟨b, _, rfl⟩ := List.mem_map.1 hu
  rfl

theorem bodyL_snoc (l : List Ent) (x : Ent) : bodyL (l ++ [x]) = bodyL l ++ bodyE x := by simp [bodyL]

theorem sliceAt_below {w w' : World} {a : Option Addr} {cells : List Value} (h : SliceAt w a cells) (k : Below w.heap.size w w') : SliceAt w' a cells := by
  by_cases hne : cells = []
  · exact .inl hne
  · obtain ⟨b, off, ha, hlt⟩ := h.lt hne
    exact h.lift (fun ad had => by rw [ha] at had; cases had; exact k.block b hlt)

def preL (n : Nat) (l : List Ent) : List UInt8 := 0 :: UInt8.ofNat n :: bodyL l

theorem preL_snoc (n : Nat) (l : List Ent) (x : Ent) : preL n (l ++ [x]) = preL n l ++ bodyE x := by simp [preL, bodyL_snoc]

theorem enc_row {w : World} {B : Nat} {v : Value} {pre : List UInt8} {n : Int} {s t : ByteArray} (h : w.ownsRow B 5 1 v (pre.length + 2 + s.size) (Lib.byteCells pre ++ [.int .u8 (IntKind.u8.wrap n), .int .u8 (IntKind.u8.wrap s.size)] ++ Lib.strCells s)) (ht : t = s) (hn : 0 ≤ n ∧ n < 8) (hs : s.size ≤ 12) :
    w.ownsRow B 5 1 v (pre ++ (keyB n :: UInt8.ofNat t.size :: t.data.toList)).length (Lib.byteCells (pre ++ (keyB n :: UInt8.ofNat t.size :: t.data.toList))) := by
  subst ht
  have e1 : IntKind.u8.wrap n = ((keyB n).toNat : Int) := by rw [keyB_toNat hn, IntWalk.u8_in _ ⟨by omega, by omega⟩]
  have e2 : IntKind.u8.wrap (t.size : Int) = ((UInt8.ofNat t.size).toNat : Int) := by
    rw [IntWalk.u8_in _ ⟨by omega, by omega⟩]
    simp
    omega
  rw [e1, e2] at h
  have e3 : Lib.byteCells (pre ++ (keyB n :: UInt8.ofNat t.size :: t.data.toList)) = Lib.byteCells pre ++ [.int .u8 ((keyB n).toNat : Int), .int .u8 ((UInt8.ofNat t.size).toNat : Int)] ++ Lib.strCells t := by
    simp [Lib.byteCells, Lib.strCells]
  have e4 : (pre ++ (keyB n :: UInt8.ofNat t.size :: t.data.toList)).length = pre.length + 2 + t.size := by simp; omega
  rw [e3, e4]
  exact h

set_option maxHeartbeats 4000000 in
set_option maxRecDepth 100000 in
theorem codec_Encode (a : Option Addr) (cap : Nat) (l : List Ent) (w : World) (hn : l.length ≤ 1000000) (hv : ∀ x ∈ l, x.v.bytes.size ≤ maxLen) (h : SliceAt w a (encEnts l)) :
    Calls Try.prog 67 #[.slice a l.length cap] w (EncPost l w) := by
  have CK := fun w' (hb : Below w.heap.size w w') => table_Check a cap l w' hn hv (sliceAt_below h hb)
  have CKH := hid CK
  have H := hid h
  clear h CK hv
  by_cases hc : ckPs (-1) l = 0
  · obtain ⟨hok, hlen, -⟩ := ckPs_zero l (-1) (by omega) (by omega) hc
    have hlen' : l.length ≤ 8 := by omega
    have HOK := hid hok
    have HC := hid hc
    clear hok hlen hc
    obtain ⟨i0, hi, hz0, hz1, hz2⟩ := info_parts Try.infoU8
    go_enter Try.func67, Try.ntmps67
    go_wp2_with fail
    refine (CKH.out _ (Below.refl _ _)).mono ?_
    rintro e w1 ⟨rfl, hb⟩
    rw [HC.out]
    have HB1 := hid hb
    clear hb
    go_wp2_with fail
    have O0 : (w1.alloc (.cells #[.int .u8 0, .int .u8 l.length] 5)).ownsRow w.heap.size 5 1 (.slice (some ⟨w1.heap.size, 0, none⟩) 2 2) 2 [Value.int .u8 0, .int .u8 l.length] := World.ownsRow_lit (base := w.heap.size) (e := 5) (size := 1) w1 #[.int .u8 0, .int .u8 l.length] 2 HB1.out.size (by decide) rfl
    have hpre : [Value.int .u8 0, .int .u8 l.length] = Lib.byteCells (preL l.length []) := by
      have : (UInt8.ofNat l.length).toNat = l.length := by simp; omega
      simp [preL, bodyL, Lib.byteCells, this]
    have O0' : (w1.alloc (.cells #[.int .u8 0, .int .u8 l.length] 5)).ownsRow w.heap.size 5 1 (.slice (some ⟨w1.heap.size, 0, none⟩) 2 2) 2 (Lib.byteCells (preL l.length [])) := hpre ▸ O0
    have O0h := hid O0'
    clear O0 O0' hpre
    go_loopw [5, 19] (fun o i wr => ∃ k : Nat, k ≤ l.length ∧ i = .int .i64 k ∧ wr.ownsRow w.heap.size 5 1 o (preL l.length (l.take k)).length (Lib.byteCells (preL l.length (l.take k))) ∧ Below w.heap.size w wr) (fun _ i _ => l.length - (intOf i).toNat)
    case atStart => exact ⟨0, Nat.zero_le _, rfl, O0h.out, HB1.out.alloc HB1.out.size _⟩
    case round =>
      obtain ⟨k, hk, rfl, ho, hb⟩ := hrel
      have hln : (preL l.length (l.take k)).length ≤ 200 := by
        have := bodyL_length (l := l.take k) (fun x hx => HOK.out x (List.mem_of_mem_take hx))
        simp [preL] at *
        omega
      by_cases hlt : k < l.length
      · have hst : preL l.length (l.take (k + 1)) = preL l.length (l.take k) ++ bodyE l[k] := by rw [List.take_succ_eq_append_getElem hlt, preL_snoc]
        have hox := HOK.out l[k] (List.getElem_mem _)
        obtain ⟨b1, o1, rfl, v1⟩ := H.out.ents (by omega)
        obtain ⟨p1, p2, p3⟩ := v1 k hlt
        have l1 := World.block_lt_of_cell? w _ p1
        simp only at l1
        have P1 := (below_cell hb l1).trans p1
        have P2 := (below_cell hb l1).trans p2
        have P3 := (below_cell hb l1).trans p3
        have HB := hid hb
        have HO := hid ho
        have HST := hid hst
        clear v1 p1 p2 p3 hb hst ho
        generalize hx : l[k] = x at *
        clear hx
        obtain ⟨y1, y2, y3, y4⟩ := hox
        have hki : (k : Int) < (l.length : Int) := by omega
        have hk0 : (0 : Int) ≤ (k : Int) := by omega
        have hpos : 0 < (preL l.length (l.take k)).length := by simp [preL]
        generalize preL l.length (l.take k) = pre at *
        obtain ⟨g, bcap, rfl, hbc, hgl⟩ := ownsRow.some HO.out hpos
        go_upto_region 8 with (fail)
        have L1 := hid (Loc.new wr 42 [.int .i64 x.n, .bool x.v.there, .string x.v.bytes])
        have HB1 := hid (HB.out.alloc HB.out.size (.cells #[.int .i64 x.n, .bool x.v.there, .string x.v.bytes] 42))
        have HO1 := hid (HO.out.alloc (.cells #[.int .i64 x.n, .bool x.v.there, .string x.v.bytes] 42))
        generalize wr.alloc (.cells #[.int .i64 x.n, .bool x.v.there, .string x.v.bytes] 42) = W1 at *
        obtain ⟨Q1, Q2, Q3⟩ := loc_three L1.out
        clear P1 P2 P3
        cases ht : x.v.there
        · rw [ht] at Q2
          have hbe : bodyE x = [keyB x.n, 255] := by unfold bodyE; rw [ht]; rfl
          have HBE := hid hbe
          clear hbe y3 y4
          have q1 : pre.length + 2 ≤ maxLen := by unfold maxLen; omega
          have q2 : (pre.length + 2) * 1 ≤ 140737488355328 := by omega
          go_wp2_with (refine wpList_append_own _ rfl (.tmp 27) (.tmp 31) 60 rfl w.heap.size 5 i0 (.int .u8 0) 1 1 Try.underlying60 hi hz0 hz1 hz2 rfl (by decide) (.slice (some ⟨g, 0, none⟩) pre.length bcap) pre.length (Lib.byteCells pre) rfl (HO1.out.alloc _) ⟨W1.heap.size, 0, none⟩ 2 2 [.int .u8 x.n, .int .u8 255] rfl rfl (cells_new W1 _ _) ?c2 q1 q2 ?c5 ?_)
          case c2 => intro u hu; simp at hu; rcases hu with rfl | rfl <;> rfl
          case c5 => have := HB1.out.size; simp; omega
          intro v' w2 hown' hgrow _
          have hw2 := hid ((HB1.out.alloc HB1.out.size _).grown hgrow (by have := HB1.out.size; simp; omega) (fun j hj => (HO1.out.lt j hj).1))
          have HO2 := hid hown'
          clear hown' hgrow Q1 Q2 Q3
          go_wp2
          go_roundw
          case rel =>
            refine ⟨k + 1, by omega, by go_num, ?_, hw2.out⟩
            rw [HST.out, HBE.out]
            have e : Lib.byteCells (pre ++ [keyB x.n, 255]) = Lib.byteCells pre ++ [.int .u8 x.n, .int .u8 255] := by
              have := keyB_toNat ⟨y1, y2⟩
              rw [byteCells_append]
              simp [Lib.byteCells, this]
            rw [e]
            simpa using HO2.out
          case measure => simp [intOf]; omega
        · rw [ht] at Q2
          have hbe : bodyE x = keyB x.n :: UInt8.ofNat x.v.bytes.size :: x.v.bytes.data.toList := by unfold bodyE; rw [ht]; rfl
          have HBE := hid hbe
          clear hbe y4
          have q1 : pre.length + 2 ≤ maxLen := by unfold maxLen; omega
          have q2 : (pre.length + 2) * 1 ≤ 140737488355328 := by omega
          have q3 : pre.length + 2 + x.v.bytes.size ≤ maxLen := by unfold maxLen; omega
          have q4 : pre.length + 2 + x.v.bytes.size ≤ 140737488355328 := by omega
          generalize hs : x.v.bytes = s at *
          have HSB := hid hs
          clear hs
          have hB1s := HB1.out.size
          have hL1 := L1.out.lt
          have hne : g ≠ wr.heap.size := by omega
          go_wp2_with fail
          go_region_law (first
            | (refine step_append_own' rfl (.tmp 33) (.tmp 42) 60 rfl w.heap.size 5 i0 (.int .u8 0) 1 1 Try.underlying60 hi hz0 hz1 hz2 rfl (by decide) (.slice (some ⟨g, 0, none⟩) pre.length bcap) pre.length (Lib.byteCells pre) rfl (HO1.out.drew.alloc _) ⟨W1.heap.size, 0, none⟩ 2 2 [.int .u8 (IntKind.u8.wrap x.n), .int .u8 (IntKind.u8.wrap s.size)] rfl rfl (cells_new _ _ _) (by intro u hu; simp at hu; rcases hu with rfl | rfl <;> rfl) q1 q2 (by simp; omega) ?_; intro v' w2 hown' hgrow; have L2 : Loc w2 wr.heap.size 42 _ := (hgrow.block _ (by simp; omega) (by simpa [Value.ownBlock] using hne.symm)).trans (L1.out.drew.alloc _); have n3 : w2.cell? ⟨wr.heap.size, 2, none⟩ = some (.string s) := L2.cell 2; have hB2 := (HB1.out.drew.alloc hB1s _).grown hgrow (by simp; omega) (fun j hj => (HO1.out.lt j hj).1); have hB2s := hB2.size; clear L2)
            | (refine step_append_string rfl (.tmp 43) (.tmp 46) 60 9 rfl w.heap.size 5 i0 Try.underlying60 Try.underlying9 hi hz0 hz1 hz2 _ (pre.length + 2) _ rfl ‹World.ownsRow _ _ _ _ _ _ _› s rfl q3 q4 (by assumption) ?_; intro v3 w3 hown3 hgrow3; have hB3 := hB2.grown hgrow3 hB2s (fun j hj => (hown'.lt j hj).1)))
          all_goals
            have HO3 := hid hown3
            have HB3 := hid hB3
            clear hown3 hB3 hgrow3 hown' hgrow hB2 hB2s n3 Q1 Q2 Q3
            go_wp2
            go_roundw
            case rel =>
              refine ⟨k + 1, by omega, by go_num, ?_, HB3.out⟩
              rw [HST.out, HBE.out]
              exact enc_row HO3.out rfl ⟨y1, y2⟩ y3
            case measure => simp [intOf]; omega
      · obtain rfl : k = l.length := by omega
        rw [List.take_length] at ho hln
        have hpos : 0 < (preL l.length l).length := by simp [preL]
        obtain ⟨g, bcap, rfl, hbc, hgl⟩ := ownsRow.some ho hpos
        have c0 := ho.cellAt 0 (by omega)
        have f0 := ho.frozenAt 0
        have c0' : wr.cell? ⟨g, 0, none⟩ = some (.int .u8 0) := c0
        have hst := (ho.stored 0 (.int .u8 (2 + ((bodyL l).length : Int)))).1
        have hgg := (ho.lt g rfl).1
        have HB := hid hb
        have HO := hid ho
        have HST := hid hst
        clear c0 ho hst hb
        have hp0 : (0 : Int) < ((preL l.length l).length : Int) := by omega
        have hpl : (preL l.length l).length = 2 + (bodyL l).length := by simp [preL]; omega
        generalize hN : (preL l.length l).length = N at *
        have hbl := bodyL_length HOK.out
        go_wp2
        refine bodyPost_ret (v := .tuple #[.slice (some ⟨g, 0, none⟩) N bcap, .int .i64 0]) (by simp [results, Try.results67, go_sem]) rfl ⟨_, N, by rw [HC.out], ?_, HB.out.setCell hgg _⟩
        rw [if_pos HC.out]
        have e : (Lib.byteCells (preL l.length l)).set 0 (.int .u8 (2 + ((bodyL l).length : Int))) = Lib.byteCells (encL l) := by
          have e1 : ((UInt8.ofNat (2 + (bodyL l).length)).toNat : Int) = 2 + ((bodyL l).length : Int) := by simp; omega
          simp only [preL, encL, Lib.byteCells, List.map_cons, List.set_cons_zero, e1]
        rw [← e]
        exact HST.out
  · have hc' : (ckPs (-1) l != 0) = true := by simpa using hc
    go_enter Try.func67, Try.ntmps67
    go_wp2_with fail
    refine (CKH.out _ (Below.refl _ _)).mono ?_
    rintro e w1 ⟨rfl, hb⟩
    have HB1 := hid hb
    have HC := hid hc
    clear hb hc CKH
    generalize hce : ckPs (-1) l = c at hc' HC ⊢
    have HCE := hid hce
    clear hce
    go_wp2
    refine bodyPost_ret (v := .tuple #[.slice none 0 0, .int .i64 c]) (by simp [results, Try.results67, go_sem]) rfl ⟨_, 0, by rw [HCE.out], ?_, HB1.out⟩
    rw [HCE.out, if_neg HC.out]
    exact World.ownsRow_nil _ _ _ _

end Go.Proofs.Ytoiobhcgpajogab
