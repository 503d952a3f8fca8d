/- The document's desk: num, say, F, LinesFault, NewDesk. -/
import Derived.Test.YtoiobhcgpajogaaGreatDoorDesk11
import Derived.Lib.SplitLaws
namespace Go.Proofs.YtoiobhcgpajogaaGreatDoor
open Go.RowKit

set_option maxHeartbeats 1000000 in
theorem ref_num (n : Int) (h0 : -9223372036854775808 ≤ n) (h1 : n ≤ 9223372036854775807) (w : World) (hT : Lib.TabIs Tryz.prog w "internal/strconv.uint64pow10" .u64 Lib.pow10Tab) :
    Calls Tryz.prog 38 #[.int .i64 n] w (StrPost (Lib.itoa n) w) := by
  have HT := hid hT
  clear hT
  go_enter Tryz.func38, Tryz.ntmps38
  go_wp2_with fail
  refine (Tryz.strconv_Itoa n h0 h1 w HT.out).mono ?_
  rintro e w1 ⟨rfl, k, os, hw1⟩
  have hb := hid (show Below w.heap.size w w1 from by rw [hw1]; exact Lib.below_grow _ _ (Nat.le_refl _) _ _)
  clear hw1
  go_wp2
  go_ret
  exact ⟨rfl, hb.out⟩

set_option maxHeartbeats 1000000 in
theorem ref_say (g : Nat → Nat) (q d c : Nat) (t l : List UInt8) (w : World) (hL : LocC w g q d 48 [.string ⟨t.toArray⟩, .pointer (some ⟨c, 0, none⟩)]) (hlen : t.length + l.length ≤ 1000000000) :
    Calls Tryz.prog 36 #[.pointer (some ⟨d, 0, none⟩), .string ⟨l.toArray⟩] w fun e w' => e = .returned (.tuple #[]) ∧ LocC w' g q d 48 [.string ⟨(t ++ (l ++ [10])).toArray⟩, .pointer (some ⟨c, 0, none⟩)] ∧ Evo q (q + 1) g g w w' := by
  have c0 : w.cell? ⟨d, 0, none⟩ = some (.string ⟨t.toArray⟩) := hL.1.cell 0
  have f0 : w.frozen? ⟨d, 0, none⟩ = false := hL.1.free 0
  have HL := hid (hL.set 0 (.string ⟨(t ++ (l ++ [10])).toArray⟩))
  have HE := hid (evo_store (w := w) (i := 0) (.string ⟨(t ++ (l ++ [10])).toArray⟩) hL.2)
  have l1 : (⟨t.toArray⟩ : ByteArray).size = t.length := by simp [ByteArray.size]
  have l2 : (⟨l.toArray⟩ : ByteArray).size = l.length := by simp [ByteArray.size]
  have e1 : (⟨t.toArray⟩ : ByteArray) ++ ((⟨l.toArray⟩ : ByteArray) ++ ⟨#[10]⟩) = ⟨(t ++ (l ++ [10])).toArray⟩ := by
    rw [show (⟨l.toArray⟩ : ByteArray) ++ ⟨#[10]⟩ = ⟨(l ++ [10]).toArray⟩ from ba_append l [10]]
    exact ba_append t (l ++ [10])
  have E1 := hid e1
  clear hL e1
  generalize ht : (⟨t.toArray⟩ : ByteArray) = tb at *
  generalize hl : (⟨l.toArray⟩ : ByteArray) = lb at *
  clear ht hl
  go_enter Tryz.func36, Tryz.ntmps36
  go_wp2
  go_end0
  rw [E1.out]
  exact ⟨rfl, HL.out, HE.out⟩

set_option maxHeartbeats 1000000 in
theorem ref_F (c a : Int) (w : World) : Calls Tryz.prog 17 #[.int .i64 c, .int .i64 a] w fun e w' => e = .returned (.agg #[.int .i64 c, .int .i64 a]) ∧ Below w.heap.size w w' := by
  go_enter Tryz.func17, Tryz.ntmps17
  go_wp2
  refine bodyPost_ret (v := .agg #[.int .i64 c, .int .i64 a]) (by simp [results, Tryz.results17, go_sem]) rfl ⟨rfl, ?_⟩
  repeat' first | exact Below.refl _ _ | refine Below.setCell ?_ ?_ _ | refine Below.alloc ?_ ?_ _ | (simp; done)

theorem nlD_all {s : ByteArray} (h : ∀ j (hj : j < s.size), s[j] ≠ 10) : nlD s.data.toList = false := by
  unfold nlD
  rw [List.contains_eq_mem, decide_eq_false_iff_not]
  intro hm
  obtain ⟨j, hj, e⟩ := List.getElem_of_mem hm
  exact h j (by simpa using hj) e

theorem nlD_hit {s : ByteArray} {j : Nat} (hj : j < s.size) (h : s[j] = 10) : nlD s.data.toList = true := by
  unfold nlD
  rw [List.contains_eq_mem, decide_eq_true_iff]
  rw [← h]
  exact List.getElem_mem (l := s.data.toList) (by simpa using hj)

set_option maxHeartbeats 4000000 in
set_option maxRecDepth 100000 in
theorem ref_LinesFault (g : Nat → Nat) (a : Option Addr) (cap : Nat) (xs : List ByteArray) (w : World) (hA : LinesAt w g a xs) (hn : xs.length ≤ 1000000) (hs : ∀ x ∈ xs, x.size ≤ 100000) :
    Calls Tryz.prog 9 #[.slice a xs.length cap] w fun e w' => e = .returned (.agg #[.int .i64 (faultD (xs.map (·.data.toList))).1, .int .i64 (faultD (xs.map (·.data.toList))).2]) ∧ Below w.heap.size w w' := by
  have hB1 := (Below.refl w.heap.size w).alloc (Nat.le_refl _) (.cells #[.int .i64 0, .int .i64 0] 31)
  have L1 := hid (LocC.new g 0 w 31 [.int .i64 0, .int .i64 0])
  have A1 := hid (hA.below hB1)
  have B1 := hid hB1
  have HS := hid hs
  clear hA hs hB1
  have hni : (xs.length : Int) ≤ 1000000 := by omega
  go_enter Tryz.func9, Tryz.ntmps9
  go_upto_region 1 with (fail)
  generalize hw1 : w.alloc (.cells #[.int .i64 0, .int .i64 0] 31) = w1 at *
  clear hw1
  have hfin : ∀ W, Below w1.heap.size w1 W → ∀ c b : Int, Below w.heap.size w ((W.setCell ⟨w.heap.size, 0, none⟩ (.int .i64 c)).setCell ⟨w.heap.size, 1, none⟩ (.int .i64 b)) := fun W h c b =>
    ((B1.out.trans (h.mono B1.out.size)).setCell (p := ⟨w.heap.size, 0, none⟩) (Nat.le_refl _) _).setCell (p := ⟨w.heap.size, 1, none⟩) (Nat.le_refl _) _
  have FIN := hid hfin
  clear hfin
  generalize hb2 : w.heap.size = b2 at *
  have HB2 := hid hb2
  clear hb2
  by_cases h150 : 150 < xs.length
  · have hf : faultD (xs.map (·.data.toList)) = (14, -1) := faultD_many (by simpa using h150)
    have HF := hid hf
    have h1 : (150 : Int) < (xs.length : Int) := by omega
    have CF := hid (ref_F 14 (-1) w1)
    clear hf h150
    go_wp2_with fail
    refine CF.out.mono ?_
    rintro e w2 ⟨rfl, hb⟩
    have L2 := L1.out.below hb
    have c0 : w2.cell? ⟨b2, 0, none⟩ = some (.int .i64 0) := L2.1.cell 0
    have c1 : w2.cell? ⟨b2, 1, none⟩ = some (.int .i64 0) := L2.1.cell 1
    have f0 : w2.frozen? ⟨b2, 0, none⟩ = false := L2.1.free 0
    have f1 : w2.frozen? ⟨b2, 1, none⟩ = false := L2.1.free 1
    have HC := hid (fault_cells L2 14 (-1))
    have HB := hid (FIN.out w2 hb 14 (-1))
    clear hb L2
    go_wp2
    generalize (w2.setCell ⟨b2, 0, none⟩ (.int .i64 14)).setCell ⟨b2, 1, none⟩ (.int .i64 (-1)) = w5 at HB HC ⊢
    have c0' := HC.out.1
    have c1' := HC.out.2
    refine bodyPost_ret (v := .agg #[.int .i64 14, .int .i64 (-1)]) (by simp [results, Tryz.results9, go_sem, c0', c1']) rfl ?_
    exact ⟨by rw [HF.out], by rw [HB2.out]; exact HB.out⟩
  · have HH := hid h150
    have hle2 : (xs.length : Int) ≤ 150 := by omega
    clear h150
    go_wp2
    go_loopw [3] (fun i wr => ∃ k : Nat, k ≤ xs.length ∧ i = .int .i64 k ∧ Hid (∀ j, j < k → ∀ hl : j < xs.length, nlD xs[j].data.toList = false) ∧ Hid (Below w1.heap.size w1 wr)) (fun i _ => xs.length - (intOf i).toNat)
    case atStart => exact ⟨0, Nat.zero_le _, rfl, hid (fun j hj => absurd hj (by omega)), hid (Below.refl _ _)⟩
    case round =>
      obtain ⟨k, hk, rfl, HN, HB⟩ := hrel
      by_cases hlt : k < xs.length
      · obtain ⟨b, o, rfl, c0⟩ := (A1.out.below HB.out).get hlt
        have hki : (k : Int) < (xs.length : Int) := by omega
        have hk0 : (0 : Int) ≤ (k : Int) := by omega
        have hsz := HS.out xs[k] (List.getElem_mem _)
        have HST := hid (show nlD xs[k].data.toList = false → ∀ j, j < k + 1 → ∀ hl : j < xs.length, nlD xs[j].data.toList = false from fun h9 j hj hl => by
          rcases Nat.lt_or_ge j k with h' | h'
          · exact HN.out j h' hl
          · obtain rfl : j = k := by omega
            exact h9)
        have HFA := hid (show nlD xs[k].data.toList = true → faultD (xs.map (·.data.toList)) = (15, (k : Int)) from fun h9 => faultD_line (by rw [List.length_map]; exact HH.out) k (by rw [List.length_map]; exact hlt) (fun j hj => by rw [List.getElem_map]; exact HN.out j hj (by omega)) (by rw [List.getElem_map]; exact h9))
        generalize xs[k] = s at *
        have hszi : (s.size : Int) ≤ 100000 := by omega
        go_wp2
        obtain ⟨wo, hwo⟩ : ∃ wo, wo = wr := ⟨_, rfl⟩
        subst hwo
        go_loopw [4] (fun i2 wr => ∃ m : Nat, m ≤ s.size ∧ i2 = .int .i64 m ∧ Hid (∀ j, j < m → ∀ hl : j < s.size, s[j] ≠ 10) ∧ Hid (Below wo.heap.size wo wr)) (fun i2 _ => s.size - (intOf i2).toNat)
        case atStart => exact ⟨0, Nat.zero_le _, rfl, hid (fun j hj => absurd hj (by omega)), hid (Below.refl _ _)⟩
        case round =>
          obtain ⟨m, hm, rfl, HM, HQ⟩ := hrel
          have d0 := cell_below c0 HQ.out
          by_cases hml : m < s.size
          · have hmi : (m : Int) < (s.size : Int) := by omega
            have hm0 : (0 : Int) ≤ (m : Int) := by omega
            have HHIT := hid (show s[m] = 10 → nlD s.data.toList = true from fun h => nlD_hit hml h)
            have HNO := hid (show s[m] ≠ 10 → ∀ j, j < m + 1 → ∀ hl : j < s.size, s[j] ≠ 10 from fun h9 j hj hl => by
              rcases Nat.lt_or_ge j m with h' | h'
              · exact HM.out j h' hl
              · obtain rfl : j = m := by omega
                exact h9)
            generalize hc : s[m] = c at *
            by_cases h10 : c = 10
            · have hf := HFA.out (HHIT.out h10)
              have HF := hid hf
              have hci : (c.toNat : Int) = 10 := by rw [h10]; rfl
              have hbq := (HB.out.trans (HQ.out.mono HB.out.size))
              have CF := hid (ref_F 15 k wr)
              have BQ := hid hbq
              clear hf h10 hbq
              go_wp2_with fail
              refine CF.out.mono ?_
              rintro e w2 ⟨rfl, hb⟩
              have hb' := BQ.out.trans (hb.mono BQ.out.size)
              have L2 := L1.out.below hb'
              have e0 : w2.cell? ⟨b2, 0, none⟩ = some (.int .i64 0) := L2.1.cell 0
              have e1 : w2.cell? ⟨b2, 1, none⟩ = some (.int .i64 0) := L2.1.cell 1
              have f0 : w2.frozen? ⟨b2, 0, none⟩ = false := L2.1.free 0
              have f1 : w2.frozen? ⟨b2, 1, none⟩ = false := L2.1.free 1
              have HC := hid (fault_cells L2 15 k)
              have HBF := hid (FIN.out w2 hb' 15 k)
              clear hb hb' L2
              go_wp2
              generalize (w2.setCell ⟨b2, 0, none⟩ (.int .i64 15)).setCell ⟨b2, 1, none⟩ (.int .i64 k) = w5 at HBF HC ⊢
              have c0' := HC.out.1
              have c1' := HC.out.2
              refine bodyPost_ret (v := .agg #[.int .i64 15, .int .i64 k]) (by simp [results, Tryz.results9, go_sem, c0', c1']) rfl ?_
              exact ⟨by rw [HF.out], by rw [HB2.out]; exact HBF.out⟩
            · have hci : ((c.toNat : Int) == 10) = false := by
                rw [beq_eq_false_iff_ne]; intro e; exact h10 (UInt8.toNat_inj.1 (by simpa using (by omega : c.toNat = 10)))
              have hN := HNO.out h10
              have HN2 := hid hN
              clear hN h10
              go_wp2
              go_roundw
              case rel => exact ⟨m + 1, by omega, by go_num, HN2, HQ⟩
              case measure => simp [intOf]; omega
          · obtain rfl : m = s.size := by omega
            have HZ := hid (HST.out (nlD_all (fun j hj => HM.out j hj hj)))
            go_wp2
            go_roundw
            case rel => exact ⟨k + 1, by omega, by go_num, HZ, hid (HB.out.trans (HQ.out.mono HB.out.size))⟩
            case measure => simp [intOf]; omega
      · obtain rfl : k = xs.length := by omega
        have HF := hid (show faultD (xs.map (·.data.toList)) = (0, 0) from faultD_fine (by rw [List.length_map]; exact HH.out) (fun j hj => by rw [List.getElem_map]; exact HN.out j (by simpa using hj) (by simpa using hj)))
        have L2 := L1.out.below HB.out
        have e0 : wr.cell? ⟨b2, 0, none⟩ = some (.int .i64 0) := L2.1.cell 0
        have e1 : wr.cell? ⟨b2, 1, none⟩ = some (.int .i64 0) := L2.1.cell 1
        have f0 : wr.frozen? ⟨b2, 0, none⟩ = false := L2.1.free 0
        have f1 : wr.frozen? ⟨b2, 1, none⟩ = false := L2.1.free 1
        have HC := hid (fault_cells L2 0 0)
        have HBF := hid (FIN.out wr HB.out 0 0)
        clear L2 HN
        go_wp2
        generalize (wr.setCell ⟨b2, 0, none⟩ (.int .i64 0)).setCell ⟨b2, 1, none⟩ (.int .i64 0) = w5 at HBF HC ⊢
        have c0' := HC.out.1
        have c1' := HC.out.2
        refine bodyPost_ret (v := .agg #[.int .i64 0, .int .i64 0]) (by simp [results, Tryz.results9, go_sem, c0', c1']) rfl ?_
        exact ⟨by rw [HF.out], by rw [HB2.out]; exact HBF.out⟩

end Go.Proofs.YtoiobhcgpajogaaGreatDoor

/- The document's desk: Words. -/
namespace Go.Proofs.YtoiobhcgpajogaaGreatDoor
open Go.RowKit

/-- Words, one byte behind the other: w is what a word has so far. -/
def wordsR : List UInt8 → List UInt8 → List (List UInt8)
  | [], w => if w = [] then [] else [w]
  | c :: s, w => if c = 32 then (if w = [] then wordsR s [] else w :: wordsR s []) else wordsR s (w ++ [c])

theorem index_cons (b c : UInt8) (l : List UInt8) : Lib.index (b :: l) [c] = if b = c then 0 else if Lib.index l [c] = -1 then -1 else Lib.index l [c] + 1 := by
  rw [Lib.index_one, Lib.index_one]
  show (if b == c then (0 : Int) else if Lib.indexByte l c == -1 then -1 else Lib.indexByte l c + 1) = _
  by_cases h : b = c
  · simp [h]
  · by_cases h1 : Lib.indexByte l c = -1
    · simp [h, h1]
    · simp [h, h1]

theorem split_cons_eq (c : UInt8) (l : List UInt8) : Lib.split (c :: l) [c] = [] :: Lib.split l [c] := by
  unfold Lib.split
  rw [Lib.count_cons_eq, Nat.add_comm]
  have hi : Lib.index (c :: l) [c] = 0 := by rw [index_cons, if_pos rfl]
  conv => lhs; unfold Lib.splitK
  rw [hi]
  simp

theorem split_cons_ne (b c : UInt8) (l : List UInt8) (h : b ≠ c) : ∃ x r, Lib.split l [c] = x :: r ∧ Lib.split (b :: l) [c] = (b :: x) :: r := by
  unfold Lib.split
  rw [Lib.count_cons_ne b c l h]
  generalize Lib.count l [c] = n
  cases n with
  | zero => exact ⟨l, [], rfl, rfl⟩
  | succ n =>
    have hi := index_cons b c l
    rw [if_neg h] at hi
    unfold Lib.splitK
    rw [hi]
    have hge := Lib.indexByte_ge l c
    rw [← Lib.index_one] at hge
    by_cases h1 : Lib.index l [c] = -1
    · rw [if_pos h1, h1]
      exact ⟨l, [], by simp, by simp⟩
    · rw [if_neg h1]
      obtain ⟨i, hi'⟩ : ∃ i : Nat, Lib.index l [c] = i := ⟨(Lib.index l [c]).toNat, by omega⟩
      rw [hi']
      refine ⟨l.take i, Lib.splitK [c] 0 n (l.drop (i + 1)), ?_, ?_⟩
      · rw [if_neg (by simp)]; simp
      · rw [if_neg (by simp; omega)]
        have e : ((i : Int) + 1).toNat = i + 1 := by omega
        rw [e]; simp

theorem words_go : ∀ (s w : List UInt8), ∃ x r, Lib.split s [32] = x :: r ∧ wordsR s w = ((w ++ x) :: r).filter (fun w => decide (w ≠ []))
  | [], w => ⟨[], [], rfl, by
    unfold wordsR
    by_cases h : w = []
    · subst h; rfl
    · simp [h]⟩
  | c :: s, w => by
    by_cases h : c = 32
    · subst h
      obtain ⟨x, r, h1, h2⟩ := words_go s []
      refine ⟨[], Lib.split s [32], split_cons_eq 32 s, ?_⟩
      rw [h1, wordsR, if_pos rfl, h2]
      by_cases hw : w = []
      · subst hw; simp
      · rw [if_neg hw]; simp [hw]
    · obtain ⟨x, r, h1, h2⟩ := words_go s (w ++ [c])
      obtain ⟨x', r', e1, e2⟩ := split_cons_ne c 32 s h
      rw [h1] at e1
      cases e1
      refine ⟨c :: x, r, e2, ?_⟩
      rw [wordsR, if_neg h, h2]
      simp

theorem wordsD_eq (s : List UInt8) : wordsD s = wordsR s [] := by
  obtain ⟨x, r, h1, h2⟩ := words_go s []
  unfold wordsD
  rw [h1, h2, List.nil_append]

theorem data_inj : ∀ {xs ys : List ByteArray}, xs.map (·.data.toList) = ys.map (·.data.toList) → xs = ys
  | [], [], _ => rfl
  | [], _ :: _, h => by cases h
  | _ :: _, [], h => by cases h
  | x :: xs, y :: ys, h => by
    simp only [List.map_cons, List.cons.injEq] at h
    rw [data_inj h.2, Go.WideShapes.bytes_inj h.1]

theorem Tryz.infoStr : (Tryz.prog.info? 9).map (fun i => (i.zero, i.size, i.bytes)) = some (some (.string ⟨#[]⟩), 1, 16) := by kernel_rfl

theorem str_parts {P : Program} {t : TypeId} {z : Value} {a b : Nat} (h : (P.info? t).map (fun i => (i.zero, i.size, i.bytes)) = some (some z, a, b)) : ∃ i, P.info? t = some i ∧ i.zero = some z ∧ i.size = a ∧ i.bytes = b := by
  obtain ⟨i, hi, he⟩ := Option.map_eq_some_iff.1 h
  simp only [Prod.mk.injEq] at he
  exact ⟨i, hi, he.1, he.2.1, he.2.2⟩

def WordsPostR (s : ByteArray) (w : World) (e : Ending) (w' : World) : Prop :=
  ∃ v, e = .returned v ∧ w'.ownsRow w.heap.size 9 1 v (wordsB s).length ((wordsB s).map Value.string) ∧ Below w.heap.size w w'

/-- How far a word came. -/
def WRel (s : ByteArray) (k : Nat) (os : List ByteArray) (wl : List UInt8) : Prop :=
  (k ≤ s.size ∧ wordsD s.data.toList = os.map (·.data.toList) ++ wordsR (s.data.toList.drop k) wl) ∨ (k = s.size + 1 ∧ wordsD s.data.toList = os.map (·.data.toList))

set_option maxHeartbeats 4000000 in
set_option maxRecDepth 100000 in
theorem ref_Words (s : ByteArray) (w : World) (hs : s.size ≤ 100000) : Calls Tryz.prog 34 #[.string s] w (WordsPostR s w) := by
  obtain ⟨i0, hi, hz0, hz1, hz2⟩ := str_parts Tryz.infoStr
  have hsi : (s.size : Int) ≤ 100000 := by omega
  go_enter Tryz.func34, Tryz.ntmps34
  go_wp2
  go_loopw [3, 4, 5] (fun o wv i wr => ∃ (k : Nat) (os : List ByteArray) (r : ByteArray), k ≤ s.size + 1 ∧ i = .int .i64 k ∧ wv = .string r ∧ Hid (WRel s k os r.data.toList) ∧ os.length ≤ k ∧ r.size ≤ k ∧ Hid (wr.ownsRow w.heap.size 9 1 o os.length (os.map Value.string)) ∧ Hid (Below w.heap.size w wr)) (fun _ _ i _ => s.size + 1 - (intOf i).toNat)
  case atStart => exact ⟨0, [], ⟨#[]⟩, Nat.zero_le _, rfl, rfl, hid (.inl ⟨Nat.zero_le _, by rw [wordsD_eq]; rfl⟩), Nat.le_refl _, Nat.le_refl _, hid (World.ownsRow_nil _ _ _ _), hid (Below.refl _ _)⟩
  case round =>
    obtain ⟨k, os, r, hk, rfl, rfl, HR, hol, hrl, HO, HB⟩ := hrel
    by_cases hle : k ≤ s.size
    · have hki : (k : Int) ≤ (s.size : Int) := by omega
      have hk0 : (0 : Int) ≤ (k : Int) := by omega
      obtain ⟨ao, co, rfl, -, -⟩ := ownsRow.sliceAt HO.out
      have HW := hid (show wordsD s.data.toList = os.map (·.data.toList) ++ wordsR (s.data.toList.drop k) r.data.toList from by
        rcases HR.out with h | h
        · exact h.2
        · omega)
      clear HR
      by_cases hc : k < s.size ∧ ∃ h : k < s.size, s[k] ≠ 32
      · obtain ⟨hlt, hlt0, h32⟩ := hc
        have hlt' : k < s.data.toList.length := by simpa using hlt
        have hdr : s.data.toList.drop k = s[k] :: s.data.toList.drop (k + 1) := by rw [List.drop_eq_getElem_cons hlt']; rfl
        have hx := ext_one s k hlt
        have HREL := hid (show WRel s (k + 1) os (r.data.toList ++ [s[k]]) from .inl ⟨by omega, by rw [HW.out, hdr, wordsR, if_neg h32]⟩)
        have HX := hid hx
        have hkl : (k : Int) < (s.size : Int) := by omega
        clear hdr hx hle
        generalize hcc : s[k] = c at *
        have hci : ((c.toNat : Int) != 32) = true := by
          simp only [bne_iff_ne, ne_eq]
          intro e; exact h32 (UInt8.toNat_inj.1 (by simpa using (by omega : c.toNat = 32)))
        clear h32
        go_wp2
        go_roundw
        case rel =>
          refine ⟨k + 1, os, _, by omega, by go_num, rfl, ?_, by omega, ?_, HO, HB⟩
          · rw [HX.out]; exact hid (by have := HREL.out; simpa using this)
          · rw [HX.out]; simp; show _ + 1 ≤ _; omega
        case measure => simp [intOf]; omega
      · have HREL := hid (show WRel s (k + 1) (if r.data.toList = [] then os else os ++ [r]) [] from by
          by_cases hlt : k < s.size
          · have h32 : s[k] = 32 := by
              refine Classical.byContradiction fun h => hc ⟨hlt, hlt, h⟩
            have hlt' : k < s.data.toList.length := by simpa using hlt
            have hdr : s.data.toList.drop k = s[k] :: s.data.toList.drop (k + 1) := by rw [List.drop_eq_getElem_cons hlt']; rfl
            refine .inl ⟨by omega, ?_⟩
            rw [HW.out, hdr, wordsR, if_pos h32]
            by_cases hr : r.data.toList = []
            · rw [if_pos hr, if_pos hr]
            · rw [if_neg hr, if_neg hr]; simp
          · obtain rfl : k = s.size := by omega
            refine .inr ⟨rfl, ?_⟩
            rw [HW.out, List.drop_eq_nil_of_le (by simp), wordsR]
            by_cases hr : r.data.toList = []
            · rw [if_pos hr, if_pos hr]; simp
            · rw [if_neg hr, if_neg hr]; simp)
        have hcond : ((k : Int) < (s.size : Int) ∧ ∃ h : k < s.size, ((s[k].toNat : Int) != 32) = false) ∨ ¬ (k : Int) < (s.size : Int) := by
          by_cases hlt : k < s.size
          · left
            have h32 : s[k] = 32 := by
              refine Classical.byContradiction fun h => hc ⟨hlt, hlt, h⟩
            exact ⟨by omega, hlt, by rw [h32]; rfl⟩
          · right; omega
        clear hc HW
        by_cases hr : r.data.toList = []
        · rw [if_pos hr] at HREL
          have hr2 : (r.toList != []) = false := by rw [toList_data, hr]; rfl
          have hr3 : (r.toList == []) = true := by rw [toList_data, hr]; rfl
          clear hr
          rcases hcond with ⟨h1, h2, h3⟩ | h1
          all_goals
            go_wp2
            go_roundw
            case rel => exact ⟨k + 1, os, ⟨#[]⟩, by omega, by go_num, rfl, HREL, by omega, Nat.zero_le _, HO, HB⟩
            case measure => simp [intOf]; omega
        · rw [if_neg hr] at HREL
          have hr2 : (r.toList != []) = true := by rw [toList_data]; simpa using hr
          have hr3 : (r.toList == []) = false := by rw [toList_data]; simpa using hr
          have q1 : os.length + 1 ≤ maxLen := by unfold maxLen; omega
          have q2 : (os.length + 1) * 16 ≤ 140737488355328 := by omega
          clear hr
          rcases hcond with ⟨h1, h2, h3⟩ | h1
          all_goals
            go_wp2_with (refine wpList_append_own _ rfl (.tmp 31) (.tmp 33) 22 rfl w.heap.size 9 i0 (.string ⟨#[]⟩) 1 16 Tryz.underlying22 hi hz0 hz1 hz2 rfl (by decide) (.slice ao os.length co) os.length (os.map Value.string) rfl (HO.out.alloc _) ⟨wr.heap.size, 0, none⟩ 1 1 [.string r] rfl rfl (cells_new wr [.string r] 9) ?c2 q1 q2 ?c5 ?_)
            case c2 => first | rfl | (intro u hu; simp at hu; subst hu; rfl)
            case c5 => have := HB.out.size; simp; omega
            intro v' w4 hown' hgrow _
            have HB4 := hid ((HB.out.alloc HB.out.size (.cells #[.string r] 9)).grown hgrow (by have := HB.out.size; simp; omega) (fun j hj => (HO.out.lt j hj).1))
            have HO4 := hid (show w4.ownsRow w.heap.size 9 1 v' (os ++ [r]).length ((os ++ [r]).map Value.string) by rw [List.map_append, List.length_append]; exact hown')
            clear hown' hgrow
            go_wp2
            go_roundw
            case rel => exact ⟨k + 1, os ++ [r], ⟨#[]⟩, by omega, by go_num, rfl, HREL, by simp; omega, Nat.zero_le _, HO4, HB4⟩
            case measure => simp [intOf]; omega
    · obtain rfl : k = s.size + 1 := by omega
      have hos : os = wordsB s := data_inj (by
        rw [wordsB_data]
        rcases HR.out with h | h
        · omega
        · exact h.2.symm)
      subst hos
      obtain ⟨ao, co, rfl, -, -⟩ := ownsRow.sliceAt HO.out
      have HP := hid (show WordsPostR s w (.returned (.slice ao (wordsB s).length co)) wr from ⟨_, rfl, HO.out, HB.out⟩)
      clear HR HO
      go_wp2
      go_ret
      exact HP.out

end Go.Proofs.YtoiobhcgpajogaaGreatDoor
