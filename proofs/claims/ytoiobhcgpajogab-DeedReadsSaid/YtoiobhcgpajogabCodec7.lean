/- The walk of BytesOf, of pairs that may be. -/
import Derived.Test.YtoiobhcgpajogabCodec6
namespace Go.Proofs.Ytoiobhcgpajogab
open Go.RowKit

def BofPost (l : List Ent) (w : World) (e : Ending) (w' : World) : Prop :=
  ∃ v n, e = .returned v ∧ w'.ownsRow w.heap.size 5 1 v n (Lib.byteCells (encL l)) ∧ Below w.heap.size w w'

def preB (n : Nat) (l : List Ent) : List UInt8 := UInt8.ofNat n :: bodyL l

theorem preB_snoc (n : Nat) (l : List Ent) (x : Ent) : preB n (l ++ [x]) = preB n l ++ bodyE x := by simp [preB, bodyL_snoc]

theorem bytes_cells (w : World) (s : ByteArray) (c : Nat) (T : TypeId) (fz : Nat × Nat) : ∀ j u, (Lib.byteCells s.data.toList)[j]? = some u → (w.alloc (.cells (bytesRow s c) T fz)).cell? ((⟨w.heap.size, 0, none⟩ : Addr).add j) = some u := by
  intro j u hu
  have e : (⟨w.heap.size, 0, none⟩ : Addr).add j = ⟨w.heap.size, j, none⟩ := by unfold Addr.add; split <;> simp_all
  have hj : j < s.data.size := by
    have := (List.getElem?_eq_some_iff.1 hu).1
    simpa [Lib.byteCells] using this
  rw [e]
  have e2 : (w.alloc (.cells (bytesRow s c) T fz)).cell? ⟨w.heap.size, j, none⟩ = (bytesRow s c)[j]? := by simp only [World.cell?, heap_alloc_new]; rfl
  rw [e2, bytesRow_at s c j hj, ← hu]
  simp only [Lib.byteCells, List.getElem?_map, Array.getElem?_toList, Array.getElem?_eq_getElem hj, Option.map_some]

set_option maxHeartbeats 4000000 in
set_option maxRecDepth 100000 in
theorem ref_BytesOf (a : Option Addr) (cap : Nat) (l : List Ent) (w : World) (hc : ckPs (-1) l = 0) (h : SliceAt w a (encEnts l)) :
    Calls Try.prog 51 #[.slice a l.length cap] w (BofPost l w) := by
  have H := hid h
  clear h
  obtain ⟨hok, hlen, -⟩ := ckPs_zero l (-1) (by omega) (by omega) hc
  have hlen' : l.length ≤ 8 := by omega
  have HOK := hid hok
  clear hok hlen hc
  obtain ⟨i0, hi, hz0, hz1, hz2⟩ := info_parts Try.infoU8
  go_enter Try.func51, Try.ntmps51
  go_wp2_with fail
  have O0 : (w.alloc (.cells #[.int .u8 l.length] 5)).ownsRow w.heap.size 5 1 (.slice (some ⟨w.heap.size, 0, none⟩) 1 1) 1 [Value.int .u8 l.length] := World.ownsRow_lit w #[.int .u8 l.length] 1 (Nat.le_refl _) (by decide) rfl
  have hpre : [Value.int .u8 l.length] = Lib.byteCells (preB l.length []) := by
    have : (UInt8.ofNat l.length).toNat = l.length := by simp; omega
    simp [preB, bodyL, Lib.byteCells, this]
  have O0' : (w.alloc (.cells #[.int .u8 l.length] 5)).ownsRow w.heap.size 5 1 (.slice (some ⟨w.heap.size, 0, none⟩) 1 1) 1 (Lib.byteCells (preB l.length [])) := hpre ▸ O0
  have O0h := hid O0'
  clear O0 O0' hpre
  go_loopw [3, 4] (fun o i wr => ∃ k : Nat, k ≤ l.length ∧ i = .int .i64 k ∧ wr.ownsRow w.heap.size 5 1 o (preB l.length (l.take k)).length (Lib.byteCells (preB l.length (l.take k))) ∧ Below w.heap.size w wr) (fun _ i _ => l.length - (intOf i).toNat)
  case atStart => exact ⟨0, Nat.zero_le _, rfl, O0h.out, (Below.refl _ _).alloc (Nat.le_refl _) _⟩
  case round =>
    obtain ⟨k, hk, rfl, ho, hb⟩ := hrel
    have hln : (preB l.length (l.take k)).length ≤ 200 := by
      have := bodyL_length (l := l.take k) (fun x hx => HOK.out x (List.mem_of_mem_take hx))
      simp [preB] at *
      omega
    by_cases hlt : k < l.length
    · have hst : preB l.length (l.take (k + 1)) = preB l.length (l.take k) ++ bodyE l[k] := by rw [List.take_succ_eq_append_getElem hlt, preB_snoc]
      have hox := HOK.out l[k] (List.getElem_mem _)
      obtain ⟨b1, o1, rfl, v1⟩ := H.out.ents (by omega)
      obtain ⟨p1, p2, p3⟩ := v1 k hlt
      have l1 := World.block_lt_of_cell? w _ p1
      simp only at l1
      have P1 := (below_cell hb l1).trans p1
      have P2 := (below_cell hb l1).trans p2
      have P3 := (below_cell hb l1).trans p3
      have HB := hid hb
      have HO := hid ho
      have HST := hid hst
      have PH2 := hid p2
      have PH3 := hid p3
      clear v1 p1 p2 p3 hb hst ho
      generalize hx : l[k] = x at *
      clear hx
      obtain ⟨y1, y2, y3, y4⟩ := hox
      have hki : (k : Int) < (l.length : Int) := by omega
      have hk0 : (0 : Int) ≤ (k : Int) := by omega
      have hpos : 0 < (preB l.length (l.take k)).length := by simp [preB]
      generalize preB l.length (l.take k) = pre at *
      obtain ⟨g, bcap, rfl, hbc, hgl⟩ := ownsRow.some HO.out hpos
      have q1 : pre.length + 1 ≤ maxLen := by unfold maxLen; omega
      have q2 : (pre.length + 1) * 1 ≤ 140737488355328 := by omega
      go_wp2_with (refine wpList_append_own _ rfl (.tmp 15) (.tmp 22) 60 rfl w.heap.size 5 i0 (.int .u8 0) 1 1 Try.underlying60 hi hz0 hz1 hz2 rfl (by decide) (.slice (some ⟨g, 0, none⟩) pre.length bcap) pre.length (Lib.byteCells pre) rfl (HO.out.alloc _) ⟨wr.heap.size, 0, none⟩ 1 1 [.int .u8 x.n] rfl rfl (cells_new wr _ _) ?c2 q1 q2 ?c5 ?_)
      case c2 => intro u hu; simp at hu; subst hu; rfl
      case c5 => have := HB.out.size; simp; omega
      intro v' w2 hown' hgrow _
      have hw2 := hid ((HB.out.alloc HB.out.size _).grown hgrow (by have := HB.out.size; simp; omega) (fun j hj => (HO.out.lt j hj).1))
      have HO2 := hid hown'
      have hn2 : ∀ y : Int, y = x.n → Lib.byteCells pre ++ [.int .u8 y] = Lib.byteCells (pre ++ [keyB x.n]) := by
        rintro y rfl
        have := keyB_toNat ⟨y1, y2⟩
        rw [byteCells_append]
        simp [Lib.byteCells, this]
      have HO3 := hid (show w2.ownsRow w.heap.size 5 1 v' (pre ++ [keyB x.n]).length (Lib.byteCells (pre ++ [keyB x.n])) by rw [← hn2 _ rfl]; simpa using HO2.out)
      have hpre2 : (pre ++ [keyB x.n]).length = pre.length + 1 := by simp
      have R2 := (below_cell hw2.out l1).trans PH2.out
      have R3 := (below_cell hw2.out l1).trans PH3.out
      have hbeT : bodyE x = if x.v.there then [keyB x.n] ++ (UInt8.ofNat x.v.bytes.size :: x.v.bytes.data.toList) else [keyB x.n] ++ [255] := by unfold bodyE; rfl
      have HBT := hid hbeT
      clear hown' hgrow P1 P2 P3 hn2 hbeT hbc hgl
      generalize hp2 : pre ++ [keyB x.n] = pre2 at *
      have HP2 := hid hp2
      clear HO2 hp2
      have HO2 := HO3
      have hp2pos : 0 < pre2.length := by omega
      obtain ⟨g2, bcap2, rfl, hbc2, hgl2⟩ := ownsRow.some HO2.out hp2pos
      have r1 : pre2.length + 1 ≤ maxLen := by unfold maxLen; omega
      have r2 : (pre2.length + 1) * 1 ≤ 140737488355328 := by omega
      cases ht : x.v.there
      · rw [ht] at R2
        have HBE := hid (show bodyE x = [keyB x.n] ++ [255] by rw [HBT.out, ht]; rfl)
        go_wp2_with (refine wpList_append_own _ rfl (.tmp 50) (.tmp 51) 60 rfl w.heap.size 5 i0 (.int .u8 0) 1 1 Try.underlying60 hi hz0 hz1 hz2 rfl (by decide) (.slice (some ⟨g2, 0, none⟩) pre2.length bcap2) pre2.length (Lib.byteCells pre2) rfl (HO2.out.alloc _) ⟨w2.heap.size, 0, none⟩ 1 1 [.int .u8 255] rfl rfl (cells_new w2 _ _) ?c3 r1 r2 ?c6 ?_)
        case c3 => first | rfl | (intro u hu; simp at hu; subst hu; rfl)
        case c6 => have := hw2.out.size; simp; omega
        intro v3 w3 hown' hgrow _
        have hw3 := hid ((hw2.out.alloc hw2.out.size _).grown hgrow (by have := hw2.out.size; simp; omega) (fun j hj => (HO2.out.lt j hj).1))
        have HOE := hid hown'
        clear hown' hgrow
        go_wp2
        go_roundw
        case rel =>
          refine ⟨k + 1, by omega, by go_num, ?_, hw3.out⟩
          rw [HST.out, HBE.out, ← List.append_assoc, HP2.out, byteCells_append, List.length_append, hpre2]
          exact HOE.out
        case measure => simp [intOf]; omega
      · rw [ht] at R2
        have HBE := hid (show bodyE x = [keyB x.n] ++ (UInt8.ofNat x.v.bytes.size :: x.v.bytes.data.toList) by rw [HBT.out, ht]; rfl)
        generalize x.v.bytes = s at *
        go_wp2_with (refine wpList_append_own _ rfl (.tmp 30) (.tmp 39) 60 rfl w.heap.size 5 i0 (.int .u8 0) 1 1 Try.underlying60 hi hz0 hz1 hz2 rfl (by decide) (.slice (some ⟨g2, 0, none⟩) pre2.length bcap2) pre2.length (Lib.byteCells pre2) rfl (HO2.out.alloc _) ⟨w2.heap.size, 0, none⟩ 1 1 [.int .u8 s.size] rfl rfl (cells_new w2 _ _) ?c3 r1 r2 ?c6 ?_)
        case c3 => first | rfl | (intro u hu; simp at hu; subst hu; rfl)
        case c6 => have := hw2.out.size; simp; omega
        intro v3 w3 hown' hgrow _
        have hw3 := hid ((hw2.out.alloc hw2.out.size _).grown hgrow (by have := hw2.out.size; simp; omega) (fun j hj => (HO2.out.lt j hj).1))
        have S3 := (below_cell hw3.out l1).trans PH3.out
        have HO3 := hid (show w3.ownsRow w.heap.size 5 1 v3 (pre2 ++ [UInt8.ofNat s.size]).length (Lib.byteCells (pre2 ++ [UInt8.ofNat s.size])) by
          have e1 : ((UInt8.ofNat s.size).toNat : Int) = s.size := by simp; omega
          have e2 : Lib.byteCells [UInt8.ofNat s.size] = [.int .u8 (s.size : Int)] := by
            show [Value.int .u8 ((UInt8.ofNat s.size).toNat : Int)] = _
            rw [e1]
          rw [byteCells_append, List.length_append, hpre2, e2]
          exact hown')
        have hpre3 : (pre2 ++ [UInt8.ofNat s.size]).length = pre.length + 2 := by simp; omega
        clear hown' hgrow R2 R3
        generalize hp3 : pre2 ++ [UInt8.ofNat s.size] = pre3 at *
        have HP3 := hid hp3
        clear hp3
        obtain ⟨g3, bcap3, rfl, hbc3, hgl3⟩ := ownsRow.some HO3.out (by omega)
        have u1 : pre3.length + s.size ≤ maxLen := by unfold maxLen; omega
        have u2 : (pre3.length + s.size) * 1 ≤ 140737488355328 := by omega
        have kc := fun (w : World) => run_bytes_of_string (P := Try.prog) w 9 60 5 s Try.underlying9 Try.underlying60 Try.underlying5
        go_wp2_with (refine wpList_append_own _ rfl (.tmp 41) (.tmp 48) 60 rfl w.heap.size 5 i0 (.int .u8 0) 1 1 Try.underlying60 hi hz0 hz1 hz2 rfl (by decide) (.slice (some ⟨g3, 0, none⟩) pre3.length bcap3) pre3.length (Lib.byteCells pre3) rfl (HO3.out.drew.alloc _) ⟨w3.heap.size, 0, none⟩ s.size _ (Lib.byteCells s.data.toList) rfl (by rw [byteCells_length]; simp) (bytes_cells w3.drew s _ _ _) (oneCell_bytes _) u1 u2 ?c7 ?_)
        case c7 => have := hw3.out.size; simp; omega
        intro v4 w4 hown' hgrow _
        have hw4 := hid ((hw3.out.drew.alloc (by have := hw3.out.size; simpa using this) _).grown hgrow (by have := hw3.out.size; simp; omega) (fun j hj => (HO3.out.lt j hj).1))
        have HOE := hid hown'
        clear hown' hgrow kc
        go_wp2
        go_roundw
        case rel =>
          refine ⟨k + 1, by omega, by go_num, ?_, hw4.out⟩
          have e : pre ++ ([keyB x.n] ++ (UInt8.ofNat s.size :: s.data.toList)) = pre3 ++ s.data.toList := by rw [← HP3.out, ← HP2.out]; simp
          rw [HST.out, HBE.out, e, byteCells_append, List.length_append]
          have e3 : s.data.toList.length = s.size := by simp
          rw [e3]
          first | exact HOE.out | (rw [hpre3]; exact HOE.out)
        case measure => simp [intOf]; omega
    · obtain rfl : k = l.length := by omega
      rw [List.take_length] at ho hln
      have hpos : 0 < (preB l.length l).length := by simp [preB]
      obtain ⟨g, bcap, rfl, hbc, hgl⟩ := ownsRow.some ho hpos
      have hbl := bodyL_length HOK.out
      have hpl : (preB l.length l).length = 1 + (bodyL l).length := by simp [preB]; omega
      have HB := hid hb
      have HO := hid ho
      have HPL := hid hpl
      clear ho hb hpl
      generalize hP : preB l.length l = pre at *
      have HP := hid hP
      clear hP
      have q1 : 1 + pre.length ≤ maxLen := by unfold maxLen; omega
      have q2 : (1 + pre.length) * 1 ≤ 140737488355328 := by omega
      go_wp2_with (refine wpList_append_own _ rfl (.tmp 57) (.tmp 58) 60 rfl w.heap.size 5 i0 (.int .u8 0) 1 1 Try.underlying60 hi hz0 hz1 hz2 rfl (by decide) (.slice (some ⟨wr.heap.size, 0, none⟩) 1 1) 1 [.int .u8 ((pre.length : Int) + 1)] rfl (World.ownsRow_lit wr #[.int .u8 ((pre.length : Int) + 1)] 1 HB.out.size (by decide) rfl) ⟨g, 0, none⟩ pre.length bcap (Lib.byteCells pre) rfl (by rw [byteCells_length]; simp) ((HO.out.alloc _).cells rfl) (oneCell_bytes _) q1 q2 ?c8 ?_)
      case c8 => have := HB.out.size; simp; omega
      intro v4 w4 hown' hgrow _
      have hw4 := hid ((HB.out.alloc HB.out.size _).grown hgrow (by have := HB.out.size; simp; omega) (fun j hj => by simp [Value.ownBlock] at hj; have := HB.out.size; omega))
      have HOE := hid hown'
      clear hown' hgrow
      go_wp2
      refine bodyPost_ret (v := v4) (by simp [results, Try.results51, go_sem]) rfl ⟨_, 1 + pre.length, rfl, ?_, hw4.out⟩
      have e : [Value.int .u8 ((pre.length : Int) + 1)] ++ Lib.byteCells pre = Lib.byteCells (encL l) := by
        have e1 : ((UInt8.ofNat (2 + (bodyL l).length)).toNat : Int) = (pre.length : Int) + 1 := by
          have := HPL.out
          simp
          omega
        rw [← HP.out]
        rw [← HP.out] at e1
        simp only [preB, encL, Lib.byteCells, List.map_cons, e1, List.cons_append, List.nil_append] at e1 ⊢
      rw [← e]
      exact HOE.out

end Go.Proofs.Ytoiobhcgpajogab
