/- The walks of the document's deed: last, Get, Put. -/
import Derived.Test.YtoiobhcgpajogacWork1
namespace Go.Proofs.Ytoiobhcgpajogac
open Go.RowKit

def LastPost (o : Option Val) (w : World) (e : Ending) (w' : World) : Prop :=
  e = .returned (.tuple #[.agg #[.bool (o.getD Val.zero).there, .string (o.getD Val.zero).bytes], .bool o.isSome]) ∧ Below w.heap.size w w'

set_option maxHeartbeats 2000000 in
set_option maxRecDepth 100000 in
theorem work_last (g : Nat → Nat) (p b : Nat) (D : Ded) (N : Nat) (W : Wk) (vr vw : Value) (k : Int) (w : World) (hN : N ≤ 1000000) (h : WorkC w g p b D N W vr vw) :
    Calls Try.prog 79 #[.pointer (some ⟨b, 0, none⟩), .int .i64 k] w (LastPost (lastW W.wrote k) w) := by
  have hwn := h.wrote
  obtain ⟨av, cv, hvw, hs, -⟩ := ownsRow.sliceAt h.rw.1
  subst hvw
  have HL := hid h.loc.1
  have HS := hid hs
  have ht := hid (fun j hj => lastW_take W.wrote k j hj)
  clear h hs
  go_enter Try.func79, Try.ntmps79
  go_upto_region 1 with (fail)
  have B1 := hid ((Below.refl w.heap.size w).alloc (Nat.le_refl _) (.cells #[.bool false, .string ⟨#[]⟩] 39))
  have L1 := hid (Loc.new w 39 [.bool false, .string ⟨#[]⟩])
  have S1 := hid (sliceAt_below HS.out B1.out)
  have k3 := (HL.out.alloc (.cells #[.bool false, .string ⟨#[]⟩] 39)).cell 3
  simp only [List.getElem?_cons_succ, List.getElem?_cons_zero] at k3
  generalize w.alloc (.cells #[.bool false, .string ⟨#[]⟩] 39) = w1 at *
  obtain ⟨l1, l2, l3, l4⟩ := L1.out.two
  clear HS HL
  generalize hwr : W.wrote = l at *
  clear hwr
  go_wp2_with fail
  go_loop [6] (fun i => ∃ m : Nat, m ≤ l.length ∧ i = .int .i64 ((m : Int) - 1) ∧ Hid (lastW l k = lastW (l.take m) k)) (fun i => ((intOf i) + 1).toNat)
  case atStart => exact ⟨l.length, Nat.le_refl _, by go_num, hid (by rw [List.take_length])⟩
  case round =>
    obtain ⟨m, hm, rfl, HX⟩ := hrel
    cases m with
    | zero =>
      have E := hid (show lastW l k = none from HX.out)
      clear HX
      go_wp2
      refine bodyPost_ret (v := .tuple #[.agg #[.bool false, .string ByteArray.empty], .bool false]) (by simp [results, Try.results79, go_sem, l1, l2] <;> rfl) rfl ⟨by rw [E.out]; rfl, ?_⟩
      exact (B1.out.setCell (Nat.le_refl _) _).setCell (Nat.le_refl _) _
    | succ j =>
      have e : ((j + 1 : Nat) : Int) - 1 = (j : Int) := by omega
      rw [e]
      obtain ⟨bb, oo, rfl, v1⟩ := S1.out.ents (by omega)
      obtain ⟨p1, p2, p3⟩ := v1 j (by omega)
      have hx := ht.out j (by omega)
      have hj0 : (0 : Int) ≤ (j : Int) := by omega
      have hjl : (j : Int) < (l.length : Int) := by omega
      rw [← HX.out] at hx
      clear v1
      generalize l[j] = x at *
      by_cases hk : x.n = k
      · rw [if_pos hk] at hx
        have E := hid hx
        rw [hk] at p1
        clear hx hk HX
        go_wp2
        refine bodyPost_ret (v := .tuple #[.agg #[.bool x.v.there, .string x.v.bytes], .bool true]) (by simp [results, Try.results79, go_sem, l1, l2] <;> rfl) rfl ⟨by rw [E.out]; rfl, ?_⟩
        exact (B1.out.setCell (Nat.le_refl _) _).setCell (Nat.le_refl _) _
      · rw [if_neg hk] at hx
        have HX2 := hid hx
        have hk' : (x.n == k) = false := by simpa using hk
        clear hx hk HX
        go_wp2
        go_round
        case rel => exact ⟨j, by omega, by go_num, HX2⟩
        case measure => simp [intOf]

def WGetPost (g : Nat → Nat) (p b N : Nat) (x : (Val × Int) × Ded) (w : World) (e : Ending) (w' : World) : Prop :=
  e = .returned (.tuple #[.agg #[.bool x.1.1.there, .string x.1.1.bytes], .int .i64 x.1.2]) ∧ ∃ g', WorkAt w' g' p b x.2 (N + 1) ∧ Evo p (p + 3) g g' w w'

theorem WGetPost.same {g : Nat → Nat} {p b N : Nat} {x : Val × Int} {D : Ded} {w w' : World} (h : WorkAt w g p b D N) (hb : Below w.heap.size w w') : WGetPost g p b N (x, D) w (.returned (.tuple #[.agg #[.bool x.1.there, .string x.1.bytes], .int .i64 x.2])) w' :=
  ⟨rfl, extc g w p, (h.frame (Evo.of_below (lo := 0) (hi := 0) g p hb) (by omega)).more (by omega), Evo.of_below g p hb⟩

set_option maxHeartbeats 4000000 in
set_option maxRecDepth 100000 in
theorem work_Get (g : Nat → Nat) (p b : Nat) (D : Ded) (N : Nat) (gs : Nat → Nat) (q s : Nat) (T : Tab) (k : Int) (w : World) (hN : N < 1000000) (hW : WorkAt w g p b D N) (hS : SheetAt w gs q s T) :
    Calls Try.prog 21 #[.pointer (some ⟨b, 0, none⟩), .pointer (some ⟨s, 0, none⟩), .int .i64 k] w (WGetPost g p b N (getD D T k) w) := by
  have HA := hid hW
  by_cases h0 : k < 0 ∨ 8 ≤ k
  · have e1 : getD D T k = ((Val.zero, 1), D) := by unfold getD; rw [if_pos h0]
    rw [e1]
    have CK := hid (fun w => ref_IsKey_out k w h0)
    clear h0 e1 hW hS
    go_enter Try.func21, Try.ntmps21
    go_wp2_with fail
    refine (CK.out _).mono ?_
    rintro e w1 ⟨rfl, rfl⟩
    go_wp2
    refine bodyPost_ret (v := .tuple #[.agg #[.bool false, .string ByteArray.empty], .int .i64 1]) (by simp [results, Try.results21, go_sem]; rfl) rfl (WGetPost.same HA.out ?_)
    exact (Below.refl _ _).alloc (Nat.le_refl _) _
  · obtain ⟨n, hn, rfl⟩ := key_nat h0
    have CK := hid (fun w => ref_IsKey_in n w ⟨by omega, by omega⟩)
    obtain ⟨W, vr, vw, hC⟩ := hW
    have HC := hid hC
    have HLast := hid (fun W' (hb : Below w.heap.size w W') => work_last g p b D N W vr vw n W' (by omega) (hC.below hb))
    have hDw : D.wrote n = lastW W.wrote n := by rw [← hC.abs]; rfl
    have B0 := hid ((Below.refl w.heap.size w).alloc (Nat.le_refl _) (.cells #[.bool false, .string ⟨#[]⟩] 39))
    cases hw : D.wrote n with
    | some v =>
      have e1 : getD D T n = ((v, 0), D) := by unfold getD; rw [if_neg h0, Int.toNat_natCast, hw]
      rw [e1]
      have hl : lastW W.wrote n = some v := by rw [← hDw, hw]
      rw [hl] at HLast
      clear h0 e1 hS hw hl hDw hC
      go_enter Try.func21, Try.ntmps21
      go_wp2_with fail
      refine (CK.out _).mono ?_
      rintro e w1 ⟨rfl, rfl⟩
      go_wp2_with fail
      (with_reducible refine (HLast.out _ B0.out).mono ?_)
      rintro e w2 ⟨rfl, hb⟩
      have B2 := hid (B0.out.trans (hb.mono (by simp)))
      have L2 := hid ((Loc.new w 39 [.bool false, .string ⟨#[]⟩]).keep hb)
      have hlt2 := L2.out.lt
      have hne2 : w2.heap.size ≠ w.heap.size := by omega
      clear hb HLast
      go_upto_region 4 with (fail)
      have B3 := hid (B2.out.alloc B2.out.size (.cells #[.bool v.there, .string v.bytes] 39))
      have L3 := hid (L2.out.alloc (.cells #[.bool v.there, .string v.bytes] 39))
      have M3 := hid (Loc.new w2 39 [.bool v.there, .string v.bytes])
      generalize w2.alloc (.cells #[.bool v.there, .string v.bytes] 39) = w3 at *
      generalize w2.heap.size = m2 at *
      obtain ⟨l1, l2, l3, l4⟩ := L3.out.two
      obtain ⟨m1, m2, -⟩ := M3.out.two
      clear L2 B2
      go_wp2
      refine bodyPost_ret (v := .tuple #[.agg #[.bool v.there, .string v.bytes], .int .i64 0]) (by simp [results, Try.results21, go_sem, l1, l2]) rfl (WGetPost.same (x := (v, 0)) HA.out ?_)
      exact (B3.out.setCell (Nat.le_refl _) _).setCell (Nat.le_refl _) _
    | none =>
      have e1 : getD D T n = (readT T n D.beg, if (readT T n D.beg).2 = 0 then ⟨D.mode, D.beg, upd D.read n true, D.wrote⟩ else D) := by unfold getD; rw [if_neg h0, Int.toNat_natCast, hw]
      have E1 := hid e1
      have hl : lastW W.wrote n = none := by rw [← hDw, hw]
      rw [hl] at HLast
      have HR := hid (fun W' (hb : Below w.heap.size w W') => sheet_Read gs q s T W' n D.beg (hS.below hb))
      have hbeg : W.beg = D.beg := by rw [← hC.abs]; rfl
      have hok := hid (getD_ok hC.ok T n)
      rw [e1] at hok ⊢
      generalize readT T n D.beg = y at *
      generalize hD2 : (if y.2 = 0 then (⟨D.mode, D.beg, upd D.read n true, D.wrote⟩ : Ded) else D) = D2 at hok ⊢
      have E2 := hid hD2
      clear h0 e1 hS hw hl hDw hC E1 hD2
      go_enter Try.func21, Try.ntmps21
      go_wp2_with fail
      refine (CK.out _).mono ?_
      rintro e w1 ⟨rfl, rfl⟩
      go_wp2_with fail
      (with_reducible refine (HLast.out _ B0.out).mono ?_)
      rintro e w2 ⟨rfl, hb⟩
      have B2 := hid (B0.out.trans (hb.mono (by simp)))
      have L2 := hid ((Loc.new w 39 [.bool false, .string ⟨#[]⟩]).keep hb)
      have hlt2 := L2.out.lt
      clear hb HLast
      go_upto_region 6 with (fail)
      have B3 := hid (B2.out.alloc B2.out.size (.cells #[.bool Val.zero.there, .string Val.zero.bytes] 39))
      have L3 := hid (L2.out.alloc (.cells #[.bool Val.zero.there, .string Val.zero.bytes] 39))
      generalize w2.alloc (.cells #[.bool Val.zero.there, .string Val.zero.bytes] 39) = w3 at *
      have C3 := hid (HC.out.below B3.out)
      have k1 := C3.out.loc.1.cell 1
      simp only [List.getElem?_cons_succ, List.getElem?_cons_zero] at k1
      rw [hbeg] at k1
      go_wp2_with fail
      (with_reducible refine (HR.out _ B3.out).mono ?_)
      rintro e w4 ⟨rfl, hb⟩
      have B4 := hid (B3.out.trans (hb.mono B3.out.size))
      have L4 := hid (L3.out.keep hb)
      clear hb HR k1 C3 L2 L3 B2
      go_upto_region 7 with (fail)
      have B5 := hid (B4.out.alloc B4.out.size (.cells #[.bool y.1.there, .string y.1.bytes] 39))
      have L5 := hid (L4.out.alloc (.cells #[.bool y.1.there, .string y.1.bytes] 39))
      have M5 := hid (Loc.new w4 39 [.bool y.1.there, .string y.1.bytes])
      have hne4 : w4.heap.size ≠ w.heap.size := by have := L4.out.lt; omega
      have hle4 : w.heap.size ≤ w4.heap.size := Nat.le_of_lt L4.out.lt
      have hlt5 : w4.heap.size < (w4.alloc (.cells #[.bool y.1.there, .string y.1.bytes] 39)).heap.size := by simp
      generalize w4.alloc (.cells #[.bool y.1.there, .string y.1.bytes] 39) = w5 at *
      generalize w4.heap.size = m4 at *
      obtain ⟨l1, l2, l3, l4⟩ := L5.out.two
      obtain ⟨m1, m2, -⟩ := M5.out.two
      clear B3 B4 L4 hlt2
      by_cases hc : y.2 = 0
      · have E3 := hid (show D2 = _ by rw [← E2.out, if_pos hc])
        obtain ⟨yv, yc⟩ := y
        simp only at hc
        subst hc
        obtain ⟨g5, hE5, hcw, hcm⟩ : ∃ g5, Evo 0 0 g g5 w w5 ∧ g5 w.heap.size = p ∧ g5 m4 = p := ⟨extc g w p, Evo.of_below g p B5.out, extc_new (Nat.le_refl _), extc_new hle4⟩
        have E5 := hid hE5
        have C5 := hid (HC.out.frame hE5 (by omega))
        have hbw : b < w.heap.size := HC.out.loc.1.lt
        obtain ⟨i0, hi, hz0, hz1, hz2⟩ := info_parts Try.infoInt
        obtain ⟨ar, cr, hvr, -, -⟩ := ownsRow.sliceAt C5.out.rr.1
        subst hvr
        have k2 := C5.out.loc.1.cell 2
        simp only [List.getElem?_cons_succ, List.getElem?_cons_zero] at k2
        have q1 : W.reads.length + 1 ≤ maxLen := by have := HC.out.reads; unfold maxLen; omega
        have q2 : (W.reads.length + 1) * 8 ≤ 140737488355328 := by have := HC.out.reads; omega
        have hE6 := Evo.alloc g5 p w5 (.cells #[.int .i64 n] 3)
        have E6 := hid hE6
        have C6 := hid (C5.out.frame hE6 (by omega))
        have hl5 : LocC w5 g5 p w.heap.size 39 [.bool false, .string ⟨#[]⟩] := ⟨L5.out, hcw⟩
        have hm5 : LocC w5 g5 p m4 39 [.bool yv.there, .string yv.bytes] := ⟨M5.out, hcm⟩
        have L6 := hid (hl5.frame hE6 (by omega))
        have M6 := hid (hm5.frame hE6 (by omega))
        have hbm : b ≠ m4 := by omega
        have hbw' : b ≠ w.heap.size := by omega
        clear hE5 hE6 hcw hcm hl5 hm5 E2
        go_wp2_with (refine wpList_append2 rfl (.tmp 40) (.tmp 42) 34 rfl 3 i0 (.int .i64 0) 1 8 Try.underlying34 hi hz0 hz1 hz2 rfl (by decide) (.slice ar W.reads.length cr) W.reads.length (encI W.reads) rfl C6.out.rr.1 ⟨w5.heap.size, 0, none⟩ 1 1 [.int .i64 n] rfl rfl (cells_new w5 [.int .i64 n] 3) (by intro u hu; simp at hu; subst hu; rfl) q1 q2 ?_)
        intro v7 w7 ho hg hf
        obtain ⟨a7, c7, hv7, -, -⟩ := ownsRow.sliceAt ho
        subst hv7
        obtain ⟨hR, hE7⟩ := C6.out.rr.grown ho hg (by rw [World.size_alloc]; exact hf)
        have E7 := hid hE7
        have R7 := hid hR
        have C7 := hid (C6.out.loc.frame hE7 (by omega))
        have W7 := hid (C6.out.rw.frame hE7 (by omega))
        have L7 := hid (L6.out.frame hE7 (by omega))
        have M7 := hid (M6.out.frame hE7 (by omega))
        generalize extc (extc g5 w5 p) (w5.alloc (.cells #[.int .i64 n] 3)) (p + 1) = g7 at *
        clear ho hg hf hR hE7 l1 l2 l3 l4 m1 m2 k2 L6 M6 L5 M5 C5
        obtain ⟨l1, l2, l3, l4⟩ := L7.out.1.two
        obtain ⟨m1, m2, -⟩ := M7.out.1.two
        have k2 := C7.out.1.cell 2
        have f2 := C7.out.1.free 2
        simp only [List.getElem?_cons_succ, List.getElem?_cons_zero] at k2
        go_wp2
        refine bodyPost_ret (v := .tuple #[.agg #[.bool yv.there, .string yv.bytes], .int .i64 0]) (by simp [results, Try.results21, go_sem, l1, l2]) rfl ?_
        have S1 : Evo p (p + 1) g7 g7 w7 (w7.setCell ⟨b, 2, none⟩ (.slice a7 (W.reads.length + 1) c7)) := evo_store _ C7.out.2
        have S2 := (S1.trans (evo_store (i := 0) (.bool yv.there) L7.out.2)).trans (evo_store (i := 1) (.string yv.bytes) L7.out.2)
        refine ⟨rfl, g7, ⟨⟨W.mode, W.beg, W.reads ++ [n], W.wrote⟩, .slice a7 (W.reads.length + 1) c7, vw, hok.out, ?_, ?_, ?_, ?_, ?_, W7.out.frame S2 (by omega)⟩, ?_⟩
        · rw [E3.out, absW_read, ← HC.out.abs]; rfl
        · have := HC.out.reads; simp; omega
        · have := HC.out.wrote; simp only; omega
        · have hL := C7.out.set 2 (.slice a7 (W.reads.length + 1) c7)
          exact ⟨(hL.1.other (by simpa using hbw') _).other (by simpa using hbw') _, hL.2⟩
        · have := R7.out.frame S2 (by omega)
          rw [encI_append, List.length_append]
          exact this
        · exact (((E5.out.none (Nat.le_refl _)).trans (E6.out.none (Nat.le_refl _))).trans (E7.out.wide (by omega) (by omega))).trans (S2.wide (by omega) (by omega))
      · have hD2 : D2 = D := by rw [← E2.out, if_neg hc]
        have hc0 : (y.2 == 0) = false := by simpa using hc
        have HD2 := hid hD2
        clear hc hD2 E2
        go_wp2
        refine bodyPost_ret (v := .tuple #[.agg #[.bool y.1.there, .string y.1.bytes], .int .i64 y.2]) (by simp [results, Try.results21, go_sem, l1, l2]) rfl (by rw [HD2.out]; refine WGetPost.same HA.out ?_; exact (B5.out.setCell (show w.heap.size ≤ (⟨w.heap.size, 0, none⟩ : Addr).block from Nat.le_refl _) (.bool y.1.there)).setCell (show w.heap.size ≤ (⟨w.heap.size, 1, none⟩ : Addr).block from Nat.le_refl _) (.string y.1.bytes))

def WPutPost (g : Nat → Nat) (p b N : Nat) (x : Int × Ded) (w : World) (e : Ending) (w' : World) : Prop :=
  e = .returned (.int .i64 x.1) ∧ ∃ g', WorkAt w' g' p b x.2 (N + 1) ∧ Evo p (p + 3) g g' w w'

theorem WPutPost.same {g : Nat → Nat} {p b N : Nat} {x : Int} {D : Ded} {w w' : World} (h : WorkAt w g p b D N) (hb : Below w.heap.size w w') : WPutPost g p b N (x, D) w (.returned (.int .i64 x)) w' :=
  ⟨rfl, extc g w p, (h.frame (Evo.of_below (lo := 0) (hi := 0) g p hb) (by omega)).more (by omega), Evo.of_below g p hb⟩

set_option maxHeartbeats 4000000 in
set_option maxRecDepth 100000 in
theorem work_Put (g : Nat → Nat) (p b : Nat) (D : Ded) (N : Nat) (k : Int) (v : Val) (w : World) (hv : v.bytes.size ≤ maxLen) (hN : N < 1000000) (hW : WorkAt w g p b D N) :
    Calls Try.prog 23 #[.pointer (some ⟨b, 0, none⟩), .int .i64 k, .agg #[.bool v.there, .string v.bytes]] w (WPutPost g p b N (putD D k v) w) := by
  have HA := hid hW
  by_cases h0 : k < 0 ∨ 8 ≤ k
  · have e1 : putD D k v = (1, D) := by unfold putD; rw [if_pos h0]
    rw [e1]
    have CK := hid (fun w => ref_IsKey_out k w h0)
    clear h0 e1 hW
    go_enter Try.func23, Try.ntmps23
    go_wp2_with fail
    refine (CK.out _).mono ?_
    rintro e w1 ⟨rfl, rfl⟩
    go_wp2
    go_ret
    exact WPutPost.same HA.out ((Below.refl _ _).alloc (Nat.le_refl _) _)
  · obtain ⟨n, hn, rfl⟩ := key_nat h0
    have CK := hid (fun w => ref_IsKey_in n w ⟨by omega, by omega⟩)
    obtain ⟨W, vr, vw, hC⟩ := hW
    have HC := hid hC
    have hmode : W.mode = D.mode := by rw [← hC.abs]; rfl
    have c0 := hC.loc.1.cell 0
    simp only [List.getElem?_cons_zero] at c0
    rw [hmode] at c0
    have hlt := hC.loc.1.lt
    have hne : b ≠ w.heap.size := by omega
    by_cases h3 : D.mode = 3
    · have e1 : putD D n v = (3, D) := by unfold putD; rw [if_neg h0, if_pos h3]
      rw [e1]
      rw [h3] at c0
      clear h0 e1 hC h3 hmode
      go_enter Try.func23, Try.ntmps23
      go_wp2_with fail
      refine (CK.out _).mono ?_
      rintro e w1 ⟨rfl, rfl⟩
      go_wp2
      go_ret
      exact WPutPost.same HA.out ((Below.refl _ _).alloc (Nat.le_refl _) _)
    · have h3' : (D.mode == 3) = false := by simpa using h3
      have K := hid (ref_ValueFault v.there v.bytes (w.alloc (.cells #[.bool v.there, .string v.bytes] 39)) hv)
      rw [show ckV ⟨v.there, v.bytes⟩ = ckV v from rfl] at K
      by_cases hc : ckV v = 0
      · have e1 : putD D n v = (0, ⟨D.mode, D.beg, D.read, upd D.wrote n (some v)⟩) := by unfold putD; rw [if_neg h0, if_neg h3, if_neg (by simpa using hc)]; rfl
        have hok := hid (putD_ok hC.ok n v)
        rw [e1] at hok ⊢
        rw [hc] at K
        obtain ⟨D2, hD2⟩ : ∃ D2 : Ded, D2 = ⟨D.mode, D.beg, D.read, upd D.wrote n (some v)⟩ := ⟨_, rfl⟩
        rw [← hD2] at hok ⊢
        have E3 := hid hD2
        clear h0 e1 hC h3 hc hmode hD2
        obtain ⟨i0, hi, hz0, hz1, hz2⟩ := info_parts Try.infoPair
        have q1 : W.wrote.length + 1 ≤ maxLen := by have := HC.out.wrote; unfold maxLen; omega
        have q2 : (W.wrote.length + 1) * 32 ≤ 140737488355328 := by have := HC.out.wrote; omega
        go_enter Try.func23, Try.ntmps23
        go_wp2_with fail
        refine (CK.out _).mono ?_
        rintro e w1 ⟨rfl, rfl⟩
        go_wp2_with fail
        refine K.out.mono ?_
        rintro e w2 ⟨rfl, hb⟩
        have B2 := hid (((Below.refl w.heap.size w).alloc (Nat.le_refl _) (.cells #[.bool v.there, .string v.bytes] 39)).trans (hb.mono (by simp)))
        have L2 := hid ((Loc.new w 39 [.bool v.there, .string v.bytes]).keep hb)
        obtain ⟨t0, t1, -⟩ := L2.out.two
        clear hb c0 CK K
        obtain ⟨g2, hE2⟩ : ∃ g2, Evo 0 0 g g2 w w2 := ⟨_, Evo.of_below g p B2.out⟩
        have E2 := hid hE2
        have C2 := hid (HC.out.frame hE2 (by omega))
        obtain ⟨aw, cw, hvw, -, -⟩ := ownsRow.sliceAt C2.out.rw.1
        subst hvw
        have k3 := C2.out.loc.1.cell 3
        simp only [List.getElem?_cons_succ, List.getElem?_cons_zero] at k3
        have hlt2 := C2.out.loc.1.lt
        obtain ⟨ye, hye⟩ : ∃ ye : Ent, ye = ⟨n, v⟩ := ⟨_, rfl⟩
        have HYE := hid (show encEnt ye = [.int .i64 n, .bool v.there, .string v.bytes] by subst hye; rfl)
        have HY := hid hye
        have E4 := hid (Evo.trans (Evo.drew 0 0 g2 w2) (Evo.alloc g2 p w2.drew (.cells #[.int .i64 n, .bool v.there, .string v.bytes] 87)))
        have C4 := hid (C2.out.frame E4.out (by omega))
        clear hE2 hye
        go_wp2_with fail
        go_region_law ((refine step_append2 rfl (.tmp 25) (.tmp 29) 35 rfl 87 i0 (.agg #[.int .i64 0, .bool false, .string ByteArray.empty]) 3 32 Try.underlying35 hi hz0 hz1 hz2 rfl (by decide) (.slice aw W.wrote.length cw) W.wrote.length (encEnts W.wrote) rfl C4.out.rw.1 ⟨w2.heap.size, 0, none⟩ 1 1 (encEnt ye) rfl (by rw [HYE.out]; rfl) (by rw [HYE.out]; exact cells_new w2.drew [.int .i64 n, .bool v.there, .string v.bytes] 87) (encEnt_one _) q1 q2 ?_; intro v7 w7 ho hg hf; obtain ⟨a7, c7, hv7, -, -⟩ := ownsRow.sliceAt ho; subst hv7; obtain ⟨hR, hE7⟩ := C4.out.rw.grown ho hg hf; have C7 := hid (C4.out.loc.frame hE7 (by omega)); have R7 := hid hR; have E7 := hid hE7; have k3' := C7.out.1.cell 3; have f3' := C7.out.1.free 3; simp only [List.getElem?_cons_succ, List.getElem?_cons_zero] at k3'; clear ho hg hf hR hE7))
        all_goals
          go_wp2
          go_ret
          have S2 : Evo p (p + 1) (extc (extc g2 w2.drew p) (w2.drew.alloc (.cells #[.int .i64 n, .bool v.there, .string v.bytes] 87)) (p + 2)) (extc (extc g2 w2.drew p) (w2.drew.alloc (.cells #[.int .i64 n, .bool v.there, .string v.bytes] 87)) (p + 2)) w7 (w7.setCell ⟨b, 3, none⟩ (.slice a7 (W.wrote.length + 1) c7)) := evo_store _ C7.out.2
          refine ⟨rfl, _, ⟨⟨W.mode, W.beg, W.reads, W.wrote ++ [ye]⟩, vr, .slice a7 (W.wrote.length + 1) c7, hok.out, ?_, ?_, ?_, C7.out.set 3 _, (C4.out.rr.frame E7.out (by omega)).frame S2 (by omega), ?_⟩, ?_⟩
          · rw [E3.out, HY.out, absW_wrote, ← HC.out.abs]; rfl
          · have := HC.out.reads; simp only; omega
          · have := HC.out.wrote; simp; omega
          · have := R7.out.frame S2 (by omega)
            rw [encEnts_append, List.length_append]
            simpa [encEnts] using this
          · exact (((E2.out.none (Nat.le_refl _)).trans (E4.out.none (Nat.le_refl _))).trans (E7.out.wide (by omega) (by omega))).trans (S2.wide (by omega) (by omega))
      · have e1 : putD D n v = (ckV v, D) := by unfold putD; rw [if_neg h0, if_neg h3, if_pos hc]
        have hc' : (ckV v != 0) = true := by simpa using hc
        rw [e1]
        clear h0 e1 hC h3 hc hmode
        generalize ckV v = code at *
        go_enter Try.func23, Try.ntmps23
        go_wp2_with fail
        refine (CK.out _).mono ?_
        rintro e w1 ⟨rfl, rfl⟩
        go_wp2_with fail
        refine K.out.mono ?_
        rintro e w2 ⟨rfl, hb⟩
        have B2 := hid (((Below.refl w.heap.size w).alloc (Nat.le_refl _) (.cells #[.bool v.there, .string v.bytes] 39)).trans (hb.mono (by simp)))
        clear hb
        go_wp2
        go_ret
        exact WPutPost.same HA.out B2.out

end Go.Proofs.Ytoiobhcgpajogac
