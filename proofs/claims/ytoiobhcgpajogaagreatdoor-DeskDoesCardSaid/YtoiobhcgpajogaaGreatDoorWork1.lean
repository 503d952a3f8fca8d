/- The document's deed (Work), in plain words and in memory. -/
import Derived.Test.YtoiobhcgpajogaaGreatDoorDeed3
import Derived.Test.YtoiobhcgpajogaaGreatDoorTab6
namespace Go.Proofs.YtoiobhcgpajogaaGreatDoor
open Go.RowKit

def lastW (l : List Ent) (k : Int) : Option Val := l.foldl (fun o x => if x.n = k then some x.v else o) none

theorem lastW_snoc (l : List Ent) (x : Ent) (k : Int) : lastW (l ++ [x]) k = if x.n = k then some x.v else lastW l k := by simp [lastW]

theorem lastW_take (l : List Ent) (k : Int) (i : Nat) (h : i < l.length) : lastW (l.take (i + 1)) k = if l[i].n = k then some l[i].v else lastW (l.take i) k := by
  rw [List.take_succ_eq_append_getElem h, lastW_snoc]

structure Wk where
  mode : Int
  beg : Int
  reads : List Nat
  wrote : List Ent

/-- The deed that it tells of. -/
def absW (W : Wk) : Ded := ⟨W.mode, W.beg, fun (k : Nat) => W.reads.any (fun (x : Nat) => (x : Int) == (k : Int)), fun (k : Nat) => lastW W.wrote k⟩

theorem absW_read (W : Wk) (k : Nat) : absW ⟨W.mode, W.beg, W.reads ++ [k], W.wrote⟩ = ⟨W.mode, W.beg, upd (absW W).read k true, (absW W).wrote⟩ := by
  unfold absW
  congr 1
  funext j
  unfold upd
  by_cases e : j = k
  · subst e; simp
  · rw [if_neg e, List.any_append]
    have : ([k].any fun (x : Nat) => (x : Int) == (j : Int)) = false := by simp; omega
    rw [this, Bool.or_false]

theorem absW_wrote (W : Wk) (k : Nat) (v : Val) : absW ⟨W.mode, W.beg, W.reads, W.wrote ++ [⟨k, v⟩]⟩ = ⟨W.mode, W.beg, (absW W).read, upd (absW W).wrote k (some v)⟩ := by
  unfold absW
  congr 1
  funext j
  simp only [lastW_snoc, upd]
  by_cases e : j = k
  · subst e; simp
  · rw [if_neg e, if_neg (by omega)]

theorem absW_new (mode beg : Int) : absW ⟨mode, beg, [], []⟩ = Ded.new mode beg := rfl

/-- A Work in memory, and where its rows lie. -/
structure WorkC (w : World) (g : Nat → Nat) (p b : Nat) (D : Ded) (N : Nat) (W : Wk) (vr vw : Value) : Prop where
  ok : D.Ok
  abs : absW W = D
  reads : W.reads.length ≤ N
  wrote : W.wrote.length ≤ N
  loc : LocC w g p b 127 [.int .i64 W.mode, .int .i64 W.beg, vr, vw]
  rr : RowC w g (p + 1) 3 1 vr W.reads.length (encI W.reads)
  rw : RowC w g (p + 2) 106 3 vw W.wrote.length (encEnts W.wrote)

def WorkAt (w : World) (g : Nat → Nat) (p b : Nat) (D : Ded) (N : Nat) : Prop := ∃ W vr vw, WorkC w g p b D N W vr vw

theorem WorkC.frame {lo hi : Nat} {g g' : Nat → Nat} {w w' : World} {p b : Nat} {D : Ded} {N : Nat} {W : Wk} {vr vw : Value} (h : WorkC w g p b D N W vr vw) (k : Evo lo hi g g' w w') (hc : p + 3 ≤ lo ∨ hi ≤ p) : WorkC w' g' p b D N W vr vw :=
  ⟨h.ok, h.abs, h.reads, h.wrote, h.loc.frame k (by omega), h.rr.frame k (by omega), h.rw.frame k (by omega)⟩

theorem WorkAt.frame {lo hi : Nat} {g g' : Nat → Nat} {w w' : World} {p b : Nat} {D : Ded} {N : Nat} (h : WorkAt w g p b D N) (k : Evo lo hi g g' w w') (hc : p + 3 ≤ lo ∨ hi ≤ p) : WorkAt w' g' p b D N := by
  obtain ⟨W, vr, vw, h⟩ := h
  exact ⟨W, vr, vw, h.frame k hc⟩

theorem WorkAt.more {w : World} {g : Nat → Nat} {p b : Nat} {D : Ded} {N N' : Nat} (h : WorkAt w g p b D N) (hn : N ≤ N') : WorkAt w g p b D N' := by
  obtain ⟨W, vr, vw, h⟩ := h
  exact ⟨W, vr, vw, h.ok, h.abs, by have := h.reads; omega, by have := h.wrote; omega, h.loc, h.rr, h.rw⟩

theorem RowC.below {w w' : World} {g : Nat → Nat} {q e size : Nat} {v : Value} {n : Nat} {cells : List Value} (h : RowC w g q e size v n cells) (k : Below w.heap.size w w') : RowC w' g q e size v n cells :=
  ⟨ownsRow.lift h.1 (fun r hr => k.block r (h.1.lt r hr).2), h.2⟩

theorem WorkC.below {w w' : World} {g : Nat → Nat} {p b : Nat} {D : Ded} {N : Nat} {W : Wk} {vr vw : Value} (h : WorkC w g p b D N W vr vw) (k : Below w.heap.size w w') : WorkC w' g p b D N W vr vw :=
  ⟨h.ok, h.abs, h.reads, h.wrote, h.loc.below k, h.rr.below k, h.rw.below k⟩

theorem WorkAt.below {w w' : World} {g : Nat → Nat} {p b : Nat} {D : Ded} {N : Nat} (h : WorkAt w g p b D N) (k : Below w.heap.size w w') : WorkAt w' g p b D N := by
  obtain ⟨W, vr, vw, h⟩ := h
  exact ⟨W, vr, vw, h.below k⟩

/-- A row of a colour that grew. -/
theorem RowC.grown {w w' : World} {g : Nat → Nat} {q e size : Nat} {v v' : Value} {n n' : Nat} {cells cells' : List Value} (h : RowC w g q e size v n cells)
    (ho : w'.ownsRow 0 e size v' n' cells') (hg : w.grownBy w' v.ownBlock) (hf : v'.ownBlock = v.ownBlock ∨ ∀ k, v'.ownBlock = some k → w.heap.size ≤ k) :
    RowC w' (extc g w q) q e size v' n' cells' ∧ Evo q (q + 1) g (extc g w q) w w' := by
  refine ⟨⟨ho, fun r hr => ?_⟩, evo_grown hg h.2⟩
  rcases hf with hf | hf
  · have hr' : v.ownBlock = some r := hf ▸ hr
    rw [extc_old (h.1.lt r hr').2]
    exact h.2 r hr'
  · exact extc_new (hf r hr)

theorem RowC.store {w : World} {g : Nat → Nat} {q e size : Nat} {v : Value} {n : Nat} {cells : List Value} (h : RowC w g q e size v n cells) {b i : Nat} (hb : g b ≠ q) (u : Value) : RowC (w.setCell ⟨b, i, none⟩ u) g q e size v n cells := by
  refine ⟨ownsRow_setCell_other h.1 (a := ⟨b, i, none⟩) (by intro e; exact hb (h.2 b (by simpa using e))) u, h.2⟩

end Go.Proofs.YtoiobhcgpajogaaGreatDoor

/- The walks of the document's deed: last, Get, Put. -/
namespace Go.Proofs.YtoiobhcgpajogaaGreatDoor
open Go.RowKit

def LastPost (o : Option Val) (w : World) (e : Ending) (w' : World) : Prop :=
  e = .returned (.tuple #[.agg #[.bool (o.getD Val.zero).there, .string (o.getD Val.zero).bytes], .bool o.isSome]) ∧ Below w.heap.size w w'

set_option maxHeartbeats 2000000 in
set_option maxRecDepth 100000 in
theorem work_last (g : Nat → Nat) (p b : Nat) (D : Ded) (N : Nat) (W : Wk) (vr vw : Value) (k : Int) (w : World) (hN : N ≤ 1000000) (h : WorkC w g p b D N W vr vw) :
    Calls Tryz.prog 107 #[.pointer (some ⟨b, 0, none⟩), .int .i64 k] w (LastPost (lastW W.wrote k) w) := by
  have hwn := h.wrote
  obtain ⟨av, cv, hvw, hs, -⟩ := ownsRow.sliceAt h.rw.1
  subst hvw
  have HL := hid h.loc.1
  have HS := hid hs
  have ht := hid (fun j hj => lastW_take W.wrote k j hj)
  clear h hs
  go_enter Tryz.func107, Tryz.ntmps107
  go_upto_region 1 with (fail)
  have B1 := hid ((Below.refl w.heap.size w).alloc (Nat.le_refl _) (.cells #[.bool false, .string ⟨#[]⟩] 99))
  have L1 := hid (Loc.new w 99 [.bool false, .string ⟨#[]⟩])
  have S1 := hid (sliceAt_below HS.out B1.out)
  have k3 := (HL.out.alloc (.cells #[.bool false, .string ⟨#[]⟩] 99)).cell 3
  simp only [List.getElem?_cons_succ, List.getElem?_cons_zero] at k3
  generalize w.alloc (.cells #[.bool false, .string ⟨#[]⟩] 99) = w1 at *
  obtain ⟨l1, l2, l3, l4⟩ := L1.out.two
  clear HS HL
  generalize hwr : W.wrote = l at *
  clear hwr
  go_wp2_with fail
  go_loop [6] (fun i => ∃ m : Nat, m ≤ l.length ∧ i = .int .i64 ((m : Int) - 1) ∧ Hid (lastW l k = lastW (l.take m) k)) (fun i => ((intOf i) + 1).toNat)
  case atStart => exact ⟨l.length, Nat.le_refl _, by go_num, hid (by rw [List.take_length])⟩
  case round =>
    obtain ⟨m, hm, rfl, HX⟩ := hrel
    cases m with
    | zero =>
      have E := hid (show lastW l k = none from HX.out)
      clear HX
      go_wp2
      refine bodyPost_ret (v := .tuple #[.agg #[.bool false, .string ByteArray.empty], .bool false]) (by simp [results, Tryz.results107, go_sem, l1, l2] <;> rfl) rfl ⟨by rw [E.out]; rfl, ?_⟩
      exact (B1.out.setCell (Nat.le_refl _) _).setCell (Nat.le_refl _) _
    | succ j =>
      have e : ((j + 1 : Nat) : Int) - 1 = (j : Int) := by omega
      rw [e]
      obtain ⟨bb, oo, rfl, v1⟩ := S1.out.ents (by omega)
      obtain ⟨p1, p2, p3⟩ := v1 j (by omega)
      have hx := ht.out j (by omega)
      have hj0 : (0 : Int) ≤ (j : Int) := by omega
      have hjl : (j : Int) < (l.length : Int) := by omega
      rw [← HX.out] at hx
      clear v1
      generalize l[j] = x at *
      by_cases hk : x.n = k
      · rw [if_pos hk] at hx
        have E := hid hx
        rw [hk] at p1
        clear hx hk HX
        go_wp2
        refine bodyPost_ret (v := .tuple #[.agg #[.bool x.v.there, .string x.v.bytes], .bool true]) (by simp [results, Tryz.results107, go_sem, l1, l2] <;> rfl) rfl ⟨by rw [E.out]; rfl, ?_⟩
        exact (B1.out.setCell (Nat.le_refl _) _).setCell (Nat.le_refl _) _
      · rw [if_neg hk] at hx
        have HX2 := hid hx
        have hk' : (x.n == k) = false := by simpa using hk
        clear hx hk HX
        go_wp2
        go_round
        case rel => exact ⟨j, by omega, by go_num, HX2⟩
        case measure => simp [intOf]

def WGetPost (g : Nat → Nat) (p b N : Nat) (x : (Val × Int) × Ded) (w : World) (e : Ending) (w' : World) : Prop :=
  e = .returned (.tuple #[.agg #[.bool x.1.1.there, .string x.1.1.bytes], .int .i64 x.1.2]) ∧ ∃ g', WorkAt w' g' p b x.2 (N + 1) ∧ Evo p (p + 3) g g' w w'

theorem WGetPost.same {g : Nat → Nat} {p b N : Nat} {x : Val × Int} {D : Ded} {w w' : World} (h : WorkAt w g p b D N) (hb : Below w.heap.size w w') : WGetPost g p b N (x, D) w (.returned (.tuple #[.agg #[.bool x.1.there, .string x.1.bytes], .int .i64 x.2])) w' :=
  ⟨rfl, extc g w p, (h.frame (Evo.of_below (lo := 0) (hi := 0) g p hb) (by omega)).more (by omega), Evo.of_below g p hb⟩

set_option maxHeartbeats 4000000 in
set_option maxRecDepth 100000 in
theorem work_Get (g : Nat → Nat) (p b : Nat) (D : Ded) (N : Nat) (gs : Nat → Nat) (q s : Nat) (T : Tab) (k : Int) (w : World) (hN : N < 1000000) (hW : WorkAt w g p b D N) (hS : SheetAt w gs q s T) :
    Calls Tryz.prog 75 #[.pointer (some ⟨b, 0, none⟩), .pointer (some ⟨s, 0, none⟩), .int .i64 k] w (WGetPost g p b N (getD D T k) w) := by
  have HA := hid hW
  by_cases h0 : k < 0 ∨ 8 ≤ k
  · have e1 : getD D T k = ((Val.zero, 1), D) := by unfold getD; rw [if_pos h0]
    rw [e1]
    have CK := hid (fun w => ref_IsKey_out k w h0)
    clear h0 e1 hW hS
    go_enter Tryz.func75, Tryz.ntmps75
    go_wp2_with fail
    refine (CK.out _).mono ?_
    rintro e w1 ⟨rfl, rfl⟩
    go_wp2
    refine bodyPost_ret (v := .tuple #[.agg #[.bool false, .string ByteArray.empty], .int .i64 1]) (by simp [results, Tryz.results75, go_sem]; rfl) rfl (WGetPost.same HA.out ?_)
    exact (Below.refl _ _).alloc (Nat.le_refl _) _
  · obtain ⟨n, hn, rfl⟩ := key_nat h0
    have CK := hid (fun w => ref_IsKey_in n w ⟨by omega, by omega⟩)
    obtain ⟨W, vr, vw, hC⟩ := hW
    have HC := hid hC
    have HLast := hid (fun W' (hb : Below w.heap.size w W') => work_last g p b D N W vr vw n W' (by omega) (hC.below hb))
    have hDw : D.wrote n = lastW W.wrote n := by rw [← hC.abs]; rfl
    have B0 := hid ((Below.refl w.heap.size w).alloc (Nat.le_refl _) (.cells #[.bool false, .string ⟨#[]⟩] 99))
    cases hw : D.wrote n with
    | some v =>
      have e1 : getD D T n = ((v, 0), D) := by unfold getD; rw [if_neg h0, Int.toNat_natCast, hw]
      rw [e1]
      have hl : lastW W.wrote n = some v := by rw [← hDw, hw]
      rw [hl] at HLast
      clear h0 e1 hS hw hl hDw hC
      go_enter Tryz.func75, Tryz.ntmps75
      go_wp2_with fail
      refine (CK.out _).mono ?_
      rintro e w1 ⟨rfl, rfl⟩
      go_wp2_with fail
      (with_reducible refine (HLast.out _ B0.out).mono ?_)
      rintro e w2 ⟨rfl, hb⟩
      have B2 := hid (B0.out.trans (hb.mono (by simp)))
      have L2 := hid ((Loc.new w 99 [.bool false, .string ⟨#[]⟩]).keep hb)
      have hlt2 := L2.out.lt
      have hne2 : w2.heap.size ≠ w.heap.size := by omega
      clear hb HLast
      go_upto_region 4 with (fail)
      have B3 := hid (B2.out.alloc B2.out.size (.cells #[.bool v.there, .string v.bytes] 99))
      have L3 := hid (L2.out.alloc (.cells #[.bool v.there, .string v.bytes] 99))
      have M3 := hid (Loc.new w2 99 [.bool v.there, .string v.bytes])
      generalize w2.alloc (.cells #[.bool v.there, .string v.bytes] 99) = w3 at *
      generalize w2.heap.size = m2 at *
      obtain ⟨l1, l2, l3, l4⟩ := L3.out.two
      obtain ⟨m1, m2, -⟩ := M3.out.two
      clear L2 B2
      go_wp2
      refine bodyPost_ret (v := .tuple #[.agg #[.bool v.there, .string v.bytes], .int .i64 0]) (by simp [results, Tryz.results75, go_sem, l1, l2]) rfl (WGetPost.same (x := (v, 0)) HA.out ?_)
      exact (B3.out.setCell (Nat.le_refl _) _).setCell (Nat.le_refl _) _
    | none =>
      have e1 : getD D T n = (readT T n D.beg, if (readT T n D.beg).2 = 0 then ⟨D.mode, D.beg, upd D.read n true, D.wrote⟩ else D) := by unfold getD; rw [if_neg h0, Int.toNat_natCast, hw]
      have E1 := hid e1
      have hl : lastW W.wrote n = none := by rw [← hDw, hw]
      rw [hl] at HLast
      have HR := hid (fun W' (hb : Below w.heap.size w W') => sheet_Read gs q s T W' n D.beg (hS.below hb))
      have hbeg : W.beg = D.beg := by rw [← hC.abs]; rfl
      have hok := hid (getD_ok hC.ok T n)
      rw [e1] at hok ⊢
      generalize readT T n D.beg = y at *
      generalize hD2 : (if y.2 = 0 then (⟨D.mode, D.beg, upd D.read n true, D.wrote⟩ : Ded) else D) = D2 at hok ⊢
      have E2 := hid hD2
      clear h0 e1 hS hw hl hDw hC E1 hD2
      go_enter Tryz.func75, Tryz.ntmps75
      go_wp2_with fail
      refine (CK.out _).mono ?_
      rintro e w1 ⟨rfl, rfl⟩
      go_wp2_with fail
      (with_reducible refine (HLast.out _ B0.out).mono ?_)
      rintro e w2 ⟨rfl, hb⟩
      have B2 := hid (B0.out.trans (hb.mono (by simp)))
      have L2 := hid ((Loc.new w 99 [.bool false, .string ⟨#[]⟩]).keep hb)
      have hlt2 := L2.out.lt
      clear hb HLast
      go_upto_region 6 with (fail)
      have B3 := hid (B2.out.alloc B2.out.size (.cells #[.bool Val.zero.there, .string Val.zero.bytes] 99))
      have L3 := hid (L2.out.alloc (.cells #[.bool Val.zero.there, .string Val.zero.bytes] 99))
      generalize w2.alloc (.cells #[.bool Val.zero.there, .string Val.zero.bytes] 99) = w3 at *
      have C3 := hid (HC.out.below B3.out)
      have k1 := C3.out.loc.1.cell 1
      simp only [List.getElem?_cons_succ, List.getElem?_cons_zero] at k1
      rw [hbeg] at k1
      go_wp2_with fail
      (with_reducible refine (HR.out _ B3.out).mono ?_)
      rintro e w4 ⟨rfl, hb⟩
      have B4 := hid (B3.out.trans (hb.mono B3.out.size))
      have L4 := hid (L3.out.keep hb)
      clear hb HR k1 C3 L2 L3 B2
      go_upto_region 7 with (fail)
      have B5 := hid (B4.out.alloc B4.out.size (.cells #[.bool y.1.there, .string y.1.bytes] 99))
      have L5 := hid (L4.out.alloc (.cells #[.bool y.1.there, .string y.1.bytes] 99))
      have M5 := hid (Loc.new w4 99 [.bool y.1.there, .string y.1.bytes])
      have hne4 : w4.heap.size ≠ w.heap.size := by have := L4.out.lt; omega
      have hle4 : w.heap.size ≤ w4.heap.size := Nat.le_of_lt L4.out.lt
      have hlt5 : w4.heap.size < (w4.alloc (.cells #[.bool y.1.there, .string y.1.bytes] 99)).heap.size := by simp
      generalize w4.alloc (.cells #[.bool y.1.there, .string y.1.bytes] 99) = w5 at *
      generalize w4.heap.size = m4 at *
      obtain ⟨l1, l2, l3, l4⟩ := L5.out.two
      obtain ⟨m1, m2, -⟩ := M5.out.two
      clear B3 B4 L4 hlt2
      by_cases hc : y.2 = 0
      · have E3 := hid (show D2 = _ by rw [← E2.out, if_pos hc])
        obtain ⟨yv, yc⟩ := y
        simp only at hc
        subst hc
        obtain ⟨g5, hE5, hcw, hcm⟩ : ∃ g5, Evo 0 0 g g5 w w5 ∧ g5 w.heap.size = p ∧ g5 m4 = p := ⟨extc g w p, Evo.of_below g p B5.out, extc_new (Nat.le_refl _), extc_new hle4⟩
        have E5 := hid hE5
        have C5 := hid (HC.out.frame hE5 (by omega))
        have hbw : b < w.heap.size := HC.out.loc.1.lt
        obtain ⟨i0, hi, hz0, hz1, hz2⟩ := info_parts Tryz.infoInt
        obtain ⟨ar, cr, hvr, -, -⟩ := ownsRow.sliceAt C5.out.rr.1
        subst hvr
        have k2 := C5.out.loc.1.cell 2
        simp only [List.getElem?_cons_succ, List.getElem?_cons_zero] at k2
        have q1 : W.reads.length + 1 ≤ maxLen := by have := HC.out.reads; unfold maxLen; omega
        have q2 : (W.reads.length + 1) * 8 ≤ 140737488355328 := by have := HC.out.reads; omega
        have hE6 := Evo.alloc g5 p w5 (.cells #[.int .i64 n] 3)
        have E6 := hid hE6
        have C6 := hid (C5.out.frame hE6 (by omega))
        have hl5 : LocC w5 g5 p w.heap.size 99 [.bool false, .string ⟨#[]⟩] := ⟨L5.out, hcw⟩
        have hm5 : LocC w5 g5 p m4 99 [.bool yv.there, .string yv.bytes] := ⟨M5.out, hcm⟩
        have L6 := hid (hl5.frame hE6 (by omega))
        have M6 := hid (hm5.frame hE6 (by omega))
        have hbm : b ≠ m4 := by omega
        have hbw' : b ≠ w.heap.size := by omega
        clear hE5 hE6 hcw hcm hl5 hm5 E2
        go_wp2_with (refine wpList_append2 rfl (.tmp 40) (.tmp 42) 72 rfl 3 i0 (.int .i64 0) 1 8 Tryz.underlying72 hi hz0 hz1 hz2 rfl (by decide) (.slice ar W.reads.length cr) W.reads.length (encI W.reads) rfl C6.out.rr.1 ⟨w5.heap.size, 0, none⟩ 1 1 [.int .i64 n] rfl rfl (cells_new w5 [.int .i64 n] 3) (by intro u hu; simp at hu; subst hu; rfl) q1 q2 ?_)
        intro v7 w7 ho hg hf
        obtain ⟨a7, c7, hv7, -, -⟩ := ownsRow.sliceAt ho
        subst hv7
        obtain ⟨hR, hE7⟩ := C6.out.rr.grown ho hg (by rw [World.size_alloc]; exact hf)
        have E7 := hid hE7
        have R7 := hid hR
        have C7 := hid (C6.out.loc.frame hE7 (by omega))
        have W7 := hid (C6.out.rw.frame hE7 (by omega))
        have L7 := hid (L6.out.frame hE7 (by omega))
        have M7 := hid (M6.out.frame hE7 (by omega))
        generalize extc (extc g5 w5 p) (w5.alloc (.cells #[.int .i64 n] 3)) (p + 1) = g7 at *
        clear ho hg hf hR hE7 l1 l2 l3 l4 m1 m2 k2 L6 M6 L5 M5 C5
        obtain ⟨l1, l2, l3, l4⟩ := L7.out.1.two
        obtain ⟨m1, m2, -⟩ := M7.out.1.two
        have k2 := C7.out.1.cell 2
        have f2 := C7.out.1.free 2
        simp only [List.getElem?_cons_succ, List.getElem?_cons_zero] at k2
        go_wp2
        refine bodyPost_ret (v := .tuple #[.agg #[.bool yv.there, .string yv.bytes], .int .i64 0]) (by simp [results, Tryz.results75, go_sem, l1, l2]) rfl ?_
        have S1 : Evo p (p + 1) g7 g7 w7 (w7.setCell ⟨b, 2, none⟩ (.slice a7 (W.reads.length + 1) c7)) := evo_store _ C7.out.2
        have S2 := (S1.trans (evo_store (i := 0) (.bool yv.there) L7.out.2)).trans (evo_store (i := 1) (.string yv.bytes) L7.out.2)
        refine ⟨rfl, g7, ⟨⟨W.mode, W.beg, W.reads ++ [n], W.wrote⟩, .slice a7 (W.reads.length + 1) c7, vw, hok.out, ?_, ?_, ?_, ?_, ?_, W7.out.frame S2 (by omega)⟩, ?_⟩
        · rw [E3.out, absW_read, ← HC.out.abs]; rfl
        · have := HC.out.reads; simp; omega
        · have := HC.out.wrote; simp only; omega
        · have hL := C7.out.set 2 (.slice a7 (W.reads.length + 1) c7)
          exact ⟨(hL.1.other (by simpa using hbw') _).other (by simpa using hbw') _, hL.2⟩
        · have := R7.out.frame S2 (by omega)
          rw [encI_append, List.length_append]
          exact this
        · exact (((E5.out.none (Nat.le_refl _)).trans (E6.out.none (Nat.le_refl _))).trans (E7.out.wide (by omega) (by omega))).trans (S2.wide (by omega) (by omega))
      · have hD2 : D2 = D := by rw [← E2.out, if_neg hc]
        have hc0 : (y.2 == 0) = false := by simpa using hc
        have HD2 := hid hD2
        clear hc hD2 E2
        go_wp2
        refine bodyPost_ret (v := .tuple #[.agg #[.bool y.1.there, .string y.1.bytes], .int .i64 y.2]) (by simp [results, Tryz.results75, go_sem, l1, l2]) rfl (by rw [HD2.out]; refine WGetPost.same HA.out ?_; exact (B5.out.setCell (show w.heap.size ≤ (⟨w.heap.size, 0, none⟩ : Addr).block from Nat.le_refl _) (.bool y.1.there)).setCell (show w.heap.size ≤ (⟨w.heap.size, 1, none⟩ : Addr).block from Nat.le_refl _) (.string y.1.bytes))

def WPutPost (g : Nat → Nat) (p b N : Nat) (x : Int × Ded) (w : World) (e : Ending) (w' : World) : Prop :=
  e = .returned (.int .i64 x.1) ∧ ∃ g', WorkAt w' g' p b x.2 (N + 1) ∧ Evo p (p + 3) g g' w w'

theorem WPutPost.same {g : Nat → Nat} {p b N : Nat} {x : Int} {D : Ded} {w w' : World} (h : WorkAt w g p b D N) (hb : Below w.heap.size w w') : WPutPost g p b N (x, D) w (.returned (.int .i64 x)) w' :=
  ⟨rfl, extc g w p, (h.frame (Evo.of_below (lo := 0) (hi := 0) g p hb) (by omega)).more (by omega), Evo.of_below g p hb⟩

set_option maxHeartbeats 4000000 in
set_option maxRecDepth 100000 in
theorem work_Put (g : Nat → Nat) (p b : Nat) (D : Ded) (N : Nat) (k : Int) (v : Val) (w : World) (hv : v.bytes.size ≤ maxLen) (hN : N < 1000000) (hW : WorkAt w g p b D N) :
    Calls Tryz.prog 76 #[.pointer (some ⟨b, 0, none⟩), .int .i64 k, .agg #[.bool v.there, .string v.bytes]] w (WPutPost g p b N (putD D k v) w) := by
  have HA := hid hW
  by_cases h0 : k < 0 ∨ 8 ≤ k
  · have e1 : putD D k v = (1, D) := by unfold putD; rw [if_pos h0]
    rw [e1]
    have CK := hid (fun w => ref_IsKey_out k w h0)
    clear h0 e1 hW
    go_enter Tryz.func76, Tryz.ntmps76
    go_wp2_with fail
    refine (CK.out _).mono ?_
    rintro e w1 ⟨rfl, rfl⟩
    go_wp2
    go_ret
    exact WPutPost.same HA.out ((Below.refl _ _).alloc (Nat.le_refl _) _)
  · obtain ⟨n, hn, rfl⟩ := key_nat h0
    have CK := hid (fun w => ref_IsKey_in n w ⟨by omega, by omega⟩)
    obtain ⟨W, vr, vw, hC⟩ := hW
    have HC := hid hC
    have hmode : W.mode = D.mode := by rw [← hC.abs]; rfl
    have c0 := hC.loc.1.cell 0
    simp only [List.getElem?_cons_zero] at c0
    rw [hmode] at c0
    have hlt := hC.loc.1.lt
    have hne : b ≠ w.heap.size := by omega
    by_cases h3 : D.mode = 3
    · have e1 : putD D n v = (3, D) := by unfold putD; rw [if_neg h0, if_pos h3]
      rw [e1]
      rw [h3] at c0
      clear h0 e1 hC h3 hmode
      go_enter Tryz.func76, Tryz.ntmps76
      go_wp2_with fail
      refine (CK.out _).mono ?_
      rintro e w1 ⟨rfl, rfl⟩
      go_wp2
      go_ret
      exact WPutPost.same HA.out ((Below.refl _ _).alloc (Nat.le_refl _) _)
    · have h3' : (D.mode == 3) = false := by simpa using h3
      have K := hid (ref_ValueFault v.there v.bytes (w.alloc (.cells #[.bool v.there, .string v.bytes] 99)) hv)
      rw [show ckV ⟨v.there, v.bytes⟩ = ckV v from rfl] at K
      by_cases hc : ckV v = 0
      · have e1 : putD D n v = (0, ⟨D.mode, D.beg, D.read, upd D.wrote n (some v)⟩) := by unfold putD; rw [if_neg h0, if_neg h3, if_neg (by simpa using hc)]; rfl
        have hok := hid (putD_ok hC.ok n v)
        rw [e1] at hok ⊢
        rw [hc] at K
        obtain ⟨D2, hD2⟩ : ∃ D2 : Ded, D2 = ⟨D.mode, D.beg, D.read, upd D.wrote n (some v)⟩ := ⟨_, rfl⟩
        rw [← hD2] at hok ⊢
        have E3 := hid hD2
        clear h0 e1 hC h3 hc hmode hD2
        obtain ⟨i0, hi, hz0, hz1, hz2⟩ := info_parts Tryz.infoPair
        have q1 : W.wrote.length + 1 ≤ maxLen := by have := HC.out.wrote; unfold maxLen; omega
        have q2 : (W.wrote.length + 1) * 32 ≤ 140737488355328 := by have := HC.out.wrote; omega
        go_enter Tryz.func76, Tryz.ntmps76
        go_wp2_with fail
        refine (CK.out _).mono ?_
        rintro e w1 ⟨rfl, rfl⟩
        go_wp2_with fail
        refine K.out.mono ?_
        rintro e w2 ⟨rfl, hb⟩
        have B2 := hid (((Below.refl w.heap.size w).alloc (Nat.le_refl _) (.cells #[.bool v.there, .string v.bytes] 99)).trans (hb.mono (by simp)))
        have L2 := hid ((Loc.new w 99 [.bool v.there, .string v.bytes]).keep hb)
        obtain ⟨t0, t1, -⟩ := L2.out.two
        clear hb c0 CK K
        obtain ⟨g2, hE2⟩ : ∃ g2, Evo 0 0 g g2 w w2 := ⟨_, Evo.of_below g p B2.out⟩
        have E2 := hid hE2
        have C2 := hid (HC.out.frame hE2 (by omega))
        obtain ⟨aw, cw, hvw, -, -⟩ := ownsRow.sliceAt C2.out.rw.1
        subst hvw
        have k3 := C2.out.loc.1.cell 3
        simp only [List.getElem?_cons_succ, List.getElem?_cons_zero] at k3
        have hlt2 := C2.out.loc.1.lt
        obtain ⟨ye, hye⟩ : ∃ ye : Ent, ye = ⟨n, v⟩ := ⟨_, rfl⟩
        have HYE := hid (show encEnt ye = [.int .i64 n, .bool v.there, .string v.bytes] by subst hye; rfl)
        have HY := hid hye
        have E4 := hid (Evo.trans (Evo.drew 0 0 g2 w2) (Evo.alloc g2 p w2.drew (.cells #[.int .i64 n, .bool v.there, .string v.bytes] 106)))
        have C4 := hid (C2.out.frame E4.out (by omega))
        clear hE2 hye
        go_wp2_with fail
        go_region_law ((refine step_append2 rfl (.tmp 25) (.tmp 29) 100 rfl 106 i0 (.agg #[.int .i64 0, .bool false, .string ByteArray.empty]) 3 32 Tryz.underlying100 hi hz0 hz1 hz2 rfl (by decide) (.slice aw W.wrote.length cw) W.wrote.length (encEnts W.wrote) rfl C4.out.rw.1 ⟨w2.heap.size, 0, none⟩ 1 1 (encEnt ye) rfl (by rw [HYE.out]; rfl) (by rw [HYE.out]; exact cells_new w2.drew [.int .i64 n, .bool v.there, .string v.bytes] 106) (encEnt_one _) q1 q2 ?_; intro v7 w7 ho hg hf; obtain ⟨a7, c7, hv7, -, -⟩ := ownsRow.sliceAt ho; subst hv7; obtain ⟨hR, hE7⟩ := C4.out.rw.grown ho hg hf; have C7 := hid (C4.out.loc.frame hE7 (by omega)); have R7 := hid hR; have E7 := hid hE7; have k3' := C7.out.1.cell 3; have f3' := C7.out.1.free 3; simp only [List.getElem?_cons_succ, List.getElem?_cons_zero] at k3'; clear ho hg hf hR hE7))
        all_goals
          go_wp2
          go_ret
          have S2 : Evo p (p + 1) (extc (extc g2 w2.drew p) (w2.drew.alloc (.cells #[.int .i64 n, .bool v.there, .string v.bytes] 106)) (p + 2)) (extc (extc g2 w2.drew p) (w2.drew.alloc (.cells #[.int .i64 n, .bool v.there, .string v.bytes] 106)) (p + 2)) w7 (w7.setCell ⟨b, 3, none⟩ (.slice a7 (W.wrote.length + 1) c7)) := evo_store _ C7.out.2
          refine ⟨rfl, _, ⟨⟨W.mode, W.beg, W.reads, W.wrote ++ [ye]⟩, vr, .slice a7 (W.wrote.length + 1) c7, hok.out, ?_, ?_, ?_, C7.out.set 3 _, (C4.out.rr.frame E7.out (by omega)).frame S2 (by omega), ?_⟩, ?_⟩
          · rw [E3.out, HY.out, absW_wrote, ← HC.out.abs]; rfl
          · have := HC.out.reads; simp only; omega
          · have := HC.out.wrote; simp; omega
          · have := R7.out.frame S2 (by omega)
            rw [encEnts_append, List.length_append]
            simpa [encEnts] using this
          · exact (((E2.out.none (Nat.le_refl _)).trans (E4.out.none (Nat.le_refl _))).trans (E7.out.wide (by omega) (by omega))).trans (S2.wide (by omega) (by omega))
      · have e1 : putD D n v = (ckV v, D) := by unfold putD; rw [if_neg h0, if_neg h3, if_pos hc]
        have hc' : (ckV v != 0) = true := by simpa using hc
        rw [e1]
        clear h0 e1 hC h3 hc hmode
        generalize ckV v = code at *
        go_enter Tryz.func76, Tryz.ntmps76
        go_wp2_with fail
        refine (CK.out _).mono ?_
        rintro e w1 ⟨rfl, rfl⟩
        go_wp2_with fail
        refine K.out.mono ?_
        rintro e w2 ⟨rfl, hb⟩
        have B2 := hid (((Below.refl w.heap.size w).alloc (Nat.le_refl _) (.cells #[.bool v.there, .string v.bytes] 99)).trans (hb.mono (by simp)))
        clear hb
        go_wp2
        go_ret
        exact WPutPost.same HA.out B2.out

end Go.Proofs.YtoiobhcgpajogaaGreatDoor

/- The walks of the document's deed: Writes, May. -/
namespace Go.Proofs.YtoiobhcgpajogaaGreatDoor
open Go.RowKit

set_option maxHeartbeats 2000000 in
set_option maxRecDepth 100000 in
theorem work_Writes (g : Nat → Nat) (p b : Nat) (D : Ded) (N : Nat) (w : World) (hN : N ≤ 1000000) (hW : WorkAt w g p b D N) :
    Calls Tryz.prog 80 #[.pointer (some ⟨b, 0, none⟩)] w (PairsPost (writesD D) w) := by
  obtain ⟨W, vr, vw, hC⟩ := hW
  obtain ⟨i0, hi, hz0, hz1, hz2⟩ := info_parts Tryz.infoPair
  have HC := hid hC
  have HW := hid (fun (k : Nat) => writesTo_succ D k)
  have HL := hid (writesTo_length D)
  have N0 := hid (World.ownsRow_nil w w.heap.size 106 3)
  clear hC
  go_enter Tryz.func80, Tryz.ntmps80
  go_wp2_with fail
  go_loopw [3, 4] (fun o i wr => ∃ k : Nat, k ≤ 8 ∧ i = .int .i64 k ∧ Hid (wr.ownsRow w.heap.size 106 3 o (writesTo D k).length (encEnts (writesTo D k))) ∧ Hid (Below w.heap.size w wr)) (fun _ i _ => 8 - (intOf i).toNat)
  case atStart => exact ⟨0, by omega, rfl, N0, hid (Below.refl _ _)⟩
  case round =>
    obtain ⟨k, hk, rfl, HO, HB⟩ := hrel
    clear N0
    by_cases h8 : k < 8
    · have hst := HW.out k
      have hle := HL.out k
      have hki : (k : Int) < 8 := by omega
      have hk0 : (0 : Int) ≤ (k : Int) := by omega
      obtain ⟨ao, co, rfl, -, -⟩ := ownsRow.sliceAt HO.out
      have HLast := hid (work_last g p b D N W vr vw k wr hN (HC.out.below HB.out))
      rw [show lastW W.wrote k = D.wrote k by rw [← HC.out.abs]; rfl] at HLast
      generalize writesTo D k = out at *
      have q1 : out.length + 1 ≤ maxLen := by unfold maxLen; omega
      have q2 : (out.length + 1) * 32 ≤ 140737488355328 := by omega
      cases hw : D.wrote k with
      | none =>
        rw [hw, List.append_nil] at hst
        rw [hw] at HLast
        have HST := hid hst
        clear hst hw
        go_wp2_with fail
        refine HLast.out.mono ?_
        rintro e w2 ⟨rfl, hb⟩
        have HB2 := hid (HB.out.trans (hb.mono HB.out.size))
        have HO2 := hid (show w2.ownsRow w.heap.size 106 3 (.slice ao out.length co) out.length (encEnts out) from ownsRow.lift HO.out (fun r hr => hb.block r (HO.out.lt r hr).2))
        clear hb HLast HB HO
        go_wp2
        go_roundw
        case rel => exact ⟨k + 1, by omega, by go_num, hid (by rw [HST.out]; exact HO2.out.alloc _), hid (HB2.out.alloc HB2.out.size _)⟩
        case measure => simp [intOf]; omega
      | some v =>
        rw [hw] at hst HLast
        simp only at hst
        have HST := hid hst
        clear hst hw
        generalize hye : (⟨(k : Int), v⟩ : Ent) = ye at *
        have hye2 : encEnt ye = [.int .i64 k, .bool v.there, .string v.bytes] := by subst hye; rfl
        have HYE := hid hye2
        clear hye hye2
        go_wp2_with fail
        refine HLast.out.mono ?_
        rintro e w2 ⟨rfl, hb⟩
        have HB2 := hid (HB.out.trans (hb.mono HB.out.size))
        have HO2 := hid (show w2.ownsRow w.heap.size 106 3 (.slice ao out.length co) out.length (encEnts out) from ownsRow.lift HO.out (fun r hr => hb.block r (HO.out.lt r hr).2))
        clear hb HLast HB HO
        go_upto_region 6 with (fail)
        have HB3 := hid (HB2.out.alloc HB2.out.size (.cells #[.bool v.there, .string v.bytes] 99))
        have HO3 := hid (HO2.out.alloc (.cells #[.bool v.there, .string v.bytes] 99))
        have L3 := hid (Loc.new w2 99 [.bool v.there, .string v.bytes])
        generalize w2.alloc (.cells #[.bool v.there, .string v.bytes] 99) = w3 at *
        generalize w2.heap.size = m2 at *
        obtain ⟨l1, l2, l3, l4⟩ := L3.out.two
        have hwz := HB3.out.size
        go_wp2_with (refine wpList_append_own _ rfl (.tmp 18) (.tmp 22) 100 rfl w.heap.size 106 i0 (.agg #[.int .i64 0, .bool false, .string ByteArray.empty]) 3 32 Tryz.underlying100 hi hz0 hz1 hz2 rfl (by decide) (.slice ao out.length co) out.length (encEnts out) rfl (HO3.out.alloc _) ⟨w3.heap.size, 0, none⟩ 1 1 (encEnt ye) rfl (by rw [HYE.out]; rfl) ?c1 (encEnt_one _) q1 q2 ?c5 ?_)
        case c1 => rw [HYE.out]; exact cells_new w3 [.int .i64 k, .bool v.there, .string v.bytes] 106
        case c5 => simp; omega
        intro v' w4 hown' hgrow _
        have HB4 := hid ((HB3.out.alloc HB3.out.size (.cells #[.int .i64 k, .bool v.there, .string v.bytes] 106)).grown hgrow (by simp; omega) (fun j hj => (HO3.out.lt j hj).1))
        have HO4 := hid (show w4.ownsRow w.heap.size 106 3 v' (out ++ [ye]).length (encEnts (out ++ [ye])) by rw [encEnts_append, List.length_append]; simpa [encEnts] using hown')
        clear hown' hgrow
        go_wp2
        go_roundw
        case rel => exact ⟨k + 1, by omega, by go_num, hid (by rw [HST.out]; exact HO4.out), HB4⟩
        case measure => simp [intOf]; omega
    · obtain rfl : k = 8 := by omega
      obtain ⟨a, cap, rfl, hs, hb⟩ := ownsRow.sliceAt HO.out
      have hn := hid (fun (ad : Addr) (e : a = some ad) => HO.out.lt ad.block (hb ad e))
      have HS := hid hs
      clear hs hb
      go_wp2
      go_ret
      refine ⟨a, cap, rfl, HS.out, HB.out, hn.out, fun e => ?_⟩
      subst e
      rcases HO.out.2 with ⟨h, -⟩ | ⟨g', cap', cur, h, -⟩
      · exact (Value.slice.inj h).2.2
      · cases h

theorem clash_at {D : Ded} {T : Tab} {k : Nat} {v : Val} (hk : k < 8) (h : D.wrote k = some v) (hs : D.beg < lastN (T.l k)) : clashD D T = true := by
  unfold clashD
  rw [List.any_eq_true]
  refine ⟨⟨k, v⟩, mem_writesTo.2 ⟨k, hk, rfl, h⟩, ?_⟩
  simp only [decide_eq_true_eq]
  unfold sinceT; rw [if_neg (by omega)]; exact hs

theorem clash_none {D : Ded} {T : Tab} (h : ∀ (k : Nat) v, k < 8 → D.wrote k = some v → lastN (T.l k) ≤ D.beg) : clashD D T = false := by
  rw [Bool.eq_false_iff]
  intro hc
  unfold clashD at hc
  rw [List.any_eq_true] at hc
  obtain ⟨x, hx, hd⟩ := hc
  obtain ⟨k, hk, h1, h2⟩ := mem_writesTo.1 hx
  have := h k x.v hk h2
  rw [h1] at hd
  simp only [decide_eq_true_eq] at hd
  unfold sinceT at hd
  rw [if_neg (by omega), Int.toNat_natCast] at hd
  omega

theorem stale_at {D : Ded} {T : Tab} {k : Nat} (hk : k < 8) (h : D.read k = true) (hs : D.beg < lastN (T.l k)) : staleD D T = true := by
  unfold staleD
  rw [List.any_eq_true]
  refine ⟨k, mem_readsTo.2 ⟨hk, h⟩, ?_⟩
  simp only [decide_eq_true_eq]
  unfold sinceT; rw [if_neg (by omega)]; exact hs

theorem stale_none {D : Ded} {T : Tab} (h : ∀ (k : Nat), k < 8 → D.read k = true → lastN (T.l k) ≤ D.beg) : staleD D T = false := by
  rw [Bool.eq_false_iff]
  intro hc
  unfold staleD at hc
  rw [List.any_eq_true] at hc
  obtain ⟨k, hx, hd⟩ := hc
  obtain ⟨hk, h1⟩ := mem_readsTo.1 hx
  have := h k hk h1
  simp only [decide_eq_true_eq] at hd
  unfold sinceT at hd
  rw [if_neg (by omega), Int.toNat_natCast] at hd
  omega

theorem below_dN {B : Nat} {w w' : World} (h : Below B w w') (n : Nat) : Below B w (w'.drewN n) := ⟨h.os, h.tape, h.output, h.size, h.block⟩

theorem line_LastQ (g : Nat → Nat) (p : Nat) (v : Value) (l : List Ent) (w : World) (n : Nat) (hn : l.length ≤ 1000000) (hL : LineAt w g p v l) :
    Calls Tryz.prog 111 #[v] (w.drewN n) fun e w' => e = .returned (.int .i64 (lastN l)) ∧ ∃ m, w' = w.drewN m :=
  (line_Last g p v l (w.drewN n) hn (hL.below (below_drewN _ _))).mono (fun _ _ h => ⟨h.1, n, h.2.symm⟩)

theorem ref_InQ (a : Option Addr) (c : Nat) (l : List Nat) (x : Int) (w : World) (n : Nat) (hn : l.length ≤ 1000000) (h : SliceAt w a (encI l)) :
    Calls Tryz.prog 112 #[.slice a l.length c, .int .i64 x] (w.drewN n) fun e w' => e = .returned (.bool (l.any (fun (y : Nat) => (y : Int) == x))) ∧ ∃ m, w' = w.drewN m :=
  (ref_In_same a c l x (w.drewN n) hn (sliceAt_below h (below_drewN _ _))).mono (fun _ _ h => ⟨h.1, n, h.2.symm⟩)

set_option maxHeartbeats 4000000 in
set_option maxRecDepth 100000 in
theorem work_May (g : Nat → Nat) (p b : Nat) (D : Ded) (N : Nat) (gs : Nat → Nat) (q s : Nat) (T : Tab) (w : World) (hN : N ≤ 1000000) (hW : WorkAt w g p b D N) (hS : SheetAt w gs q s T) :
    Calls Tryz.prog 79 #[.pointer (some ⟨b, 0, none⟩), .pointer (some ⟨s, 0, none⟩)] w (ValPost (mayD D T) w) := by
  obtain ⟨W, vr, vw, hC⟩ := hW
  obtain ⟨vs, hSC⟩ := hS.c
  have hlong := hid hS.1.long
  have HC := hid hC
  have HS := hid hSC
  have F1 := hid (fun (k : Nat) (v : Val) (hk : k < 8) (h : D.wrote k = some v) (hs : D.beg < lastN (T.l k)) => (show mayD D T = 10 by unfold mayD; rw [if_pos (clash_at hk h hs)]))
  have hbeg : W.beg = D.beg := by rw [← hC.abs]; rfl
  have hmode : W.mode = D.mode := by rw [← hC.abs]; rfl
  have hLoc := hC.loc.1
  rw [hbeg, hmode] at hLoc
  have HLoc := hid hLoc
  clear hC hSC hS hbeg hmode hLoc
  go_enter Tryz.func79, Tryz.ntmps79
  go_wp2_with fail
  go_loopw [5] (fun i wr => ∃ k : Nat, k ≤ 8 ∧ i = .int .i64 k ∧ Hid (∀ (j : Nat) v, j < k → D.wrote j = some v → lastN (T.l j) ≤ D.beg) ∧ Hid (Below w.heap.size w wr)) (fun i _ => 8 - (intOf i).toNat)
  case atStart => exact ⟨0, by omega, rfl, hid (by intro j v hj; omega), hid (Below.refl _ _)⟩
  case round =>
    obtain ⟨k, hk, rfl, HI, HB⟩ := hrel
    by_cases h8 : k < 8
    · have hki : (k : Int) < 8 := by omega
      have hk0 : (0 : Int) ≤ (k : Int) := by omega
      have HLast := hid (work_last g p b D N W vr vw k wr hN (HC.out.below HB.out))
      rw [show lastW W.wrote k = D.wrote k by rw [← HC.out.abs]; rfl] at HLast
      cases hw : D.wrote k with
      | none =>
        rw [hw] at HLast
        have HI2 := hid (show ∀ (j : Nat) v, j < k + 1 → D.wrote j = some v → lastN (T.l j) ≤ D.beg by
          intro j v hj h
          by_cases e : j = k
          · rw [e, hw] at h; cases h
          · exact HI.out j v (by omega) h)
        clear hw HI
        go_wp2_with fail
        refine HLast.out.mono ?_
        rintro e w2 ⟨rfl, hb⟩
        have HB2 := hid (HB.out.trans (hb.mono HB.out.size))
        clear hb HLast HB
        go_wp2_with fail
        go_quiet (fail)
        go_wp2
        go_roundw
        case rel => exact ⟨k + 1, by omega, by go_num, HI2, hid (below_dN (HB2.out.alloc HB2.out.size _) _)⟩
        case measure => simp [intOf]; omega
      | some v =>
        rw [hw] at HLast
        have HWv := hid hw
        clear hw
        go_wp2_with fail
        refine HLast.out.mono ?_
        rintro e w2 ⟨rfl, hb⟩
        have HB2 := hid (HB.out.trans (hb.mono HB.out.size))
        clear hb HLast HB
        go_upto_region 5 with (fail)
        have HB3 := hid (HB2.out.alloc HB2.out.size (.cells #[.bool v.there, .string v.bytes] 99))
        generalize w2.alloc (.cells #[.bool v.there, .string v.bytes] 99) = w3 at *
        have hl := hlong.out k
        obtain ⟨s1, -, s3, -, -⟩ := (HS.out.fresh (Evo.of_below gs q HB3.out)).cells h8
        have HQ := hid (fun n => line_LastQ _ _ _ _ w3 n hl s3)
        have k1 := (HLoc.out.keep HB3.out).cell 1
        simp only [List.getElem?_cons_succ, List.getElem?_cons_zero] at k1
        clear s3 HB2
        by_cases hgt : D.beg < lastN (T.l k)
        · have E := hid (F1.out k v h8 HWv.out hgt)
          generalize hln : lastN (T.l k) = ln at *
          have HLN := hid hln
          clear hln
          go_quiet ((go_at_call 111; exact HQ.out _))
          go_wp2
          go_ret
          exact ⟨by rw [E.out]; rfl, below_dN HB3.out _⟩
        · have HI2 := hid (show ∀ (j : Nat) v, j < k + 1 → D.wrote j = some v → lastN (T.l j) ≤ D.beg by
            intro j v hj h
            by_cases e : j = k
            · rw [e]; omega
            · exact HI.out j v (by omega) h)
          generalize hln : lastN (T.l k) = ln at *
          have HLN := hid hln
          clear hln HI
          have hgt' : ln ≤ D.beg := by omega
          go_quiet ((go_at_call 111; exact HQ.out _))
          go_wp2
          go_roundw
          case rel => exact ⟨k + 1, by omega, by go_num, HI2, hid (below_dN HB3.out _)⟩
          case measure => simp [intOf]; omega
    · have HCN := hid (clash_none (D := D) (T := T) (fun j v hj => HI.out j v (by omega)))
      have hge : (8 : Int) ≤ (k : Int) := by omega
      clear HI F1 h8 hk
      generalize k = kk at *
      go_wp2_with fail
      go_loopw [8] (fun i wr => ∃ k : Nat, k ≤ 8 ∧ i = .int .i64 k ∧ Hid (D.mode = 2 → ∀ (j : Nat), j < k → D.read j = true → lastN (T.l j) ≤ D.beg) ∧ Hid (Below w.heap.size w wr)) (fun i _ => 8 - (intOf i).toNat)
      case atStart => exact ⟨0, by omega, rfl, hid (by intro _ j hj; omega), HB⟩
      case round =>
        obtain ⟨k, hk, rfl, HI, HB⟩ := hrel
        by_cases h8 : k < 8
        · have hki : (k : Int) < 8 := by omega
          have hk0 : (0 : Int) ≤ (k : Int) := by omega
          have k0 := (HLoc.out.keep HB.out).cell 0
          simp only [List.getElem?_cons_zero] at k0
          by_cases hm : D.mode = 2
          · rw [hm] at k0
            have hRb := HC.out.below HB.out
            obtain ⟨ar, cr, hvr, hrs, -⟩ := ownsRow.sliceAt hRb.rr.1
            have hIn := hid (fun n => ref_InQ ar cr W.reads k wr n (by have := HC.out.reads; omega) hrs)
            rw [show W.reads.any (fun (y : Nat) => (y : Int) == (k : Int)) = D.read k by rw [← HC.out.abs]; rfl] at hIn
            have k2 := hRb.loc.1.cell 2
            simp only [List.getElem?_cons_succ, List.getElem?_cons_zero] at k2
            rw [hvr] at k2
            have HM := hid hm
            have hl := hlong.out k
            obtain ⟨s1, -, s3, -, -⟩ := (HS.out.fresh (Evo.of_below gs q HB.out)).cells h8
            have HQ := hid (fun n => line_LastQ _ _ _ _ wr n hl s3)
            have k1 := (HLoc.out.keep HB.out).cell 1
            simp only [List.getElem?_cons_succ, List.getElem?_cons_zero] at k1
            clear hm hRb hrs hvr s3
            cases hr : D.read k with
            | false =>
              rw [hr] at hIn
              have HI2 := hid (show D.mode = 2 → ∀ (j : Nat), j < k + 1 → D.read j = true → lastN (T.l j) ≤ D.beg by
                intro _ j hj h
                by_cases e : j = k
                · rw [e, hr] at h; cases h
                · exact HI.out HM.out j (by omega) h)
              clear hr HI
              go_wp2_with fail
              go_quiet ((go_at_call 112; exact hIn.out _))
              go_wp2
              go_roundw
              case rel => exact ⟨k + 1, by omega, by go_num, HI2, hid (below_dN HB.out _)⟩
              case measure => simp [intOf]; omega
            | true =>
              rw [hr] at hIn
              have HRd := hid hr
              clear hr
              by_cases hgt : D.beg < lastN (T.l k)
              · have E := hid (show mayD D T = 11 by unfold mayD; rw [if_neg (by rw [HCN.out]; simp), if_pos ⟨HM.out, stale_at h8 HRd.out hgt⟩])
                generalize hln : lastN (T.l k) = ln at *
                clear hln
                go_wp2_with fail
                go_quiet (first | (go_at_call 112; exact hIn.out _) | (go_at_call 111; exact HQ.out _))
                go_wp2
                go_ret
                exact ⟨by rw [E.out]; rfl, below_dN HB.out _⟩
              · have HI2 := hid (show D.mode = 2 → ∀ (j : Nat), j < k + 1 → D.read j = true → lastN (T.l j) ≤ D.beg by
                  intro _ j hj h
                  by_cases e : j = k
                  · rw [e]; omega
                  · exact HI.out HM.out j (by omega) h)
                generalize hln : lastN (T.l k) = ln at *
                clear hln HI
                have hgt' : ln ≤ D.beg := by omega
                go_wp2_with fail
                go_quiet (first | (go_at_call 112; exact hIn.out _) | (go_at_call 111; exact HQ.out _))
                go_wp2
                go_roundw
                case rel => exact ⟨k + 1, by omega, by go_num, HI2, hid (below_dN HB.out _)⟩
                case measure => simp [intOf]; omega
          · have hm' : (D.mode == 2) = false := by simpa using hm
            have HI2 := hid (show D.mode = 2 → ∀ (j : Nat), j < k + 1 → D.read j = true → lastN (T.l j) ≤ D.beg from fun h => absurd h hm)
            clear hm HI
            go_wp2_with fail
            go_quiet (fail)
            go_wp2
            go_roundw
            case rel => exact ⟨k + 1, by omega, by go_num, HI2, hid (below_dN HB.out _)⟩
            case measure => simp [intOf]; omega
        · obtain rfl : k = 8 := by omega
          have E := hid (show mayD D T = 0 by
            unfold mayD
            rw [if_neg (by rw [HCN.out]; simp), if_neg]
            rintro ⟨h1, h2⟩
            rw [stale_none (HI.out h1)] at h2
            cases h2)
          go_wp2
          go_ret
          exact ⟨by rw [E.out]; rfl, HB.out⟩

end Go.Proofs.YtoiobhcgpajogaaGreatDoor
