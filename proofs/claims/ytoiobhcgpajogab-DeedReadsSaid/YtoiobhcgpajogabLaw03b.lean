/- The walk of DeedSees. -/
import Derived.Test.YtoiobhcgpajogabLaw02a
import Derived.Test.YtoiobhcgpajogabLaw02b
import Derived.Test.YtoiobhcgpajogabLaw03a
import Derived.Test.YtoiobhcgpajogabDStep
import Derived.Test.YtoiobhcgpajogabShow
namespace Go.Proofs.Ytoiobhcgpajogab
open Go.RowKit

theorem TD.store0 {w0 w : World} {g : Nat → Nat} {t d b i : Nat} {T : Tab} {D : Ded} (h : TD w0 g w t d T D) (v : Value) (hb : w0.heap.size ≤ b) (hg : g b = 0) : TD w0 g (w.setCell ⟨b, i, none⟩ v) t d T D :=
  ⟨⟨h.base.below.setCell hb _, by simpa using h.base.size, h.base.zero⟩, h.tab.frame (evo_store v hg) (by omega), h.ded.frame (evo_store v hg) (by omega)⟩

/-- What a deed sees of each key, f being what the table had when it began. -/
def seeF (wr : Nat → Option Val) (f : Nat → Val) : Nat → Val := fun k => (wr k).getD (f k)
structure Inv (D : Ded) (T : Tab) (a : Int) (f : Nat → Val) : Prop where
  beg : D.beg = a
  last : a ≤ T.last
  read : ∀ j : Nat, j < 8 → readT T j a = (f j, 0)

section
variable {D : Ded} {T : Tab} {a : Int} {f : Nat → Val}
theorem Inv.get (h : Inv D T a f) {j : Nat} (hj : j < 8) : (getD D T j).1 = (seeF D.wrote f j, 0) ∧ Inv (getD D T j).2 T a f ∧ (getD D T j).2.wrote = D.wrote := by
  obtain ⟨-, s2, s3⟩ := getD_same D T j
  refine ⟨?_, ⟨s2.trans h.beg, h.last, h.read⟩, s3⟩
  unfold getD seeF
  rw [if_neg (by omega), Int.toNat_natCast]
  cases D.wrote j with
  | some v => rfl
  | none => show readT T j D.beg = _; rw [h.beg, h.read j hj]; rfl
theorem Inv.put_good (h : Inv D T a f) {k : Int} {v : Val} (hc : (putD D k v).1 = 0) : ∃ n : Nat, n < 8 ∧ k = n ∧ Inv (putD D k v).2 T a f ∧ seeF (putD D k v).2.wrote f = upd (seeF D.wrote f) n v := by
  unfold putD at hc ⊢
  split at hc
  · cases hc
  · rename_i h0
    split at hc
    · cases hc
    · rename_i h3
      split at hc
      · rename_i h4; exact absurd hc h4
      · rename_i h4
        rw [if_neg h0, if_neg h3, if_neg h4]
        obtain ⟨n, hn, rfl⟩ := key_nat h0
        refine ⟨n, hn, rfl, ⟨h.beg, h.last, h.read⟩, ?_⟩
        rw [Int.toNat_natCast]
        funext j
        by_cases e : j = n
        · subst e; rw [upd_same]; unfold seeF; simp only [upd_same]; rfl
        · rw [upd_other _ _ e]; unfold seeF; simp only [upd_other _ _ e]
theorem putD_bad {k : Int} {v : Val} (hc : (putD D k v).1 ≠ 0) : (putD D k v).2 = D := by
  unfold putD at hc ⊢
  split at hc
  · rename_i h0; rw [if_pos h0]
  · rename_i h0
    split at hc
    · rename_i h3; rw [if_neg h0, if_pos h3]
    · rename_i h3
      split at hc
      · rename_i h4; rw [if_neg h0, if_neg h3, if_pos h4]
      · exact absurd rfl hc
theorem Inv.write (h : Inv D T a f) (hT : T.Ok) (w : List Ent) : Inv D (writeT T w).2 a f := by
  refine ⟨h.beg, ?_, fun j hj => (read_later hT w j h.last).trans (h.read j hj)⟩
  have := h.last
  rcases write_last (T := T) (w := w) with e | ⟨e, -⟩ <;> rw [e] <;> omega
theorem Inv.clear (h : Inv D T a f) (hT : T.Ok) : Inv D (clearT T a).2 a f :=
  ⟨h.beg, by rw [clearT_last]; exact h.last, fun j hj => (read_clear hT j (Int.le_refl _)).trans (h.read j hj)⟩
end

set_option maxHeartbeats 8000000 in
set_option maxRecDepth 100000 in
theorem walk_DeedSees (a : Option Addr) (cap : Nat) (l : List TStep) (mode : Int) (a2 : Option Addr) (cap2 : Nat) (m : List DStep) (w : World) (hl : l.length ≤ 9223372036854775807) (hA : TStepsAt w a l) (_ : (Lit.int .i64 mode).wf = true) (hl2 : m.length ≤ 9223372036854775807) (hA2 : DStepsAt w a2 m) :
    Calls Try.prog 9 #[.slice a l.length cap, .int .i64 mode, .slice a2 m.length cap2] w (TruePost w) := by
  have HA := hid hA
  have HA2 := hid hA2
  clear hA hA2
  go_enter Try.func9, Try.ntmps9
  go_wp2_with fail
  (with_reducible refine (law_deedBegun w).mono ?_)
  rintro e w1 ⟨rfl, hb⟩
  have B1 := hid hb
  clear hb
  go_wp2_with fail
  (with_reducible refine (law_greatTable a cap l w1 hl (HA.out.below B1.out)).mono ?_)
  rintro e w2 ⟨rfl, hb⟩
  have B2 := hid (B1.out.trans (hb.mono B1.out.size))
  clear hb
  cases hg : greatT l with
  | true =>
    clear hg
    go_wp2
    go_ret
    exact ⟨rfl, B2.out⟩
  | false =>
  obtain ⟨h80, h50⟩ := greatT_false hg
  have H50 := hid h50
  clear hg h50
  go_wp2_with fail
  (with_reducible refine (law_greatDeeds a2 cap2 m w2 hl2 (HA2.out.below B2.out)).mono ?_)
  rintro e w2a ⟨rfl, hb⟩
  have B2a := hid (B2.out.trans (hb.mono B2.out.size))
  clear hb B2
  cases hg : greatDs m with
  | true =>
    clear hg
    go_wp2
    go_ret
    exact ⟨rfl, B2a.out⟩
  | false =>
  obtain ⟨hm60, h50⟩ := greatDs_false hg
  have M50 := hid h50
  clear hg h50
  go_wp2_with fail
  (with_reducible refine (law_tables a cap l w2a h80 H50.out (HA.out.below B2a.out)).mono ?_)
  rintro e w3 ⟨g, t, s, rfl, h3⟩
  have H3 := hid h3
  generalize runT l = T0 at *
  have HOK := hid h3.tab.1
  have h40 := h3.tab.1.2
  clear h3
  by_cases hmd : mode < 1 ∨ 3 < mode
  · have ND := hid (fun W => deed_New_out mode 0 W hmd)
    clear hmd
    go_wp2_with fail
    refine (ND.out _).mono ?_
    rintro e W ⟨rfl, rfl⟩
    go_wp2
    go_ret
    exact ⟨rfl, B2a.out.trans (H3.out.base.below.mono B2a.out.size)⟩
  have hmd' : 1 ≤ mode ∧ mode ≤ 3 := by omega
  have ND := hid (fun g W (b : Int) => deed_New_in g 12 mode b W hmd')
  clear hmd hmd'
  go_wp2_with fail
  refine (ND.out g w3 0).mono ?_
  rintro e w4 ⟨d0, rfl, hb, -, -⟩
  have H4 := hid (H3.out.below hb)
  clear hb H3
  go_wp2_with fail
  (with_reducible refine (table_Last _ 1 t T0 w4 H4.out.tab).mono ?_)
  rintro e w4' ⟨rfl, rfl⟩
  go_wp2_with fail
  refine (ND.out g w4 T0.last).mono ?_
  rintro e w5 ⟨d, rfl, hb, -, hD⟩
  have H5 : Hid (TD w2a (extc g w4 12) w5 t d T0 (Ded.new mode T0.last)) := hid ⟨H4.out.base.step (Evo.of_below (lo := 0) (hi := 0) g 12 hb) (by omega), H4.out.tab.frame (Evo.of_below (lo := 0) (hi := 0) g 12 hb) (by omega), hD⟩
  generalize extc g w4 12 = g5 at *
  clear hb hD H4 ND
  go_wp2_with fail
  have P := law_sheet g5 1 t T0 w5 T0.last H5.out.tab
  rw [codesT_top HOK.out] at P
  (with_reducible refine P.mono ?_)
  clear P
  rintro e w6 ⟨rfl, hb⟩
  have H6 := hid (H5.out.below hb)
  have I6 : Hid (Inv (Ded.new mode T0.last) T0 T0.last (sheetT T0 T0.last)) := hid ⟨rfl, Int.le_refl _, fun j hj => sheetT_at (codesT_top HOK.out) hj⟩
  have S6 : Hid (seeF (Ded.new mode T0.last).wrote (sheetT T0 T0.last) = sheetT T0 T0.last) := hid rfl
  clear hb H5 HOK
  generalize sheetT T0 T0.last = f0 at *
  generalize Ded.new mode T0.last = D0 at *
  go_wp2_with (refine wpList_new_vals w6 rfl (.tmp 12) (.tmp 54) rfl f0 rfl rfl ?_; intro w7 hL7 hb7; have L7 := hid (show LocC w7 (extc g5 w6 0) 0 w6.heap.size 34 (vals8 f0) from ⟨hL7, extc_new (Nat.le_refl _)⟩); have H7 : Hid (TD w2a (extc g5 w6 0) w7 t d T0 D0) := hid ⟨H6.out.base.step (Evo.of_below (lo := 0) (hi := 0) g5 0 hb7) (by omega), H6.out.tab.frame (Evo.of_below (lo := 0) (hi := 0) g5 0 hb7) (by omega), H6.out.ded.frame (Evo.of_below (lo := 0) (hi := 0) g5 0 hb7) (by omega)⟩; clear hL7 hb7)
  have hB4 : w2a.heap.size ≤ w6.heap.size := H6.out.base.size
  have L8 : Hid (LocC w7 (extc g5 w6 0) 0 w6.heap.size 34 (vals8 (seeF D0.wrote f0))) := hid (by rw [S6.out]; exact L7.out)
  have MA := hid (HA2.out.below B2a.out)
  generalize extc g5 w6 0 = g7 at *
  generalize hb4 : w6.heap.size = b4 at *
  clear H6 hb4 S6 L7 HA2 HA
  go_loopw [14] (fun i wr => ∃ (k : Nat) (g : Nat → Nat) (T : Tab) (D : Ded), k ≤ m.length ∧ i = .int .i64 k ∧ Hid (TD w2a g wr t d T D) ∧ Hid (Inv D T T0.last f0) ∧ Hid (LocC wr g 0 b4 34 (vals8 (seeF D.wrote f0)))) (fun i _ => m.length - (intOf i).toNat)
  case atStart => exact ⟨0, g7, T0, D0, Nat.zero_le _, rfl, H7, I6, L8⟩
  case round =>
    clear H7 I6 L8
    obtain ⟨k, g, T, D, hk, rfl, H, I, L⟩ := hrel
    by_cases hlt : k < m.length
    · obtain ⟨b1, o1, rfl, hbb, v1⟩ := MA.out.facts (by omega)
      obtain ⟨p1, p2, p3, p4, p5, p6, p7, -, hvs⟩ := v1 k hlt
      have hq50 := (M50.out m[k] (List.getElem_mem _)).1
      have P1 := (H.out.base.cell (p := ⟨b1, _, none⟩) hbb).trans p1
      have P2 := (H.out.base.cell (p := ⟨b1, _, none⟩) hbb).trans p2
      have P3 := (H.out.base.cell (p := ⟨b1, _, none⟩) hbb).trans p3
      have P4 := (H.out.base.cell (p := ⟨b1, _, none⟩) hbb).trans p4
      have P5 := (H.out.base.cell (p := ⟨b1, _, none⟩) hbb).trans p5
      have P6 := (H.out.base.cell (p := ⟨b1, _, none⟩) hbb).trans p6
      have hki : (k : Int) < (m.length : Int) := by omega
      have hk0 : (0 : Int) ≤ (k : Int) := by omega
      generalize m[k] = x at *
      have P7 := hid p7
      have hx6 : x.w.length ≤ 1000000 := by omega
      have HVS := hid hvs
      clear v1 p1 p2 p3 p4 p5 p6 p7 hvs
      go_upto_region 20 with (fail)
      clear P1 P2 P3 P4 P5 P6
      have M1 := hid (LocC.new g 0 wr 70 [.int .i64 x.do_, .int .i64 x.k, .int .i64 x.to_, .bool x.v.there, .string x.v.bytes, .slice x.a x.w.length x.cap])
      have H1 := hid (H.out.alloc (.cells #[.int .i64 x.do_, .int .i64 x.k, .int .i64 x.to_, .bool x.v.there, .string x.v.bytes, .slice x.a x.w.length x.cap] 70))
      have L1 := hid (L.out.alloc 0 (.cells #[.int .i64 x.do_, .int .i64 x.k, .int .i64 x.to_, .bool x.v.there, .string x.v.bytes, .slice x.a x.w.length x.cap] 70))
      generalize extc g wr 0 = g1 at *
      generalize wr.alloc (.cells #[.int .i64 x.do_, .int .i64 x.k, .int .i64 x.to_, .bool x.v.there, .string x.v.bytes, .slice x.a x.w.length x.cap] 70) = w5 at *
      generalize hbx : wr.heap.size = bx at *
      clear H L hbx
      have m0 : w5.cell? ⟨bx, 0, none⟩ = some (.int .i64 x.do_) := M1.out.1.cell 0
      have m1 : w5.cell? ⟨bx, 1, none⟩ = some (.int .i64 x.k) := M1.out.1.cell 1
      have m3 : w5.cell? ⟨bx, 3, none⟩ = some (.bool x.v.there) := M1.out.1.cell 3
      have m4 : w5.cell? ⟨bx, 4, none⟩ = some (.string x.v.bytes) := M1.out.1.cell 4
      have m5 : w5.cell? ⟨bx, 5, none⟩ = some (.slice x.a x.w.length x.cap) := M1.out.1.cell 5
      by_cases hd : x.do_ = 1
      · rw [hd] at m0
        clear hd
        have PG := hid (fun h => I.out.put_good (k := x.k) (v := x.v) h)
        have PB := hid (fun h => putD_bad (D := D) (k := x.k) (v := x.v) h)
        go_wp2_with fail
        (with_reducible refine (deed_Put g1 12 d D x.k x.v w5 HVS.out H1.out.ded).mono ?_)
        rintro e w6 ⟨rfl, g6, hD, hE⟩
        have H6 := hid (H1.out.evoD hE hD)
        have L6 := hid (L1.out.frame hE (by omega))
        have M6 := hid (M1.out.frame hE (by omega))
        clear hD hE H1 L1 M1 m0 m1 m3 m4 m5
        by_cases hc : (putD D x.k x.v).1 = 0
        · obtain ⟨n, hn8, hxk, i1, hse⟩ := PG.out hc
          rw [hc]
          clear hc PG PB
          generalize (putD D x.k x.v).2 = D6 at *
          have m1 : w6.cell? ⟨bx, 1, none⟩ = some (.int .i64 x.k) := M6.out.1.cell 1
          have m3 : w6.cell? ⟨bx, 3, none⟩ = some (.bool x.v.there) := M6.out.1.cell 3
          have m4 : w6.cell? ⟨bx, 4, none⟩ = some (.string x.v.bytes) := M6.out.1.cell 4
          rw [hxk] at m1
          have I6 := hid i1
          have SE := hid hse
          clear hse hxk i1
          generalize seeF D.wrote f0 = fk at *
          have hn0 : (0 : Int) ≤ (n : Int) := by omega
          have hn8' : (n : Int) < 8 := by omega
          have y1 := (L6.out.1.cell (n * 2)).trans (vals8_get _ n hn8).1
          have y2 := (L6.out.1.cell (n * 2 + 1)).trans (vals8_get _ n hn8).2
          have r1 := L6.out.1.free (n * 2)
          have r2 := L6.out.1.free (n * 2 + 1)
          have CK := hid (fun W => ref_IsKey_in n W ⟨hn0, hn8'⟩)
          go_wp2_with fail
          refine (CK.out _).mono ?_
          rintro e W ⟨rfl, rfl⟩
          go_wp2_with fail
          have H9 := hid ((H6.out.store0 (i := n * 2) (.bool x.v.there) hB4 L6.out.2).store0 (i := n * 2 + 1) (.string x.v.bytes) hB4 L6.out.2)
          have L9 : Hid (LocC ((w6.setCell ⟨b4, n * 2, none⟩ (.bool x.v.there)).setCell ⟨b4, n * 2 + 1, none⟩ (.string x.v.bytes)) g6 0 b4 34 (vals8 (seeF D6.wrote f0))) := hid ⟨by rw [SE.out]; exact L6.out.1.set2 hn8 x.v, L6.out.2⟩
          have I9 := hid I6.out
          clear y1 y2 r1 r2 m1 m3 m4 H6 L6 M6 I6 SE CK
          generalize (w6.setCell ⟨b4, n * 2, none⟩ (.bool x.v.there)).setCell ⟨b4, n * 2 + 1, none⟩ (.string x.v.bytes) = w9 at *
          generalize g6 = g9 at *
          generalize D6 = D9 at *
          generalize T = T9 at *
          clear I
          go_loopw [16] (fun i wr => ∃ (j : Nat) (g' : Nat → Nat) (D' : Ded), j ≤ 8 ∧ i = .int .i64 j ∧ Hid (TD w2a g' wr t d T9 D') ∧ Hid (Inv D' T9 T0.last f0) ∧ Hid (LocC wr g' 0 b4 34 (vals8 (seeF D'.wrote f0)))) (fun i _ => 8 - (intOf i).toNat)
          case atStart => exact ⟨0, g9, D9, by omega, rfl, H9, I9, L9⟩
          case round =>
            clear H9 I9 L9
            obtain ⟨j, g', D', hj, rfl, H, I, L⟩ := hrel
            by_cases hj8 : j < 8
            · obtain ⟨e1, i2, s2⟩ := I.out.get hj8
              have P := deed_Get g' 12 d D' g' 1 t T9 j wr H.out.ded H.out.tab
              have I2 := hid i2
              have S2 := hid (show vals8 (seeF (getD D' T9 j).2.wrote f0) = vals8 (seeF D'.wrote f0) by rw [s2])
              clear i2 s2
              generalize seeF D'.wrote f0 = fk at *
              generalize getD D' T9 j = y at *
              obtain ⟨⟨v, c⟩, D2⟩ := y
              obtain ⟨rfl, rfl⟩ : v = fk j ∧ c = 0 := by simpa using e1
              have hj0 : (0 : Int) ≤ (j : Int) := by omega
              have hj8' : (j : Int) < 8 := by omega
              have PP := hid P
              clear e1 P
              go_wp2_with fail
              (with_reducible refine PP.out.mono ?_)
              rintro e w10 ⟨rfl, g10, hD, hE⟩
              have H10 := hid (H.out.evoD hE hD)
              have L10 := hid (L.out.frame hE (by omega))
              clear hD hE H L PP
              go_upto_region 34 with (fail)
              have M11 := hid (Loc.new w10 32 [.bool (fk j).there, .string (fk j).bytes])
              have H11 := hid (H10.out.alloc (.cells #[.bool (fk j).there, .string (fk j).bytes] 32))
              have L11 := hid (L10.out.alloc 0 (.cells #[.bool (fk j).there, .string (fk j).bytes] 32))
              generalize extc g10 w10 0 = g11 at *
              generalize w10.alloc (.cells #[.bool (fk j).there, .string (fk j).bytes] 32) = w11 at *
              obtain ⟨q1, q2, -⟩ := M11.out.two
              have y1 := (L11.out.1.cell (j * 2)).trans (vals8_get _ j hj8).1
              have y2 := (L11.out.1.cell (j * 2 + 1)).trans (vals8_get _ j hj8).2
              clear H10 L10 M11
              go_quiet (fail)
              go_wp2
              go_roundw
              case rel => exact ⟨j + 1, g11, D2, by omega, by go_num, hid (H11.out.below (below_drewN _ _)), I2, hid (by rw [S2.out]; exact L11.out.below (below_drewN _ _))⟩
              case measure => simp [intOf]; omega
            · obtain rfl : j = 8 := by omega
              go_wp2
              go_roundw
              case rel => exact ⟨k + 1, g', T9, D', by omega, by go_num, H, I, L⟩
              case measure => simp [intOf]; omega
        · have hb := PB.out hc
          have hc' : ((putD D x.k x.v).1 == 0) = false := by simpa using hc
          have H9 : Hid (TD w2a g6 w6 t d T D) := hid (by have := H6.out; rwa [hb] at this)
          have L9 := hid L6.out
          have I9 := hid I.out
          clear hb hc PG PB H6 L6 M6
          generalize (putD D x.k x.v).1 = code at *
          go_wp2_with fail
          generalize g6 = g9 at *
          generalize w6 = w9 at *
          generalize D = D9 at *
          generalize T = T9 at *
          clear I
          go_loopw [16] (fun i wr => ∃ (j : Nat) (g' : Nat → Nat) (D' : Ded), j ≤ 8 ∧ i = .int .i64 j ∧ Hid (TD w2a g' wr t d T9 D') ∧ Hid (Inv D' T9 T0.last f0) ∧ Hid (LocC wr g' 0 b4 34 (vals8 (seeF D'.wrote f0)))) (fun i _ => 8 - (intOf i).toNat)
          case atStart => exact ⟨0, g9, D9, by omega, rfl, H9, I9, L9⟩
          case round =>
            clear H9 I9 L9
            obtain ⟨j, g', D', hj, rfl, H, I, L⟩ := hrel
            by_cases hj8 : j < 8
            · obtain ⟨e1, i2, s2⟩ := I.out.get hj8
              have P := deed_Get g' 12 d D' g' 1 t T9 j wr H.out.ded H.out.tab
              have I2 := hid i2
              have S2 := hid (show vals8 (seeF (getD D' T9 j).2.wrote f0) = vals8 (seeF D'.wrote f0) by rw [s2])
              clear i2 s2
              generalize seeF D'.wrote f0 = fk at *
              generalize getD D' T9 j = y at *
              obtain ⟨⟨v, c⟩, D2⟩ := y
              obtain ⟨rfl, rfl⟩ : v = fk j ∧ c = 0 := by simpa using e1
              have hj0 : (0 : Int) ≤ (j : Int) := by omega
              have hj8' : (j : Int) < 8 := by omega
              have PP := hid P
              clear e1 P
              go_wp2_with fail
              (with_reducible refine PP.out.mono ?_)
              rintro e w10 ⟨rfl, g10, hD, hE⟩
              have H10 := hid (H.out.evoD hE hD)
              have L10 := hid (L.out.frame hE (by omega))
              clear hD hE H L PP
              go_upto_region 34 with (fail)
              have M11 := hid (Loc.new w10 32 [.bool (fk j).there, .string (fk j).bytes])
              have H11 := hid (H10.out.alloc (.cells #[.bool (fk j).there, .string (fk j).bytes] 32))
              have L11 := hid (L10.out.alloc 0 (.cells #[.bool (fk j).there, .string (fk j).bytes] 32))
              generalize extc g10 w10 0 = g11 at *
              generalize w10.alloc (.cells #[.bool (fk j).there, .string (fk j).bytes] 32) = w11 at *
              obtain ⟨q1, q2, -⟩ := M11.out.two
              have y1 := (L11.out.1.cell (j * 2)).trans (vals8_get _ j hj8).1
              have y2 := (L11.out.1.cell (j * 2 + 1)).trans (vals8_get _ j hj8).2
              clear H10 L10 M11
              go_quiet (fail)
              go_wp2
              go_roundw
              case rel => exact ⟨j + 1, g11, D2, by omega, by go_num, hid (H11.out.below (below_drewN _ _)), I2, hid (by rw [S2.out]; exact L11.out.below (below_drewN _ _))⟩
              case measure => simp [intOf]; omega
            · obtain rfl : j = 8 := by omega
              go_wp2
              go_roundw
              case rel => exact ⟨k + 1, g', T9, D', by omega, by go_num, H, I, L⟩
              case measure => simp [intOf]; omega
      · have z1 : (x.do_ == 1) = false := by simpa using hd
        by_cases hd3 : x.do_ = 3
        · rw [hd3] at m0
          clear hd hd3 z1 m1 m3 m4
          go_wp2_with fail
          (with_reducible refine (table_Write g1 1 t T x.a x.cap x.w w5 hx6 P7.out.sz H1.out.tab (H1.out.slice P7.out.sl)).mono ?_)
          rintro e w9 ⟨rfl, g9, hT, hE⟩
          have H9 := hid (H1.out.evoT hE hT)
          have L9 := hid (L1.out.frame hE (by omega))
          have I9 := hid (I.out.write H1.out.tab.1 x.w)
          clear hE hT m0 m5 M1 H1 L1
          generalize (writeT T x.w).2 = T9 at *
          go_wp2_with fail
          generalize D = D9 at *
          clear I
          go_loopw [16] (fun i wr => ∃ (j : Nat) (g' : Nat → Nat) (D' : Ded), j ≤ 8 ∧ i = .int .i64 j ∧ Hid (TD w2a g' wr t d T9 D') ∧ Hid (Inv D' T9 T0.last f0) ∧ Hid (LocC wr g' 0 b4 34 (vals8 (seeF D'.wrote f0)))) (fun i _ => 8 - (intOf i).toNat)
          case atStart => exact ⟨0, g9, D9, by omega, rfl, H9, I9, L9⟩
          case round =>
            clear H9 I9 L9
            obtain ⟨j, g', D', hj, rfl, H, I, L⟩ := hrel
            by_cases hj8 : j < 8
            · obtain ⟨e1, i2, s2⟩ := I.out.get hj8
              have P := deed_Get g' 12 d D' g' 1 t T9 j wr H.out.ded H.out.tab
              have I2 := hid i2
              have S2 := hid (show vals8 (seeF (getD D' T9 j).2.wrote f0) = vals8 (seeF D'.wrote f0) by rw [s2])
              clear i2 s2
              generalize seeF D'.wrote f0 = fk at *
              generalize getD D' T9 j = y at *
              obtain ⟨⟨v, c⟩, D2⟩ := y
              obtain ⟨rfl, rfl⟩ : v = fk j ∧ c = 0 := by simpa using e1
              have hj0 : (0 : Int) ≤ (j : Int) := by omega
              have hj8' : (j : Int) < 8 := by omega
              have PP := hid P
              clear e1 P
              go_wp2_with fail
              (with_reducible refine PP.out.mono ?_)
              rintro e w10 ⟨rfl, g10, hD, hE⟩
              have H10 := hid (H.out.evoD hE hD)
              have L10 := hid (L.out.frame hE (by omega))
              clear hD hE H L PP
              go_upto_region 34 with (fail)
              have M11 := hid (Loc.new w10 32 [.bool (fk j).there, .string (fk j).bytes])
              have H11 := hid (H10.out.alloc (.cells #[.bool (fk j).there, .string (fk j).bytes] 32))
              have L11 := hid (L10.out.alloc 0 (.cells #[.bool (fk j).there, .string (fk j).bytes] 32))
              generalize extc g10 w10 0 = g11 at *
              generalize w10.alloc (.cells #[.bool (fk j).there, .string (fk j).bytes] 32) = w11 at *
              obtain ⟨q1, q2, -⟩ := M11.out.two
              have y1 := (L11.out.1.cell (j * 2)).trans (vals8_get _ j hj8).1
              have y2 := (L11.out.1.cell (j * 2 + 1)).trans (vals8_get _ j hj8).2
              clear H10 L10 M11
              go_quiet (fail)
              go_wp2
              go_roundw
              case rel => exact ⟨j + 1, g11, D2, by omega, by go_num, hid (H11.out.below (below_drewN _ _)), I2, hid (by rw [S2.out]; exact L11.out.below (below_drewN _ _))⟩
              case measure => simp [intOf]; omega
            · obtain rfl : j = 8 := by omega
              go_wp2
              go_roundw
              case rel => exact ⟨k + 1, g', T9, D', by omega, by go_num, H, I, L⟩
              case measure => simp [intOf]; omega
        · have z3 : (x.do_ == 3) = false := by simpa using hd3
          by_cases hd4 : x.do_ = 4
          · rw [hd4] at m0
            clear hd hd3 hd4 z1 z3 m1 m3 m4 m5
            go_wp2_with fail
            (with_reducible refine (table_Clear g1 1 t T w5 T0.last H1.out.tab).mono ?_)
            rintro e w9 ⟨rfl, g9, hT, hE⟩
            have H9 := hid (H1.out.evoT hE hT)
            have L9 := hid (L1.out.frame hE (by omega))
            have I9 := hid (I.out.clear H1.out.tab.1)
            clear hE hT m0 M1 H1 L1
            generalize (clearT T T0.last).2 = T9 at *
            go_wp2_with fail
            generalize D = D9 at *
            clear I
            go_loopw [16] (fun i wr => ∃ (j : Nat) (g' : Nat → Nat) (D' : Ded), j ≤ 8 ∧ i = .int .i64 j ∧ Hid (TD w2a g' wr t d T9 D') ∧ Hid (Inv D' T9 T0.last f0) ∧ Hid (LocC wr g' 0 b4 34 (vals8 (seeF D'.wrote f0)))) (fun i _ => 8 - (intOf i).toNat)
            case atStart => exact ⟨0, g9, D9, by omega, rfl, H9, I9, L9⟩
            case round =>
              clear H9 I9 L9
              obtain ⟨j, g', D', hj, rfl, H, I, L⟩ := hrel
              by_cases hj8 : j < 8
              · obtain ⟨e1, i2, s2⟩ := I.out.get hj8
                have P := deed_Get g' 12 d D' g' 1 t T9 j wr H.out.ded H.out.tab
                have I2 := hid i2
                have S2 := hid (show vals8 (seeF (getD D' T9 j).2.wrote f0) = vals8 (seeF D'.wrote f0) by rw [s2])
                clear i2 s2
                generalize seeF D'.wrote f0 = fk at *
                generalize getD D' T9 j = y at *
                obtain ⟨⟨v, c⟩, D2⟩ := y
                obtain ⟨rfl, rfl⟩ : v = fk j ∧ c = 0 := by simpa using e1
                have hj0 : (0 : Int) ≤ (j : Int) := by omega
                have hj8' : (j : Int) < 8 := by omega
                have PP := hid P
                clear e1 P
                go_wp2_with fail
                (with_reducible refine PP.out.mono ?_)
                rintro e w10 ⟨rfl, g10, hD, hE⟩
                have H10 := hid (H.out.evoD hE hD)
                have L10 := hid (L.out.frame hE (by omega))
                clear hD hE H L PP
                go_upto_region 34 with (fail)
                have M11 := hid (Loc.new w10 32 [.bool (fk j).there, .string (fk j).bytes])
                have H11 := hid (H10.out.alloc (.cells #[.bool (fk j).there, .string (fk j).bytes] 32))
                have L11 := hid (L10.out.alloc 0 (.cells #[.bool (fk j).there, .string (fk j).bytes] 32))
                generalize extc g10 w10 0 = g11 at *
                generalize w10.alloc (.cells #[.bool (fk j).there, .string (fk j).bytes] 32) = w11 at *
                obtain ⟨q1, q2, -⟩ := M11.out.two
                have y1 := (L11.out.1.cell (j * 2)).trans (vals8_get _ j hj8).1
                have y2 := (L11.out.1.cell (j * 2 + 1)).trans (vals8_get _ j hj8).2
                clear H10 L10 M11
                go_quiet (fail)
                go_wp2
                go_roundw
                case rel => exact ⟨j + 1, g11, D2, by omega, by go_num, hid (H11.out.below (below_drewN _ _)), I2, hid (by rw [S2.out]; exact L11.out.below (below_drewN _ _))⟩
                case measure => simp [intOf]; omega
              · obtain rfl : j = 8 := by omega
                go_wp2
                go_roundw
                case rel => exact ⟨k + 1, g', T9, D', by omega, by go_num, H, I, L⟩
                case measure => simp [intOf]; omega
          · have z4 : (x.do_ == 4) = false := by simpa using hd4
            have H9 := hid H1.out
            have L9 := hid L1.out
            have I9 := hid I.out
            clear hd hd3 hd4 m1 m3 m4 m5 M1 H1 L1
            go_wp2_with fail
            clear m0
            generalize g1 = g9 at *
            generalize w5 = w9 at *
            generalize D = D9 at *
            generalize T = T9 at *
            clear I
            go_loopw [16] (fun i wr => ∃ (j : Nat) (g' : Nat → Nat) (D' : Ded), j ≤ 8 ∧ i = .int .i64 j ∧ Hid (TD w2a g' wr t d T9 D') ∧ Hid (Inv D' T9 T0.last f0) ∧ Hid (LocC wr g' 0 b4 34 (vals8 (seeF D'.wrote f0)))) (fun i _ => 8 - (intOf i).toNat)
            case atStart => exact ⟨0, g9, D9, by omega, rfl, H9, I9, L9⟩
            case round =>
              clear H9 I9 L9
              obtain ⟨j, g', D', hj, rfl, H, I, L⟩ := hrel
              by_cases hj8 : j < 8
              · obtain ⟨e1, i2, s2⟩ := I.out.get hj8
                have P := deed_Get g' 12 d D' g' 1 t T9 j wr H.out.ded H.out.tab
                have I2 := hid i2
                have S2 := hid (show vals8 (seeF (getD D' T9 j).2.wrote f0) = vals8 (seeF D'.wrote f0) by rw [s2])
                clear i2 s2
                generalize seeF D'.wrote f0 = fk at *
                generalize getD D' T9 j = y at *
                obtain ⟨⟨v, c⟩, D2⟩ := y
                obtain ⟨rfl, rfl⟩ : v = fk j ∧ c = 0 := by simpa using e1
                have hj0 : (0 : Int) ≤ (j : Int) := by omega
                have hj8' : (j : Int) < 8 := by omega
                have PP := hid P
                clear e1 P
                go_wp2_with fail
                (with_reducible refine PP.out.mono ?_)
                rintro e w10 ⟨rfl, g10, hD, hE⟩
                have H10 := hid (H.out.evoD hE hD)
                have L10 := hid (L.out.frame hE (by omega))
                clear hD hE H L PP
                go_upto_region 34 with (fail)
                have M11 := hid (Loc.new w10 32 [.bool (fk j).there, .string (fk j).bytes])
                have H11 := hid (H10.out.alloc (.cells #[.bool (fk j).there, .string (fk j).bytes] 32))
                have L11 := hid (L10.out.alloc 0 (.cells #[.bool (fk j).there, .string (fk j).bytes] 32))
                generalize extc g10 w10 0 = g11 at *
                generalize w10.alloc (.cells #[.bool (fk j).there, .string (fk j).bytes] 32) = w11 at *
                obtain ⟨q1, q2, -⟩ := M11.out.two
                have y1 := (L11.out.1.cell (j * 2)).trans (vals8_get _ j hj8).1
                have y2 := (L11.out.1.cell (j * 2 + 1)).trans (vals8_get _ j hj8).2
                clear H10 L10 M11
                go_quiet (fail)
                go_wp2
                go_roundw
                case rel => exact ⟨j + 1, g11, D2, by omega, by go_num, hid (H11.out.below (below_drewN _ _)), I2, hid (by rw [S2.out]; exact L11.out.below (below_drewN _ _))⟩
                case measure => simp [intOf]; omega
              · obtain rfl : j = 8 := by omega
                go_wp2
                go_roundw
                case rel => exact ⟨k + 1, g', T9, D', by omega, by go_num, H, I, L⟩
                case measure => simp [intOf]; omega
    · obtain rfl : k = m.length := by omega
      clear MA
      go_wp2
      go_ret
      exact ⟨rfl, B2a.out.trans (H.out.base.below.mono B2a.out.size)⟩

end Go.Proofs.Ytoiobhcgpajogab
