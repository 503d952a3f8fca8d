/- The walk of DeedDoes. -/
import Derived.Test.YtoiobhcgpajogacLaw03a
import Derived.Test.YtoiobhcgpajogacTStep
import Derived.Test.YtoiobhcgpajogacWork5
namespace Go.Proofs.Ytoiobhcgpajogac
open Go.RowKit

/-- A table of the colours 1 to 9; a sheet of 10 and 11; a deed of 12; the document's of 13 to 15. -/
structure TW (w0 : World) (g : Nat → Nat) (w : World) (t s d b : Nat) (T S : Tab) (D E : Ded) (N : Nat) : Prop where
  base : Base w0.heap.size w0 g w
  tab : TableAt w g 1 t T
  sh : SheetAt w g 10 s S
  ded : DeedAt w g 12 d D
  wk : WorkAt w g 13 b E N

section
variable {w0 w w' : World} {g g' : Nat → Nat} {t s d b N N' : Nat} {T S T' : Tab} {D E D' : Ded}
theorem TW.below (h : TW w0 g w t s d b T S D E N) (k : Below w.heap.size w w') : TW w0 g w' t s d b T S D E N := ⟨h.base.below' k, h.tab.below k, h.sh.below k, h.ded.below k, h.wk.below k⟩
theorem TW.alloc (h : TW w0 g w t s d b T S D E N) (o : Obj) : TW w0 (extc g w 0) (w.alloc o) t s d b T S D E N := ⟨h.base.alloc 0 o, h.tab.alloc 0 o, h.sh.fresh (Evo.alloc g 0 w o), h.ded.alloc 0 o, h.wk.frame (Evo.alloc g 0 w o) (by omega)⟩
theorem TW.drew (h : TW w0 g w t s d b T S D E N) : TW w0 g w.drew t s d b T S D E N := h.below (Below.refl _ _).drew
theorem TW.evoT (h : TW w0 g w t s d b T S D E N) (hE : Evo 1 (1 + 9) g g' w w') (hT : TableAt w' g' 1 t T') : TW w0 g' w' t s d b T' S D E N := ⟨h.base.step hE (by omega), hT, h.sh.frame hE (by omega), h.ded.frame hE (by omega), h.wk.frame hE (by omega)⟩
theorem TW.evoS (h : TW w0 g w t s d b T S D E N) (hE : Evo 10 (10 + 2) g g' w w') (hS : SheetAt w' g' 10 s T') : TW w0 g' w' t s d b T T' D E N := ⟨h.base.step hE (by omega), h.tab.frame hE (by omega), hS, h.ded.frame hE (by omega), h.wk.frame hE (by omega)⟩
theorem TW.evoD (h : TW w0 g w t s d b T S D E N) (hE : Evo 12 (12 + 1) g g' w w') (hD : DeedAt w' g' 12 d D') : TW w0 g' w' t s d b T S D' E N := ⟨h.base.step hE (by omega), h.tab.frame hE (by omega), h.sh.frame hE (by omega), hD, h.wk.frame hE (by omega)⟩
theorem TW.evoW (h : TW w0 g w t s d b T S D E N) (hE : Evo 13 (13 + 3) g g' w w') (hW : WorkAt w' g' 13 b D' N') : TW w0 g' w' t s d b T S D D' N' := ⟨h.base.step hE (by omega), h.tab.frame hE (by omega), h.sh.frame hE (by omega), h.ded.frame hE (by omega), hW⟩
theorem TW.slice (h : TW w0 g w t s d b T S D E N) {a : Option Addr} {cells : List Value} (k : SliceAt w0 a cells) (lo hi : Nat) (hl : 1 ≤ lo) : SliceC w g lo hi a cells := SliceC.of_base k rfl h.base hl
theorem TW.more (h : TW w0 g w t s d b T S D E N) (hn : N ≤ N') : TW w0 g w t s d b T S D E N' := ⟨h.base, h.tab, h.sh, h.ded, h.wk.more hn⟩
end

/-- New blocks may have whatever colour. -/
theorem Evo.recolor {lo hi : Nat} {g g' : Nat → Nat} {w w' : World} (h : Evo lo hi g g' w w') (q : Nat) : Evo lo hi g (extc g w q) w w' := ⟨h.os, h.tape, h.output, h.size, fun _ hk => extc_old hk, h.same⟩

theorem DeedAt.recolor {g g' : Nat → Nat} {w w' : World} {p d : Nat} {D D' : Ded} (h0 : DeedAt w g p d D) (h : DeedAt w' g' p d D') (q : Nat) : DeedAt w' (extc g w q) p d D' := ⟨h.1, h.2.1, (extc_old h0.2.1.lt).trans h0.2.2⟩

theorem ref_SamePairs_eq (a1 a2 : Option Addr) (c1 c2 : Nat) (l : List Ent) (w : World) (hn : l.length ≤ 1000000) (h1 : SliceAt w a1 (encEnts l)) (h2 : SliceAt w a2 (encEnts l)) :
    Calls Try.prog 26 #[.slice a1 l.length c1, .slice a2 l.length c2] w (BoolPost true w) := by
  refine (ref_SamePairs a1 a2 c1 c2 l l w hn hn h1 h2).mono ?_
  rintro e w' ⟨b, rfl, hb, h⟩
  exact ⟨by rw [hb.2 rfl], h⟩

theorem listDGo_same {T : Tab} : ∀ (ks : List Nat) (D : Ded) (out : List Ent), (listDGo T ks D out).2.mode = D.mode ∧ (listDGo T ks D out).2.beg = D.beg ∧ (listDGo T ks D out).1.1.length ≤ out.length + ks.length
  | [], D, out => ⟨rfl, rfl, by simp [listDGo]⟩
  | k :: ks, D, out => by
    rw [listDGo]
    split
    · exact ⟨(getD_same D T k).1, (getD_same D T k).2.1, by simp⟩
    · obtain ⟨h1, h2, h3⟩ := listDGo_same (T := T) ks (getD D T k).2 (if (getD D T k).1.1.there then out ++ [⟨k, (getD D T k).1.1⟩] else out)
      refine ⟨h1.trans (getD_same D T k).1, h2.trans (getD_same D T k).2.1, ?_⟩
      have : (if (getD D T k).1.1.there then out ++ [(⟨k, (getD D T k).1.1⟩ : Ent)] else out).length ≤ out.length + 1 := by split <;> simp
      simp only [List.length_cons]
      omega

theorem listD_same (D : Ded) (T : Tab) (f u : Int) : (listD D T f u).2.mode = D.mode ∧ (listD D T f u).2.beg = D.beg ∧ (listD D T f u).1.1.length ≤ 8 := by
  unfold listD
  split
  · exact ⟨rfl, rfl, by simp⟩
  · obtain ⟨h1, h2, h3⟩ := listDGo_same (T := T) ((List.range (u.toNat + 1)).drop f.toNat) D []
    refine ⟨h1, h2, ?_⟩
    simp only [List.length_drop, List.length_range, List.length_nil] at h3
    omega

theorem readsD_len (D : Ded) : (readsD D).length ≤ 1000000 := by have := readsTo_length D 8; unfold readsD; omega
theorem writesD_len (D : Ded) : (writesD D).length ≤ 1000000 := by have := writesTo_length D 8; unfold writesD; omega

theorem putD_same (D : Ded) (k : Int) (v : Val) : (putD D k v).2.mode = D.mode ∧ (putD D k v).2.beg = D.beg := by
  unfold putD
  split
  · exact ⟨rfl, rfl⟩
  · split
    · exact ⟨rfl, rfl⟩
    · split
      · exact ⟨rfl, rfl⟩
      · exact ⟨rfl, rfl⟩

set_option maxHeartbeats 8000000 in
set_option maxRecDepth 100000 in
theorem walk_DeedDoes (a : Option Addr) (cap : Nat) (l : List TStep) (mode at_ : Int) (a2 : Option Addr) (cap2 : Nat) (m : List DStep) (w : World) (hl : l.length ≤ 9223372036854775807) (hA : TStepsAt w a l) (_ : (Lit.int .i64 mode).wf = true) (_ : (Lit.int .i64 at_).wf = true) (hl2 : m.length ≤ 9223372036854775807) (hA2 : DStepsAt w a2 m) :
    Calls Try.prog 3 #[.slice a l.length cap, .int .i64 mode, .int .i64 at_, .slice a2 m.length cap2] w (TruePost w) := by
  have HA := hid hA
  have HA2 := hid hA2
  clear hA hA2
  go_enter Try.func3, Try.ntmps3
  go_wp2_with fail
  (with_reducible refine (law_deedBegun w).mono ?_)
  rintro e w1 ⟨rfl, hb⟩
  have B1 := hid hb
  clear hb
  go_wp2_with fail
  (with_reducible refine (law_greatTable a cap l w1 hl (HA.out.below B1.out)).mono ?_)
  rintro e w2 ⟨rfl, hb⟩
  have B2 := hid (B1.out.trans (hb.mono B1.out.size))
  clear hb
  cases hg : greatT l with
  | true =>
    clear hg
    go_wp2
    go_ret
    exact ⟨rfl, B2.out⟩
  | false =>
  obtain ⟨h80, h50⟩ := greatT_false hg
  have H50 := hid h50
  clear hg h50
  go_wp2_with fail
  (with_reducible refine (law_greatDeeds a2 cap2 m w2 hl2 (HA2.out.below B2.out)).mono ?_)
  rintro e w2a ⟨rfl, hb⟩
  have B2a := hid (B2.out.trans (hb.mono B2.out.size))
  clear hb B2
  cases hg : greatDs m with
  | true =>
    clear hg
    go_wp2
    go_ret
    exact ⟨rfl, B2a.out⟩
  | false =>
  obtain ⟨hm60, h50⟩ := greatDs_false hg
  have M50 := hid h50
  clear hg h50
  go_wp2_with fail
  (with_reducible refine (law_tables a cap l w2a h80 H50.out (HA.out.below B2a.out)).mono ?_)
  rintro e w3 ⟨g, t, s, rfl, h3⟩
  have H3 := hid h3
  generalize runT l = T0 at *
  clear h3
  by_cases hmd : mode < 1 ∨ 3 < mode
  · have ND := hid (fun W => deed_New_out mode at_ W hmd)
    go_wp2_with fail
    refine (ND.out _).mono ?_
    rintro e W ⟨rfl, rfl⟩
    have HB := hid (B2a.out.trans (H3.out.base.below.mono B2a.out.size))
    by_cases hm1 : mode < 1
    · clear hmd ND H3
      go_wp2
      go_ret
      exact ⟨rfl, HB.out⟩
    · have hm3 : 3 < mode := by omega
      clear hmd ND H3
      go_wp2
      go_ret
      exact ⟨rfl, HB.out⟩
  have hmd' : 1 ≤ mode ∧ mode ≤ 3 := by omega
  have hm1 : ¬ mode < 1 := by omega
  have hm3 : ¬ 3 < mode := by omega
  have ND := hid (deed_New_in g 12 mode at_ w3 hmd')
  clear hmd hmd'
  go_wp2_with fail
  refine ND.out.mono ?_
  rintro e w4 ⟨d, rfl, hb, -, hD⟩
  have EB := Evo.of_below (lo := 0) (hi := 0) g 12 hb
  have b4 := hid (H3.out.base.step EB (by omega))
  have t4 := hid (H3.out.tab.frame EB (by omega))
  have s4 := hid (H3.out.sh.frame EB (by omega))
  have d4 := hid hD
  generalize extc g w3 12 = g4 at *
  clear hb hD EB ND H3
  go_upto_region 10 with (fail)
  have EA := Evo.alloc g4 13 w4 (.cells #[.int .i64 mode, .int .i64 at_, .slice none 0 0, .slice none 0 0] 37)
  have H5 : Hid (TW w2a (extc g4 w4 13) (w4.alloc (.cells #[.int .i64 mode, .int .i64 at_, .slice none 0 0, .slice none 0 0] 37)) t s d w4.heap.size T0 T0 (Ded.new mode at_) (Ded.new mode at_) 0) :=
    hid ⟨b4.out.step EA (by omega), t4.out.frame EA (by omega), s4.out.frame EA (by omega), d4.out.frame EA (by omega), ⟨mode, at_, [], []⟩, .slice none 0 0, .slice none 0 0, Ded.new_ok mode at_, rfl, Nat.le_refl _, Nat.le_refl _, LocC.new g4 13 w4 _ _, ⟨World.ownsRow_nil _ 0 3 1, nofun⟩, ⟨World.ownsRow_nil _ 0 87 3, nofun⟩⟩
  generalize w4.alloc (.cells #[.int .i64 mode, .int .i64 at_, .slice none 0 0, .slice none 0 0] 37) = w5 at *
  generalize extc g4 w4 13 = g5 at *
  generalize w4.heap.size = b at *
  have I5 : Hid ((Ded.new mode at_).mode = mode ∧ (Ded.new mode at_).beg = at_) := hid ⟨rfl, rfl⟩
  generalize Ded.new mode at_ = D0 at *
  clear EA b4 t4 s4 d4
  have MA := hid (HA2.out.below B2a.out)
  clear HA2 HA
  go_wp2_with fail
  go_loopw [14] (fun i wr => ∃ (k : Nat) (g : Nat → Nat) (T : Tab) (D : Ded), k ≤ m.length ∧ i = .int .i64 k ∧ Hid (TW w2a g wr t s d b T T D D (10 * k)) ∧ Hid (D.mode = mode ∧ D.beg = at_)) (fun i _ => m.length - (intOf i).toNat)
  case atStart => exact ⟨0, g5, T0, D0, Nat.zero_le _, rfl, H5, I5⟩
  case round =>
    clear H5 I5
    obtain ⟨k, g, T, D, hk, rfl, H, I⟩ := hrel
    by_cases hlt : k < m.length
    · obtain ⟨b1, o1, rfl, hbb, v1⟩ := MA.out.facts (by omega)
      obtain ⟨p1, p2, p3, p4, p5, p6, p7, -, hvs⟩ := v1 k hlt
      have hq50 := (M50.out m[k] (List.getElem_mem _)).1
      have P1 := (H.out.base.cell (p := ⟨b1, _, none⟩) hbb).trans p1
      have P2 := (H.out.base.cell (p := ⟨b1, _, none⟩) hbb).trans p2
      have P3 := (H.out.base.cell (p := ⟨b1, _, none⟩) hbb).trans p3
      have P4 := (H.out.base.cell (p := ⟨b1, _, none⟩) hbb).trans p4
      have P5 := (H.out.base.cell (p := ⟨b1, _, none⟩) hbb).trans p5
      have P6 := (H.out.base.cell (p := ⟨b1, _, none⟩) hbb).trans p6
      have hki : (k : Int) < (m.length : Int) := by omega
      have hk0 : (0 : Int) ≤ (k : Int) := by omega
      generalize m[k] = x at *
      have P7 := hid p7
      have hx6 : x.w.length ≤ 1000000 := by omega
      have HVS := hid hvs
      clear v1 p1 p2 p3 p4 p5 p6 p7 hvs
      go_upto_region 14 with (fail)
      clear P1 P2 P3 P4 P5 P6
      have M1 := hid (LocC.new g 0 wr 41 [.int .i64 x.do_, .int .i64 x.k, .int .i64 x.to_, .bool x.v.there, .string x.v.bytes, .slice x.a x.w.length x.cap])
      have H1 := hid (H.out.alloc (.cells #[.int .i64 x.do_, .int .i64 x.k, .int .i64 x.to_, .bool x.v.there, .string x.v.bytes, .slice x.a x.w.length x.cap] 41))
      generalize extc g wr 0 = g1 at *
      generalize wr.alloc (.cells #[.int .i64 x.do_, .int .i64 x.k, .int .i64 x.to_, .bool x.v.there, .string x.v.bytes, .slice x.a x.w.length x.cap] 41) = w5 at *
      generalize hbx : wr.heap.size = bx at *
      clear H hbx
      have m0 : w5.cell? ⟨bx, 0, none⟩ = some (.int .i64 x.do_) := M1.out.1.cell 0
      have m1 : w5.cell? ⟨bx, 1, none⟩ = some (.int .i64 x.k) := M1.out.1.cell 1
      have m2 : w5.cell? ⟨bx, 2, none⟩ = some (.int .i64 x.to_) := M1.out.1.cell 2
      have m3 : w5.cell? ⟨bx, 3, none⟩ = some (.bool x.v.there) := M1.out.1.cell 3
      have m4 : w5.cell? ⟨bx, 4, none⟩ = some (.string x.v.bytes) := M1.out.1.cell 4
      have m5 : w5.cell? ⟨bx, 5, none⟩ = some (.slice x.a x.w.length x.cap) := M1.out.1.cell 5
      have hN : 10 * k ≤ 600 := by omega
      by_cases hd0 : x.do_ = 0
      · rw [hd0] at m0
        clear hd0 m2 m3 m4 m5
        have GS := hid (getD_same D T x.k)
        go_wp2_with fail
        (with_reducible refine (deed_Get g1 12 d D g1 1 t T x.k w5 H1.out.ded H1.out.tab).mono ?_)
        rintro e w6 ⟨rfl, g6, hD, hE⟩
        have H6 := hid (H1.out.evoD hE hD)
        have M6 := hid (M1.out.frame hE (by omega))
        clear hD hE H1 M1 m0 m1
        have WF := hid (fun g7 w7 (hW : WorkAt w7 g7 13 b D (10 * k)) (hS : SheetAt w7 g7 10 s T) => work_Get g7 13 b D (10 * k) g7 10 s T x.k w7 (by omega) hW hS)
        generalize getD D T x.k = y at *
        obtain ⟨⟨yv, yc⟩, D6⟩ := y
        go_upto_region 17 with (fail)
        have V7 := hid (LocC.new g6 0 w6 39 [.bool yv.there, .string yv.bytes])
        have H7 := hid (H6.out.alloc (.cells #[.bool yv.there, .string yv.bytes] 39))
        have M7 := hid (M6.out.alloc 0 (.cells #[.bool yv.there, .string yv.bytes] 39))
        generalize extc g6 w6 0 = g7 at *
        generalize w6.alloc (.cells #[.bool yv.there, .string yv.bytes] 39) = w7 at *
        generalize w6.heap.size = b7 at *
        have m1 : w7.cell? ⟨bx, 1, none⟩ = some (.int .i64 x.k) := M7.out.1.cell 1
        have WG := hid (WF.out g7 w7 H7.out.wk H7.out.sh)
        clear H6 M6 M7
        go_wp2_with fail
        (with_reducible refine WG.out.mono ?_)
        rintro e w8 ⟨rfl, g8, hW, hE⟩
        have H8 := hid (H7.out.evoW hE hW)
        have V8 := hid (V7.out.frame hE (by omega))
        clear hW hE H7 V7 WG m1
        go_upto_region 18 with (fail)
        have U9 := hid (LocC.new g8 0 w8 39 [.bool yv.there, .string yv.bytes])
        have H9 := hid ((H8.out.alloc (.cells #[.bool yv.there, .string yv.bytes] 39)).more (show 10 * k + 1 ≤ 10 * k + 10 by omega))
        have V9 := hid (V8.out.alloc 0 (.cells #[.bool yv.there, .string yv.bytes] 39))
        have I9 : Hid (D6.mode = mode ∧ D6.beg = at_) := hid ⟨GS.out.1.trans I.out.1, GS.out.2.1.trans I.out.2⟩
        generalize extc g8 w8 0 = g9 at *
        generalize w8.alloc (.cells #[.bool yv.there, .string yv.bytes] 39) = w9 at *
        generalize w8.heap.size = b9 at *
        obtain ⟨v1, v2, -⟩ := V9.out.1.two
        obtain ⟨u1, u2, -⟩ := U9.out.1.two
        clear H8 V8 GS WF
        go_wp2_with fail
        clear v1 v2 u1 u2 V9 U9
        generalize D6 = D9 at *
        generalize T = T9 at *
        (with_reducible refine (deed_Reads g9 12 d D9 w9 H9.out.ded).mono ?_)
        rintro e w10 ⟨a10, c10, rfl, hs10, hb⟩
        have H10 := hid (H9.out.below hb)
        have S10 := hid hs10
        clear hb hs10 H9
        go_wp2_with fail
        (with_reducible refine (work_Reads g9 13 b D9 _ w10 (by omega) H10.out.wk).mono ?_)
        rintro e w11 ⟨a11, c11, rfl, hs11, hb⟩
        have H11 := hid (H10.out.below hb)
        have S10' := hid (sliceAt_below S10.out hb)
        have S11 := hid hs11
        clear hb hs11 H10 S10
        go_wp2_with fail
        (with_reducible refine (ref_SameInts_eq a10 a11 c10 c11 (readsD D9) w11 (readsD_len D9) S10'.out S11.out).mono ?_)
        rintro e w12 ⟨rfl, hb⟩
        have H12 := hid (H11.out.below hb)
        clear hb H11 S10' S11
        go_wp2_with fail
        (with_reducible refine (deed_Writes g9 12 d D9 w12 H12.out.ded).mono ?_)
        rintro e w13 ⟨a13, c13, rfl, hs13, hb, -, -⟩
        have H13 := hid (H12.out.below hb)
        have S13 := hid hs13
        clear hb hs13 H12
        go_wp2_with fail
        (with_reducible refine (work_Writes g9 13 b D9 _ w13 (by omega) H13.out.wk).mono ?_)
        rintro e w14 ⟨a14, c14, rfl, hs14, hb, -, -⟩
        have H14 := hid (H13.out.below hb)
        have S13' := hid (sliceAt_below S13.out hb)
        have S14 := hid hs14
        clear hb hs14 H13 S13
        go_wp2_with fail
        (with_reducible refine (ref_SamePairs_eq a13 a14 c13 c14 (writesD D9) w14 (writesD_len D9) S13'.out S14.out).mono ?_)
        rintro e w15 ⟨rfl, hb⟩
        have H15 := hid (H14.out.below hb)
        clear hb H14 S13' S14
        go_wp2_with fail
        (with_reducible refine (deed_May g9 12 d D9 g9 1 t T9 w15 H15.out.ded H15.out.tab).mono ?_)
        rintro e w16 ⟨rfl, hb⟩
        have H16 := hid (H15.out.below hb)
        clear hb H15
        go_wp2_with fail
        (with_reducible refine (work_May g9 13 b D9 _ g9 10 s T9 w16 (by omega) H16.out.wk H16.out.sh).mono ?_)
        rintro e w17 ⟨rfl, hb⟩
        have H17 := hid (H16.out.below hb)
        clear hb H16
        generalize mayD D9 T9 = code at *
        go_wp2
        go_roundw
        case rel => exact ⟨k + 1, g9, T9, D9, by omega, by go_num, hid (by rw [show 10 * (k + 1) = 10 * k + 10 by omega]; exact H17.out), I9⟩
        case measure => simp [intOf]; omega
      · have z0 : (x.do_ == 0) = false := by simpa using hd0
        by_cases hd1 : x.do_ = 1
        · rw [hd1] at m0
          clear hd0 hd1 z0 m2 m5
          have PS := hid (putD_same D x.k x.v)
          have M1d : Hid (LocC w5.drew g1 0 bx 41 _) := hid M1.out
          have H1d := hid H1.out.drew
          clear H1 M1
          go_wp2_with fail
          go_region_held3 (fun W' : World => W'.cell? ⟨bx, 1, none⟩ = some (.int .i64 x.k) ∧ W'.cell? ⟨bx, 3, none⟩ = some (.bool x.v.there) ∧ W'.cell? ⟨bx, 4, none⟩ = some (.string x.v.bytes))
            (first | assumption | exact ⟨m1, m3, m4⟩)
            (first
              | (go_at_call 22; (with_reducible refine (deed_Put g1 12 d D x.k x.v _ HVS.out H1d.out.ded).mono ?_); rintro e w6 ⟨rfl, g6, hD, hE⟩; have H6 := hid (H1d.out.evoD hE hD); have M6 := hid (M1d.out.frame hE (by omega)); have hS' : w6.cell? ⟨bx, 1, none⟩ = some (.int .i64 x.k) ∧ w6.cell? ⟨bx, 3, none⟩ = some (.bool x.v.there) ∧ w6.cell? ⟨bx, 4, none⟩ = some (.string x.v.bytes) := ⟨M6.out.1.cell 1, M6.out.1.cell 3, M6.out.1.cell 4⟩; clear hD hE)
              | (go_at_call 23; (with_reducible refine (work_Put g6 13 b D (10 * k) x.k x.v _ HVS.out (by omega) H6.out.wk).mono ?_); rintro e w7 ⟨rfl, g7, hW, hE⟩; have H7 := hid (H6.out.evoW hE hW); have M7 := hid (M6.out.frame hE (by omega)); have hS' : w7.cell? ⟨bx, 1, none⟩ = some (.int .i64 x.k) ∧ w7.cell? ⟨bx, 3, none⟩ = some (.bool x.v.there) ∧ w7.cell? ⟨bx, 4, none⟩ = some (.string x.v.bytes) := ⟨M7.out.1.cell 1, M7.out.1.cell 3, M7.out.1.cell 4⟩; clear hW hE))
          have H9 := hid (H7.out.more (show 10 * k + 1 ≤ 10 * k + 10 by omega))
          have I9 : Hid ((putD D x.k x.v).2.mode = mode ∧ (putD D x.k x.v).2.beg = at_) := hid ⟨PS.out.1.trans I.out.1, PS.out.2.trans I.out.2⟩
          clear hS' H7 H6 H1d M1d M6 M7 PS m1 m3 m4
          generalize putD D x.k x.v = y at *
          obtain ⟨yc, D9⟩ := y
          go_wp2_with fail
          generalize g7 = g9 at *
          generalize w7 = w9 at *
          generalize T = T9 at *
          (with_reducible refine (deed_Reads g9 12 d D9 w9 H9.out.ded).mono ?_)
          rintro e w10 ⟨a10, c10, rfl, hs10, hb⟩
          have H10 := hid (H9.out.below hb)
          have S10 := hid hs10
          clear hb hs10 H9
          go_wp2_with fail
          (with_reducible refine (work_Reads g9 13 b D9 _ w10 (by omega) H10.out.wk).mono ?_)
          rintro e w11 ⟨a11, c11, rfl, hs11, hb⟩
          have H11 := hid (H10.out.below hb)
          have S10' := hid (sliceAt_below S10.out hb)
          have S11 := hid hs11
          clear hb hs11 H10 S10
          go_wp2_with fail
          (with_reducible refine (ref_SameInts_eq a10 a11 c10 c11 (readsD D9) w11 (readsD_len D9) S10'.out S11.out).mono ?_)
          rintro e w12 ⟨rfl, hb⟩
          have H12 := hid (H11.out.below hb)
          clear hb H11 S10' S11
          go_wp2_with fail
          (with_reducible refine (deed_Writes g9 12 d D9 w12 H12.out.ded).mono ?_)
          rintro e w13 ⟨a13, c13, rfl, hs13, hb, -, -⟩
          have H13 := hid (H12.out.below hb)
          have S13 := hid hs13
          clear hb hs13 H12
          go_wp2_with fail
          (with_reducible refine (work_Writes g9 13 b D9 _ w13 (by omega) H13.out.wk).mono ?_)
          rintro e w14 ⟨a14, c14, rfl, hs14, hb, -, -⟩
          have H14 := hid (H13.out.below hb)
          have S13' := hid (sliceAt_below S13.out hb)
          have S14 := hid hs14
          clear hb hs14 H13 S13
          go_wp2_with fail
          (with_reducible refine (ref_SamePairs_eq a13 a14 c13 c14 (writesD D9) w14 (writesD_len D9) S13'.out S14.out).mono ?_)
          rintro e w15 ⟨rfl, hb⟩
          have H15 := hid (H14.out.below hb)
          clear hb H14 S13' S14
          go_wp2_with fail
          (with_reducible refine (deed_May g9 12 d D9 g9 1 t T9 w15 H15.out.ded H15.out.tab).mono ?_)
          rintro e w16 ⟨rfl, hb⟩
          have H16 := hid (H15.out.below hb)
          clear hb H15
          go_wp2_with fail
          (with_reducible refine (work_May g9 13 b D9 _ g9 10 s T9 w16 (by omega) H16.out.wk H16.out.sh).mono ?_)
          rintro e w17 ⟨rfl, hb⟩
          have H17 := hid (H16.out.below hb)
          clear hb H16
          generalize mayD D9 T9 = code at *
          go_wp2
          go_roundw
          case rel => exact ⟨k + 1, g9, T9, D9, by omega, by go_num, hid (by rw [show 10 * (k + 1) = 10 * k + 10 by omega]; exact H17.out), I9⟩
          case measure => simp [intOf]; omega
        · have z1 : (x.do_ == 1) = false := by simpa using hd1
          by_cases hd2 : x.do_ = 2
          · rw [hd2] at m0
            clear hd0 hd1 hd2 z0 z1 m3 m4 m5
            have LS := hid (listD_same D T x.k x.to_)
            go_wp2_with fail
            (with_reducible refine (deed_List g1 12 d D 1 t T w5 x.k x.to_ (by omega) H1.out.ded H1.out.tab).mono ?_)
            rintro e w6 ⟨a6, c6, g6', rfl, hD', hE', hs6, hn6⟩
            have hE := hE'.recolor 0
            have hD := H1.out.ded.recolor hD' 0
            have S6 := hid (fun ad (e : a6 = some ad) => (⟨(hn6 ad e).2, extc_new (hn6 ad e).1⟩ : ad.block < w6.heap.size ∧ extc g1 w5 0 ad.block = 0))
            have HS6 := hid hs6
            have H6 := hid (H1.out.evoD hE hD)
            have M6 := hid (M1.out.frame hE (by omega))
            generalize extc g1 w5 0 = g6 at *
            have m1' : w6.cell? ⟨bx, 1, none⟩ = some (.int .i64 x.k) := M6.out.1.cell 1
            have m2' : w6.cell? ⟨bx, 2, none⟩ = some (.int .i64 x.to_) := M6.out.1.cell 2
            have WL := hid (work_List g6 13 b D (10 * k) 10 s T w6 x.k x.to_ (by omega) (by omega) H6.out.wk H6.out.sh)
            clear hE' hD' hE hD hs6 hn6 H1 M1 m0 m1 m2
            generalize listD D T x.k x.to_ = y at *
            obtain ⟨⟨yl, yc⟩, D6⟩ := y
            have hyl : yl.length ≤ 1000000 := by have := LS.out.2.2; simp only at this; omega
            go_wp2_with fail
            (with_reducible refine WL.out.mono ?_)
            rintro e w7 ⟨a7, c7, g7, rfl, hW, hE, hs7, -⟩
            have H7 := hid (H6.out.evoW hE hW)
            have HS7 := hid (HS6.out.lift (fun ad e => hE.same ad.block (S6.out ad e).1 (by rw [(S6.out ad e).2]; omega)))
            have HT7 := hid hs7
            clear hW hE hs7 HS6 S6 H6 M6 WL m1' m2'
            go_wp2_with fail
            (with_reducible refine (ref_SamePairs_eq a6 a7 c6 c7 yl w7 hyl HS7.out HT7.out).mono ?_)
            rintro e w9 ⟨rfl, hb⟩
            have H9 := hid ((H7.out.below hb).more (show 10 * k + 8 ≤ 10 * k + 10 by omega))
            have I9 : Hid (D6.mode = mode ∧ D6.beg = at_) := hid ⟨LS.out.1.trans I.out.1, LS.out.2.1.trans I.out.2⟩
            clear hb HS7 HT7 H7 LS hyl
            go_wp2_with fail
            generalize D6 = D9 at *
            generalize g7 = g9 at *
            generalize T = T9 at *
            (with_reducible refine (deed_Reads g9 12 d D9 w9 H9.out.ded).mono ?_)
            rintro e w10 ⟨a10, c10, rfl, hs10, hb⟩
            have H10 := hid (H9.out.below hb)
            have S10 := hid hs10
            clear hb hs10 H9
            go_wp2_with fail
            (with_reducible refine (work_Reads g9 13 b D9 _ w10 (by omega) H10.out.wk).mono ?_)
            rintro e w11 ⟨a11, c11, rfl, hs11, hb⟩
            have H11 := hid (H10.out.below hb)
            have S10' := hid (sliceAt_below S10.out hb)
            have S11 := hid hs11
            clear hb hs11 H10 S10
            go_wp2_with fail
            (with_reducible refine (ref_SameInts_eq a10 a11 c10 c11 (readsD D9) w11 (readsD_len D9) S10'.out S11.out).mono ?_)
            rintro e w12 ⟨rfl, hb⟩
            have H12 := hid (H11.out.below hb)
            clear hb H11 S10' S11
            go_wp2_with fail
            (with_reducible refine (deed_Writes g9 12 d D9 w12 H12.out.ded).mono ?_)
            rintro e w13 ⟨a13, c13, rfl, hs13, hb, -, -⟩
            have H13 := hid (H12.out.below hb)
            have S13 := hid hs13
            clear hb hs13 H12
            go_wp2_with fail
            (with_reducible refine (work_Writes g9 13 b D9 _ w13 (by omega) H13.out.wk).mono ?_)
            rintro e w14 ⟨a14, c14, rfl, hs14, hb, -, -⟩
            have H14 := hid (H13.out.below hb)
            have S13' := hid (sliceAt_below S13.out hb)
            have S14 := hid hs14
            clear hb hs14 H13 S13
            go_wp2_with fail
            (with_reducible refine (ref_SamePairs_eq a13 a14 c13 c14 (writesD D9) w14 (writesD_len D9) S13'.out S14.out).mono ?_)
            rintro e w15 ⟨rfl, hb⟩
            have H15 := hid (H14.out.below hb)
            clear hb H14 S13' S14
            go_wp2_with fail
            (with_reducible refine (deed_May g9 12 d D9 g9 1 t T9 w15 H15.out.ded H15.out.tab).mono ?_)
            rintro e w16 ⟨rfl, hb⟩
            have H16 := hid (H15.out.below hb)
            clear hb H15
            go_wp2_with fail
            (with_reducible refine (work_May g9 13 b D9 _ g9 10 s T9 w16 (by omega) H16.out.wk H16.out.sh).mono ?_)
            rintro e w17 ⟨rfl, hb⟩
            have H17 := hid (H16.out.below hb)
            clear hb H16
            generalize mayD D9 T9 = code at *
            go_wp2
            go_roundw
            case rel => exact ⟨k + 1, g9, T9, D9, by omega, by go_num, hid (by rw [show 10 * (k + 1) = 10 * k + 10 by omega]; exact H17.out), I9⟩
            case measure => simp [intOf]; omega
          · have z2 : (x.do_ == 2) = false := by simpa using hd2
            by_cases hd3 : x.do_ = 3
            · rw [hd3] at m0
              clear hd0 hd1 hd2 hd3 z0 z1 z2 m1 m2 m3 m4
              go_wp2_with fail
              (with_reducible refine (table_Write g1 1 t T x.a x.cap x.w w5 hx6 P7.out.sz H1.out.tab (H1.out.slice P7.out.sl _ _ (by omega))).mono ?_)
              rintro e w6 ⟨rfl, g6, hT, hE⟩
              have H6 := hid (H1.out.evoT hE hT)
              have M6 := hid (M1.out.frame hE (by omega))
              clear hT hE H1 M1 m0 m5
              have m5 : w6.cell? ⟨bx, 5, none⟩ = some (.slice x.a x.w.length x.cap) := M6.out.1.cell 5
              go_wp2_with fail
              (with_reducible refine (sheet_Write g6 10 s T x.a x.cap x.w w6 hx6 P7.out.sz H6.out.sh (H6.out.slice P7.out.sl _ _ (by omega))).mono ?_)
              rintro e w9 ⟨rfl, g9, hS, hE⟩
              have H9 := hid ((H6.out.evoS hE hS).more (show 10 * k ≤ 10 * k + 10 by omega))
              have I9 := hid I.out
              clear hS hE H6 M6 m5
              generalize (writeT T x.w).2 = T9 at *
              go_wp2_with fail
              generalize D = D9 at *
              (with_reducible refine (deed_Reads g9 12 d D9 w9 H9.out.ded).mono ?_)
              rintro e w10 ⟨a10, c10, rfl, hs10, hb⟩
              have H10 := hid (H9.out.below hb)
              have S10 := hid hs10
              clear hb hs10 H9
              go_wp2_with fail
              (with_reducible refine (work_Reads g9 13 b D9 _ w10 (by omega) H10.out.wk).mono ?_)
              rintro e w11 ⟨a11, c11, rfl, hs11, hb⟩
              have H11 := hid (H10.out.below hb)
              have S10' := hid (sliceAt_below S10.out hb)
              have S11 := hid hs11
              clear hb hs11 H10 S10
              go_wp2_with fail
              (with_reducible refine (ref_SameInts_eq a10 a11 c10 c11 (readsD D9) w11 (readsD_len D9) S10'.out S11.out).mono ?_)
              rintro e w12 ⟨rfl, hb⟩
              have H12 := hid (H11.out.below hb)
              clear hb H11 S10' S11
              go_wp2_with fail
              (with_reducible refine (deed_Writes g9 12 d D9 w12 H12.out.ded).mono ?_)
              rintro e w13 ⟨a13, c13, rfl, hs13, hb, -, -⟩
              have H13 := hid (H12.out.below hb)
              have S13 := hid hs13
              clear hb hs13 H12
              go_wp2_with fail
              (with_reducible refine (work_Writes g9 13 b D9 _ w13 (by omega) H13.out.wk).mono ?_)
              rintro e w14 ⟨a14, c14, rfl, hs14, hb, -, -⟩
              have H14 := hid (H13.out.below hb)
              have S13' := hid (sliceAt_below S13.out hb)
              have S14 := hid hs14
              clear hb hs14 H13 S13
              go_wp2_with fail
              (with_reducible refine (ref_SamePairs_eq a13 a14 c13 c14 (writesD D9) w14 (writesD_len D9) S13'.out S14.out).mono ?_)
              rintro e w15 ⟨rfl, hb⟩
              have H15 := hid (H14.out.below hb)
              clear hb H14 S13' S14
              go_wp2_with fail
              (with_reducible refine (deed_May g9 12 d D9 g9 1 t T9 w15 H15.out.ded H15.out.tab).mono ?_)
              rintro e w16 ⟨rfl, hb⟩
              have H16 := hid (H15.out.below hb)
              clear hb H15
              go_wp2_with fail
              (with_reducible refine (work_May g9 13 b D9 _ g9 10 s T9 w16 (by omega) H16.out.wk H16.out.sh).mono ?_)
              rintro e w17 ⟨rfl, hb⟩
              have H17 := hid (H16.out.below hb)
              clear hb H16
              generalize mayD D9 T9 = code at *
              go_wp2
              go_roundw
              case rel => exact ⟨k + 1, g9, T9, D9, by omega, by go_num, hid (by rw [show 10 * (k + 1) = 10 * k + 10 by omega]; exact H17.out), I9⟩
              case measure => simp [intOf]; omega
            · have z3 : (x.do_ == 3) = false := by simpa using hd3
              by_cases hd4 : x.do_ = 4
              · rw [hd4] at m0
                clear hd0 hd1 hd2 hd3 hd4 z0 z1 z2 z3 m1 m2 m3 m4 m5
                go_wp2_with fail
                (with_reducible refine (table_Clear g1 1 t T w5 at_ H1.out.tab).mono ?_)
                rintro e w6 ⟨rfl, g6, hT, hE⟩
                have H6 := hid (H1.out.evoT hE hT)
                clear hT hE H1 M1 m0
                go_wp2_with fail
                (with_reducible refine (sheet_Clear g6 10 s T w6 at_ H6.out.sh).mono ?_)
                rintro e w9 ⟨rfl, g9, hS, hE⟩
                have H9 := hid ((H6.out.evoS hE hS).more (show 10 * k ≤ 10 * k + 10 by omega))
                have I9 := hid I.out
                clear hS hE H6
                generalize (clearT T at_).2 = T9 at *
                go_wp2_with fail
                generalize D = D9 at *
                (with_reducible refine (deed_Reads g9 12 d D9 w9 H9.out.ded).mono ?_)
                rintro e w10 ⟨a10, c10, rfl, hs10, hb⟩
                have H10 := hid (H9.out.below hb)
                have S10 := hid hs10
                clear hb hs10 H9
                go_wp2_with fail
                (with_reducible refine (work_Reads g9 13 b D9 _ w10 (by omega) H10.out.wk).mono ?_)
                rintro e w11 ⟨a11, c11, rfl, hs11, hb⟩
                have H11 := hid (H10.out.below hb)
                have S10' := hid (sliceAt_below S10.out hb)
                have S11 := hid hs11
                clear hb hs11 H10 S10
                go_wp2_with fail
                (with_reducible refine (ref_SameInts_eq a10 a11 c10 c11 (readsD D9) w11 (readsD_len D9) S10'.out S11.out).mono ?_)
                rintro e w12 ⟨rfl, hb⟩
                have H12 := hid (H11.out.below hb)
                clear hb H11 S10' S11
                go_wp2_with fail
                (with_reducible refine (deed_Writes g9 12 d D9 w12 H12.out.ded).mono ?_)
                rintro e w13 ⟨a13, c13, rfl, hs13, hb, -, -⟩
                have H13 := hid (H12.out.below hb)
                have S13 := hid hs13
                clear hb hs13 H12
                go_wp2_with fail
                (with_reducible refine (work_Writes g9 13 b D9 _ w13 (by omega) H13.out.wk).mono ?_)
                rintro e w14 ⟨a14, c14, rfl, hs14, hb, -, -⟩
                have H14 := hid (H13.out.below hb)
                have S13' := hid (sliceAt_below S13.out hb)
                have S14 := hid hs14
                clear hb hs14 H13 S13
                go_wp2_with fail
                (with_reducible refine (ref_SamePairs_eq a13 a14 c13 c14 (writesD D9) w14 (writesD_len D9) S13'.out S14.out).mono ?_)
                rintro e w15 ⟨rfl, hb⟩
                have H15 := hid (H14.out.below hb)
                clear hb H14 S13' S14
                go_wp2_with fail
                (with_reducible refine (deed_May g9 12 d D9 g9 1 t T9 w15 H15.out.ded H15.out.tab).mono ?_)
                rintro e w16 ⟨rfl, hb⟩
                have H16 := hid (H15.out.below hb)
                clear hb H15
                go_wp2_with fail
                (with_reducible refine (work_May g9 13 b D9 _ g9 10 s T9 w16 (by omega) H16.out.wk H16.out.sh).mono ?_)
                rintro e w17 ⟨rfl, hb⟩
                have H17 := hid (H16.out.below hb)
                clear hb H16
                generalize mayD D9 T9 = code at *
                go_wp2
                go_roundw
                case rel => exact ⟨k + 1, g9, T9, D9, by omega, by go_num, hid (by rw [show 10 * (k + 1) = 10 * k + 10 by omega]; exact H17.out), I9⟩
                case measure => simp [intOf]; omega
              · have z4 : (x.do_ == 4) = false := by simpa using hd4
                have H9 := hid (H1.out.more (show 10 * k ≤ 10 * k + 10 by omega))
                have I9 := hid I.out
                clear hd0 hd1 hd2 hd3 hd4 m1 m2 m3 m4 m5 M1 H1
                go_wp2_with fail
                clear m0
                generalize g1 = g9 at *
                generalize w5 = w9 at *
                generalize D = D9 at *
                generalize T = T9 at *
                (with_reducible refine (deed_Reads g9 12 d D9 w9 H9.out.ded).mono ?_)
                rintro e w10 ⟨a10, c10, rfl, hs10, hb⟩
                have H10 := hid (H9.out.below hb)
                have S10 := hid hs10
                clear hb hs10 H9
                go_wp2_with fail
                (with_reducible refine (work_Reads g9 13 b D9 _ w10 (by omega) H10.out.wk).mono ?_)
                rintro e w11 ⟨a11, c11, rfl, hs11, hb⟩
                have H11 := hid (H10.out.below hb)
                have S10' := hid (sliceAt_below S10.out hb)
                have S11 := hid hs11
                clear hb hs11 H10 S10
                go_wp2_with fail
                (with_reducible refine (ref_SameInts_eq a10 a11 c10 c11 (readsD D9) w11 (readsD_len D9) S10'.out S11.out).mono ?_)
                rintro e w12 ⟨rfl, hb⟩
                have H12 := hid (H11.out.below hb)
                clear hb H11 S10' S11
                go_wp2_with fail
                (with_reducible refine (deed_Writes g9 12 d D9 w12 H12.out.ded).mono ?_)
                rintro e w13 ⟨a13, c13, rfl, hs13, hb, -, -⟩
                have H13 := hid (H12.out.below hb)
                have S13 := hid hs13
                clear hb hs13 H12
                go_wp2_with fail
                (with_reducible refine (work_Writes g9 13 b D9 _ w13 (by omega) H13.out.wk).mono ?_)
                rintro e w14 ⟨a14, c14, rfl, hs14, hb, -, -⟩
                have H14 := hid (H13.out.below hb)
                have S13' := hid (sliceAt_below S13.out hb)
                have S14 := hid hs14
                clear hb hs14 H13 S13
                go_wp2_with fail
                (with_reducible refine (ref_SamePairs_eq a13 a14 c13 c14 (writesD D9) w14 (writesD_len D9) S13'.out S14.out).mono ?_)
                rintro e w15 ⟨rfl, hb⟩
                have H15 := hid (H14.out.below hb)
                clear hb H14 S13' S14
                go_wp2_with fail
                (with_reducible refine (deed_May g9 12 d D9 g9 1 t T9 w15 H15.out.ded H15.out.tab).mono ?_)
                rintro e w16 ⟨rfl, hb⟩
                have H16 := hid (H15.out.below hb)
                clear hb H15
                go_wp2_with fail
                (with_reducible refine (work_May g9 13 b D9 _ g9 10 s T9 w16 (by omega) H16.out.wk H16.out.sh).mono ?_)
                rintro e w17 ⟨rfl, hb⟩
                have H17 := hid (H16.out.below hb)
                clear hb H16
                generalize mayD D9 T9 = code at *
                go_wp2
                go_roundw
                case rel => exact ⟨k + 1, g9, T9, D9, by omega, by go_num, hid (by rw [show 10 * (k + 1) = 10 * k + 10 by omega]; exact H17.out), I9⟩
                case measure => simp [intOf]; omega
    · obtain rfl : k = m.length := by omega
      clear MA
      have DM := hid (deed_Mode g 12 d D _ H.out.ded)
      have DA := hid (deed_At g 12 d D _ H.out.ded)
      rw [I.out.1] at DM
      rw [I.out.2] at DA
      go_wp2_with fail
      refine DM.out.mono ?_
      rintro e w6 ⟨rfl, rfl⟩
      go_wp2_with fail
      refine DA.out.mono ?_
      rintro e w6 ⟨rfl, rfl⟩
      go_wp2
      go_ret
      exact ⟨rfl, B2a.out.trans (H.out.base.below.mono B2a.out.size)⟩

end Go.Proofs.Ytoiobhcgpajogac
