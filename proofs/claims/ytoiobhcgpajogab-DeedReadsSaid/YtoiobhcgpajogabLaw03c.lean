/- The walk of DeedMay. -/
import Derived.Test.YtoiobhcgpajogabLaw03b
import Derived.Test.YtoiobhcgpajogabLaw02f
namespace Go.Proofs.Ytoiobhcgpajogab
open Go.RowKit

theorem since_le {T : Tab} (hT : T.Ok) (k : Int) : sinceT T k ≤ T.last := by
  unfold sinceT
  split
  · omega
  · exact (hT.1 _).2

theorem may_fresh {D : Ded} {T : Tab} (hT : T.Ok) (hb : D.beg = T.last) : mayD D T = 0 := by
  have h : ∀ k, decide (D.beg < sinceT T k) = false := fun k => by have := since_le hT k; simp; omega
  have h1 : clashD D T = false := by unfold clashD; simp only [h]; simp
  have h2 : staleD D T = false := by unfold staleD; simp only [h]; simp
  unfold mayD
  rw [if_neg (by rw [h1]; simp), if_neg (by rw [h2]; simp)]

section
variable {D : Ded} {T : Tab} {w : List Ent}
theorem clash_after (hT : T.Ok) (hb : D.beg = T.last) (h : (writeT T w).1.2 = 0) : clashD D (writeT T w).2 = w.any (fun x => (writesD D).any (fun y => y.n == x.n)) := by
  rw [Bool.eq_iff_iff]
  unfold clashD
  simp only [List.any_eq_true, decide_eq_true_eq, beq_iff_eq]
  constructor
  · rintro ⟨y, hy, hlt⟩
    obtain ⟨k, hk, e, -⟩ := mem_writesTo.1 (show y ∈ writesTo D 8 from hy)
    rw [e, since_write hT h hk] at hlt
    split at hlt
    · rename_i he
      obtain ⟨x, hx, ex⟩ := he
      exact ⟨x, hx, y, hy, by rw [e, ex]⟩
    · have := since_le hT k; omega
  · rintro ⟨x, hx, y, hy, e⟩
    obtain ⟨k, hk, ek, -⟩ := mem_writesTo.1 (show y ∈ writesTo D 8 from hy)
    refine ⟨y, hy, ?_⟩
    rw [ek, since_write hT h hk, if_pos ⟨x, hx, by omega⟩]
    omega
theorem stale_after (hT : T.Ok) (hb : D.beg = T.last) (h : (writeT T w).1.2 = 0) : staleD D (writeT T w).2 = w.any (fun x => (readsD D).any (fun (z : Nat) => (z : Int) == x.n)) := by
  rw [Bool.eq_iff_iff]
  unfold staleD
  simp only [List.any_eq_true, decide_eq_true_eq, beq_iff_eq]
  constructor
  · rintro ⟨k, hy, hlt⟩
    have hk := (mem_readsTo.1 (show k ∈ readsTo D 8 from hy)).1
    rw [since_write hT h hk] at hlt
    split at hlt
    · rename_i he
      obtain ⟨x, hx, ex⟩ := he
      exact ⟨x, hx, k, hy, by rw [ex]⟩
    · have := since_le hT k; omega
  · rintro ⟨x, hx, k, hy, e⟩
    have hk := (mem_readsTo.1 (show k ∈ readsTo D 8 from hy)).1
    refine ⟨k, hy, ?_⟩
    rw [since_write hT h hk, if_pos ⟨x, hx, by omega⟩]
    omega
theorem may_after (hT : T.Ok) (hb : D.beg = T.last) (h : (writeT T w).1.2 = 0) {W : List Ent} {R : List Nat} (hW : writesD D = W) (hR : readsD D = R) :
    mayD D (writeT T w).2 = if w.any (fun x => W.any (fun y => y.n == x.n)) = true then 10 else if D.mode = 2 ∧ w.any (fun x => R.any (fun (z : Nat) => (z : Int) == x.n)) = true then 11 else 0 := by
  unfold mayD
  rw [clash_after hT hb h, stale_after hT hb h, hW, hR]
end

theorem putD_same (D : Ded) (k : Int) (v : Val) : (putD D k v).2.mode = D.mode ∧ (putD D k v).2.beg = D.beg := by
  unfold putD
  split
  · exact ⟨rfl, rfl⟩
  · split
    · exact ⟨rfl, rfl⟩
    · split <;> exact ⟨rfl, rfl⟩

theorem anyG {α : Type} (f : α → Bool) (l : List α) (k : Nat) (h : k < l.length) : (l.take (k + 1)).any f = ((l.take k).any f || f l[k]) := by
  rw [List.take_succ_eq_append_getElem h, List.any_append]
  simp

set_option maxHeartbeats 8000000 in
set_option maxRecDepth 100000 in
theorem walk_DeedMay (a : Option Addr) (cap : Nat) (l : List TStep) (mode : Int) (a2 : Option Addr) (cap2 : Nat) (m : List DStep) (a3 : Option Addr) (cap3 : Nat) (q : List Ent) (w : World) (hl : l.length ≤ 9223372036854775807) (hA : TStepsAt w a l) (_ : (Lit.int .i64 mode).wf = true) (hl2 : m.length ≤ 9223372036854775807) (hA2 : DStepsAt w a2 m)
    (hl3 : q.length ≤ 9223372036854775807) (hA3 : PairsAt w a3 q) :
    Calls Try.prog 10 #[.slice a l.length cap, .int .i64 mode, .slice a2 m.length cap2, .slice a3 q.length cap3] w (TruePost w) := by
  have HA := hid hA
  have HA2 := hid hA2
  have HA3 := hid hA3
  clear hA hA2 hA3
  go_enter Try.func10, Try.ntmps10
  go_wp2_with fail
  (with_reducible refine (law_deedBegun w).mono ?_)
  rintro e w1 ⟨rfl, hb⟩
  have B1 := hid hb
  clear hb
  go_wp2_with fail
  (with_reducible refine (law_greatTable a cap l w1 hl (HA.out.below B1.out)).mono ?_)
  rintro e w2 ⟨rfl, hb⟩
  have B2 := hid (B1.out.trans (hb.mono B1.out.size))
  clear hb
  cases hg : greatT l with
  | true =>
    clear hg
    go_wp2
    go_ret
    exact ⟨rfl, B2.out⟩
  | false =>
  obtain ⟨h80, h50⟩ := greatT_false hg
  have H50 := hid h50
  clear hg h50
  go_wp2_with fail
  (with_reducible refine (law_greatDeeds a2 cap2 m w2 hl2 (HA2.out.below B2.out)).mono ?_)
  rintro e w2a ⟨rfl, hb⟩
  have B2a := hid (B2.out.trans (hb.mono B2.out.size))
  clear hb B2
  cases hg : greatDs m with
  | true =>
    clear hg
    go_wp2
    go_ret
    exact ⟨rfl, B2a.out⟩
  | false =>
  obtain ⟨hm60, h50⟩ := greatDs_false hg
  have M50 := hid h50
  clear hg h50
  go_wp2_with fail
  (with_reducible refine (law_greatPairs a3 cap3 q w2a hl3 (HA3.out.below B2a.out).sl).mono ?_)
  rintro e w2b ⟨rfl, hb⟩
  have B2b := hid (B2a.out.trans (hb.mono B2a.out.size))
  clear hb B2a
  cases hg : greatP q with
  | true =>
    clear hg
    go_wp2
    go_ret
    exact ⟨rfl, B2b.out⟩
  | false =>
  obtain ⟨hq50, -⟩ := greatP_false hg
  have hq6 : q.length ≤ 1000000 := by omega
  clear hg
  go_wp2_with fail
  (with_reducible refine (law_tables a cap l w2b h80 H50.out (HA.out.below B2b.out)).mono ?_)
  rintro e w3 ⟨g, t, s, rfl, h3⟩
  have H3 := hid h3
  generalize runT l = T at *
  have HOK := hid h3.tab.1
  have h40 := h3.tab.1.2
  clear h3
  by_cases hm1 : mode < 1
  · clear HOK
    go_wp2
    go_ret
    exact ⟨rfl, B2b.out.trans (H3.out.base.below.mono B2b.out.size)⟩
  by_cases hm3 : 3 < mode
  · clear HOK
    go_wp2
    go_ret
    exact ⟨rfl, B2b.out.trans (H3.out.base.below.mono B2b.out.size)⟩
  have hmd' : 1 ≤ mode ∧ mode ≤ 3 := by omega
  have ND := hid (fun g W (b : Int) => deed_New_in g 12 mode b W hmd')
  clear hmd'
  go_wp2_with fail
  (with_reducible refine (table_Last _ 1 t T w3 H3.out.tab).mono ?_)
  rintro e w4' ⟨rfl, rfl⟩
  go_wp2_with fail
  refine (ND.out g w3 T.last).mono ?_
  rintro e w5 ⟨d, rfl, hb, -, hD⟩
  have H5 : Hid (TD w2b (extc g w3 12) w5 t d T (Ded.new mode T.last)) := hid ⟨H3.out.base.step (Evo.of_below (lo := 0) (hi := 0) g 12 hb) (by omega), H3.out.tab.frame (Evo.of_below (lo := 0) (hi := 0) g 12 hb) (by omega), hD⟩
  have E5 : Hid ((Ded.new mode T.last).mode = mode ∧ (Ded.new mode T.last).beg = T.last) := hid ⟨rfl, rfl⟩
  generalize extc g w3 12 = g5 at *
  generalize Ded.new mode T.last = D0 at *
  have MA := hid (HA2.out.below B2b.out)
  have QA := hid (HA3.out.below B2b.out)
  clear hb hD H3 ND HA HA2 HA3
  go_wp2_with fail
  go_loopw [13] (fun i wr => ∃ (k : Nat) (g : Nat → Nat) (D : Ded), k ≤ m.length ∧ i = .int .i64 k ∧ Hid (TD w2b g wr t d T D) ∧ Hid (D.mode = mode ∧ D.beg = T.last)) (fun i _ => m.length - (intOf i).toNat)
  case atStart => exact ⟨0, g5, D0, Nat.zero_le _, rfl, H5, E5⟩
  case round =>
    clear H5 E5
    obtain ⟨k, g, D, hk, rfl, H, E⟩ := hrel
    by_cases hlt : k < m.length
    · obtain ⟨b1, o1, rfl, hbb, v1⟩ := MA.out.facts (by omega)
      obtain ⟨p1, p2, p3, p4, p5, p6, p7, -, hvs⟩ := v1 k hlt
      have KS := hid (fun W' (hW : Below w2b.heap.size w2b W') => (⟨hW, (hW.cell (p := ⟨b1, _, none⟩) hbb).trans p2, (hW.cell (p := ⟨b1, _, none⟩) hbb).trans p4, (hW.cell (p := ⟨b1, _, none⟩) hbb).trans p5⟩ :
        Below w2b.heap.size w2b W' ∧ W'.cell? ⟨b1, o1 + k * 6 + 1, none⟩ = some (.int .i64 m[k].k) ∧ W'.cell? ⟨b1, o1 + k * 6 + 3, none⟩ = some (.bool m[k].v.there) ∧ W'.cell? ⟨b1, o1 + k * 6 + 4, none⟩ = some (.string m[k].v.bytes)))
      have P1 := (H.out.base.cell (p := ⟨b1, _, none⟩) hbb).trans p1
      have P2 := (H.out.base.cell (p := ⟨b1, _, none⟩) hbb).trans p2
      have hki : (k : Int) < (m.length : Int) := by omega
      have hk0 : (0 : Int) ≤ (k : Int) := by omega
      generalize m[k] = x at *
      have HVS := hid hvs
      clear v1 p1 p2 p3 p4 p5 p6 p7 hvs
      by_cases hd : x.do_ = 0
      · rw [hd] at P1
        clear hd
        obtain ⟨s1, s2, -⟩ := getD_same D T x.k
        have E9 := hid (⟨s1.trans E.out.1, s2.trans E.out.2⟩ : (getD D T x.k).2.mode = mode ∧ (getD D T x.k).2.beg = T.last)
        clear s1 s2
        go_wp2_with fail
        (with_reducible refine (deed_Get g 12 d D g 1 t T x.k wr H.out.ded H.out.tab).mono ?_)
        rintro e w9 ⟨rfl, g9, hD, hE⟩
        have H9 := hid (H.out.evoD hE hD)
        clear hD hE H P1 P2 KS
        generalize (getD D T x.k).2 = D9 at *
        generalize (getD D T x.k).1 = y at *
        go_wp2
        go_roundw
        case rel => exact ⟨k + 1, g9, D9, by omega, by go_num, H9, E9⟩
        case measure => simp [intOf]; omega
      · have z0 : (x.do_ == 0) = false := by simpa using hd
        by_cases hd1 : x.do_ = 1
        · rw [hd1] at P1
          clear hd hd1 z0
          obtain ⟨s1, s2⟩ := putD_same D x.k x.v
          have E9 := hid (⟨s1.trans E.out.1, s2.trans E.out.2⟩ : (putD D x.k x.v).2.mode = mode ∧ (putD D x.k x.v).2.beg = T.last)
          clear s1 s2
          go_upto_region 18 with (fail)
          clear P1 P2
          go_region_held3 (fun W' : World => Below w2b.heap.size w2b W' ∧ W'.cell? ⟨b1, o1 + k * 6 + 1, none⟩ = some (.int .i64 x.k) ∧ W'.cell? ⟨b1, o1 + k * 6 + 3, none⟩ = some (.bool x.v.there) ∧ W'.cell? ⟨b1, o1 + k * 6 + 4, none⟩ = some (.string x.v.bytes))
            (first | assumption | exact KS.out _ (H.out.below (Below.refl _ _).drew).base.below)
            (first
              | (go_at_call 38; (with_reducible refine (deed_Put _ _ _ _ x.k x.v _ HVS.out (H.out.below (Below.refl _ _).drew).ded).mono ?_); rintro e w9 ⟨rfl, g9, hD, hE⟩; have H9 := hid ((H.out.below (Below.refl _ _).drew).evoD hE hD); have hS' := KS.out _ H9.out.base.below; clear hD hE))
          generalize (putD D x.k x.v).2 = D9 at *
          generalize (putD D x.k x.v).1 = y at *
          go_wp2
          go_roundw
          case rel => exact ⟨k + 1, g9, D9, by omega, by go_num, H9, E9⟩
          case measure => simp [intOf]; omega
        · have z1 : (x.do_ == 1) = false := by simpa using hd1
          clear hd hd1
          go_wp2
          go_roundw
          case rel => exact ⟨k + 1, g, D, by omega, by go_num, H, E⟩
          case measure => simp [intOf]; omega
    · obtain rfl : k = m.length := by omega
      have MF := hid (may_fresh HOK.out E.out.2)
      clear MA
      go_wp2_with fail
      have P := deed_May g 12 d D g 1 t T wr H.out.ded H.out.tab
      rw [MF.out] at P
      (with_reducible refine P.mono ?_)
      clear P
      rintro e w6 ⟨rfl, hb⟩
      have H6 := hid (H.out.below hb)
      clear hb H
      go_wp2_with fail
      (with_reducible refine (table_Write g 1 t T a3 cap3 q w6 hq6 QA.out.sz H6.out.tab (H6.out.slice QA.out.sl)).mono ?_)
      rintro e w7 ⟨rfl, g7, hT, hE⟩
      have H7 := hid (H6.out.evoT hE hT)
      clear hT hE H6
      by_cases hc : (writeT T q).1.2 = 0
      case neg =>
        obtain ⟨e1, e2⟩ := write_bad hc
        have hc' : ((writeT T q).1.2 != 0) = true := by simpa using hc
        have H8 : Hid (TD w2b g7 w7 t d T D) := hid (by have := H7.out; rwa [e1] at this)
        rw [e2]
        clear hc e1 e2 H7
        generalize (writeT T q).1.2 = code at *
        go_wp2_with fail
        have P := deed_May g7 12 d D g7 1 t T w7 H8.out.ded H8.out.tab
        rw [MF.out] at P
        (with_reducible refine P.mono ?_)
        clear P
        rintro e w9 ⟨rfl, hb⟩
        have H9 := hid (H8.out.below hb)
        clear hb H8
        go_wp2
        go_ret
        exact ⟨rfl, B2b.out.trans (H9.out.base.below.mono B2b.out.size)⟩
      case pos =>
      obtain ⟨W, hW⟩ : ∃ W, W = writesD D := ⟨_, rfl⟩
      obtain ⟨R, hR⟩ : ∃ R, R = readsD D := ⟨_, rfl⟩
      have MF2 := hid (may_after HOK.out E.out.2 hc hW.symm hR.symm)
      have e3 := (write_good hc).2.2
      have e4 : (writeT T q).1 = ((T.last : Int) + 1, 0) := by rw [e3]
      have HW8 : W.length ≤ 8 := by rw [hW]; exact writesTo_length D 8
      have HR8 : R.length ≤ 8 := by rw [hR]; exact readsTo_length D 8
      have EM := hid E.out.1
      rw [e4]
      clear e3 e4 hc MF
      generalize (writeT T q).2 = T1 at *
      have HWr := hid (fun W' (h : DeedAt W' g7 12 d D) => deed_Writes g7 12 d D W' h)
      have HRe := hid (fun W' (h : DeedAt W' g7 12 d D) => deed_Reads g7 12 d D W' h)
      rw [← hW] at HWr
      rw [← hR] at HRe
      clear hW hR E HOK
      go_wp2_with fail
      (with_reducible refine (HWr.out w7 H7.out.ded).mono ?_)
      rintro e w8 ⟨aw, cw, rfl, hs, hb, -, -⟩
      have H8 := hid (H7.out.below hb)
      have SW := hid hs
      clear hb hs H7 HWr
      go_wp2_with fail
      (with_reducible refine (HRe.out w8 H8.out.ded).mono ?_)
      rintro e w9 ⟨ar, cr, rfl, hs, hb⟩
      have H9 := hid (H8.out.below hb)
      have SW9 := hid (sliceAt_below SW.out hb)
      have SR9 := hid hs
      have SQ9 := hid (H9.out.slice QA.out.sl).at
      clear hb hs H8 HRe SW QA
      go_wp2_with fail
      go_loopw [16, 17, 20] (fun ci si i wr => ∃ k : Nat, k ≤ q.length ∧ i = .int .i64 k ∧ ci = .bool ((q.take k).any (fun x => W.any (fun y => y.n == x.n))) ∧ si = .bool ((q.take k).any (fun x => R.any (fun (z : Nat) => (z : Int) == x.n))) ∧ Hid (Below w9.heap.size w9 wr)) (fun _ _ i _ => q.length - (intOf i).toNat)
      case atStart => exact ⟨0, Nat.zero_le _, rfl, by simp, by simp, hid (Below.refl _ _)⟩
      case round =>
        obtain ⟨k, hk, rfl, rfl, rfl, HB⟩ := hrel
        by_cases hlt : k < q.length
        · have ha1 := anyG (fun x => W.any (fun y => y.n == x.n)) q k hlt
          have ha2 := anyG (fun x => R.any (fun (z : Nat) => (z : Int) == x.n)) q k hlt
          obtain ⟨bq, oq, haq, vq⟩ := SQ9.out.ents (by omega)
          obtain ⟨q1, -, -⟩ := vq k hlt
          have QK := hid (fun W' (h : Below w9.heap.size w9 W') => (below_cell h (World.block_lt_of_cell? _ _ q1)).trans q1)
          have hki : (k : Int) < (q.length : Int) := by omega
          have hk0 : (0 : Int) ≤ (k : Int) := by omega
          generalize q[k] = x at *
          generalize (q.take k).any (fun x => W.any (fun y => y.n == x.n)) = c0 at *
          generalize (q.take k).any (fun x => R.any (fun (z : Nat) => (z : Int) == x.n)) = s0 at *
          have A1 := hid ha1
          have A2 := hid ha2
          subst haq
          clear ha1 ha2 vq q1
          go_wp2_with fail
          go_loopw [16, 21] (fun ci j wv => ∃ n : Nat, n ≤ W.length ∧ j = .int .i64 n ∧ ci = .bool (c0 || (W.take n).any (fun y => y.n == x.n)) ∧ Hid (Below w9.heap.size w9 wv)) (fun _ j _ => W.length - (intOf j).toNat)
          case atStart => exact ⟨0, Nat.zero_le _, rfl, by simp, HB⟩
          case round =>
            clear HB
            obtain ⟨n, hn, rfl, rfl, HB⟩ := hrel
            by_cases hln : n < W.length
            · have ha := anyG (fun y => y.n == x.n) W n hln
              obtain ⟨bw, ow, haw, vw⟩ := (sliceAt_below SW9.out HB.out).ents (by omega)
              obtain ⟨y1, -, -⟩ := vw n hln
              have q1 := QK.out _ HB.out
              have hni : (n : Int) < (W.length : Int) := by omega
              have hn0 : (0 : Int) ≤ (n : Int) := by omega
              generalize W[n] = y at *
              subst haw
              clear vw
              have ha' : (c0 || (W.take (n + 1)).any (fun y => y.n == x.n)) = ((c0 || (W.take n).any (fun y => y.n == x.n)) || (y.n == x.n)) := by rw [ha, Bool.or_assoc]
              clear ha
              generalize (c0 || (W.take n).any (fun y => y.n == x.n)) = b0 at *
              have HA' := hid ha'
              clear ha'
              cases b0 with
              | true =>
                go_wp2_with fail
                go_quiet (fail)
                go_wp2
                go_roundw
                case rel => exact ⟨n + 1, by omega, by go_num, by rw [HA'.out]; rfl, hid (HB.out.trans ((below_drewN _ _).mono HB.out.size))⟩
                case measure => simp [intOf]; omega
              | false =>
                cases hz : (y.n == x.n) with
                | true =>
                  go_wp2_with fail
                  go_quiet (fail)
                  go_wp2
                  go_roundw
                  case rel => exact ⟨n + 1, by omega, by go_num, by rw [HA'.out, hz]; rfl, hid (HB.out.trans ((below_drewN _ _).mono HB.out.size))⟩
                  case measure => simp [intOf]; omega
                | false =>
                  go_wp2_with fail
                  go_quiet (fail)
                  go_wp2
                  go_roundw
                  case rel => exact ⟨n + 1, by omega, by go_num, by rw [HA'.out, hz]; rfl, hid (HB.out.trans ((below_drewN _ _).mono HB.out.size))⟩
                  case measure => simp [intOf]; omega
            · obtain rfl : n = W.length := by omega
              rw [List.take_length, ← A1.out]
              have q1 := QK.out _ HB.out
              cases s0 with
              | true =>
                go_wp2
                go_roundw
                case rel => exact ⟨k + 1, by omega, by go_num, rfl, by rw [A2.out]; rfl, HB⟩
                case measure => simp [intOf]; omega
              | false =>
                go_wp2_with fail
                have P := ref_In ar cr R x.n wr (by omega) (sliceAt_below SR9.out HB.out)
                (with_reducible refine P.mono ?_)
                clear P
                rintro e w11 ⟨rfl, hb⟩
                have HB11 := hid (HB.out.trans (hb.mono HB.out.size))
                clear hb HB
                go_wp2
                go_roundw
                case rel => exact ⟨k + 1, by omega, by go_num, rfl, by rw [A2.out]; rfl, HB11⟩
                case measure => simp [intOf]; omega
        · obtain rfl : k = q.length := by omega
          rw [List.take_length]
          generalize q.any (fun x => W.any (fun y => y.n == x.n)) = cb at *
          generalize q.any (fun x => R.any (fun (z : Nat) => (z : Int) == x.n)) = sb at *
          have H10 := hid (H9.out.below HB.out)
          have hmay := MF2.out
          rw [EM.out] at hmay
          clear SQ9 SR9 SW9 HB H9 MF2
          have PM := hid (deed_May g7 12 d D g7 1 t T1 wr H10.out.ded H10.out.tab)
          rw [hmay] at PM
          clear hmay
          by_cases hm2 : mode = 2
          · subst hm2
            cases cb with
            | true =>
              rw [if_pos rfl] at PM
              cases sb with
              | true =>
                go_wp2_with fail
                (with_reducible refine PM.out.mono ?_)
                rintro e w11 ⟨rfl, hb⟩
                have H11 := hid (H10.out.below hb)
                clear hb
                go_wp2
                go_ret
                exact ⟨rfl, B2b.out.trans (H11.out.base.below.mono B2b.out.size)⟩
              | false =>
                go_wp2_with fail
                (with_reducible refine PM.out.mono ?_)
                rintro e w11 ⟨rfl, hb⟩
                have H11 := hid (H10.out.below hb)
                clear hb
                go_wp2
                go_ret
                exact ⟨rfl, B2b.out.trans (H11.out.base.below.mono B2b.out.size)⟩
            | false =>
              cases sb with
              | true =>
                rw [if_neg (by simp), if_pos ⟨rfl, rfl⟩] at PM
                go_wp2_with fail
                (with_reducible refine PM.out.mono ?_)
                rintro e w11 ⟨rfl, hb⟩
                have H11 := hid (H10.out.below hb)
                clear hb
                go_wp2
                go_ret
                exact ⟨rfl, B2b.out.trans (H11.out.base.below.mono B2b.out.size)⟩
              | false =>
                rw [if_neg (by simp), if_neg (by simp)] at PM
                go_wp2_with fail
                (with_reducible refine PM.out.mono ?_)
                rintro e w11 ⟨rfl, hb⟩
                have H11 := hid (H10.out.below hb)
                clear hb
                go_wp2
                go_ret
                exact ⟨rfl, B2b.out.trans (H11.out.base.below.mono B2b.out.size)⟩
          · have zm : (mode == 2) = false := by simpa using hm2
            rw [if_neg (c := mode = 2 ∧ sb = true) (fun h => hm2 h.1)] at PM
            clear hm2
            cases cb with
            | true =>
              rw [if_pos rfl] at PM
              cases sb with
              | true =>
                go_wp2_with fail
                (with_reducible refine PM.out.mono ?_)
                rintro e w11 ⟨rfl, hb⟩
                have H11 := hid (H10.out.below hb)
                clear hb
                go_wp2
                go_ret
                exact ⟨rfl, B2b.out.trans (H11.out.base.below.mono B2b.out.size)⟩
              | false =>
                go_wp2_with fail
                (with_reducible refine PM.out.mono ?_)
                rintro e w11 ⟨rfl, hb⟩
                have H11 := hid (H10.out.below hb)
                clear hb
                go_wp2
                go_ret
                exact ⟨rfl, B2b.out.trans (H11.out.base.below.mono B2b.out.size)⟩
            | false =>
              rw [if_neg (by simp)] at PM
              cases sb with
              | true =>
                go_wp2_with fail
                (with_reducible refine PM.out.mono ?_)
                rintro e w11 ⟨rfl, hb⟩
                have H11 := hid (H10.out.below hb)
                clear hb
                go_wp2
                go_ret
                exact ⟨rfl, B2b.out.trans (H11.out.base.below.mono B2b.out.size)⟩
              | false =>
                go_wp2_with fail
                (with_reducible refine PM.out.mono ?_)
                rintro e w11 ⟨rfl, hb⟩
                have H11 := hid (H10.out.below hb)
                clear hb
                go_wp2
                go_ret
                exact ⟨rfl, B2b.out.trans (H11.out.base.below.mono B2b.out.size)⟩
end Go.Proofs.Ytoiobhcgpajogab
