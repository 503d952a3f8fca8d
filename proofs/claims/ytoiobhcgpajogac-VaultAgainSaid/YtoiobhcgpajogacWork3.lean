/- The walks of the document's deed: Writes, May. -/
import Derived.Test.YtoiobhcgpajogacWork2
namespace Go.Proofs.Ytoiobhcgpajogac
open Go.RowKit

set_option maxHeartbeats 2000000 in
set_option maxRecDepth 100000 in
theorem work_Writes (g : Nat → Nat) (p b : Nat) (D : Ded) (N : Nat) (w : World) (hN : N ≤ 1000000) (hW : WorkAt w g p b D N) :
    Calls Try.prog 35 #[.pointer (some ⟨b, 0, none⟩)] w (PairsPost (writesD D) w) := by
  obtain ⟨W, vr, vw, hC⟩ := hW
  obtain ⟨i0, hi, hz0, hz1, hz2⟩ := info_parts Try.infoPair
  have HC := hid hC
  have HW := hid (fun (k : Nat) => writesTo_succ D k)
  have HL := hid (writesTo_length D)
  have N0 := hid (World.ownsRow_nil w w.heap.size 87 3)
  clear hC
  go_enter Try.func35, Try.ntmps35
  go_wp2_with fail
  go_loopw [3, 4] (fun o i wr => ∃ k : Nat, k ≤ 8 ∧ i = .int .i64 k ∧ Hid (wr.ownsRow w.heap.size 87 3 o (writesTo D k).length (encEnts (writesTo D k))) ∧ Hid (Below w.heap.size w wr)) (fun _ i _ => 8 - (intOf i).toNat)
  case atStart => exact ⟨0, by omega, rfl, N0, hid (Below.refl _ _)⟩
  case round =>
    obtain ⟨k, hk, rfl, HO, HB⟩ := hrel
    clear N0
    by_cases h8 : k < 8
    · have hst := HW.out k
      have hle := HL.out k
      have hki : (k : Int) < 8 := by omega
      have hk0 : (0 : Int) ≤ (k : Int) := by omega
      obtain ⟨ao, co, rfl, -, -⟩ := ownsRow.sliceAt HO.out
      have HLast := hid (work_last g p b D N W vr vw k wr hN (HC.out.below HB.out))
      rw [show lastW W.wrote k = D.wrote k by rw [← HC.out.abs]; rfl] at HLast
      generalize writesTo D k = out at *
      have q1 : out.length + 1 ≤ maxLen := by unfold maxLen; omega
      have q2 : (out.length + 1) * 32 ≤ 140737488355328 := by omega
      cases hw : D.wrote k with
      | none =>
        rw [hw, List.append_nil] at hst
        rw [hw] at HLast
        have HST := hid hst
        clear hst hw
        go_wp2_with fail
        refine HLast.out.mono ?_
        rintro e w2 ⟨rfl, hb⟩
        have HB2 := hid (HB.out.trans (hb.mono HB.out.size))
        have HO2 := hid (show w2.ownsRow w.heap.size 87 3 (.slice ao out.length co) out.length (encEnts out) from ownsRow.lift HO.out (fun r hr => hb.block r (HO.out.lt r hr).2))
        clear hb HLast HB HO
        go_wp2
        go_roundw
        case rel => exact ⟨k + 1, by omega, by go_num, hid (by rw [HST.out]; exact HO2.out.alloc _), hid (HB2.out.alloc HB2.out.size _)⟩
        case measure => simp [intOf]; omega
      | some v =>
        rw [hw] at hst HLast
        simp only at hst
        have HST := hid hst
        clear hst hw
        generalize hye : (⟨(k : Int), v⟩ : Ent) = ye at *
        have hye2 : encEnt ye = [.int .i64 k, .bool v.there, .string v.bytes] := by subst hye; rfl
        have HYE := hid hye2
        clear hye hye2
        go_wp2_with fail
        refine HLast.out.mono ?_
        rintro e w2 ⟨rfl, hb⟩
        have HB2 := hid (HB.out.trans (hb.mono HB.out.size))
        have HO2 := hid (show w2.ownsRow w.heap.size 87 3 (.slice ao out.length co) out.length (encEnts out) from ownsRow.lift HO.out (fun r hr => hb.block r (HO.out.lt r hr).2))
        clear hb HLast HB HO
        go_upto_region 6 with (fail)
        have HB3 := hid (HB2.out.alloc HB2.out.size (.cells #[.bool v.there, .string v.bytes] 39))
        have HO3 := hid (HO2.out.alloc (.cells #[.bool v.there, .string v.bytes] 39))
        have L3 := hid (Loc.new w2 39 [.bool v.there, .string v.bytes])
        generalize w2.alloc (.cells #[.bool v.there, .string v.bytes] 39) = w3 at *
        generalize w2.heap.size = m2 at *
        obtain ⟨l1, l2, l3, l4⟩ := L3.out.two
        have hwz := HB3.out.size
        go_wp2_with (refine wpList_append_own _ rfl (.tmp 18) (.tmp 22) 35 rfl w.heap.size 87 i0 (.agg #[.int .i64 0, .bool false, .string ByteArray.empty]) 3 32 Try.underlying35 hi hz0 hz1 hz2 rfl (by decide) (.slice ao out.length co) out.length (encEnts out) rfl (HO3.out.alloc _) ⟨w3.heap.size, 0, none⟩ 1 1 (encEnt ye) rfl (by rw [HYE.out]; rfl) ?c1 (encEnt_one _) q1 q2 ?c5 ?_)
        case c1 => rw [HYE.out]; exact cells_new w3 [.int .i64 k, .bool v.there, .string v.bytes] 87
        case c5 => simp; omega
        intro v' w4 hown' hgrow _
        have HB4 := hid ((HB3.out.alloc HB3.out.size (.cells #[.int .i64 k, .bool v.there, .string v.bytes] 87)).grown hgrow (by simp; omega) (fun j hj => (HO3.out.lt j hj).1))
        have HO4 := hid (show w4.ownsRow w.heap.size 87 3 v' (out ++ [ye]).length (encEnts (out ++ [ye])) by rw [encEnts_append, List.length_append]; simpa [encEnts] using hown')
        clear hown' hgrow
        go_wp2
        go_roundw
        case rel => exact ⟨k + 1, by omega, by go_num, hid (by rw [HST.out]; exact HO4.out), HB4⟩
        case measure => simp [intOf]; omega
    · obtain rfl : k = 8 := by omega
      obtain ⟨a, cap, rfl, hs, hb⟩ := ownsRow.sliceAt HO.out
      have hn := hid (fun (ad : Addr) (e : a = some ad) => HO.out.lt ad.block (hb ad e))
      have HS := hid hs
      clear hs hb
      go_wp2
      go_ret
      refine ⟨a, cap, rfl, HS.out, HB.out, hn.out, fun e => ?_⟩
      subst e
      rcases HO.out.2 with ⟨h, -⟩ | ⟨g', cap', cur, h, -⟩
      · exact (Value.slice.inj h).2.2
      · cases h

theorem clash_at {D : Ded} {T : Tab} {k : Nat} {v : Val} (hk : k < 8) (h : D.wrote k = some v) (hs : D.beg < lastN (T.l k)) : clashD D T = true := by
  unfold clashD
  rw [List.any_eq_true]
  refine ⟨⟨k, v⟩, mem_writesTo.2 ⟨k, hk, rfl, h⟩, ?_⟩
  simp only [decide_eq_true_eq]
  unfold sinceT; rw [if_neg (by omega)]; exact hs

theorem clash_none {D : Ded} {T : Tab} (h : ∀ (k : Nat) v, k < 8 → D.wrote k = some v → lastN (T.l k) ≤ D.beg) : clashD D T = false := by
  rw [Bool.eq_false_iff]
  intro hc
  unfold clashD at hc
  rw [List.any_eq_true] at hc
  obtain ⟨x, hx, hd⟩ := hc
  obtain ⟨k, hk, h1, h2⟩ := mem_writesTo.1 hx
  have := h k x.v hk h2
  rw [h1] at hd
  simp only [decide_eq_true_eq] at hd
  unfold sinceT at hd
  rw [if_neg (by omega), Int.toNat_natCast] at hd
  omega

theorem stale_at {D : Ded} {T : Tab} {k : Nat} (hk : k < 8) (h : D.read k = true) (hs : D.beg < lastN (T.l k)) : staleD D T = true := by
  unfold staleD
  rw [List.any_eq_true]
  refine ⟨k, mem_readsTo.2 ⟨hk, h⟩, ?_⟩
  simp only [decide_eq_true_eq]
  unfold sinceT; rw [if_neg (by omega)]; exact hs

theorem stale_none {D : Ded} {T : Tab} (h : ∀ (k : Nat), k < 8 → D.read k = true → lastN (T.l k) ≤ D.beg) : staleD D T = false := by
  rw [Bool.eq_false_iff]
  intro hc
  unfold staleD at hc
  rw [List.any_eq_true] at hc
  obtain ⟨k, hx, hd⟩ := hc
  obtain ⟨hk, h1⟩ := mem_readsTo.1 hx
  have := h k hk h1
  simp only [decide_eq_true_eq] at hd
  unfold sinceT at hd
  rw [if_neg (by omega), Int.toNat_natCast] at hd
  omega

theorem below_dN {B : Nat} {w w' : World} (h : Below B w w') (n : Nat) : Below B w (w'.drewN n) := ⟨h.os, h.tape, h.output, h.size, h.block⟩

theorem line_LastQ (g : Nat → Nat) (p : Nat) (v : Value) (l : List Ent) (w : World) (n : Nat) (hn : l.length ≤ 1000000) (hL : LineAt w g p v l) :
    Calls Try.prog 88 #[v] (w.drewN n) fun e w' => e = .returned (.int .i64 (lastN l)) ∧ ∃ m, w' = w.drewN m :=
  (line_Last g p v l (w.drewN n) hn (hL.below (below_drewN _ _))).mono (fun _ _ h => ⟨h.1, n, h.2.symm⟩)

theorem ref_InQ (a : Option Addr) (c : Nat) (l : List Nat) (x : Int) (w : World) (n : Nat) (hn : l.length ≤ 1000000) (h : SliceAt w a (encI l)) :
    Calls Try.prog 64 #[.slice a l.length c, .int .i64 x] (w.drewN n) fun e w' => e = .returned (.bool (l.any (fun (y : Nat) => (y : Int) == x))) ∧ ∃ m, w' = w.drewN m :=
  (ref_In_same a c l x (w.drewN n) hn (sliceAt_below h (below_drewN _ _))).mono (fun _ _ h => ⟨h.1, n, h.2.symm⟩)

set_option maxHeartbeats 4000000 in
set_option maxRecDepth 100000 in
theorem work_May (g : Nat → Nat) (p b : Nat) (D : Ded) (N : Nat) (gs : Nat → Nat) (q s : Nat) (T : Tab) (w : World) (hN : N ≤ 1000000) (hW : WorkAt w g p b D N) (hS : SheetAt w gs q s T) :
    Calls Try.prog 37 #[.pointer (some ⟨b, 0, none⟩), .pointer (some ⟨s, 0, none⟩)] w (ValPost (mayD D T) w) := by
  obtain ⟨W, vr, vw, hC⟩ := hW
  obtain ⟨vs, hSC⟩ := hS.c
  have hlong := hid hS.1.long
  have HC := hid hC
  have HS := hid hSC
  have F1 := hid (fun (k : Nat) (v : Val) (hk : k < 8) (h : D.wrote k = some v) (hs : D.beg < lastN (T.l k)) => (show mayD D T = 10 by unfold mayD; rw [if_pos (clash_at hk h hs)]))
  have hbeg : W.beg = D.beg := by rw [← hC.abs]; rfl
  have hmode : W.mode = D.mode := by rw [← hC.abs]; rfl
  have hLoc := hC.loc.1
  rw [hbeg, hmode] at hLoc
  have HLoc := hid hLoc
  clear hC hSC hS hbeg hmode hLoc
  go_enter Try.func37, Try.ntmps37
  go_wp2_with fail
  go_loopw [5] (fun i wr => ∃ k : Nat, k ≤ 8 ∧ i = .int .i64 k ∧ Hid (∀ (j : Nat) v, j < k → D.wrote j = some v → lastN (T.l j) ≤ D.beg) ∧ Hid (Below w.heap.size w wr)) (fun i _ => 8 - (intOf i).toNat)
  case atStart => exact ⟨0, by omega, rfl, hid (by intro j v hj; omega), hid (Below.refl _ _)⟩
  case round =>
    obtain ⟨k, hk, rfl, HI, HB⟩ := hrel
    by_cases h8 : k < 8
    · have hki : (k : Int) < 8 := by omega
      have hk0 : (0 : Int) ≤ (k : Int) := by omega
      have HLast := hid (work_last g p b D N W vr vw k wr hN (HC.out.below HB.out))
      rw [show lastW W.wrote k = D.wrote k by rw [← HC.out.abs]; rfl] at HLast
      cases hw : D.wrote k with
      | none =>
        rw [hw] at HLast
        have HI2 := hid (show ∀ (j : Nat) v, j < k + 1 → D.wrote j = some v → lastN (T.l j) ≤ D.beg by
          intro j v hj h
          by_cases e : j = k
          · rw [e, hw] at h; cases h
          · exact HI.out j v (by omega) h)
        clear hw HI
        go_wp2_with fail
        refine HLast.out.mono ?_
        rintro e w2 ⟨rfl, hb⟩
        have HB2 := hid (HB.out.trans (hb.mono HB.out.size))
        clear hb HLast HB
        go_wp2_with fail
        go_quiet (fail)
        go_wp2
        go_roundw
        case rel => exact ⟨k + 1, by omega, by go_num, HI2, hid (below_dN (HB2.out.alloc HB2.out.size _) _)⟩
        case measure => simp [intOf]; omega
      | some v =>
        rw [hw] at HLast
        have HWv := hid hw
        clear hw
        go_wp2_with fail
        refine HLast.out.mono ?_
        rintro e w2 ⟨rfl, hb⟩
        have HB2 := hid (HB.out.trans (hb.mono HB.out.size))
        clear hb HLast HB
        go_upto_region 5 with (fail)
        have HB3 := hid (HB2.out.alloc HB2.out.size (.cells #[.bool v.there, .string v.bytes] 39))
        generalize w2.alloc (.cells #[.bool v.there, .string v.bytes] 39) = w3 at *
        have hl := hlong.out k
        obtain ⟨s1, -, s3, -, -⟩ := (HS.out.fresh (Evo.of_below gs q HB3.out)).cells h8
        have HQ := hid (fun n => line_LastQ _ _ _ _ w3 n hl s3)
        have k1 := (HLoc.out.keep HB3.out).cell 1
        simp only [List.getElem?_cons_succ, List.getElem?_cons_zero] at k1
        clear s3 HB2
        by_cases hgt : D.beg < lastN (T.l k)
        · have E := hid (F1.out k v h8 HWv.out hgt)
          generalize hln : lastN (T.l k) = ln at *
          have HLN := hid hln
          clear hln
          go_quiet ((go_at_call 88; exact HQ.out _))
          go_wp2
          go_ret
          exact ⟨by rw [E.out]; rfl, below_dN HB3.out _⟩
        · have HI2 := hid (show ∀ (j : Nat) v, j < k + 1 → D.wrote j = some v → lastN (T.l j) ≤ D.beg by
            intro j v hj h
            by_cases e : j = k
            · rw [e]; omega
            · exact HI.out j v (by omega) h)
          generalize hln : lastN (T.l k) = ln at *
          have HLN := hid hln
          clear hln HI
          have hgt' : ln ≤ D.beg := by omega
          go_quiet ((go_at_call 88; exact HQ.out _))
          go_wp2
          go_roundw
          case rel => exact ⟨k + 1, by omega, by go_num, HI2, hid (below_dN HB3.out _)⟩
          case measure => simp [intOf]; omega
    · have HCN := hid (clash_none (D := D) (T := T) (fun j v hj => HI.out j v (by omega)))
      have hge : (8 : Int) ≤ (k : Int) := by omega
      clear HI F1 h8 hk
      generalize k = kk at *
      go_wp2_with fail
      go_loopw [8] (fun i wr => ∃ k : Nat, k ≤ 8 ∧ i = .int .i64 k ∧ Hid (D.mode = 2 → ∀ (j : Nat), j < k → D.read j = true → lastN (T.l j) ≤ D.beg) ∧ Hid (Below w.heap.size w wr)) (fun i _ => 8 - (intOf i).toNat)
      case atStart => exact ⟨0, by omega, rfl, hid (by intro _ j hj; omega), HB⟩
      case round =>
        obtain ⟨k, hk, rfl, HI, HB⟩ := hrel
        by_cases h8 : k < 8
        · have hki : (k : Int) < 8 := by omega
          have hk0 : (0 : Int) ≤ (k : Int) := by omega
          have k0 := (HLoc.out.keep HB.out).cell 0
          simp only [List.getElem?_cons_zero] at k0
          by_cases hm : D.mode = 2
          · rw [hm] at k0
            have hRb := HC.out.below HB.out
            obtain ⟨ar, cr, hvr, hrs, -⟩ := ownsRow.sliceAt hRb.rr.1
            have hIn := hid (fun n => ref_InQ ar cr W.reads k wr n (by have := HC.out.reads; omega) hrs)
            rw [show W.reads.any (fun (y : Nat) => (y : Int) == (k : Int)) = D.read k by rw [← HC.out.abs]; rfl] at hIn
            have k2 := hRb.loc.1.cell 2
            simp only [List.getElem?_cons_succ, List.getElem?_cons_zero] at k2
            rw [hvr] at k2
            have HM := hid hm
            have hl := hlong.out k
            obtain ⟨s1, -, s3, -, -⟩ := (HS.out.fresh (Evo.of_below gs q HB.out)).cells h8
            have HQ := hid (fun n => line_LastQ _ _ _ _ wr n hl s3)
            have k1 := (HLoc.out.keep HB.out).cell 1
            simp only [List.getElem?_cons_succ, List.getElem?_cons_zero] at k1
            clear hm hRb hrs hvr s3
            cases hr : D.read k with
            | false =>
              rw [hr] at hIn
              have HI2 := hid (show D.mode = 2 → ∀ (j : Nat), j < k + 1 → D.read j = true → lastN (T.l j) ≤ D.beg by
                intro _ j hj h
                by_cases e : j = k
                · rw [e, hr] at h; cases h
                · exact HI.out HM.out j (by omega) h)
              clear hr HI
              go_wp2_with fail
              go_quiet ((go_at_call 64; exact hIn.out _))
              go_wp2
              go_roundw
              case rel => exact ⟨k + 1, by omega, by go_num, HI2, hid (below_dN HB.out _)⟩
              case measure => simp [intOf]; omega
            | true =>
              rw [hr] at hIn
              have HRd := hid hr
              clear hr
              by_cases hgt : D.beg < lastN (T.l k)
              · have E := hid (show mayD D T = 11 by unfold mayD; rw [if_neg (by rw [HCN.out]; simp), if_pos ⟨HM.out, stale_at h8 HRd.out hgt⟩])
                generalize hln : lastN (T.l k) = ln at *
                clear hln
                go_wp2_with fail
                go_quiet (first | (go_at_call 64; exact hIn.out _) | (go_at_call 88; exact HQ.out _))
                go_wp2
                go_ret
                exact ⟨by rw [E.out]; rfl, below_dN HB.out _⟩
              · have HI2 := hid (show D.mode = 2 → ∀ (j : Nat), j < k + 1 → D.read j = true → lastN (T.l j) ≤ D.beg by
                  intro _ j hj h
                  by_cases e : j = k
                  · rw [e]; omega
                  · exact HI.out HM.out j (by omega) h)
                generalize hln : lastN (T.l k) = ln at *
                clear hln HI
                have hgt' : ln ≤ D.beg := by omega
                go_wp2_with fail
                go_quiet (first | (go_at_call 64; exact hIn.out _) | (go_at_call 88; exact HQ.out _))
                go_wp2
                go_roundw
                case rel => exact ⟨k + 1, by omega, by go_num, HI2, hid (below_dN HB.out _)⟩
                case measure => simp [intOf]; omega
          · have hm' : (D.mode == 2) = false := by simpa using hm
            have HI2 := hid (show D.mode = 2 → ∀ (j : Nat), j < k + 1 → D.read j = true → lastN (T.l j) ≤ D.beg from fun h => absurd h hm)
            clear hm HI
            go_wp2_with fail
            go_quiet (fail)
            go_wp2
            go_roundw
            case rel => exact ⟨k + 1, by omega, by go_num, HI2, hid (below_dN HB.out _)⟩
            case measure => simp [intOf]; omega
        · obtain rfl : k = 8 := by omega
          have E := hid (show mayD D T = 0 by
            unfold mayD
            rw [if_neg (by rw [HCN.out]; simp), if_neg]
            rintro ⟨h1, h2⟩
            rw [stale_none (HI.out h1)] at h2
            cases h2)
          go_wp2
          go_ret
          exact ⟨by rw [E.out]; rfl, HB.out⟩

end Go.Proofs.Ytoiobhcgpajogac
