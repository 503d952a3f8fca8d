/- The walk of a deed's May. -/
import Derived.Test.YtoiobhcgpajogabGreatDoorDeed1
import Derived.Deep.RegionHeld3
import Derived.Test.YtoiobhcgpajogabGreatDoorCodec1
namespace Go.Proofs.YtoiobhcgpajogabGreatDoor
open Go.RowKit

theorem SliceAt.ints {w : World} {a : Option Addr} {l : List Nat} (h : SliceAt w a (encI l)) (h0 : 0 < l.length) : ∃ b off, a = some ⟨b, off, none⟩ ∧ ∀ i (hi : i < l.length), w.cell? ⟨b, off + i, none⟩ = some (.int .i64 (l[i] : Int)) := by
  rcases h with h | ⟨b, off, rfl, h⟩
  · cases l with
    | nil => cases h0
    | cons x l => simp [encI] at h
  · exact ⟨b, off, rfl, fun i hi => h i _ (by simp [encI, List.getElem?_eq_getElem hi])⟩

theorem any_take' {α : Type} (f : α → Bool) (l : List α) (k : Nat) (h : k < l.length) : (l.take (k + 1)).any f = ((l.take k).any f || f l[k]) := by
  rw [List.take_succ_eq_append_getElem h, List.any_append]
  simp

theorem any_of_take {α : Type} (f : α → Bool) (l : List α) (k : Nat) (h : (l.take k).any f = true) : l.any f = true := by
  rw [List.any_eq_true] at h ⊢
  obtain ⟨x, hx, h⟩ := h
  exact ⟨x, List.mem_of_mem_take hx, h⟩

set_option maxHeartbeats 4000000 in
set_option maxRecDepth 100000 in
theorem deed_May (g : Nat → Nat) (p d : Nat) (D : Ded) (gt : Nat → Nat) (q t : Nat) (T : Tab) (w : World) (hD : DeedAt w g p d D) (hT : TableAt w gt q t T) :
    Calls Tryz.prog 115 #[.pointer (some ⟨d, 0, none⟩), .pointer (some ⟨t, 0, none⟩)] w (ValPost (mayD D T) w) := by
  have HD := hid hD
  have HT := hid hT
  have HWr := hid (deed_Writes g p d D w hD)
  have HRd := hid (fun (W' : World) (h : DeedAt W' g p d D) => deed_Reads g p d D W' h)
  have hl8 := writesTo_length D 8
  have hr8 := readsTo_length D 8
  have F1 := hid (fun (h : clashD D T = true) => (show mayD D T = 10 by unfold mayD; rw [if_pos h]))
  have F2 := hid (fun (h : clashD D T = false) (h2 : D.mode = 2) (h3 : staleD D T = true) => (show mayD D T = 11 by unfold mayD; rw [if_neg (by rw [h]; simp), if_pos ⟨h2, h3⟩]))
  have F3 := hid (fun (h : clashD D T = false) (h2 : ¬ (D.mode = 2 ∧ staleD D T = true)) => (show mayD D T = 0 by unfold mayD; rw [if_neg (by rw [h]; simp), if_neg h2]))
  have HCL := hid (show clashD D T = (writesD D).any (fun x => decide (D.beg < sinceT T x.n)) from rfl)
  have HST := hid (show staleD D T = (readsD D).any (fun (k : Nat) => decide (D.beg < sinceT T k)) from rfl)
  have hwl : (writesD D).length ≤ 8 := hl8
  have hrl : (readsD D).length ≤ 8 := hr8
  clear hD hT hl8 hr8
  generalize writesD D = W at *
  generalize readsD D = R at *
  go_enter Tryz.func115, Tryz.ntmps115
  go_wp2_with fail
  (with_reducible refine HWr.out.mono ?_)
  rintro e w1 ⟨a1, c1, rfl, hs1, hb1, -, -⟩
  have B1 := hid hb1
  have S1 := hid hs1
  clear hb1 hs1 HWr
  go_wp2_with fail
  go_loopw [12] (fun i wr => ∃ k : Nat, k ≤ W.length ∧ i = .int .i64 k ∧ Hid ((W.take k).any (fun x => decide (D.beg < sinceT T x.n)) = false) ∧ Hid (Below w1.heap.size w1 wr)) (fun i _ => W.length - (intOf i).toNat)
  case atStart => exact ⟨0, Nat.zero_le _, rfl, hid (by simp), hid (Below.refl _ _)⟩
  case round =>
    obtain ⟨k, hk, rfl, HA, HB⟩ := hrel
    by_cases hlt : k < W.length
    · obtain ⟨b1, o1, rfl, v1⟩ := (sliceAt_below S1.out HB.out).ents (by omega)
      obtain ⟨p1, p2, p3⟩ := v1 k hlt
      have hat := any_take' (fun (x : Ent) => decide (D.beg < sinceT T x.n)) W k hlt
      have hof := any_of_take (fun (x : Ent) => decide (D.beg < sinceT T x.n)) W (k + 1)
      have hki : (k : Int) < (W.length : Int) := by omega
      have hk0 : (0 : Int) ≤ (k : Int) := by omega
      have BW := hid (B1.out.trans (HB.out.mono B1.out.size))
      have HS := hid (fun W' (h : Below w.heap.size w W') => table_Since gt q t T W' W[k].n (HT.out.below h))
      rw [HA.out, Bool.false_or] at hat
      generalize W[k] = x at *
      generalize hsv : sinceT T x.n = sv at *
      have HAT := hid hat
      have HOF := hid hof
      clear v1 hat hof hsv
      go_upto_region 4 with (fail)
      have M := hid (Loc.new wr 107 [.int .i64 x.n, .bool x.v.there, .string x.v.bytes])
      have B2 := hid (BW.out.alloc BW.out.size (.cells #[.int .i64 x.n, .bool x.v.there, .string x.v.bytes] 107))
      have B2' := hid (HB.out.alloc HB.out.size (.cells #[.int .i64 x.n, .bool x.v.there, .string x.v.bytes] 107))
      generalize wr.alloc (.cells #[.int .i64 x.n, .bool x.v.there, .string x.v.bytes] 107) = w2 at *
      have keep : ∀ W', Below w2.heap.size w2 W' → (Below w2.heap.size w2 W' ∧ W'.cell? ⟨wr.heap.size, 0, none⟩ = some (.int .i64 x.n) ∧ W'.cell? ⟨d, 1, none⟩ = some (.int .i64 D.beg)) := by
        intro W' hW
        obtain ⟨m1, -⟩ := loc_three (M.out.keep hW)
        exact ⟨hW, m1, (HD.out.below (B2.out.trans (hW.mono B2.out.size))).cells.2.1⟩
      have KS := hid keep
      clear keep p1 p2 p3
      by_cases hgt : D.beg < sv
      · go_region_held3 (fun W' : World => Below w2.heap.size w2 W' ∧ W'.cell? ⟨wr.heap.size, 0, none⟩ = some (.int .i64 x.n) ∧ W'.cell? ⟨d, 1, none⟩ = some (.int .i64 D.beg))
          (first | assumption | exact KS.out _ (Below.refl _ _).drew)
          (first
            | (go_at_call 130; have hS := ‹Below w2.heap.size w2 _ ∧ _›.1; (with_reducible refine (HS.out _ (B2.out.trans (hS.mono B2.out.size))).mono ?_); rintro e w' ⟨rfl, hb⟩; have hS' := KS.out _ (hS.trans (hb.mono hS.size)); clear hb hS))
        have hm10 := F1.out (by rw [HCL.out]; exact HOF.out (by rw [HAT.out]; simpa using hgt))
        all_goals (
          have hS := ‹Below w2.heap.size w2 _ ∧ _›.1
          go_wp2
          go_ret
          refine ⟨?_, B2.out.trans (hS.mono B2.out.size)⟩
          rw [hm10]
          rfl)
      · have hgt' : ¬ D.beg < sv := hgt
        go_region_held3 (fun W' : World => Below w2.heap.size w2 W' ∧ W'.cell? ⟨wr.heap.size, 0, none⟩ = some (.int .i64 x.n) ∧ W'.cell? ⟨d, 1, none⟩ = some (.int .i64 D.beg))
          (first | assumption | exact KS.out _ (Below.refl _ _).drew)
          (first
            | (go_at_call 130; have hS := ‹Below w2.heap.size w2 _ ∧ _›.1; (with_reducible refine (HS.out _ (B2.out.trans (hS.mono B2.out.size))).mono ?_); rintro e w' ⟨rfl, hb⟩; have hS' := KS.out _ (hS.trans (hb.mono hS.size)); clear hb hS))
        have HN := hid (show (W.take (k + 1)).any (fun x => decide (D.beg < sinceT T x.n)) = false by rw [HAT.out]; simpa using hgt)
        all_goals (
          have hS := ‹Below w2.heap.size w2 _ ∧ _›.1
          have HB3 := hid (B2'.out.trans (hS.mono B2'.out.size))
          go_wp2
          go_roundw
          case rel => exact ⟨k + 1, by omega, by go_num, HN, HB3⟩
          case measure => simp [intOf]; omega)
    · obtain rfl : k = W.length := by omega
      have hcl : clashD D T = false := by rw [HCL.out]; have := HA.out; rwa [List.take_length] at this
      have HC := hid hcl
      have BW := hid (B1.out.trans (HB.out.mono B1.out.size))
      have D3 := hid (HD.out.below BW.out)
      obtain ⟨m0, m1, -⟩ := D3.out.cells
      clear hcl S1 HA HB B1 F1 HCL
      by_cases hm : D.mode = 2
      · rw [hm] at m0
        have HM := hid hm
        have HRe := hid (HRd.out wr D3.out)
        clear hm
        go_wp2_with fail
        (with_reducible refine HRe.out.mono ?_)
        rintro e w5 ⟨a5, c5, rfl, hs5, hb5⟩
        have S5 := hid hs5
        have B5 := hid (BW.out.trans (hb5.mono BW.out.size))
        clear hs5 hb5 HRe D3 BW m0 m1
        go_wp2_with fail
        go_loopw [34] (fun i wr => ∃ k : Nat, k ≤ R.length ∧ i = .int .i64 k ∧ Hid ((R.take k).any (fun (k : Nat) => decide (D.beg < sinceT T k)) = false) ∧ Hid (Below w5.heap.size w5 wr)) (fun i _ => R.length - (intOf i).toNat)
        case atStart => exact ⟨0, Nat.zero_le _, rfl, hid (by simp), hid (Below.refl _ _)⟩
        case round =>
          obtain ⟨k, hk, rfl, HA, HB⟩ := hrel
          by_cases hlt : k < R.length
          · obtain ⟨b1, o1, rfl, v1⟩ := (sliceAt_below S5.out HB.out).ints (by omega)
            have p1 := v1 k hlt
            have hat := any_take' (fun (k : Nat) => decide (D.beg < sinceT T k)) R k hlt
            have hof := any_of_take (fun (k : Nat) => decide (D.beg < sinceT T k)) R (k + 1)
            have hki : (k : Int) < (R.length : Int) := by omega
            have hk0 : (0 : Int) ≤ (k : Int) := by omega
            have BW := hid (B5.out.trans (HB.out.mono B5.out.size))
            have HS := hid (fun W' (h : Below w.heap.size w W') => table_Since gt q t T W' R[k] (HT.out.below h))
            have KS := hid (fun W' (h : Below wr.heap.size wr W') => (⟨h, (HD.out.below (BW.out.trans (h.mono BW.out.size))).cells.2.1⟩ : Below wr.heap.size wr W' ∧ W'.cell? ⟨d, 1, none⟩ = some (.int .i64 D.beg)))
            have HB' := hid HB.out.size
            rw [HA.out, Bool.false_or] at hat
            generalize R[k] = x at *
            generalize hsv : sinceT T x = sv at *
            have HAT := hid hat
            have HOF := hid hof
            clear v1 hat hof hsv
            go_upto_region 11 with (fail)
            clear p1
            by_cases hgt : D.beg < sv
            · have hm11 := F2.out HC.out HM.out (by rw [HST.out]; exact HOF.out (by rw [HAT.out]; simpa using hgt))
              go_region_held3 (fun W' : World => Below wr.heap.size wr W' ∧ W'.cell? ⟨d, 1, none⟩ = some (.int .i64 D.beg))
                (first | assumption | exact KS.out _ (Below.refl _ _).drew)
                (first
                  | (go_at_call 130; have hS := ‹Below wr.heap.size wr _ ∧ _›.1; (with_reducible refine (HS.out _ (BW.out.trans (hS.mono BW.out.size))).mono ?_); rintro e w' ⟨rfl, hb⟩; have hS' := KS.out _ (hS.trans (hb.mono hS.size)); clear hb hS))
              all_goals (
                have hS := ‹Below wr.heap.size wr _ ∧ _›.1
                go_wp2
                go_ret
                refine ⟨?_, BW.out.trans (hS.mono BW.out.size)⟩
                rw [hm11]
                rfl)
            · have HN := hid (show (R.take (k + 1)).any (fun (k : Nat) => decide (D.beg < sinceT T k)) = false by rw [HAT.out]; simpa using hgt)
              go_region_held3 (fun W' : World => Below wr.heap.size wr W' ∧ W'.cell? ⟨d, 1, none⟩ = some (.int .i64 D.beg))
                (first | assumption | exact KS.out _ (Below.refl _ _).drew)
                (first
                  | (go_at_call 130; have hS := ‹Below wr.heap.size wr _ ∧ _›.1; (with_reducible refine (HS.out _ (BW.out.trans (hS.mono BW.out.size))).mono ?_); rintro e w' ⟨rfl, hb⟩; have hS' := KS.out _ (hS.trans (hb.mono hS.size)); clear hb hS))
              all_goals (
                have hS := ‹Below wr.heap.size wr _ ∧ _›.1
                have HB3 := hid (HB.out.trans (hS.mono HB'.out))
                go_wp2
                go_roundw
                case rel => exact ⟨k + 1, by omega, by go_num, HN, HB3⟩
                case measure => simp [intOf]; omega)
          · obtain rfl : k = R.length := by omega
            have hst : staleD D T = false := by rw [HST.out]; have := HA.out; rwa [List.take_length] at this
            have E := hid (F3.out HC.out (fun h => by rw [hst] at h; cases h.2))
            have BW := hid (B5.out.trans (HB.out.mono B5.out.size))
            clear hst
            go_wp2
            go_ret
            exact ⟨by rw [E.out]; rfl, BW.out⟩
      · have hm' : (D.mode == 2) = false := by simpa using hm
        have E := hid (F3.out HC.out (fun h => hm h.1))
        clear hm
        go_wp2
        go_ret
        exact ⟨by rw [E.out]; rfl, BW.out⟩

end Go.Proofs.YtoiobhcgpajogabGreatDoor
/- The walks of SameInts and In; a deed's Mode and At. -/
namespace Go.Proofs.YtoiobhcgpajogabGreatDoor
open Go.RowKit
theorem deed_At (g : Nat → Nat) (p d : Nat) (D : Ded) (w : World) (hD : DeedAt w g p d D) :
    Calls Tryz.prog 50 #[.pointer (some ⟨d, 0, none⟩)] w (fun e w' => e = .returned (.int .i64 D.beg) ∧ w = w') := by
  obtain ⟨c0, c1, hlt⟩ := hD.cells
  go_enter Tryz.func50, Tryz.ntmps50
  go_wp2
  go_ret
  exact ⟨rfl, rfl⟩

end Go.Proofs.YtoiobhcgpajogabGreatDoor
