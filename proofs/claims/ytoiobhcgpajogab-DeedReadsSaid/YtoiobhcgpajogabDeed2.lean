/- The walks of a deed: Get, Reads, Writes. -/
import Derived.Test.YtoiobhcgpajogabDeed1
import Derived.Test.YtoiobhcgpajogabTab4
import Derived.Deep.Cut
namespace Go.Proofs.Ytoiobhcgpajogab
open Go.RowKit

def DGetPost (g : Nat → Nat) (p d : Nat) (x : (Val × Int) × Ded) (w : World) (e : Ending) (w' : World) : Prop :=
  e = .returned (.tuple #[.agg #[.bool x.1.1.there, .string x.1.1.bytes], .int .i64 x.1.2]) ∧ ∃ g', DeedAt w' g' p d x.2 ∧ Evo p (p + 1) g g' w w'

set_option maxHeartbeats 4000000 in
set_option maxRecDepth 100000 in
theorem deed_Get (g : Nat → Nat) (p d : Nat) (D : Ded) (gt : Nat → Nat) (q t : Nat) (T : Tab) (k : Int) (w : World) (hD : DeedAt w g p d D) (hT : TableAt w gt q t T) :
    Calls Try.prog 39 #[.pointer (some ⟨d, 0, none⟩), .pointer (some ⟨t, 0, none⟩), .int .i64 k] w (DGetPost g p d (getD D T k) w) := by
  by_cases h0 : k < 0 ∨ 8 ≤ k
  · have e1 : getD D T k = ((Val.zero, 1), D) := by unfold getD; rw [if_pos h0]
    rw [e1]
    have CK := hid (fun w => chain_Key_out k w h0)
    have HD := hid hD
    clear h0 e1 hD hT
    go_enter Try.func39, Try.ntmps39
    go_wp2_with fail
    refine (CK.out _).mono ?_
    rintro e w1 ⟨rfl, rfl⟩
    go_wp2
    have hb : Below w.heap.size w (w.alloc (.cells #[.bool false, .string ByteArray.empty] 32)) := (Below.refl _ _).alloc (Nat.le_refl _) _
    refine bodyPost_ret (v := .tuple #[.agg #[.bool false, .string ByteArray.empty], .int .i64 1]) (by simp [results, Try.results39, go_sem]; rfl) rfl ⟨rfl, extc g w p, HD.out.frame (Evo.of_below (lo := 0) (hi := 0) g p hb) (by omega), Evo.of_below g p hb⟩
  · obtain ⟨n, hn, rfl⟩ := key_nat h0
    have CK := hid (fun w => chain_Key_in n w ⟨by omega, by omega⟩)
    obtain ⟨c0, c1, hlt⟩ := hD.cells
    obtain ⟨x1, x2, x3, x4⟩ := hD.at hn
    have hne : d ≠ w.heap.size := by omega
    have HD := hid hD
    have hn0 : (0 : Int) ≤ (n : Int) := by omega
    have hn8 : (n : Int) < 8 := by omega
    cases hw : D.wrote n with
    | some v =>
      have e1 : getD D T n = ((v, 0), D) := by unfold getD; rw [if_neg h0, Int.toNat_natCast, hw]
      rw [e1]
      have hh : hasD D n = v := by unfold hasD; rw [hw]; rfl
      rw [hw] at x2
      rw [hh] at x3 x4
      clear h0 e1 hD hT hw hh
      go_enter Try.func39, Try.ntmps39
      go_wp2_with fail
      refine (CK.out _).mono ?_
      rintro e w1 ⟨rfl, rfl⟩
      have L6 := Loc.new w 32 [.bool false, .string ByteArray.empty]
      have D6 := hid (HD.out.frame (Evo.alloc g p w (.cells #[.bool false, .string ByteArray.empty] 32)) (by omega))
      have B6 := hid ((Below.refl w.heap.size w).alloc (Nat.le_refl _) (.cells #[.bool false, .string ByteArray.empty] 32))
      obtain ⟨y1, y2, y3, y4⟩ := D6.out.at hn
      go_wp2
      refine bodyPost_ret (v := .tuple #[.agg #[.bool v.there, .string v.bytes], .int .i64 0]) (by simp [results, Try.results39, go_sem]) rfl ⟨rfl, extc g w p, ?_, ?_⟩
      · have hb : Below w.heap.size w (w.alloc (.cells #[.bool v.there, .string v.bytes] 32)) := (Below.refl _ _).alloc (Nat.le_refl _) _
        exact HD.out.frame (Evo.of_below (lo := 0) (hi := 0) g p hb) (by omega)
      · have hb : Below w.heap.size w (w.alloc (.cells #[.bool v.there, .string v.bytes] 32)) := (Below.refl _ _).alloc (Nat.le_refl _) _
        exact Evo.of_below g p hb
    | none =>
      have e1 : getD D T n = (readT T n D.beg, if (readT T n D.beg).2 = 0 then ⟨D.mode, D.beg, upd D.read n true, D.wrote⟩ else D) := by unfold getD; rw [if_neg h0, Int.toNat_natCast, hw]
      have E1 := hid e1
      rw [hw] at x2
      have HR := hid (fun W (hb : Below w.heap.size w W) => table_Read gt q t T W n D.beg (hT.below hb))
      generalize readT T n D.beg = y at *
      clear h0 hD hT e1
      go_enter Try.func39, Try.ntmps39
      go_wp2_with fail
      refine (CK.out _).mono ?_
      rintro e w1 ⟨rfl, rfl⟩
      have B1 := hid ((Below.refl w.heap.size w).alloc (Nat.le_refl _) (.cells #[.bool false, .string ⟨#[]⟩] 32))
      have L1 := hid (Loc.new w 32 [.bool false, .string ⟨#[]⟩])
      go_wp2_with fail
      (with_reducible refine (HR.out _ B1.out).mono ?_)
      rintro e w2 ⟨rfl, hb⟩
      have B2 := hid (B1.out.trans (hb.mono (by simp)))
      have L2 := hid (L1.out.keep hb)
      clear hb HR
      go_upto_region 6 with (fail)
      have B3 := hid (B2.out.alloc B2.out.size (.cells #[.bool y.1.there, .string y.1.bytes] 32))
      have L3 := hid (L2.out.alloc (.cells #[.bool y.1.there, .string y.1.bytes] 32))
      have M3 := hid (Loc.new w2 32 [.bool y.1.there, .string y.1.bytes])
      have hne2 : w2.heap.size ≠ w.heap.size := by have := L2.out.lt; omega
      have hne3 : d ≠ w2.heap.size := by have := B2.out.size; omega
      generalize w2.alloc (.cells #[.bool y.1.there, .string y.1.bytes] 32) = w3 at *
      have D3 := hid (HD.out.frame (Evo.of_below (lo := 0) (hi := 0) g p B3.out) (by omega))
      obtain ⟨z1, z2, z3, z4⟩ := D3.out.at hn
      have f1 := D3.out.2.1.free (2 + n)
      obtain ⟨l1, l2, l3, l4⟩ := L3.out.two
      obtain ⟨m1, m2, -⟩ := M3.out.two
      clear x1 x2 x3 x4 c0 c1
      by_cases hc : y.2 = 0
      · rw [hc]
        rw [hc, if_pos rfl] at E1
        have HC := hid hc
        clear hc
        go_wp2
        refine bodyPost_ret (v := .tuple #[.agg #[.bool y.1.there, .string y.1.bytes], .int .i64 0]) (by simp [results, Try.results39, go_sem, l1, l2]) rfl ?_
        rw [E1.out]
        have hL := D3.out.2.set (2 + n) (.bool true)
        rw [dedC_read D n hn] at hL
        refine ⟨by rw [HC.out], extc g w p, ⟨D3.out.1, (hL.1.other (by simpa using hne) _).other (by simpa using hne) _, hL.2⟩, ?_⟩
        have e3 := (Evo.of_below g p B3.out : Evo p (p + 1) g (extc g w p) w w3).trans (evo_store (g := extc g w p) (i := 2 + n) (.bool true) D3.out.2.2)
        have hc6 : extc g w p w.heap.size = p := extc_new (Nat.le_refl _)
        exact (e3.trans (evo_store _ hc6)).trans (evo_store _ hc6)
      · have hc0 : (y.2 == 0) = false := by simpa using hc
        rw [if_neg hc] at E1
        clear hc
        go_wp2
        refine bodyPost_ret (v := .tuple #[.agg #[.bool y.1.there, .string y.1.bytes], .int .i64 y.2]) (by simp [results, Try.results39, go_sem, l1, l2]) rfl ?_
        rw [E1.out]
        have hb := (B3.out.setCell (show w.heap.size ≤ (⟨w.heap.size, 0, none⟩ : Addr).block from Nat.le_refl _) (.bool y.1.there)).setCell (show w.heap.size ≤ (⟨w.heap.size, 1, none⟩ : Addr).block from Nat.le_refl _) (.string y.1.bytes)
        exact ⟨rfl, extc g w p, HD.out.frame (Evo.of_below (lo := 0) (hi := 0) g p hb) (by omega), Evo.of_below g p hb⟩

/-- An element of an array of eight truth values, by value. -/
theorem run_bools (f : Nat → Bool) (k : Nat) (hk : k < 8) (w : World) : (Instr.index 115 (.agg #[.bool (f 0), .bool (f 1), .bool (f 2), .bool (f 3), .bool (f 4), .bool (f 5), .bool (f 6), .bool (f 7)]) (.int .i64 (k : Int))).run Try.prog w = .ok (.bool (f k)) w := by
  have h : k = 0 ∨ k = 1 ∨ k = 2 ∨ k = 3 ∨ k = 4 ∨ k = 5 ∨ k = 6 ∨ k = 7 := by omega
  rcases h with rfl | rfl | rfl | rfl | rfl | rfl | rfl | rfl <;> simp [Instr.index, run_underlying Try.underlying115, asIntOf, go_sem] <;> rfl

/-- Pairs that are handed back, in new memory or none. -/
def PairsPost (l : List Ent) (w : World) (e : Ending) (w' : World) : Prop :=
  ∃ a cap, e = .returned (.slice a l.length cap) ∧ SliceAt w' a (encEnts l) ∧ Below w.heap.size w w' ∧ (∀ ad, a = some ad → w.heap.size ≤ ad.block ∧ ad.block < w'.heap.size) ∧ (a = none → cap = 0)

def encI (l : List Nat) : List Value := l.map (fun (k : Nat) => .int .i64 (k : Int))

def IntsPost (l : List Nat) (w : World) (e : Ending) (w' : World) : Prop :=
  ∃ a cap, e = .returned (.slice a l.length cap) ∧ SliceAt w' a (encI l) ∧ Below w.heap.size w w'

set_option maxHeartbeats 2000000 in
set_option maxRecDepth 100000 in
theorem deed_Writes (g : Nat → Nat) (p d : Nat) (D : Ded) (w : World) (hD : DeedAt w g p d D) :
    Calls Try.prog 41 #[.pointer (some ⟨d, 0, none⟩)] w (PairsPost (writesD D) w) := by
  obtain ⟨-, -, hlt⟩ := hD.cells
  obtain ⟨-, c0, -⟩ := hD.at (k := 0) (by omega)
  obtain ⟨-, c1, -⟩ := hD.at (k := 1) (by omega)
  obtain ⟨-, c2, -⟩ := hD.at (k := 2) (by omega)
  obtain ⟨-, c3, -⟩ := hD.at (k := 3) (by omega)
  obtain ⟨-, c4, -⟩ := hD.at (k := 4) (by omega)
  obtain ⟨-, c5, -⟩ := hD.at (k := 5) (by omega)
  obtain ⟨-, c6, -⟩ := hD.at (k := 6) (by omega)
  obtain ⟨-, c7, -⟩ := hD.at (k := 7) (by omega)
  obtain ⟨i0, hi, hz0, hz1, hz2⟩ := info_parts Try.infoPair
  have HD := hid hD
  have HW := hid (fun (k : Nat) => writesTo_succ D k)
  have HL := hid (writesTo_length D)
  have N0 := hid (World.ownsRow_nil w w.heap.size 42 3)
  clear hD
  go_enter Try.func41, Try.ntmps41
  go_wp2
  clear c0 c1 c2 c3 c4 c5 c6 c7
  go_loopw [3, 10] (fun o i wr => ∃ k : Nat, k ≤ 8 ∧ i = .int .i64 k ∧ Hid (wr.ownsRow w.heap.size 42 3 o (writesTo D k).length (encEnts (writesTo D k))) ∧ Hid (Below w.heap.size w wr)) (fun _ i _ => 8 - (intOf i).toNat)
  case atStart => exact ⟨0, by omega, rfl, N0, hid (Below.refl _ _)⟩
  case round =>
    obtain ⟨k, hk, rfl, HO, HB⟩ := hrel
    clear N0
    by_cases h8 : k < 8
    · have hx := run_bools (fun k => (D.wrote k).isSome) k h8
      obtain ⟨-, x2, x3, x4⟩ := (HD.out.below HB.out).at h8
      have hst := HW.out k
      have hle := HL.out k
      have hki : (k : Int) < 8 := by omega
      have hk0 : (0 : Int) ≤ (k : Int) := by omega
      obtain ⟨ao, co, rfl, -, -⟩ := ownsRow.sliceAt HO.out
      generalize writesTo D k = out at *
      have q1 : out.length + 1 ≤ maxLen := by unfold maxLen; omega
      have q2 : (out.length + 1) * 32 ≤ 140737488355328 := by omega
      cases hw : D.wrote k with
      | none =>
        rw [hw, List.append_nil] at hst
        simp only [hw, Option.isSome_none] at hx
        have HST := hid hst
        clear hst hw x2 x3 x4
        go_wp2
        go_roundw
        case rel => exact ⟨k + 1, by omega, by go_num, hid (by rw [HST.out]; exact HO.out), HB⟩
        case measure => simp [intOf]; omega
      | some v =>
        rw [hw] at hst
        simp only at hst
        simp only [hw, Option.isSome_some] at hx
        have hh : hasD D k = v := by unfold hasD; rw [hw]; rfl
        rw [hh] at x3 x4
        have HST := hid hst
        have hwz := HB.out.size
        clear hst hw hh x2
        generalize hye : (⟨(k : Int), v⟩ : Ent) = ye at *
        have hye2 : encEnt ye = [.int .i64 k, .bool v.there, .string v.bytes] := by subst hye; rfl
        have HYE := hid hye2
        clear hye hye2
        go_wp2_with (refine wpList_append_own _ rfl (.tmp 15) (.tmp 24) 23 rfl w.heap.size 42 i0 (.agg #[.int .i64 0, .bool false, .string ByteArray.empty]) 3 32 Try.underlying23 hi hz0 hz1 hz2 rfl (by decide) (.slice ao out.length co) out.length (encEnts out) rfl (HO.out.alloc _) ⟨wr.heap.size, 0, none⟩ 1 1 (encEnt ye) rfl (by rw [HYE.out]; rfl) ?c1 (encEnt_one _) q1 q2 ?c5 ?_)
        case c1 => rw [HYE.out]; exact cells_new wr [.int .i64 k, .bool v.there, .string v.bytes] 42
        case c5 => simp; omega
        intro v' w2 hown' hgrow _
        have HB2 := hid ((HB.out.alloc HB.out.size (.cells #[.int .i64 k, .bool v.there, .string v.bytes] 42)).grown hgrow (by simp; omega) (fun j hj => (HO.out.lt j hj).1))
        have HO2 := hid (show w2.ownsRow w.heap.size 42 3 v' (out ++ [ye]).length (encEnts (out ++ [ye])) by rw [encEnts_append, List.length_append]; simpa [encEnts] using hown')
        clear hown' hgrow
        go_wp2
        go_roundw
        case rel => exact ⟨k + 1, by omega, by go_num, hid (by rw [HST.out]; exact HO2.out), HB2⟩
        case measure => simp [intOf]; omega
    · obtain rfl : k = 8 := by omega
      obtain ⟨a, cap, rfl, hs, hb⟩ := ownsRow.sliceAt HO.out
      have hn := hid (fun (ad : Addr) (e : a = some ad) => HO.out.lt ad.block (hb ad e))
      have HS := hid hs
      clear hs hb
      go_wp2
      go_ret
      refine ⟨a, cap, rfl, HS.out, HB.out, hn.out, fun e => ?_⟩
      subst e
      rcases HO.out.2 with ⟨h, -⟩ | ⟨g', cap', cur, h, -⟩
      · exact (Value.slice.inj h).2.2
      · cases h


theorem Try.infoInt : (Try.prog.info? 3).map (fun i => (i.zero, i.size, i.bytes)) = some (some (.int .i64 0), 1, 8) := by kernel_rfl

theorem encI_append (a b : List Nat) : encI (a ++ b) = encI a ++ encI b := by simp [encI]
theorem encI_length (a : List Nat) : (encI a).length = a.length * 1 := by simp [encI]

set_option maxHeartbeats 2000000 in
set_option maxRecDepth 100000 in
theorem deed_Reads (g : Nat → Nat) (p d : Nat) (D : Ded) (w : World) (hD : DeedAt w g p d D) :
    Calls Try.prog 42 #[.pointer (some ⟨d, 0, none⟩)] w (IntsPost (readsD D) w) := by
  obtain ⟨-, -, hlt⟩ := hD.cells
  obtain ⟨c0, -⟩ := hD.at (k := 0) (by omega)
  obtain ⟨c1, -⟩ := hD.at (k := 1) (by omega)
  obtain ⟨c2, -⟩ := hD.at (k := 2) (by omega)
  obtain ⟨c3, -⟩ := hD.at (k := 3) (by omega)
  obtain ⟨c4, -⟩ := hD.at (k := 4) (by omega)
  obtain ⟨c5, -⟩ := hD.at (k := 5) (by omega)
  obtain ⟨c6, -⟩ := hD.at (k := 6) (by omega)
  obtain ⟨c7, -⟩ := hD.at (k := 7) (by omega)
  obtain ⟨i0, hi, hz0, hz1, hz2⟩ := info_parts Try.infoInt
  have HW := hid (fun (k : Nat) => readsTo_succ D k)
  have HL := hid (readsTo_length D)
  have N0 := hid (World.ownsRow_nil w w.heap.size 3 1)
  clear hD
  go_enter Try.func42, Try.ntmps42
  go_wp2
  clear c0 c1 c2 c3 c4 c5 c6 c7
  go_loopw [3, 10] (fun o i wr => ∃ k : Nat, k ≤ 8 ∧ i = .int .i64 k ∧ Hid (wr.ownsRow w.heap.size 3 1 o (readsTo D k).length (encI (readsTo D k))) ∧ Hid (Below w.heap.size w wr)) (fun _ i _ => 8 - (intOf i).toNat)
  case atStart => exact ⟨0, by omega, rfl, N0, hid (Below.refl _ _)⟩
  case round =>
    obtain ⟨k, hk, rfl, HO, HB⟩ := hrel
    clear N0
    by_cases h8 : k < 8
    · have hx := run_bools (fun k => D.read k) k h8
      have hst := HW.out k
      have hle := HL.out k
      have hki : (k : Int) < 8 := by omega
      have hk0 : (0 : Int) ≤ (k : Int) := by omega
      obtain ⟨ao, co, rfl, -, -⟩ := ownsRow.sliceAt HO.out
      generalize readsTo D k = out at *
      have q1 : out.length + 1 ≤ maxLen := by unfold maxLen; omega
      have q2 : (out.length + 1) * 8 ≤ 140737488355328 := by omega
      cases hw : D.read k with
      | false =>
        rw [hw] at hst
        simp only [Bool.false_eq_true, if_false, List.append_nil] at hst
        simp only [hw] at hx
        have HST := hid hst
        clear hst hw
        go_wp2
        go_roundw
        case rel => exact ⟨k + 1, by omega, by go_num, hid (by rw [HST.out]; exact HO.out), HB⟩
        case measure => simp [intOf]; omega
      | true =>
        rw [hw, if_pos rfl] at hst
        simp only [hw] at hx
        have HST := hid hst
        have hwz := HB.out.size
        clear hst hw
        go_wp2_with (refine wpList_append_own _ rfl (.tmp 15) (.tmp 17) 77 rfl w.heap.size 3 i0 (.int .i64 0) 1 8 Try.underlying77 hi hz0 hz1 hz2 rfl (by decide) (.slice ao out.length co) out.length (encI out) rfl (HO.out.alloc _) ⟨wr.heap.size, 0, none⟩ 1 1 [.int .i64 k] rfl rfl ?c1 ?c2 q1 q2 ?c5 ?_)
        case c1 => exact cells_new wr [.int .i64 k] 3
        case c2 => intro u hu; simp at hu; subst hu; rfl
        case c5 => simp; omega
        intro v' w2 hown' hgrow _
        have HB2 := hid ((HB.out.alloc HB.out.size (.cells #[.int .i64 k] 3)).grown hgrow (by simp; omega) (fun j hj => (HO.out.lt j hj).1))
        have HO2 := hid (show w2.ownsRow w.heap.size 3 1 v' (out ++ [k]).length (encI (out ++ [k])) by rw [encI_append, List.length_append]; exact hown')
        clear hown' hgrow
        go_wp2
        go_roundw
        case rel => exact ⟨k + 1, by omega, by go_num, hid (by rw [HST.out]; exact HO2.out), HB2⟩
        case measure => simp [intOf]; omega
    · obtain rfl : k = 8 := by omega
      obtain ⟨a, cap, rfl, hs, -⟩ := ownsRow.sliceAt HO.out
      have HS := hid hs
      clear hs
      go_wp2
      go_ret
      exact ⟨a, cap, rfl, HS.out, HB.out⟩

end Go.Proofs.Ytoiobhcgpajogab
