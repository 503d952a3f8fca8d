/- A deed in memory; the walks of New, Get, Put. -/
import Derived.Test.YtoiobhcgpajogabDeedP
import Derived.Test.YtoiobhcgpajogabTab5
namespace Go.Proofs.Ytoiobhcgpajogab
open Go.RowKit

def hasD (D : Ded) (k : Nat) : Val := (D.wrote k).getD Val.zero

def dedC (D : Ded) : List Value :=
  [.int .i64 D.mode, .int .i64 D.beg, .bool (D.read 0), .bool (D.read 1), .bool (D.read 2), .bool (D.read 3), .bool (D.read 4), .bool (D.read 5), .bool (D.read 6), .bool (D.read 7),
    .bool (D.wrote 0).isSome, .bool (D.wrote 1).isSome, .bool (D.wrote 2).isSome, .bool (D.wrote 3).isSome, .bool (D.wrote 4).isSome, .bool (D.wrote 5).isSome, .bool (D.wrote 6).isSome, .bool (D.wrote 7).isSome,
    .bool (hasD D 0).there, .string (hasD D 0).bytes, .bool (hasD D 1).there, .string (hasD D 1).bytes, .bool (hasD D 2).there, .string (hasD D 2).bytes, .bool (hasD D 3).there, .string (hasD D 3).bytes,
    .bool (hasD D 4).there, .string (hasD D 4).bytes, .bool (hasD D 5).there, .string (hasD D 5).bytes, .bool (hasD D 6).there, .string (hasD D 6).bytes, .bool (hasD D 7).there, .string (hasD D 7).bytes]

def DeedAt (w : World) (g : Nat → Nat) (p d : Nat) (D : Ded) : Prop := D.Ok ∧ LocC w g p d 117 (dedC D)

theorem DeedAt.frame {lo hi : Nat} {g g' : Nat → Nat} {w w' : World} {p d : Nat} {D : Ded} (h : DeedAt w g p d D) (k : Evo lo hi g g' w w') (hc : p < lo ∨ hi ≤ p) : DeedAt w' g' p d D := ⟨h.1, h.2.frame k hc⟩
theorem DeedAt.below {w w' : World} {g : Nat → Nat} {p d : Nat} {D : Ded} (h : DeedAt w g p d D) (k : Below w.heap.size w w') : DeedAt w' g p d D := ⟨h.1, h.2.below k⟩

theorem dedC_get (D : Ded) (k : Nat) (hk : k < 8) : (dedC D)[2 + k]? = some (.bool (D.read k)) ∧ (dedC D)[10 + k]? = some (.bool (D.wrote k).isSome) ∧ (dedC D)[18 + k * 2]? = some (.bool (hasD D k).there) ∧ (dedC D)[18 + k * 2 + 1]? = some (.string (hasD D k).bytes) := by
  have h : k = 0 ∨ k = 1 ∨ k = 2 ∨ k = 3 ∨ k = 4 ∨ k = 5 ∨ k = 6 ∨ k = 7 := by omega
  rcases h with rfl | rfl | rfl | rfl | rfl | rfl | rfl | rfl <;> exact ⟨rfl, rfl, rfl, rfl⟩

theorem dedC_read (D : Ded) (k : Nat) (hk : k < 8) : (dedC D).set (2 + k) (.bool true) = dedC ⟨D.mode, D.beg, upd D.read k true, D.wrote⟩ := by
  have h : k = 0 ∨ k = 1 ∨ k = 2 ∨ k = 3 ∨ k = 4 ∨ k = 5 ∨ k = 6 ∨ k = 7 := by omega
  rcases h with rfl | rfl | rfl | rfl | rfl | rfl | rfl | rfl <;> rfl

theorem dedC_wrote (D : Ded) (k : Nat) (hk : k < 8) (v : Val) : (((dedC D).set (10 + k) (.bool true)).set (18 + k * 2) (.bool v.there)).set (18 + k * 2 + 1) (.string v.bytes) = dedC ⟨D.mode, D.beg, D.read, upd D.wrote k (some v)⟩ := by
  have h : k = 0 ∨ k = 1 ∨ k = 2 ∨ k = 3 ∨ k = 4 ∨ k = 5 ∨ k = 6 ∨ k = 7 := by omega
  rcases h with rfl | rfl | rfl | rfl | rfl | rfl | rfl | rfl <;> rfl

theorem DeedAt.cells {w : World} {g : Nat → Nat} {p d : Nat} {D : Ded} (h : DeedAt w g p d D) : w.cell? ⟨d, 0, none⟩ = some (.int .i64 D.mode) ∧ w.cell? ⟨d, 1, none⟩ = some (.int .i64 D.beg) ∧ d < w.heap.size := ⟨h.2.1.cell 0, h.2.1.cell 1, h.2.1.lt⟩

theorem DeedAt.at {w : World} {g : Nat → Nat} {p d : Nat} {D : Ded} (h : DeedAt w g p d D) {k : Nat} (hk : k < 8) : w.cell? ⟨d, 2 + k, none⟩ = some (.bool (D.read k)) ∧ w.cell? ⟨d, 10 + k, none⟩ = some (.bool (D.wrote k).isSome) ∧
    w.cell? ⟨d, 18 + k * 2, none⟩ = some (.bool (hasD D k).there) ∧ w.cell? ⟨d, 18 + k * 2 + 1, none⟩ = some (.string (hasD D k).bytes) := by
  obtain ⟨h1, h2, h3, h4⟩ := dedC_get D k hk
  exact ⟨(h.2.1.cell _).trans h1, (h.2.1.cell _).trans h2, (h.2.1.cell _).trans h3, (h.2.1.cell _).trans h4⟩

theorem deed_New_in (g : Nat → Nat) (p : Nat) (mode beg : Int) (w : World) (hm : 1 ≤ mode ∧ mode ≤ 3) :
    Calls Try.prog 37 #[.int .i64 mode, .int .i64 beg] w fun e w' => ∃ d, e = .returned (.pointer (some ⟨d, 0, none⟩)) ∧ Below w.heap.size w w' ∧ w.heap.size ≤ d ∧ DeedAt w' (extc g w p) p d (Ded.new mode beg) := by
  obtain ⟨h1, h2⟩ := hm
  have h1' : ¬ mode < 1 := by omega
  have h2' : ¬ 3 < mode := by omega
  go_enter Try.func37, Try.ntmps37
  go_wp2
  go_ret
  exact ⟨_, rfl, (Below.refl _ _).alloc (Nat.le_refl _) _, Nat.le_refl _, Ded.new_ok _ _, LocC.new g p w 117 (dedC (Ded.new mode beg))⟩

theorem deed_New_out (mode beg : Int) (w : World) (hm : mode < 1 ∨ 3 < mode) :
    Calls Try.prog 37 #[.int .i64 mode, .int .i64 beg] w fun e w' => e = .returned (.pointer none) ∧ w = w' := by
  by_cases h1 : mode < 1
  · go_enter Try.func37, Try.ntmps37
    go_wp2
    go_ret
    exact ⟨rfl, rfl⟩
  · have h2 : 3 < mode := by omega
    go_enter Try.func37, Try.ntmps37
    go_wp2
    go_ret
    exact ⟨rfl, rfl⟩

def DPutPost (g : Nat → Nat) (p d : Nat) (x : Int × Ded) (w : World) (e : Ending) (w' : World) : Prop :=
  e = .returned (.int .i64 x.1) ∧ ∃ g', DeedAt w' g' p d x.2 ∧ Evo p (p + 1) g g' w w'

theorem dput_stay {g : Nat → Nat} {p d : Nat} {x : Int} {D : Ded} {w w' : World} (h : DeedAt w g p d D) (hb : Below w.heap.size w w') : DPutPost g p d (x, D) w (.returned (.int .i64 x)) w' :=
  ⟨rfl, extc g w p, h.frame (Evo.of_below (lo := 0) (hi := 0) g p hb) (by omega), Evo.of_below g p hb⟩

set_option maxHeartbeats 2000000 in
set_option maxRecDepth 100000 in
theorem deed_Put (g : Nat → Nat) (p d : Nat) (D : Ded) (k : Int) (v : Val) (w : World) (hv : v.bytes.size ≤ maxLen) (hD : DeedAt w g p d D) :
    Calls Try.prog 38 #[.pointer (some ⟨d, 0, none⟩), .int .i64 k, .agg #[.bool v.there, .string v.bytes]] w (DPutPost g p d (putD D k v) w) := by
  by_cases h0 : k < 0 ∨ 8 ≤ k
  · have e1 : putD D k v = (1, D) := by unfold putD; rw [if_pos h0]
    rw [e1]
    have CK := hid (fun w => chain_Key_out k w h0)
    have HD := hid hD
    clear h0 e1 hD
    go_enter Try.func38, Try.ntmps38
    go_wp2_with fail
    refine (CK.out _).mono ?_
    rintro e w1 ⟨rfl, rfl⟩
    go_wp2
    go_ret
    exact dput_stay HD.out ((Below.refl _ _).alloc (Nat.le_refl _) _)
  · obtain ⟨n, hn, rfl⟩ := key_nat h0
    have CK := hid (fun w => chain_Key_in n w ⟨by omega, by omega⟩)
    obtain ⟨c0, c1, hlt⟩ := hD.cells
    by_cases h3 : D.mode = 3
    · have e1 : putD D n v = (3, D) := by unfold putD; rw [if_neg h0, if_pos h3]
      rw [e1]
      have HD := hid hD
      rw [h3] at c0
      clear h0 e1 hD h3
      go_enter Try.func38, Try.ntmps38
      go_wp2_with fail
      refine (CK.out _).mono ?_
      rintro e w1 ⟨rfl, rfl⟩
      go_wp2
      go_ret
      exact dput_stay HD.out ((Below.refl _ _).alloc (Nat.le_refl _) _)
    · have h3' : (D.mode == 3) = false := by simpa using h3
      have HD := hid hD
      have hne : d ≠ w.heap.size := by omega
      by_cases hc : ckV v = 0
      · have e1 : putD D n v = (0, ⟨D.mode, D.beg, D.read, upd D.wrote n (some v)⟩) := by unfold putD; rw [if_neg h0, if_neg h3, if_neg (by simpa using hc)]; rfl
        have hok := hid (putD_ok hD.1 n v)
        rw [e1] at hok ⊢
        have K := hid (chain_Check v.there v.bytes (w.alloc (.cells #[.bool v.there, .string v.bytes] 32)) hv)
        rw [show ckV ⟨v.there, v.bytes⟩ = 0 from hc] at K
        clear h0 e1 hD h3 hc
        go_enter Try.func38, Try.ntmps38
        go_wp2_with fail
        refine (CK.out _).mono ?_
        rintro e w1 ⟨rfl, rfl⟩
        go_wp2_with fail
        refine K.out.mono ?_
        rintro e w2 ⟨rfl, hb⟩
        have B2 := hid (((Below.refl w.heap.size w).alloc (Nat.le_refl _) (.cells #[.bool v.there, .string v.bytes] 32)).trans (hb.mono (by simp)))
        have L2 := hid ((Loc.new w 32 [.bool v.there, .string v.bytes]).keep hb)
        obtain ⟨t0, t1, -⟩ := L2.out.two
        have D2 := hid (HD.out.frame (Evo.of_below (lo := 0) (hi := 0) g p B2.out) (by omega))
        obtain ⟨x1, x2, x3, x4⟩ := D2.out.at hn
        have f1 := D2.out.2.1.free (10 + n)
        have f2 := D2.out.2.1.free (18 + n * 2)
        have f3 := D2.out.2.1.free (18 + n * 2 + 1)
        have hn0 : (0 : Int) ≤ (n : Int) := by omega
        have hn8 : (n : Int) < 8 := by omega
        clear hb c0 c1 CK K
        go_wp2_with fail
        go_region
        all_goals
          go_wp2
          go_ret
          have L3 := ((D2.out.2.set (10 + n) (.bool true)).set (18 + n * 2) (.bool v.there)).set (18 + n * 2 + 1) (.string v.bytes)
          rw [dedC_wrote D n hn v] at L3
          exact ⟨rfl, extc g w p, ⟨hok.out, L3.1.drew, L3.2⟩, ((Evo.of_below g p B2.out).trans (((evo_store _ D2.out.2.2).trans (evo_store _ D2.out.2.2)).trans (evo_store _ D2.out.2.2))).trans (Evo.drew _ _ _ _)⟩
      · have e1 : putD D n v = (ckV v, D) := by unfold putD; rw [if_neg h0, if_neg h3, if_pos hc]
        have hc' : (ckV v != 0) = true := by simpa using hc
        rw [e1]
        have K := hid (chain_Check v.there v.bytes (w.alloc (.cells #[.bool v.there, .string v.bytes] 32)) hv)
        rw [show ckV ⟨v.there, v.bytes⟩ = ckV v from rfl] at K
        clear h0 e1 hD h3 hc
        generalize ckV v = code at *
        go_enter Try.func38, Try.ntmps38
        go_wp2_with fail
        refine (CK.out _).mono ?_
        rintro e w1 ⟨rfl, rfl⟩
        go_wp2_with fail
        refine K.out.mono ?_
        rintro e w2 ⟨rfl, hb⟩
        have B2 := hid (((Below.refl w.heap.size w).alloc (Nat.le_refl _) (.cells #[.bool v.there, .string v.bytes] 32)).trans (hb.mono (by simp)))
        clear hb
        go_wp2
        go_ret
        exact dput_stay HD.out B2.out

end Go.Proofs.Ytoiobhcgpajogab
