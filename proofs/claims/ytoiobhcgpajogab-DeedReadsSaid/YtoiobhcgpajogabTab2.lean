/- The walks of a table that only read: Last, Read, Since, First. -/
import Derived.Test.YtoiobhcgpajogabTab1
import Derived.Deep.RegionHeld3
namespace Go.Proofs.Ytoiobhcgpajogab
open Go.RowKit

theorem key_nat {k : Int} (h : ¬ (k < 0 ∨ 8 ≤ k)) : ∃ n : Nat, n < 8 ∧ k = n := ⟨k.toNat, by omega, by omega⟩

/-- What the walk wants of a table. -/
theorem TableAt.facts {w : World} {g : Nat → Nat} {p t : Nat} {T : Tab} (h : TableAt w g p t T) :
    ∃ c : Nat → Nat, (∀ k, k < 8 → w.cell? ⟨t, k, none⟩ = some (.pointer (some ⟨c k, 0, none⟩)) ∧ ChainAt w g (p + 1 + k) (c k) (T.l k)) ∧ w.cell? ⟨t, 8, none⟩ = some (.int .i64 T.last) ∧ w.frozen? ⟨t, 8, none⟩ = false ∧ t < w.heap.size ∧ g t = p ∧
      Loc w t 103 (ptrs c ++ [.int .i64 T.last]) := by
  obtain ⟨h0, c, h1, h2⟩ := h
  exact ⟨c, fun k hk => ⟨(h1.1.cell k).trans (get8 _ _ k hk), h2 k hk⟩, (h1.1.cell 8).trans (get8_last _ _), h1.1.free 8, h1.1.lt, h1.2, h1.1⟩

theorem table_Last (g : Nat → Nat) (p t : Nat) (T : Tab) (w : World) (hT : TableAt w g p t T) :
    Calls Try.prog 19 #[.pointer (some ⟨t, 0, none⟩)] w fun e w' => e = .returned (.int .i64 T.last) ∧ w = w' := by
  obtain ⟨c, -, h8, -, ht, -, -⟩ := hT.facts
  go_enter Try.func19, Try.ntmps19
  go_wp2
  go_ret
  exact ⟨rfl, rfl⟩

set_option maxHeartbeats 1000000 in
set_option maxRecDepth 100000 in
theorem table_Read (g : Nat → Nat) (p t : Nat) (T : Tab) (w : World) (k a : Int) (hT : TableAt w g p t T) :
    Calls Try.prog 47 #[.pointer (some ⟨t, 0, none⟩), .int .i64 k, .int .i64 a] w (ReadPost (readT T k a) w) := by
  have hlong := hT.1.long
  obtain ⟨c, hc, h8, -, ht, -, -⟩ := hT.facts
  by_cases h0 : k < 0 ∨ 8 ≤ k
  · have e1 : readT T k a = (Val.zero, 1) := by unfold readT; rw [if_pos (by omega)]
    rw [e1]
    have CK := hid (fun w => chain_Key_out k w h0)
    clear hc hlong h0
    go_enter Try.func47, Try.ntmps47
    go_wp2_with fail
    refine (CK.out _).mono ?_
    rintro e w1 ⟨rfl, rfl⟩
    go_wp2
    refine bodyPost_ret (v := .tuple #[.agg #[.bool false, .string ByteArray.empty], .int .i64 1]) (by simp [results, Try.results47, go_sem]; rfl) rfl ⟨rfl, ?_⟩
    exact (Below.refl _ _).alloc (Nat.le_refl _) _
  · obtain ⟨n, hn, rfl⟩ := key_nat h0
    have CK := hid (fun w => chain_Key_in n w ⟨by omega, by omega⟩)
    obtain ⟨hcn, hC⟩ := hc n hn
    by_cases h1 : (T.last : Int) < a
    · have e1 : readT T n a = (Val.zero, 1) := by unfold readT; rw [if_pos (by omega)]
      rw [e1]
      clear hc hlong h0
      go_enter Try.func47, Try.ntmps47
      go_wp2_with fail
      refine (CK.out _).mono ?_
      rintro e w1 ⟨rfl, rfl⟩
      go_wp2
      refine bodyPost_ret (v := .tuple #[.agg #[.bool false, .string ByteArray.empty], .int .i64 1]) (by simp [results, Try.results47, go_sem]; rfl) rfl ⟨rfl, ?_⟩
      exact (Below.refl _ _).alloc (Nat.le_refl _) _
    · have e1 : readT T n a = readC (T.l n) a := by unfold readT; rw [if_neg (by omega)]; rfl
      rw [e1]
      have h1' : a ≤ (T.last : Int) := by omega
      have hl := hlong n
      clear hc hlong h0 e1
      generalize hy : readC (T.l n) a = y at *
      have HY := hid hy
      clear hy
      go_enter Try.func47, Try.ntmps47
      go_wp2_with fail
      refine (CK.out _).mono ?_
      rintro e w1 ⟨rfl, rfl⟩
      go_wp2_with fail
      refine (chain_Read g _ _ _ _ a hl (hC.alloc _)).mono ?_
      rintro e w2 ⟨rfl, hb⟩
      rw [HY.out]
      have L := (Loc.new w 32 [.bool false, .string ⟨#[]⟩]).keep hb
      have HB := hid hb
      obtain ⟨q1, q2, q3, q4⟩ := L.two
      clear hb
      go_wp2
      refine bodyPost_ret (v := .tuple #[.agg #[.bool y.1.there, .string y.1.bytes], .int .i64 y.2]) (by simp [results, Try.results47, go_sem, q1, q2]) rfl ⟨rfl, ?_⟩
      exact ((((Below.refl _ _).alloc (Nat.le_refl _) _).trans (HB.out.mono (by simp))).setCell (by simp) _).setCell (by simp) _

theorem table_Since (g : Nat → Nat) (p t : Nat) (T : Tab) (w : World) (k : Int) (hT : TableAt w g p t T) :
    Calls Try.prog 26 #[.pointer (some ⟨t, 0, none⟩), .int .i64 k] w (ValPost (sinceT T k) w) := by
  have hlong := hT.1.long
  obtain ⟨c, hc, h8, -, ht, -, -⟩ := hT.facts
  by_cases h0 : k < 0 ∨ 8 ≤ k
  · have e1 : sinceT T k = -1 := by unfold sinceT; rw [if_pos (by omega)]
    rw [e1]
    have CK := hid (fun w => chain_Key_out k w h0)
    clear hc hlong h0
    go_enter Try.func26, Try.ntmps26
    go_wp2_with fail
    refine (CK.out _).mono ?_
    rintro e w1 ⟨rfl, rfl⟩
    go_wp2
    go_ret
    exact ⟨rfl, Below.refl _ _⟩
  · obtain ⟨n, hn, rfl⟩ := key_nat h0
    have CK := hid (fun w => chain_Key_in n w ⟨by omega, by omega⟩)
    obtain ⟨hcn, hC⟩ := hc n hn
    have e1 : sinceT T n = lastN (T.l n) := by unfold sinceT; rw [if_neg (by omega)]; rfl
    rw [e1]
    have hl := hlong n
    clear hc hlong h0 e1
    go_enter Try.func26, Try.ntmps26
    go_wp2_with fail
    refine (CK.out _).mono ?_
    rintro e w1 ⟨rfl, rfl⟩
    go_wp2_with fail
    refine (chain_Last g _ _ _ _ hC hl).mono ?_
    rintro e w2 ⟨rfl, hb⟩
    go_wp2
    go_ret
    exact ⟨rfl, hb⟩

/-- An element of an array of eight pointers, by value. -/
theorem run_ptrs (c : Nat → Nat) (k : Nat) (hk : k < 8) (w : World) : (Instr.index 101 (.agg #[.pointer (some ⟨c 0, 0, none⟩), .pointer (some ⟨c 1, 0, none⟩), .pointer (some ⟨c 2, 0, none⟩), .pointer (some ⟨c 3, 0, none⟩), .pointer (some ⟨c 4, 0, none⟩), .pointer (some ⟨c 5, 0, none⟩), .pointer (some ⟨c 6, 0, none⟩), .pointer (some ⟨c 7, 0, none⟩)]) (.int .i64 (k : Int))).run Try.prog w = .ok (.pointer (some ⟨c k, 0, none⟩)) w := by
  have h : k = 0 ∨ k = 1 ∨ k = 2 ∨ k = 3 ∨ k = 4 ∨ k = 5 ∨ k = 6 ∨ k = 7 := by omega
  rcases h with rfl | rfl | rfl | rfl | rfl | rfl | rfl | rfl <;> simp [Instr.index, run_underlying Try.underlying101, asIntOf, go_sem] <;> rfl

set_option maxHeartbeats 1000000 in
set_option maxRecDepth 100000 in
theorem table_First (g : Nat → Nat) (p t : Nat) (T : Tab) (w : World) (hT : TableAt w g p t T) :
    Calls Try.prog 53 #[.pointer (some ⟨t, 0, none⟩)] w (ValPost (firstT T) w) := by
  obtain ⟨c, hc, -, -, ht, -, -⟩ := hT.facts
  obtain ⟨c0, -⟩ := hc 0 (by omega)
  obtain ⟨c1, -⟩ := hc 1 (by omega)
  obtain ⟨c2, -⟩ := hc 2 (by omega)
  obtain ⟨c3, -⟩ := hc 3 (by omega)
  obtain ⟨c4, -⟩ := hc 4 (by omega)
  obtain ⟨c5, -⟩ := hc 5 (by omega)
  obtain ⟨c6, -⟩ := hc 6 (by omega)
  obtain ⟨c7, -⟩ := hc 7 (by omega)
  have HC := hid hc
  clear hc hT
  have E : ∀ x, firstT T = x → ValPost (firstT T) w (.returned (.int .i64 x)) w := fun x hx => ⟨by rw [hx], Below.refl _ _⟩
  have F := hid E
  clear E
  go_enter Try.func53, Try.ntmps53
  go_wp2
  clear c0 c1 c2 c3 c4 c5 c6 c7
  go_loop [3, 10] (fun n i => ∃ k : Nat, k ≤ 8 ∧ n = .int .i64 (firstGo T k) ∧ i = .int .i64 k) (fun _ i => 8 - (intOf i).toNat)
  case atStart => exact ⟨0, by omega, rfl, rfl⟩
  case round =>
    obtain ⟨k, hk, rfl, rfl⟩ := hrel
    by_cases hlt : k < 8
    · have hx := run_ptrs c k hlt
      have hC := (HC.out k hlt).2
      have hst : firstGo T (k + 1) = if firstGo T k < firstN (T.l k) then firstN (T.l k) else firstGo T k := rfl
      have HST := hid hst
      clear hst
      generalize firstGo T k = m at *
      go_wp2_with fail
      refine (chain_First g _ _ _ _ hC).mono ?_
      rintro e w2 ⟨rfl, rfl⟩
      go_wp2
      go_round
      case rel => exact ⟨k + 1, by omega, by rw [HST.out], by go_num⟩
      case measure => simp [intOf]; omega
    · obtain rfl : k = 8 := by omega
      go_wp2
      go_ret
      exact F.out _ rfl

end Go.Proofs.Ytoiobhcgpajogab
