/- The house of a vault's law: step, a crash; the table is cleared. -/
import Derived.Test.YtoiobhcgpajogacHouse6
namespace Go.Proofs.Ytoiobhcgpajogac
open Go.RowKit

set_option maxHeartbeats 4000000 in
set_option maxRecDepth 100000 in
theorem house_crash (g : Nat → Nat) (p h N : Nat) (V : Vt) (y : Vst) (w : World) (hp : 1 ≤ p) (hN : N + 8 < 1000000) (_ : y.v.bytes.size ≤ maxLen) (hH : HouseAt w g p h N V) (hop : y.op = 5) :
    Calls Try.prog 43 #[.pointer (some ⟨h, 0, none⟩), .agg #[.int .i64 y.op, .int .i64 y.k, .int .i64 y.mode, .int .i64 y.at_, .int .i64 y.key, .int .i64 y.keep, .bool y.v.there, .string y.v.bytes]] w (StepPost g p h N V w) := by
  obtain ⟨vp, c, vd, vw, nx, n, x, hC, hDE⟩ := hH
  have H0 := hid hC
  have DE := hid hDE
  have OP := hid hop
  clear hC hDE hop
  go_enter Try.func43, Try.ntmps43
  try go_upto_region 1 with (fail)
  have hA := (Below.refl w.heap.size w).alloc (Nat.le_refl _) (.cells #[.int .i64 y.op, .int .i64 y.k, .int .i64 y.mode, .int .i64 y.at_, .int .i64 y.key, .int .i64 y.keep, .bool y.v.there, .string y.v.bytes] 72)
  have X1 : Hid (Loc (w.alloc (.cells #[.int .i64 y.op, .int .i64 y.k, .int .i64 y.mode, .int .i64 y.at_, .int .i64 y.key, .int .i64 y.keep, .bool y.v.there, .string y.v.bytes] 72)) w.heap.size 72 (vsL y)) := hid (Loc.new w 72 (vsL y))
  have H1 := hid (H0.out.below hA)
  have K1 := hid (KeepB.below (g := g) hA)
  clear hA H0
  generalize w.alloc (.cells #[.int .i64 y.op, .int .i64 y.k, .int .i64 y.mode, .int .i64 y.at_, .int .i64 y.key, .int .i64 y.keep, .bool y.v.there, .string y.v.bytes] 72) = w1 at *
  generalize w.heap.size = bx at *
  obtain ⟨c0, c1, c2, c3, c4, c5, c6, c7⟩ : w1.cell? ⟨bx, 0, none⟩ = some (.int .i64 y.op) ∧ w1.cell? ⟨bx, 1, none⟩ = some (.int .i64 y.k) ∧ w1.cell? ⟨bx, 2, none⟩ = some (.int .i64 y.mode) ∧ w1.cell? ⟨bx, 3, none⟩ = some (.int .i64 y.at_) ∧ w1.cell? ⟨bx, 4, none⟩ = some (.int .i64 y.key) ∧ w1.cell? ⟨bx, 5, none⟩ = some (.int .i64 y.keep) ∧ w1.cell? ⟨bx, 6, none⟩ = some (.bool y.v.there) ∧ w1.cell? ⟨bx, 7, none⟩ = some (.string y.v.bytes) :=
    ⟨X1.out.cell 0, X1.out.cell 1, X1.out.cell 2, X1.out.cell 3, X1.out.cell 4, X1.out.cell 5, X1.out.cell 6, X1.out.cell 7⟩
  obtain ⟨k0, k1, k2, k3⟩ : w1.cell? ⟨h, 0, none⟩ = some (.pointer (some ⟨vp, 0, none⟩)) ∧ w1.cell? ⟨h, 1, none⟩ = some (.pointer (some ⟨c, 0, none⟩)) ∧ w1.cell? ⟨h, 2, none⟩ = some vd ∧ w1.cell? ⟨h, 3, none⟩ = some vw := ⟨H1.out.loc.1.cell 0, H1.out.loc.1.cell 1, H1.out.loc.1.cell 2, H1.out.loc.1.cell 3⟩
  rw [OP.out] at c0
  clear OP
  obtain ⟨t, b, hV⟩ := H1.out.vault
  have CR := hid (vault_Crash g (p + 1) vp t b V.tab V.log w1 hV.l)
  clear hV
  go_wp2_with fail
  refine CR.out.mono ?_
  rintro e w2 ⟨rfl, g2, hv, hE⟩
  have H2 := hid (H1.out.newVault hE hv)
  have K2 := hid (K1.out.trans (KeepB.evo hE (by omega)))
  clear hv hE CR H1 K1 c0 c1 c2 c3 c4 c5 c6 c7 k0 k1 k2 k3
  obtain ⟨k0, k1, k2, k3⟩ : w2.cell? ⟨h, 0, none⟩ = some (.pointer (some ⟨vp, 0, none⟩)) ∧ w2.cell? ⟨h, 1, none⟩ = some (.pointer (some ⟨c, 0, none⟩)) ∧ w2.cell? ⟨h, 2, none⟩ = some vd ∧ w2.cell? ⟨h, 3, none⟩ = some vw := ⟨H2.out.loc.1.cell 0, H2.out.loc.1.cell 1, H2.out.loc.1.cell 2, H2.out.loc.1.cell 3⟩
  have CD := hid (court_Do g2 (p + 12) c N ⟨V, fun _ => none⟩ ⟨9, 0, 0, 0, 0, 0, 0, ⟨#[]⟩⟩ w2 hN (show (ByteArray.mk #[]).size ≤ maxLen by decide) H2.out.court)
  rw [doH_crash] at CD
  go_wp2_with fail
  refine CD.out.mono ?_
  rintro e w3 ⟨a3, c3, g3, rfl, hC3, hE3, -, -⟩
  have H3 := hid (H2.out.newCourt (by omega) (hE3.wide (lo' := p + 12) (hi' := p + 12 + 21) (by omega) (by omega)) hC3)
  have K3 := hid (K2.out.trans (KeepB.evo hE3 (by omega)))
  clear hC3 hE3 CD H2 K2 k0 k1 k2 k3
  simp only [Evt.of]
  obtain ⟨k2, k3, f2, f3⟩ : w3.cell? ⟨h, 2, none⟩ = some vd ∧ w3.cell? ⟨h, 3, none⟩ = some vw ∧ w3.frozen? ⟨h, 2, none⟩ = false ∧ w3.frozen? ⟨h, 3, none⟩ = false := ⟨H3.out.loc.1.cell 2, H3.out.loc.1.cell 3, H3.out.loc.1.free 2, H3.out.loc.1.free 3⟩
  go_wp2_with fail
  go_ret
  have E1 := evo_store (g := g3) (w := w3) (b := h) (i := 2) (q := p) (.slice none 0 0) H3.out.loc.2
  have L1 := H3.out.loc.set 2 (.slice none 0 0)
  have E2 := E1.trans (evo_store (i := 3) (.slice none 0 0) L1.2)
  have L2 := L1.set 3 (.slice none 0 0)
  refine ⟨rfl, g3, crashV V.log, ⟨vp, c, .slice none 0 0, .slice none 0 0, nx, 0, x, ?_, fun i hi => by omega⟩, fun _ => crashV_sound V.log, K3.out.trans (KeepB.evo E2 (by omega))⟩
  have hr := H3.out.rest.frame E2 (by omega)
  exact ⟨L2, hr.vault, hr.court, RowP.nil _ _ _ _, RowP.nil _ _ _ _, fun i hi => by omega, fun i hi => by omega, fun i hi => by omega, fun i j hi => by omega, hr.nxt, by omega⟩

set_option maxHeartbeats 4000000 in
set_option maxRecDepth 100000 in
theorem house_clear (g : Nat → Nat) (p h N : Nat) (V : Vt) (y : Vst) (w : World) (hp : 1 ≤ p) (_ : N + 8 < 1000000) (_ : y.v.bytes.size ≤ maxLen) (hH : HouseAt w g p h N V) (hop : y.op = 6) :
    Calls Try.prog 43 #[.pointer (some ⟨h, 0, none⟩), .agg #[.int .i64 y.op, .int .i64 y.k, .int .i64 y.mode, .int .i64 y.at_, .int .i64 y.key, .int .i64 y.keep, .bool y.v.there, .string y.v.bytes]] w (StepPost g p h N V w) := by
  obtain ⟨vp, c, vd, vw, nx, n, x, hC, hDE⟩ := hH
  obtain ⟨t, s, hT⟩ := hC.toT
  have hnx := hC.nxt
  have H0 := hid hT
  have DE := hid hDE
  have OP := hid hop
  clear hC hDE hT hop
  go_enter Try.func43, Try.ntmps43
  try go_upto_region 1 with (fail)
  have hA := Evo.alloc g nx w (.cells #[.int .i64 y.op, .int .i64 y.k, .int .i64 y.mode, .int .i64 y.at_, .int .i64 y.key, .int .i64 y.keep, .bool y.v.there, .string y.v.bytes] 72)
  have X1 : Hid (LocC (w.alloc (.cells #[.int .i64 y.op, .int .i64 y.k, .int .i64 y.mode, .int .i64 y.at_, .int .i64 y.key, .int .i64 y.keep, .bool y.v.there, .string y.v.bytes] 72)) (extc g w nx) nx w.heap.size 72 (vsL y)) := hid (LocC.new g nx w 72 (vsL y))
  have H1 := hid (H0.out.frame hA (by omega))
  have K1 := hid (KeepB.evo hA (by omega))
  clear hA H0
  generalize w.alloc (.cells #[.int .i64 y.op, .int .i64 y.k, .int .i64 y.mode, .int .i64 y.at_, .int .i64 y.key, .int .i64 y.keep, .bool y.v.there, .string y.v.bytes] 72) = w1 at *
  generalize extc g w nx = g1 at *
  generalize w.heap.size = bx at *
  obtain ⟨c0, c1, c2, c3, c4, c5, c6, c7⟩ : w1.cell? ⟨bx, 0, none⟩ = some (.int .i64 y.op) ∧ w1.cell? ⟨bx, 1, none⟩ = some (.int .i64 y.k) ∧ w1.cell? ⟨bx, 2, none⟩ = some (.int .i64 y.mode) ∧ w1.cell? ⟨bx, 3, none⟩ = some (.int .i64 y.at_) ∧ w1.cell? ⟨bx, 4, none⟩ = some (.int .i64 y.key) ∧ w1.cell? ⟨bx, 5, none⟩ = some (.int .i64 y.keep) ∧ w1.cell? ⟨bx, 6, none⟩ = some (.bool y.v.there) ∧ w1.cell? ⟨bx, 7, none⟩ = some (.string y.v.bytes) :=
    ⟨X1.out.1.cell 0, X1.out.1.cell 1, X1.out.1.cell 2, X1.out.1.cell 3, X1.out.1.cell 4, X1.out.1.cell 5, X1.out.1.cell 6, X1.out.1.cell 7⟩
  obtain ⟨k0, kt, k1, ks⟩ := H1.out.way
  obtain ⟨k2, k3⟩ : w1.cell? ⟨h, 2, none⟩ = some vd ∧ w1.cell? ⟨h, 3, none⟩ = some vw := ⟨H1.out.all.loc.1.cell 2, H1.out.all.loc.1.cell 3⟩
  rw [OP.out] at c0
  clear OP
  obtain ⟨aw, cw, hvw, sw, -⟩ := H1.out.all.rb.slice
  rw [rowB_length] at hvw
  subst hvw
  obtain ⟨b, hV⟩ := H1.out.vt
  have LA := hid (table_Last g1 (p + 1 + 1) t V.tab w1 hV.2.2.1)
  have HB := hid (fun k (hk : k < n) => (H1.out.all.work k hk).beg.1)
  have SW := hid sw
  have hfew := H1.out.all.few
  clear hV sw
  go_wp2_with fail
  refine LA.out.mono ?_
  rintro e w' ⟨rfl, rfl⟩
  clear LA
  go_wp2_with fail
  go_loop [9, 10] (fun a i => ∃ (m : Int) (k : Nat), k ≤ n ∧ a = .int .i64 m ∧ i = .int .i64 k) (fun _ i => n - (intOf i).toNat)
  case atStart => exact ⟨_, 0, Nat.zero_le _, rfl, rfl⟩
  case round =>
    obtain ⟨m, k, hk, rfl, rfl⟩ := hrel
    by_cases hlt : k < n
    · have hki : (k : Int) < (n : Int) := by omega
      have hk0 : (0 : Int) ≤ (k : Int) := by omega
      obtain ⟨b2, f2, rfl⟩ : ∃ b o, aw = some ⟨b, o, none⟩ := by
        rcases SW.out with e | ⟨b, o, e, -⟩
        · have := rowB_length n x; rw [e] at this; simp at this; omega
        · exact ⟨b, o, e⟩
      have z1 : w1.cell? ⟨b2, f2 + k, none⟩ = some (.pointer (some ⟨(x k).b, 0, none⟩)) := by
        rcases SW.out with e | ⟨b, o, e, hc⟩
        · have := rowB_length n x; rw [e] at this; simp at this; omega
        · cases e; exact hc _ _ (rowB_get x hlt)
      have z2 := HB.out k hlt
      generalize (x k).b = bk at *
      generalize (x k).E.beg = bg at *
      by_cases hle : bg < m
      · go_wp2
        go_round
        case rel => exact ⟨bg, k + 1, by omega, rfl, by go_num⟩
        case measure => simp [intOf]; omega
      · have hle' : m ≤ bg := by omega
        go_wp2
        go_round
        case rel => exact ⟨m, k + 1, by omega, rfl, by go_num⟩
        case measure => simp [intOf]; omega
    · obtain rfl : k = n := by omega
      clear c1 c2 c3 c4 c5 c6 c7 k2 HB
      have HA := hid (H1.out.below (Below.refl _ _).drew)
      have EA := hid (Evo.drew p (p + 33) g1 w1)
      have TOK := hid (show V.tab.Ok from (by obtain ⟨b, hV⟩ := H1.out.vt; exact hV.2.2.1.1))
      have hS0 := HA.out.way
      go_wp2_with fail
      -- REGION 20
      refine wp_region_noPanic ?_
      refine wp_region_held_drew (S := (fun W' : World => W'.cell? ⟨h, 0, none⟩ = some (.pointer (some ⟨vp, 0, none⟩)) ∧ W'.cell? ⟨vp, 0, none⟩ = some (.pointer (some ⟨t, 0, none⟩)) ∧ W'.cell? ⟨h, 1, none⟩ = some (.pointer (some ⟨c, 0, none⟩)) ∧ W'.cell? ⟨c, 0, none⟩ = some (.pointer (some ⟨s, 0, none⟩)))) (by kernel_rfl) ?_ (fun hH0 => ?_)
      · (try dsimp only); (first | assumption | exact hS0)
      refine wpAnyH_take (i := 0) (v := ?_) (by simp only [List.getElem?_toArray, List.getElem?_cons_zero]; rfl) (by kernel_rfl) (by kernel_rfl) (by kernel_rfl) (fun _ _ _ h => h) (Or.inl ⟨by rfl, ?_⟩) (by assumption) ?_
      rotate_left
      · intro w hSw; (try dsimp only at hSw); go_simp; (try with_reducible rfl)
      try simp only [Act.put, List.setIfInBounds_toArray, List.set_cons_zero, List.set_cons_succ]
      refine wpAnyH_take (i := 1) (v := ?_) (by simp only [List.getElem?_toArray, List.getElem?_cons_zero, List.getElem?_cons_succ]; rfl) (by kernel_rfl) (by kernel_rfl) (by kernel_rfl) (fun _ _ _ h => h) (Or.inl ⟨by rfl, ?_⟩) (by assumption) ?_
      rotate_left
      · intro w hSw; (try dsimp only at hSw); go_simp; (try with_reducible rfl)
      try simp only [Act.put, List.setIfInBounds_toArray, List.set_cons_zero, List.set_cons_succ]
      refine wpAnyH_take (i := 2) (v := ?_) (by simp only [List.getElem?_toArray, List.getElem?_cons_zero, List.getElem?_cons_succ]; rfl) (by kernel_rfl) (by kernel_rfl) (by kernel_rfl) (fun _ _ _ h => h) (Or.inl ⟨by rfl, ?_⟩) (by assumption) ?_
      rotate_left
      · intro w hSw; (try dsimp only at hSw); go_simp; (try with_reducible rfl)
      try simp only [Act.put, List.setIfInBounds_toArray, List.set_cons_zero, List.set_cons_succ]
      refine wpAnyH_take (i := 3) (v := ?_) (by simp only [List.getElem?_toArray, List.getElem?_cons_zero, List.getElem?_cons_succ]; rfl) (by kernel_rfl) (by kernel_rfl) (by kernel_rfl) (fun _ _ _ h => h) (Or.inl ⟨by rfl, ?_⟩) (by assumption) ?_
      rotate_left
      · intro w hSw; (try dsimp only at hSw); go_simp; (try with_reducible rfl)
      try simp only [Act.put, List.setIfInBounds_toArray, List.set_cons_zero, List.set_cons_succ]
      refine wpAnyH_take (i := 4) (v := ?_) (by simp only [List.getElem?_toArray, List.getElem?_cons_zero, List.getElem?_cons_succ]; rfl) (by kernel_rfl) (by kernel_rfl) (by kernel_rfl) (fun _ _ _ h => h) (Or.inl ⟨by rfl, ?_⟩) (by assumption) ?_
      rotate_left
      · intro w hSw; (try dsimp only at hSw); go_simp; (try with_reducible rfl)
      try simp only [Act.put, List.setIfInBounds_toArray, List.set_cons_zero, List.set_cons_succ]
      refine wpAnyH_take (i := 5) (v := ?_) (by simp only [List.getElem?_toArray, List.getElem?_cons_zero, List.getElem?_cons_succ]; rfl) (by kernel_rfl) (by kernel_rfl) (by kernel_rfl) (fun _ _ _ h => h) (Or.inl ⟨by rfl, ?_⟩) (by assumption) ?_
      rotate_left
      · intro w hSw; (try dsimp only at hSw); go_simp; (try with_reducible rfl)
      try simp only [Act.put, List.setIfInBounds_toArray, List.set_cons_zero, List.set_cons_succ]
      refine wpAnyH_take (i := 6) (v := ?_) (by simp only [List.getElem?_toArray, List.getElem?_cons_zero, List.getElem?_cons_succ]; rfl) (by kernel_rfl) (by kernel_rfl) (by kernel_rfl) (fun _ _ _ h => h) (Or.inl ⟨by rfl, ?_⟩) (by assumption) ?_
      rotate_left
      · intro w hSw; (try dsimp only at hSw); go_simp; (try with_reducible rfl)
      try simp only [Act.put, List.setIfInBounds_toArray, List.set_cons_zero, List.set_cons_succ]
      refine wpAnyH_take (i := 7) (v := ?_) (by simp only [List.getElem?_toArray, List.getElem?_cons_zero, List.getElem?_cons_succ]; rfl) (by kernel_rfl) (by kernel_rfl) (by kernel_rfl) (fun _ _ _ h => h) (Or.inl ⟨by rfl, ?_⟩) (by assumption) ?_
      rotate_left
      · intro w hSw; (try dsimp only at hSw); go_simp; (try with_reducible rfl)
      try simp only [Act.put, List.setIfInBounds_toArray, List.set_cons_zero, List.set_cons_succ]
      refine wpAnyH_take (i := 9) (v := ?_) (by simp only [List.getElem?_toArray, List.getElem?_cons_zero, List.getElem?_cons_succ]; rfl) (by kernel_rfl) (by kernel_rfl) (by kernel_rfl) (fun _ _ _ h => h) (Or.inl ⟨by rfl, ?_⟩) (by assumption) ?_
      rotate_left
      · intro w hSw; (try dsimp only at hSw); go_simp; (try with_reducible rfl)
      try simp only [Act.put, List.setIfInBounds_toArray, List.set_cons_zero, List.set_cons_succ]
      refine wpAnyH_take (i := 10) (v := ?_) (by simp only [List.getElem?_toArray, List.getElem?_cons_zero, List.getElem?_cons_succ]; rfl) (by kernel_rfl) (by kernel_rfl) (by kernel_rfl) (fun _ _ _ h => h) (Or.inl ⟨by rfl, ?_⟩) (by assumption) ?_
      rotate_left
      · intro w hSw; (try dsimp only at hSw); go_simp; (try with_reducible rfl)
      try simp only [Act.put, List.setIfInBounds_toArray, List.set_cons_zero, List.set_cons_succ]
      refine wpAnyH_take (i := 11) (v := ?_) (by simp only [List.getElem?_toArray, List.getElem?_cons_zero, List.getElem?_cons_succ]; rfl) (by kernel_rfl) (by kernel_rfl) (by kernel_rfl) (fun _ _ _ h => h) (Or.inl ⟨by rfl, ?_⟩) (by assumption) ?_
      rotate_left
      · intro w hSw; (try dsimp only at hSw); go_simp; (try with_reducible rfl)
      try simp only [Act.put, List.setIfInBounds_toArray, List.set_cons_zero, List.set_cons_succ]
      refine wpAnyH_take (i := 12) (v := ?_) (by simp only [List.getElem?_toArray, List.getElem?_cons_zero, List.getElem?_cons_succ]; rfl) (by kernel_rfl) (by kernel_rfl) (by kernel_rfl) (fun _ _ _ h => h) (Or.inl ⟨by rfl, ?_⟩) (by assumption) ?_
      rotate_left
      · intro w hSw; (try dsimp only at hSw); go_simp; (try with_reducible rfl)
      try simp only [Act.put, List.setIfInBounds_toArray, List.set_cons_zero, List.set_cons_succ]
      refine wpAnyH_take (i := 13) (v := ?_) (by simp only [List.getElem?_toArray, List.getElem?_cons_zero, List.getElem?_cons_succ]; rfl) (by kernel_rfl) (by kernel_rfl) (by kernel_rfl) (fun _ _ _ h => h) (Or.inl ⟨by rfl, ?_⟩) (by assumption) ?_
      rotate_left
      · intro w hSw; (try dsimp only at hSw); go_simp; (try with_reducible rfl)
      try simp only [Act.put, List.setIfInBounds_toArray, List.set_cons_zero, List.set_cons_succ]
      refine wpAnyH_take (i := 14) (v := ?_) (by simp only [List.getElem?_toArray, List.getElem?_cons_zero, List.getElem?_cons_succ]; rfl) (by kernel_rfl) (by kernel_rfl) (by kernel_rfl) (fun _ _ _ h => h) (Or.inl ⟨by rfl, ?_⟩) (by assumption) ?_
      rotate_left
      · intro w hSw; (try dsimp only at hSw); go_simp; (try with_reducible rfl)
      try simp only [Act.put, List.setIfInBounds_toArray, List.set_cons_zero, List.set_cons_succ]
      refine wpAnyH_take (i := 15) (v := ?_) (by simp only [List.getElem?_toArray, List.getElem?_cons_zero, List.getElem?_cons_succ]; rfl) (by kernel_rfl) (by kernel_rfl) (by kernel_rfl) (fun _ _ _ h => h) (Or.inl ⟨by rfl, ?_⟩) (by assumption) ?_
      rotate_left
      · intro w hSw; (try dsimp only at hSw); go_simp; (try with_reducible rfl)
      try simp only [Act.put, List.setIfInBounds_toArray, List.set_cons_zero, List.set_cons_succ]
      refine wpAnyH_take (i := 16) (v := ?_) (by simp only [List.getElem?_toArray, List.getElem?_cons_zero, List.getElem?_cons_succ]; rfl) (by kernel_rfl) (by kernel_rfl) (by kernel_rfl) (fun _ _ _ h => h) (Or.inl ⟨by rfl, ?_⟩) (by assumption) ?_
      rotate_left
      · intro w hSw; (try dsimp only at hSw); go_simp; (try with_reducible rfl)
      try simp only [Act.put, List.setIfInBounds_toArray, List.set_cons_zero, List.set_cons_succ]
      refine wpAnyH_ready (rs := [8]) (by kernel_rfl) (by simp) ?_
      refine AllReadyH.cons (by simp only [List.getElem?_toArray, List.getElem?_cons_zero, List.getElem?_cons_succ]; rfl) (fun K hK => ?_) AllReadyH.nil
      go_simp
      go_at_call 29
      first
        | ((with_reducible refine (house_clearV HS.out m).mono ?_); rintro e w3 ⟨rfl, g3, hH, hE⟩; have HF := hid hH; have EF := hid (ES.out.trans hE); have hS' := HF.out.way; clear hH hE HS ES)
        | ((with_reducible refine (house_clearV HA.out m).mono ?_); rintro e w2 ⟨rfl, g2, hH, hE⟩; have HT := hid hH; have ET := hid (EA.out.trans hE); have hS' := HT.out.way; clear hH hE HA EA)
      try go_wp2_with fail
      refine hK.out _ _ ?_ (fun hH1 => ?_)
      · (try dsimp only); (first | assumption | exact hS0)
      clear hK K hH0
      try simp only [Act.put, List.setIfInBounds_toArray, List.set_cons_zero, List.set_cons_succ]
      refine wpAnyH_ready (rs := [17]) (by kernel_rfl) (by simp) ?_
      refine AllReadyH.cons (by simp only [List.getElem?_toArray, List.getElem?_cons_zero, List.getElem?_cons_succ]; rfl) (fun K hK => ?_) AllReadyH.nil
      go_simp
      go_at_call 30
      first
        | ((with_reducible refine (house_clearS HT.out m).mono ?_); rintro e w3 ⟨rfl, g3, hH, hE⟩; have HF := hid hH; have EF := hid (ET.out.trans hE); have hS' := HF.out.way; clear hH hE HT ET)
        | ((with_reducible refine (house_clearS HA.out m).mono ?_); rintro e w2 ⟨rfl, g2, hH, hE⟩; have HS := hid hH; have ES := hid (EA.out.trans hE); have hS' := HS.out.way; clear hH hE HA EA)
      try go_wp2_with fail
      refine hK.out _ _ ?_ (fun hH2 => ?_)
      · (try dsimp only); (first | assumption | exact hS0)
      clear hK K hH1
      try simp only [Act.put, List.setIfInBounds_toArray, List.set_cons_zero, List.set_cons_succ]
      refine wpAnyH_take (i := 18) (v := ?_) (by simp only [List.getElem?_toArray, List.getElem?_cons_zero, List.getElem?_cons_succ]; rfl) (by kernel_rfl) (by kernel_rfl) (by kernel_rfl) (fun _ _ _ h => h) (Or.inl ⟨by rfl, ?_⟩) (by assumption) ?_
      rotate_left
      · intro w hSw; (try dsimp only at hSw); go_simp; (try with_reducible rfl)
      try simp only [Act.put, List.setIfInBounds_toArray, List.set_cons_zero, List.set_cons_succ]
      refine wpAnyH_take (i := 19) (v := ?_) (by simp only [List.getElem?_toArray, List.getElem?_cons_zero, List.getElem?_cons_succ]; rfl) (by kernel_rfl) (by kernel_rfl) (by kernel_rfl) (fun _ _ _ h => h) (Or.inl ⟨by rfl, ?_⟩) (by assumption) ?_
      rotate_left
      · intro w hSw; (try dsimp only at hSw); go_simp; (try with_reducible rfl)
      try simp only [Act.put, List.setIfInBounds_toArray, List.set_cons_zero, List.set_cons_succ]
      refine wpAnyH_done (by kernel_rfl) ?_ _
      refine NoPanic.normal ?_
      go_wp2_with fail
      have q : HouseAt w3 g3 p h (N + 8) ⟨(clearT V.tab m).2, V.log⟩ := ⟨vp, c, _, _, nx, k, x, HF.out.all.moreN (by omega), DE.out⟩
      go_ret
      exact ⟨rfl, g3, _, q, fun hs => hs.clear TOK.out m, K1.out.trans (KeepB.evo EF.out (by omega))⟩
      -- END 20

end Go.Proofs.Ytoiobhcgpajogac
