/- The house of a vault's law: step, what a deed reads and writes. -/
import Derived.Test.YtoiobhcgpajogacHouse6
namespace Go.Proofs.Ytoiobhcgpajogac
open Go.RowKit

theorem upd_get {x : Nat → En} {i n : Nat} {D1 D2 : Ded} (hD : D1 = D2) (hDE : ∀ j, j < n → (x j).D = (x j).E) : ∀ j, j < n → (upd (upd x i { x i with D := D1 }) i { (upd x i { x i with D := D1 }) i with E := D2 } j).D = (upd (upd x i { x i with D := D1 }) i { (upd x i { x i with D := D1 }) i with E := D2 } j).E := by
  intro j hj
  by_cases e : j = i
  · subst e; rw [upd_same, upd_same]; exact hD
  · rw [upd_other _ _ e, upd_other _ _ e]; exact hDE j hj

theorem upd_get' {x : Nat → En} {i n : Nat} {D1 D2 : Ded} (hD : D1 = D2) (hDE : ∀ j, j < n → (x j).D = (x j).E) : ∀ j, j < n → (upd (upd x i { x i with E := D1 }) i { (upd x i { x i with E := D1 }) i with D := D2 } j).D = (upd (upd x i { x i with E := D1 }) i { (upd x i { x i with E := D1 }) i with D := D2 } j).E := by
  intro j hj
  by_cases e : j = i
  · subst e; rw [upd_same, upd_same]; exact hD.symm
  · rw [upd_other _ _ e, upd_other _ _ e]; exact hDE j hj

set_option maxHeartbeats 4000000 in
set_option maxRecDepth 100000 in
theorem house_else (g : Nat → Nat) (p h N : Nat) (V : Vt) (y : Vst) (w : World) (hp : 1 ≤ p) (_ : N + 8 < 1000000) (_ : y.v.bytes.size ≤ maxLen) (hH : HouseAt w g p h N V) (hop : y.op ≠ 0 ∧ y.op ≠ 1 ∧ y.op ≠ 2 ∧ y.op ≠ 3 ∧ y.op ≠ 4 ∧ y.op ≠ 5 ∧ y.op ≠ 6) :
    Calls Try.prog 43 #[.pointer (some ⟨h, 0, none⟩), .agg #[.int .i64 y.op, .int .i64 y.k, .int .i64 y.mode, .int .i64 y.at_, .int .i64 y.key, .int .i64 y.keep, .bool y.v.there, .string y.v.bytes]] w (StepPost g p h N V w) := by
  obtain ⟨vp, c, vd, vw, nx, n, x, hC, hDE⟩ := hH
  obtain ⟨t, s, hT⟩ := hC.toT
  have hnx := hC.nxt
  have H0 := hid hT
  have DE := hid hDE
  have OP := hid hop
  clear hC hDE hT hop
  go_enter Try.func43, Try.ntmps43
  try go_upto_region 1 with (fail)
  have hA := Evo.alloc g nx w (.cells #[.int .i64 y.op, .int .i64 y.k, .int .i64 y.mode, .int .i64 y.at_, .int .i64 y.key, .int .i64 y.keep, .bool y.v.there, .string y.v.bytes] 72)
  have X1 : Hid (LocC (w.alloc (.cells #[.int .i64 y.op, .int .i64 y.k, .int .i64 y.mode, .int .i64 y.at_, .int .i64 y.key, .int .i64 y.keep, .bool y.v.there, .string y.v.bytes] 72)) (extc g w nx) nx w.heap.size 72 (vsL y)) := hid (LocC.new g nx w 72 (vsL y))
  have H1 := hid (H0.out.frame hA (by omega))
  have K1 := hid (KeepB.evo hA (by omega))
  clear hA H0
  generalize w.alloc (.cells #[.int .i64 y.op, .int .i64 y.k, .int .i64 y.mode, .int .i64 y.at_, .int .i64 y.key, .int .i64 y.keep, .bool y.v.there, .string y.v.bytes] 72) = w1 at *
  generalize extc g w nx = g1 at *
  generalize w.heap.size = bx at *
  obtain ⟨c0, c1, c2, c3, c4, c5, c6, c7⟩ : w1.cell? ⟨bx, 0, none⟩ = some (.int .i64 y.op) ∧ w1.cell? ⟨bx, 1, none⟩ = some (.int .i64 y.k) ∧ w1.cell? ⟨bx, 2, none⟩ = some (.int .i64 y.mode) ∧ w1.cell? ⟨bx, 3, none⟩ = some (.int .i64 y.at_) ∧ w1.cell? ⟨bx, 4, none⟩ = some (.int .i64 y.key) ∧ w1.cell? ⟨bx, 5, none⟩ = some (.int .i64 y.keep) ∧ w1.cell? ⟨bx, 6, none⟩ = some (.bool y.v.there) ∧ w1.cell? ⟨bx, 7, none⟩ = some (.string y.v.bytes) :=
    ⟨X1.out.1.cell 0, X1.out.1.cell 1, X1.out.1.cell 2, X1.out.1.cell 3, X1.out.1.cell 4, X1.out.1.cell 5, X1.out.1.cell 6, X1.out.1.cell 7⟩
  obtain ⟨k0, kt, k1, ks⟩ := H1.out.way
  obtain ⟨k2, k3⟩ : w1.cell? ⟨h, 2, none⟩ = some vd ∧ w1.cell? ⟨h, 3, none⟩ = some vw := ⟨H1.out.all.loc.1.cell 2, H1.out.all.loc.1.cell 3⟩
  obtain ⟨o0, o1, o2, o3, o4, o5, o6⟩ : (y.op == 0) = false ∧ (y.op == 1) = false ∧ (y.op == 2) = false ∧ (y.op == 3) = false ∧ (y.op == 4) = false ∧ (y.op == 5) = false ∧ (y.op == 6) = false := by
    have := OP.out
    simp only [beq_eq_false_iff_ne]
    exact this
  clear OP
  obtain ⟨ad, cd, hvd, sd, -⟩ := H1.out.all.rd.slice
  obtain ⟨aw, cw, hvw, sw, -⟩ := H1.out.all.rb.slice
  rw [rowD_length] at hvd
  rw [rowB_length] at hvw
  subst hvd
  subst hvw
  have hfew := H1.out.all.few
  have SD := hid sd
  have SW := hid sw
  clear sd sw
  by_cases hn0 : n = 0
  · subst hn0
    go_wp2_with fail
    go_ret
    exact ⟨rfl, g1, V, ⟨vp, c, _, _, nx, 0, x, H1.out.all.moreN (by omega), DE.out⟩, fun h => h, K1.out⟩
  have hz : ((n : Int) == 0) = false := by rw [beq_eq_false_iff_ne]; omega
  obtain ⟨i, hi1, hi2⟩ := umodH y.k n ⟨by omega, by omega⟩
  have hin : i < n := by omega
  have hi0 : (0 : Int) ≤ (i : Int) := by omega
  obtain ⟨b1, f1, rfl⟩ : ∃ b o, ad = some ⟨b, o, none⟩ := by
    rcases SD.out with e | ⟨b, o, e, -⟩
    · have := rowD_length n x; rw [e] at this; simp at this; omega
    · exact ⟨b, o, e⟩
  obtain ⟨b2, f2, rfl⟩ : ∃ b o, aw = some ⟨b, o, none⟩ := by
    rcases SW.out with e | ⟨b, o, e, -⟩
    · have := rowB_length n x; rw [e] at this; simp at this; omega
    · exact ⟨b, o, e⟩
  have z1 : w1.cell? ⟨b1, f1 + i, none⟩ = some (.pointer (some ⟨(x i).d, 0, none⟩)) := by
    rcases SD.out with e | ⟨b, o, e, hc⟩
    · have := rowD_length n x; rw [e] at this; simp at this; omega
    · cases e; exact hc _ _ (rowD_get x hin)
  have z2 : w1.cell? ⟨b2, f2 + i, none⟩ = some (.pointer (some ⟨(x i).b, 0, none⟩)) := by
    rcases SW.out with e | ⟨b, o, e, hc⟩
    · have := rowB_length n x; rw [e] at this; simp at this; omega
    · cases e; exact hc _ _ (rowB_get x hin)
  obtain ⟨dq, hdq⟩ : ∃ d, (x i).d = d := ⟨_, rfl⟩
  obtain ⟨bq, hbq⟩ : ∃ b, (x i).b = b := ⟨_, rfl⟩
  obtain ⟨Dq, hDq⟩ : ∃ D, (x i).D = D := ⟨_, rfl⟩
  rw [hdq] at z1
  rw [hbq] at z2
  have XD := hid hdq
  have XB := hid hbq
  have XDD := hid hDq
  have XDE := hid ((DE.out i hin).symm.trans hDq)
  have HN0 := hid hn0
  clear hdq hbq hDq SD SW hn0
  have hS0 : Below w1.heap.size w1 w1.drew ∧ w1.drew.cell? ⟨bx, 1, none⟩ = some (.int .i64 y.k) ∧ w1.drew.cell? ⟨h, 2, none⟩ = some (.slice (some ⟨b1, f1, none⟩) n cd) ∧ w1.drew.cell? ⟨h, 3, none⟩ = some (.slice (some ⟨b2, f2, none⟩) n cw) ∧ w1.drew.cell? ⟨b1, f1 + i, none⟩ = some (.pointer (some ⟨dq, 0, none⟩)) ∧ w1.drew.cell? ⟨b2, f2 + i, none⟩ = some (.pointer (some ⟨bq, 0, none⟩)) := ⟨(Below.refl _ _).drew, c1, k2, k3, z1, z2⟩
  go_wp2_with fail
  clear k2 k3 z1 z2
  have hz1 : ¬ (n : Int) = 0 := by have := HN0.out; omega
  have hz2 : ¬ n = 0 := HN0.out
  have hwn : IntKind.u64.wrap (n : Int) = (n : Int) := by rw [IntKind.wrap_u64]; omega
  -- REGION 23else
  refine wp_region_noPanic ?_
  refine wp_region_held_drew (S := (fun W : World => Below w1.heap.size w1 W ∧ W.cell? ⟨bx, 1, none⟩ = some (.int .i64 y.k) ∧ W.cell? ⟨h, 2, none⟩ = some (.slice (some ⟨b1, f1, none⟩) n cd) ∧ W.cell? ⟨h, 3, none⟩ = some (.slice (some ⟨b2, f2, none⟩) n cw) ∧ W.cell? ⟨b1, f1 + i, none⟩ = some (.pointer (some ⟨dq, 0, none⟩)) ∧ W.cell? ⟨b2, f2 + i, none⟩ = some (.pointer (some ⟨bq, 0, none⟩)))) (by kernel_rfl) ?_ (fun hH0 => ?_)
  · (try dsimp only); (first | assumption | exact hS0)
  refine wpAnyH_take (i := 0) (v := ?_) (by simp only [List.getElem?_toArray, List.getElem?_cons_zero]; rfl) (by kernel_rfl) (by kernel_rfl) (by kernel_rfl) (fun _ _ _ h => h) (Or.inl ⟨by rfl, ?_⟩) (by assumption) ?_
  rotate_left
  · intro w hSw; (try dsimp only at hSw); go_simp; (try with_reducible rfl)
  try simp only [Act.put, List.setIfInBounds_toArray, List.set_cons_zero, List.set_cons_succ]
  refine wpAnyH_take (i := 1) (v := ?_) (by simp only [List.getElem?_toArray, List.getElem?_cons_zero, List.getElem?_cons_succ]; rfl) (by kernel_rfl) (by kernel_rfl) (by kernel_rfl) (fun _ _ _ h => h) (Or.inl ⟨by rfl, ?_⟩) (by assumption) ?_
  rotate_left
  · intro w hSw; (try dsimp only at hSw); go_simp; (try with_reducible rfl)
  try simp only [Act.put, List.setIfInBounds_toArray, List.set_cons_zero, List.set_cons_succ]
  refine wpAnyH_take (i := 3) (v := ?_) (by simp only [List.getElem?_toArray, List.getElem?_cons_zero, List.getElem?_cons_succ]; rfl) (by kernel_rfl) (by kernel_rfl) (by kernel_rfl) (fun _ _ _ h => h) (Or.inl ⟨by rfl, ?_⟩) (by assumption) ?_
  rotate_left
  · intro w hSw; (try dsimp only at hSw); go_simp; (try with_reducible rfl)
  try simp only [Act.put, List.setIfInBounds_toArray, List.set_cons_zero, List.set_cons_succ]
  refine wpAnyH_take (i := 4) (v := ?_) (by simp only [List.getElem?_toArray, List.getElem?_cons_zero, List.getElem?_cons_succ]; rfl) (by kernel_rfl) (by kernel_rfl) (by kernel_rfl) (fun _ _ _ h => h) (Or.inl ⟨by rfl, ?_⟩) (by assumption) ?_
  rotate_left
  · intro w hSw; (try dsimp only at hSw); go_simp; (try with_reducible rfl)
  try simp only [Act.put, List.setIfInBounds_toArray, List.set_cons_zero, List.set_cons_succ]
  refine wpAnyH_take (i := 5) (v := ?_) (by simp only [List.getElem?_toArray, List.getElem?_cons_zero, List.getElem?_cons_succ]; rfl) (by kernel_rfl) (by kernel_rfl) (by kernel_rfl) (fun _ _ _ h => h) (Or.inl ⟨by rfl, ?_⟩) (by assumption) ?_
  rotate_left
  · intro w hSw; (try dsimp only at hSw); go_simp; (try with_reducible rfl)
  try simp only [Act.put, List.setIfInBounds_toArray, List.set_cons_zero, List.set_cons_succ]
  refine wpAnyH_take (i := 6) (v := ?_) (by simp only [List.getElem?_toArray, List.getElem?_cons_zero, List.getElem?_cons_succ]; rfl) (by kernel_rfl) (by kernel_rfl) (by kernel_rfl) (fun _ _ _ h => h) (Or.inl ⟨by rfl, ?_⟩) (by assumption) ?_
  rotate_left
  · intro w hSw; (try dsimp only at hSw); go_simp; (try with_reducible rfl)
  try simp only [Act.put, List.setIfInBounds_toArray, List.set_cons_zero, List.set_cons_succ]
  refine wpAnyH_take (i := 7) (v := ?_) (by simp only [List.getElem?_toArray, List.getElem?_cons_zero, List.getElem?_cons_succ]; rfl) (by kernel_rfl) (by kernel_rfl) (by kernel_rfl) (fun _ _ _ h => h) (Or.inl ⟨by rfl, ?_⟩) (by assumption) ?_
  rotate_left
  · intro w hSw; (try dsimp only at hSw); go_simp; (try with_reducible rfl)
  try simp only [Act.put, List.setIfInBounds_toArray, List.set_cons_zero, List.set_cons_succ]
  refine' join1 (fun W : World => Below w1.heap.size w1 W ∧ W.cell? ⟨bx, 1, none⟩ = some (.int .i64 y.k) ∧ W.cell? ⟨h, 2, none⟩ = some (.slice (some ⟨b1, f1, none⟩) n cd) ∧ W.cell? ⟨h, 3, none⟩ = some (.slice (some ⟨b2, f2, none⟩) n cw) ∧ W.cell? ⟨b1, f1 + i, none⟩ = some (.pointer (some ⟨dq, 0, none⟩)) ∧ W.cell? ⟨b2, f2 + i, none⟩ = some (.pointer (some ⟨bq, 0, none⟩))) _ (fun HJ1 => ?_) (fun wj1 hj1 => ?_)
  rotate_left
  · skip
    refine wpAnyH_ready (rs := [2, 8]) (by kernel_rfl) (by simp) ?_
    refine AllReadyH.cons (by simp only [List.getElem?_toArray, List.getElem?_cons_zero, List.getElem?_cons_succ]; rfl) (fun K hK => ?_) ?_
    go_simp
    refine hK.out _ _ ?_ (fun hH2 => ?_)
    · (try dsimp only); (first | assumption | exact hS0)
    clear hK K
    try simp only [Act.put, List.setIfInBounds_toArray, List.set_cons_zero, List.set_cons_succ]
    refine wpAnyH_ready (rs := [8]) (by kernel_rfl) (by simp) ?_
    refine AllReadyH.cons (by simp only [List.getElem?_toArray, List.getElem?_cons_zero, List.getElem?_cons_succ]; rfl) (fun K hK => ?_) AllReadyH.nil
    go_simp
    refine hK.out _ _ ?_ (fun hH3 => ?_)
    · (try dsimp only); (first | assumption | exact hS0)
    clear hK K hH2
    try simp only [Act.put, List.setIfInBounds_toArray, List.set_cons_zero, List.set_cons_succ]
    exact HJ1 _ (by assumption)
    refine AllReadyH.cons (by simp only [List.getElem?_toArray, List.getElem?_cons_zero, List.getElem?_cons_succ]; rfl) (fun K hK => ?_) AllReadyH.nil
    go_simp
    refine hK.out _ _ ?_ (fun hH4 => ?_)
    · (try dsimp only); (first | assumption | exact hS0)
    clear hK K
    try simp only [Act.put, List.setIfInBounds_toArray, List.set_cons_zero, List.set_cons_succ]
    refine wpAnyH_ready (rs := [2]) (by kernel_rfl) (by simp) ?_
    refine AllReadyH.cons (by simp only [List.getElem?_toArray, List.getElem?_cons_zero, List.getElem?_cons_succ]; rfl) (fun K hK => ?_) AllReadyH.nil
    go_simp
    refine hK.out _ _ ?_ (fun hH5 => ?_)
    · (try dsimp only); (first | assumption | exact hS0)
    clear hK K hH4
    try simp only [Act.put, List.setIfInBounds_toArray, List.set_cons_zero, List.set_cons_succ]
    exact HJ1 _ (by assumption)
  refine wpAnyH_take (i := 9) (v := ?_) (by simp only [List.getElem?_toArray, List.getElem?_cons_zero, List.getElem?_cons_succ]; rfl) (by kernel_rfl) (by kernel_rfl) (by kernel_rfl) (fun _ _ _ h => h) (Or.inl ⟨by rfl, ?_⟩) (by assumption) ?_
  rotate_left
  · intro w hSw; (try dsimp only at hSw); go_simp; (try with_reducible rfl)
  try simp only [Act.put, List.setIfInBounds_toArray, List.set_cons_zero, List.set_cons_succ]
  refine wpAnyH_ready (rs := [10]) (by kernel_rfl) (by simp) ?_
  refine AllReadyH.cons (by simp only [List.getElem?_toArray, List.getElem?_cons_zero, List.getElem?_cons_succ]; rfl) (fun K hK => ?_) AllReadyH.nil
  go_simp
  refine hK.out _ _ ?_ (fun hH6 => ?_)
  · (try dsimp only); (first | assumption | exact hS0)
  clear hK K
  try simp only [Act.put, List.setIfInBounds_toArray, List.set_cons_zero, List.set_cons_succ]
  refine wpAnyH_take (i := 11) (v := ?_) (by simp only [List.getElem?_toArray, List.getElem?_cons_zero, List.getElem?_cons_succ]; rfl) (by kernel_rfl) (by kernel_rfl) (by kernel_rfl) (fun _ _ _ h => h) (Or.inl ⟨by rfl, ?_⟩) (by assumption) ?_
  rotate_left
  · intro w hSw; (try dsimp only at hSw); go_simp; (try with_reducible rfl)
  try simp only [Act.put, List.setIfInBounds_toArray, List.set_cons_zero, List.set_cons_succ]
  refine wpAnyH_done (by kernel_rfl) ?_ _
  refine NoPanic.normal ?_
  skip
  -- END 23else
  rw [show IntKind.i64.wrap ((IntKind.u64.wrap y.k).tmod (n : Int)) = (i : Int) from (IntWalk.i64_left _).trans hi1]
  obtain ⟨hB3, c1_, k2, k3, z1, z2⟩ := hj1
  clear hi1 hz hz1 hz2 hwn hS0 c1_
  go_wp2_with fail
  go_quiet (fail)
  have hB := hB3.trans ((below_drewN wj1 nq).mono hB3.size)
  have H2 := hid (H1.out.below hB)
  have X2 := hid (X1.out.below hB)
  have K2 := hid (K1.out.trans (KeepB.below hB))
  clear hB hB3 H1 X1 K1 c0 c1 c2 c3 c4 c5 c6 c7 k0 k1 k2 k3 kt ks z1 z2 hfew hi2
  generalize wj1.drewN nq = w2 at *
  have c0 : w2.cell? ⟨bx, 0, none⟩ = some (.int .i64 y.op) := X2.out.1.cell 0
  go_wp2_with fail
  go_ret
  exact ⟨rfl, g1, V, ⟨vp, c, _, _, nx, n, x, H2.out.all.moreN (by omega), DE.out⟩, fun h => h, K2.out⟩

set_option maxHeartbeats 4000000 in
set_option maxRecDepth 100000 in
theorem house_get (g : Nat → Nat) (p h N : Nat) (V : Vt) (y : Vst) (w : World) (hp : 1 ≤ p) (hN : N + 8 < 1000000) (_ : y.v.bytes.size ≤ maxLen) (hH : HouseAt w g p h N V) (hop : y.op = 1) :
    Calls Try.prog 43 #[.pointer (some ⟨h, 0, none⟩), .agg #[.int .i64 y.op, .int .i64 y.k, .int .i64 y.mode, .int .i64 y.at_, .int .i64 y.key, .int .i64 y.keep, .bool y.v.there, .string y.v.bytes]] w (StepPost g p h N V w) := by
  obtain ⟨vp, c, vd, vw, nx, n, x, hC, hDE⟩ := hH
  obtain ⟨t, s, hT⟩ := hC.toT
  have hnx := hC.nxt
  have H0 := hid hT
  have DE := hid hDE
  have OP := hid hop
  clear hC hDE hT hop
  go_enter Try.func43, Try.ntmps43
  try go_upto_region 1 with (fail)
  have hA := Evo.alloc g nx w (.cells #[.int .i64 y.op, .int .i64 y.k, .int .i64 y.mode, .int .i64 y.at_, .int .i64 y.key, .int .i64 y.keep, .bool y.v.there, .string y.v.bytes] 72)
  have X1 : Hid (LocC (w.alloc (.cells #[.int .i64 y.op, .int .i64 y.k, .int .i64 y.mode, .int .i64 y.at_, .int .i64 y.key, .int .i64 y.keep, .bool y.v.there, .string y.v.bytes] 72)) (extc g w nx) nx w.heap.size 72 (vsL y)) := hid (LocC.new g nx w 72 (vsL y))
  have H1 := hid (H0.out.frame hA (by omega))
  have K1 := hid (KeepB.evo hA (by omega))
  clear hA H0
  generalize w.alloc (.cells #[.int .i64 y.op, .int .i64 y.k, .int .i64 y.mode, .int .i64 y.at_, .int .i64 y.key, .int .i64 y.keep, .bool y.v.there, .string y.v.bytes] 72) = w1 at *
  generalize extc g w nx = g1 at *
  generalize w.heap.size = bx at *
  obtain ⟨c0, c1, c2, c3, c4, c5, c6, c7⟩ : w1.cell? ⟨bx, 0, none⟩ = some (.int .i64 y.op) ∧ w1.cell? ⟨bx, 1, none⟩ = some (.int .i64 y.k) ∧ w1.cell? ⟨bx, 2, none⟩ = some (.int .i64 y.mode) ∧ w1.cell? ⟨bx, 3, none⟩ = some (.int .i64 y.at_) ∧ w1.cell? ⟨bx, 4, none⟩ = some (.int .i64 y.key) ∧ w1.cell? ⟨bx, 5, none⟩ = some (.int .i64 y.keep) ∧ w1.cell? ⟨bx, 6, none⟩ = some (.bool y.v.there) ∧ w1.cell? ⟨bx, 7, none⟩ = some (.string y.v.bytes) :=
    ⟨X1.out.1.cell 0, X1.out.1.cell 1, X1.out.1.cell 2, X1.out.1.cell 3, X1.out.1.cell 4, X1.out.1.cell 5, X1.out.1.cell 6, X1.out.1.cell 7⟩
  obtain ⟨k0, kt, k1, ks⟩ := H1.out.way
  obtain ⟨k2, k3⟩ : w1.cell? ⟨h, 2, none⟩ = some vd ∧ w1.cell? ⟨h, 3, none⟩ = some vw := ⟨H1.out.all.loc.1.cell 2, H1.out.all.loc.1.cell 3⟩
  rw [OP.out] at c0
  have OX := OP
  clear OP
  obtain ⟨ad, cd, hvd, sd, -⟩ := H1.out.all.rd.slice
  obtain ⟨aw, cw, hvw, sw, -⟩ := H1.out.all.rb.slice
  rw [rowD_length] at hvd
  rw [rowB_length] at hvw
  subst hvd
  subst hvw
  have hfew := H1.out.all.few
  have SD := hid sd
  have SW := hid sw
  clear sd sw
  by_cases hn0 : n = 0
  · subst hn0
    go_wp2_with fail
    go_ret
    exact ⟨rfl, g1, V, ⟨vp, c, _, _, nx, 0, x, H1.out.all.moreN (by omega), DE.out⟩, fun h => h, K1.out⟩
  have hz : ((n : Int) == 0) = false := by rw [beq_eq_false_iff_ne]; omega
  obtain ⟨i, hi1, hi2⟩ := umodH y.k n ⟨by omega, by omega⟩
  have hin : i < n := by omega
  have hi0 : (0 : Int) ≤ (i : Int) := by omega
  obtain ⟨b1, f1, rfl⟩ : ∃ b o, ad = some ⟨b, o, none⟩ := by
    rcases SD.out with e | ⟨b, o, e, -⟩
    · have := rowD_length n x; rw [e] at this; simp at this; omega
    · exact ⟨b, o, e⟩
  obtain ⟨b2, f2, rfl⟩ : ∃ b o, aw = some ⟨b, o, none⟩ := by
    rcases SW.out with e | ⟨b, o, e, -⟩
    · have := rowB_length n x; rw [e] at this; simp at this; omega
    · exact ⟨b, o, e⟩
  have z1 : w1.cell? ⟨b1, f1 + i, none⟩ = some (.pointer (some ⟨(x i).d, 0, none⟩)) := by
    rcases SD.out with e | ⟨b, o, e, hc⟩
    · have := rowD_length n x; rw [e] at this; simp at this; omega
    · cases e; exact hc _ _ (rowD_get x hin)
  have z2 : w1.cell? ⟨b2, f2 + i, none⟩ = some (.pointer (some ⟨(x i).b, 0, none⟩)) := by
    rcases SW.out with e | ⟨b, o, e, hc⟩
    · have := rowB_length n x; rw [e] at this; simp at this; omega
    · cases e; exact hc _ _ (rowB_get x hin)
  obtain ⟨dq, hdq⟩ : ∃ d, (x i).d = d := ⟨_, rfl⟩
  obtain ⟨bq, hbq⟩ : ∃ b, (x i).b = b := ⟨_, rfl⟩
  obtain ⟨Dq, hDq⟩ : ∃ D, (x i).D = D := ⟨_, rfl⟩
  rw [hdq] at z1
  rw [hbq] at z2
  have XD := hid hdq
  have XB := hid hbq
  have XDD := hid hDq
  have XDE := hid ((DE.out i hin).symm.trans hDq)
  have HN0 := hid hn0
  clear hdq hbq hDq SD SW hn0
  have hS0 : Below w1.heap.size w1 w1.drew ∧ w1.drew.cell? ⟨bx, 1, none⟩ = some (.int .i64 y.k) ∧ w1.drew.cell? ⟨h, 2, none⟩ = some (.slice (some ⟨b1, f1, none⟩) n cd) ∧ w1.drew.cell? ⟨h, 3, none⟩ = some (.slice (some ⟨b2, f2, none⟩) n cw) ∧ w1.drew.cell? ⟨b1, f1 + i, none⟩ = some (.pointer (some ⟨dq, 0, none⟩)) ∧ w1.drew.cell? ⟨b2, f2 + i, none⟩ = some (.pointer (some ⟨bq, 0, none⟩)) := ⟨(Below.refl _ _).drew, c1, k2, k3, z1, z2⟩
  go_wp2_with fail
  clear k2 k3 z1 z2
  have hz1 : ¬ (n : Int) = 0 := by have := HN0.out; omega
  have hz2 : ¬ n = 0 := HN0.out
  have hwn : IntKind.u64.wrap (n : Int) = (n : Int) := by rw [IntKind.wrap_u64]; omega
  -- REGION 23get
  refine wp_region_noPanic ?_
  refine wp_region_held_drew (S := (fun W : World => Below w1.heap.size w1 W ∧ W.cell? ⟨bx, 1, none⟩ = some (.int .i64 y.k) ∧ W.cell? ⟨h, 2, none⟩ = some (.slice (some ⟨b1, f1, none⟩) n cd) ∧ W.cell? ⟨h, 3, none⟩ = some (.slice (some ⟨b2, f2, none⟩) n cw) ∧ W.cell? ⟨b1, f1 + i, none⟩ = some (.pointer (some ⟨dq, 0, none⟩)) ∧ W.cell? ⟨b2, f2 + i, none⟩ = some (.pointer (some ⟨bq, 0, none⟩)))) (by kernel_rfl) ?_ (fun hH0 => ?_)
  · (try dsimp only); (first | assumption | exact hS0)
  refine wpAnyH_take (i := 0) (v := ?_) (by simp only [List.getElem?_toArray, List.getElem?_cons_zero]; rfl) (by kernel_rfl) (by kernel_rfl) (by kernel_rfl) (fun _ _ _ h => h) (Or.inl ⟨by rfl, ?_⟩) (by assumption) ?_
  rotate_left
  · intro w hSw; (try dsimp only at hSw); go_simp; (try with_reducible rfl)
  try simp only [Act.put, List.setIfInBounds_toArray, List.set_cons_zero, List.set_cons_succ]
  refine wpAnyH_take (i := 1) (v := ?_) (by simp only [List.getElem?_toArray, List.getElem?_cons_zero, List.getElem?_cons_succ]; rfl) (by kernel_rfl) (by kernel_rfl) (by kernel_rfl) (fun _ _ _ h => h) (Or.inl ⟨by rfl, ?_⟩) (by assumption) ?_
  rotate_left
  · intro w hSw; (try dsimp only at hSw); go_simp; (try with_reducible rfl)
  try simp only [Act.put, List.setIfInBounds_toArray, List.set_cons_zero, List.set_cons_succ]
  refine wpAnyH_take (i := 3) (v := ?_) (by simp only [List.getElem?_toArray, List.getElem?_cons_zero, List.getElem?_cons_succ]; rfl) (by kernel_rfl) (by kernel_rfl) (by kernel_rfl) (fun _ _ _ h => h) (Or.inl ⟨by rfl, ?_⟩) (by assumption) ?_
  rotate_left
  · intro w hSw; (try dsimp only at hSw); go_simp; (try with_reducible rfl)
  try simp only [Act.put, List.setIfInBounds_toArray, List.set_cons_zero, List.set_cons_succ]
  refine wpAnyH_take (i := 4) (v := ?_) (by simp only [List.getElem?_toArray, List.getElem?_cons_zero, List.getElem?_cons_succ]; rfl) (by kernel_rfl) (by kernel_rfl) (by kernel_rfl) (fun _ _ _ h => h) (Or.inl ⟨by rfl, ?_⟩) (by assumption) ?_
  rotate_left
  · intro w hSw; (try dsimp only at hSw); go_simp; (try with_reducible rfl)
  try simp only [Act.put, List.setIfInBounds_toArray, List.set_cons_zero, List.set_cons_succ]
  refine wpAnyH_take (i := 5) (v := ?_) (by simp only [List.getElem?_toArray, List.getElem?_cons_zero, List.getElem?_cons_succ]; rfl) (by kernel_rfl) (by kernel_rfl) (by kernel_rfl) (fun _ _ _ h => h) (Or.inl ⟨by rfl, ?_⟩) (by assumption) ?_
  rotate_left
  · intro w hSw; (try dsimp only at hSw); go_simp; (try with_reducible rfl)
  try simp only [Act.put, List.setIfInBounds_toArray, List.set_cons_zero, List.set_cons_succ]
  refine wpAnyH_take (i := 6) (v := ?_) (by simp only [List.getElem?_toArray, List.getElem?_cons_zero, List.getElem?_cons_succ]; rfl) (by kernel_rfl) (by kernel_rfl) (by kernel_rfl) (fun _ _ _ h => h) (Or.inl ⟨by rfl, ?_⟩) (by assumption) ?_
  rotate_left
  · intro w hSw; (try dsimp only at hSw); go_simp; (try with_reducible rfl)
  try simp only [Act.put, List.setIfInBounds_toArray, List.set_cons_zero, List.set_cons_succ]
  refine wpAnyH_take (i := 7) (v := ?_) (by simp only [List.getElem?_toArray, List.getElem?_cons_zero, List.getElem?_cons_succ]; rfl) (by kernel_rfl) (by kernel_rfl) (by kernel_rfl) (fun _ _ _ h => h) (Or.inl ⟨by rfl, ?_⟩) (by assumption) ?_
  rotate_left
  · intro w hSw; (try dsimp only at hSw); go_simp; (try with_reducible rfl)
  try simp only [Act.put, List.setIfInBounds_toArray, List.set_cons_zero, List.set_cons_succ]
  refine' join1 (fun W : World => Below w1.heap.size w1 W ∧ W.cell? ⟨bx, 1, none⟩ = some (.int .i64 y.k) ∧ W.cell? ⟨h, 2, none⟩ = some (.slice (some ⟨b1, f1, none⟩) n cd) ∧ W.cell? ⟨h, 3, none⟩ = some (.slice (some ⟨b2, f2, none⟩) n cw) ∧ W.cell? ⟨b1, f1 + i, none⟩ = some (.pointer (some ⟨dq, 0, none⟩)) ∧ W.cell? ⟨b2, f2 + i, none⟩ = some (.pointer (some ⟨bq, 0, none⟩))) _ (fun HJ1 => ?_) (fun wj1 hj1 => ?_)
  rotate_left
  · skip
    refine wpAnyH_ready (rs := [2, 8]) (by kernel_rfl) (by simp) ?_
    refine AllReadyH.cons (by simp only [List.getElem?_toArray, List.getElem?_cons_zero, List.getElem?_cons_succ]; rfl) (fun K hK => ?_) ?_
    go_simp
    refine hK.out _ _ ?_ (fun hH2 => ?_)
    · (try dsimp only); (first | assumption | exact hS0)
    clear hK K
    try simp only [Act.put, List.setIfInBounds_toArray, List.set_cons_zero, List.set_cons_succ]
    refine wpAnyH_ready (rs := [8]) (by kernel_rfl) (by simp) ?_
    refine AllReadyH.cons (by simp only [List.getElem?_toArray, List.getElem?_cons_zero, List.getElem?_cons_succ]; rfl) (fun K hK => ?_) AllReadyH.nil
    go_simp
    refine hK.out _ _ ?_ (fun hH3 => ?_)
    · (try dsimp only); (first | assumption | exact hS0)
    clear hK K hH2
    try simp only [Act.put, List.setIfInBounds_toArray, List.set_cons_zero, List.set_cons_succ]
    exact HJ1 _ (by assumption)
    refine AllReadyH.cons (by simp only [List.getElem?_toArray, List.getElem?_cons_zero, List.getElem?_cons_succ]; rfl) (fun K hK => ?_) AllReadyH.nil
    go_simp
    refine hK.out _ _ ?_ (fun hH4 => ?_)
    · (try dsimp only); (first | assumption | exact hS0)
    clear hK K
    try simp only [Act.put, List.setIfInBounds_toArray, List.set_cons_zero, List.set_cons_succ]
    refine wpAnyH_ready (rs := [2]) (by kernel_rfl) (by simp) ?_
    refine AllReadyH.cons (by simp only [List.getElem?_toArray, List.getElem?_cons_zero, List.getElem?_cons_succ]; rfl) (fun K hK => ?_) AllReadyH.nil
    go_simp
    refine hK.out _ _ ?_ (fun hH5 => ?_)
    · (try dsimp only); (first | assumption | exact hS0)
    clear hK K hH4
    try simp only [Act.put, List.setIfInBounds_toArray, List.set_cons_zero, List.set_cons_succ]
    exact HJ1 _ (by assumption)
  refine wpAnyH_take (i := 9) (v := ?_) (by simp only [List.getElem?_toArray, List.getElem?_cons_zero, List.getElem?_cons_succ]; rfl) (by kernel_rfl) (by kernel_rfl) (by kernel_rfl) (fun _ _ _ h => h) (Or.inl ⟨by rfl, ?_⟩) (by assumption) ?_
  rotate_left
  · intro w hSw; (try dsimp only at hSw); go_simp; (try with_reducible rfl)
  try simp only [Act.put, List.setIfInBounds_toArray, List.set_cons_zero, List.set_cons_succ]
  refine wpAnyH_ready (rs := [10]) (by kernel_rfl) (by simp) ?_
  refine AllReadyH.cons (by simp only [List.getElem?_toArray, List.getElem?_cons_zero, List.getElem?_cons_succ]; rfl) (fun K hK => ?_) AllReadyH.nil
  go_simp
  refine hK.out _ _ ?_ (fun hH6 => ?_)
  · (try dsimp only); (first | assumption | exact hS0)
  clear hK K
  try simp only [Act.put, List.setIfInBounds_toArray, List.set_cons_zero, List.set_cons_succ]
  refine wpAnyH_take (i := 11) (v := ?_) (by simp only [List.getElem?_toArray, List.getElem?_cons_zero, List.getElem?_cons_succ]; rfl) (by kernel_rfl) (by kernel_rfl) (by kernel_rfl) (fun _ _ _ h => h) (Or.inl ⟨by rfl, ?_⟩) (by assumption) ?_
  rotate_left
  · intro w hSw; (try dsimp only at hSw); go_simp; (try with_reducible rfl)
  try simp only [Act.put, List.setIfInBounds_toArray, List.set_cons_zero, List.set_cons_succ]
  refine wpAnyH_done (by kernel_rfl) ?_ _
  refine NoPanic.normal ?_
  skip
  -- END 23get
  rw [show IntKind.i64.wrap ((IntKind.u64.wrap y.k).tmod (n : Int)) = (i : Int) from (IntWalk.i64_left _).trans hi1]
  obtain ⟨hB3, c1_, k2, k3, z1, z2⟩ := hj1
  clear hi1 hz hz1 hz2 hwn hS0 c1_
  go_wp2_with fail
  go_quiet (fail)
  have hB := hB3.trans ((below_drewN wj1 nq).mono hB3.size)
  have H2 := hid (H1.out.below hB)
  have X2 := hid (X1.out.below hB)
  have K2 := hid (K1.out.trans (KeepB.below hB))
  clear hB hB3 H1 X1 K1 c0 c1 c2 c3 c4 c5 c6 c7 k0 k1 k2 k3 kt ks z1 z2 hfew hi2
  generalize wj1.drewN nq = w2 at *
  have c4 : w2.cell? ⟨bx, 4, none⟩ = some (.int .i64 y.key) := X2.out.1.cell 4
  have c0 : w2.cell? ⟨bx, 0, none⟩ = some (.int .i64 y.op) := X2.out.1.cell 0
  rw [OX.out] at c0
  clear OX
  obtain ⟨r, hr⟩ : ∃ r, getD Dq V.tab y.key = r := ⟨_, rfl⟩
  have HR := hid hr
  have HO := H2
  have XO := X2
  have KO := K2
  have HA := hid (H2.out.below (Below.refl w2.heap.size w2).drew)
  have XA := hid (X2.out.below (Below.refl w2.heap.size w2).drew)
  have KA := hid (K2.out.trans (KeepB.below (Below.refl w2.heap.size w2).drew))
  clear H2 X2 K2 hr
  have hS0 := And.intro HA.out.way.1 (And.intro HA.out.way.2.1 (And.intro HA.out.way.2.2.1 (And.intro HA.out.way.2.2.2 (show World.cell? _ ⟨bx, 4, none⟩ = some (.int .i64 y.key) from XA.out.1.cell 4))))
  have CD := hid (fun (W : World) (G : Nat → Nat) (k : HouseT W G p h vp c t s (.slice (some ⟨b1, f1, none⟩) n cd) (.slice (some ⟨b2, f2, none⟩) n cw) nx N n V V x) => house_getD k hin XD.out XDD.out y.key)
  rw [HR.out] at CD
  go_wp2_with fail
  refine' join3 (fun (b : Nat) (G : Nat → Nat) (W : World) => HouseT W G p h vp c t s (.slice (some ⟨b1, f1, none⟩) n cd) (.slice (some ⟨b2, f2, none⟩) n cw) nx N n V V (upd x i { x i with D := r.2 }) ∧ LocC W G (nx + 1) b 39 [.bool r.1.1.there, .string r.1.1.bytes] ∧ LocC W G nx bx 72 (vsL y) ∧ KeepB g w G W) _ (fun HJ => ?_) (fun ba ga wa hS => ?_)
  rotate_left
  · skip
    -- REGION 27
    refine wp_region_noPanic ?_
    refine wp_region_held_drew (S := (fun W' : World => W'.cell? ⟨h, 0, none⟩ = some (.pointer (some ⟨vp, 0, none⟩)) ∧ W'.cell? ⟨vp, 0, none⟩ = some (.pointer (some ⟨t, 0, none⟩)) ∧ W'.cell? ⟨h, 1, none⟩ = some (.pointer (some ⟨c, 0, none⟩)) ∧ W'.cell? ⟨c, 0, none⟩ = some (.pointer (some ⟨s, 0, none⟩)) ∧ W'.cell? ⟨bx, 4, none⟩ = some (.int .i64 y.key))) (by kernel_rfl) ?_ (fun hH0 => ?_)
    · (try dsimp only); (first | assumption | exact hS0)
    refine wpAnyH_take (i := 0) (v := ?_) (by simp only [List.getElem?_toArray, List.getElem?_cons_zero]; rfl) (by kernel_rfl) (by kernel_rfl) (by kernel_rfl) (fun _ _ _ h => h) (Or.inl ⟨by rfl, ?_⟩) (by assumption) ?_
    rotate_left
    · intro w hSw; (try dsimp only at hSw); go_simp; (try with_reducible rfl)
    try simp only [Act.put, List.setIfInBounds_toArray, List.set_cons_zero, List.set_cons_succ]
    refine wpAnyH_take (i := 1) (v := ?_) (by simp only [List.getElem?_toArray, List.getElem?_cons_zero, List.getElem?_cons_succ]; rfl) (by kernel_rfl) (by kernel_rfl) (by kernel_rfl) (fun _ _ _ h => h) (Or.inl ⟨by rfl, ?_⟩) (by assumption) ?_
    rotate_left
    · intro w hSw; (try dsimp only at hSw); go_simp; (try with_reducible rfl)
    try simp only [Act.put, List.setIfInBounds_toArray, List.set_cons_zero, List.set_cons_succ]
    refine wpAnyH_take (i := 2) (v := ?_) (by simp only [List.getElem?_toArray, List.getElem?_cons_zero, List.getElem?_cons_succ]; rfl) (by kernel_rfl) (by kernel_rfl) (by kernel_rfl) (fun _ _ _ h => h) (Or.inl ⟨by rfl, ?_⟩) (by assumption) ?_
    rotate_left
    · intro w hSw; (try dsimp only at hSw); go_simp; (try with_reducible rfl)
    try simp only [Act.put, List.setIfInBounds_toArray, List.set_cons_zero, List.set_cons_succ]
    refine wpAnyH_take (i := 3) (v := ?_) (by simp only [List.getElem?_toArray, List.getElem?_cons_zero, List.getElem?_cons_succ]; rfl) (by kernel_rfl) (by kernel_rfl) (by kernel_rfl) (fun _ _ _ h => h) (Or.inl ⟨by rfl, ?_⟩) (by assumption) ?_
    rotate_left
    · intro w hSw; (try dsimp only at hSw); go_simp; (try with_reducible rfl)
    try simp only [Act.put, List.setIfInBounds_toArray, List.set_cons_zero, List.set_cons_succ]
    refine wpAnyH_take (i := 4) (v := ?_) (by simp only [List.getElem?_toArray, List.getElem?_cons_zero, List.getElem?_cons_succ]; rfl) (by kernel_rfl) (by kernel_rfl) (by kernel_rfl) (fun _ _ _ h => h) (Or.inl ⟨by rfl, ?_⟩) (by assumption) ?_
    rotate_left
    · intro w hSw; (try dsimp only at hSw); go_simp; (try with_reducible rfl)
    try simp only [Act.put, List.setIfInBounds_toArray, List.set_cons_zero, List.set_cons_succ]
    refine wpAnyH_take (i := 5) (v := ?_) (by simp only [List.getElem?_toArray, List.getElem?_cons_zero, List.getElem?_cons_succ]; rfl) (by kernel_rfl) (by kernel_rfl) (by kernel_rfl) (fun _ _ _ h => h) (Or.inl ⟨by rfl, ?_⟩) (by assumption) ?_
    rotate_left
    · intro w hSw; (try dsimp only at hSw); go_simp; (try with_reducible rfl)
    try simp only [Act.put, List.setIfInBounds_toArray, List.set_cons_zero, List.set_cons_succ]
    refine wpAnyH_take (i := 6) (v := ?_) (by simp only [List.getElem?_toArray, List.getElem?_cons_zero, List.getElem?_cons_succ]; rfl) (by kernel_rfl) (by kernel_rfl) (by kernel_rfl) (fun _ _ _ h => h) (Or.inl ⟨by rfl, ?_⟩) (by assumption) ?_
    rotate_left
    · intro w hSw; (try dsimp only at hSw); go_simp; (try with_reducible rfl)
    try simp only [Act.put, List.setIfInBounds_toArray, List.set_cons_zero, List.set_cons_succ]
    refine wpAnyH_take (i := 7) (v := ?_) (by simp only [List.getElem?_toArray, List.getElem?_cons_zero, List.getElem?_cons_succ]; rfl) (by kernel_rfl) (by kernel_rfl) (by kernel_rfl) (fun _ _ _ h => h) (Or.inl ⟨by rfl, ?_⟩) (by assumption) ?_
    rotate_left
    · intro w hSw; (try dsimp only at hSw); go_simp; (try with_reducible rfl)
    try simp only [Act.put, List.setIfInBounds_toArray, List.set_cons_zero, List.set_cons_succ]
    refine wpAnyH_take (i := 8) (v := ?_) (by simp only [List.getElem?_toArray, List.getElem?_cons_zero, List.getElem?_cons_succ]; rfl) (by kernel_rfl) (by kernel_rfl) (by kernel_rfl) (fun _ _ _ h => h) (Or.inl ⟨by rfl, ?_⟩) (by assumption) ?_
    rotate_left
    · intro w hSw; (try dsimp only at hSw); go_simp; (try with_reducible rfl)
    try simp only [Act.put, List.setIfInBounds_toArray, List.set_cons_zero, List.set_cons_succ]
    refine wpAnyH_take (i := 9) (v := ?_) (by simp only [List.getElem?_toArray, List.getElem?_cons_zero, List.getElem?_cons_succ]; rfl) (by kernel_rfl) (by kernel_rfl) (by kernel_rfl) (fun _ _ _ h => h) (Or.inl ⟨by rfl, ?_⟩) (by assumption) ?_
    rotate_left
    · intro w hSw; (try dsimp only at hSw); go_simp; (try with_reducible rfl)
    try simp only [Act.put, List.setIfInBounds_toArray, List.set_cons_zero, List.set_cons_succ]
    refine wpAnyH_ready (rs := [10, 14]) (by kernel_rfl) (by simp) ?_
    refine AllReadyH.cons (by simp only [List.getElem?_toArray, List.getElem?_cons_zero, List.getElem?_cons_succ]; rfl) (fun K hK => ?_) ?_
    · skip
      go_simp
      go_at_call 20
      first
        | ((with_reducible refine (CD.out _ _ HL.out).mono ?_); rintro e w8 ⟨rfl, g8, hH, hE⟩; have HC := hid hH; have XC := hid (XL.out.frame hE (by omega)); have YC := hid (YL.out.frame hE (by omega)); have KC := hid (KL.out.trans (KeepB.evo hE (by omega))); have hS' := And.intro HC.out.way.1 (And.intro HC.out.way.2.1 (And.intro HC.out.way.2.2.1 (And.intro HC.out.way.2.2.2 (show World.cell? _ ⟨bx, 4, none⟩ = some (.int .i64 y.key) from XC.out.1.cell 4)))); clear hH hE HL KL XL YL)
        | ((with_reducible refine (CD.out _ _ HA.out).mono ?_); rintro e w7 ⟨rfl, g7, hH, hE⟩; have HM := hid hH; have XM := hid (XA.out.frame hE (by omega)); have KM := hid (KA.out.trans (KeepB.evo hE (by omega))); have hS' := And.intro HM.out.way.1 (And.intro HM.out.way.2.1 (And.intro HM.out.way.2.2.1 (And.intro HM.out.way.2.2.2 (show World.cell? _ ⟨bx, 4, none⟩ = some (.int .i64 y.key) from XM.out.1.cell 4)))); clear hH hE)
      try (obtain ⟨u0, u1, f0, f1⟩ := YC.out.1.two)
      try go_wp2_with fail
      refine hK.out _ _ ?_ (fun hH1 => ?_)
      · (try dsimp only); (first | assumption | exact hS0)
      clear hK K hH0
      try simp only [Act.put, List.setIfInBounds_toArray, List.set_cons_zero, List.set_cons_succ]
      refine wpAnyH_take (i := 11) (v := ?_) (by simp only [List.getElem?_toArray, List.getElem?_cons_zero, List.getElem?_cons_succ]; rfl) (by kernel_rfl) (by kernel_rfl) (by kernel_rfl) (fun _ _ _ h => h) (Or.inl ⟨by rfl, ?_⟩) (by assumption) ?_
      rotate_left
      · intro w hSw; (try dsimp only at hSw); go_simp; (try with_reducible rfl)
      try simp only [Act.put, List.setIfInBounds_toArray, List.set_cons_zero, List.set_cons_succ]
      refine wpAnyH_take (i := 12) (v := ?_) (by simp only [List.getElem?_toArray, List.getElem?_cons_zero, List.getElem?_cons_succ]; rfl) (by kernel_rfl) (by kernel_rfl) (by kernel_rfl) (fun _ _ _ h => h) (Or.inl ⟨by rfl, ?_⟩) (by assumption) ?_
      rotate_left
      · intro w hSw; (try dsimp only at hSw); go_simp; (try with_reducible rfl)
      try simp only [Act.put, List.setIfInBounds_toArray, List.set_cons_zero, List.set_cons_succ]
      refine wpAnyH_take (i := 13) (v := ?_) (by simp only [List.getElem?_toArray, List.getElem?_cons_zero, List.getElem?_cons_succ]; rfl) (by kernel_rfl) (by kernel_rfl) (by kernel_rfl) (fun _ _ _ h => h) (Or.inl ⟨by rfl, ?_⟩) (by assumption) ?_
      rotate_left
      · intro w hSw; (try dsimp only at hSw); go_simp; (try with_reducible rfl)
      try simp only [Act.put, List.setIfInBounds_toArray, List.set_cons_zero, List.set_cons_succ]
      refine wpAnyH_ready (rs := [14]) (by kernel_rfl) (by simp) ?_
      refine AllReadyH.cons (by simp only [List.getElem?_toArray, List.getElem?_cons_zero, List.getElem?_cons_succ]; rfl) (fun K hK => ?_) AllReadyH.nil
      go_simp
      first
        | (have hA : Evo 0 0 g7 (extc g7 w7 (nx + 1)) w7 (w7.alloc (.cells #[.bool false, .string ⟨#[]⟩] 39)) := Evo.alloc g7 (nx + 1) w7 (.cells #[.bool false, .string ⟨#[]⟩] 39); have HC := hid (HM.out.frame hA (by omega)); have XC := hid (XM.out.frame hA (by omega)); have KC := hid (KM.out.trans (KeepB.evo hA (by omega))); have YC : Hid (LocC (w7.alloc (.cells #[.bool false, .string ⟨#[]⟩] 39)) (extc g7 w7 (nx + 1)) (nx + 1) w7.heap.size 39 [.bool false, .string ⟨#[]⟩]) := hid (LocC.new g7 (nx + 1) w7 39 [.bool false, .string ⟨#[]⟩]); have hS' := And.intro HC.out.way.1 (And.intro HC.out.way.2.1 (And.intro HC.out.way.2.2.1 (And.intro HC.out.way.2.2.2 (show World.cell? _ ⟨bx, 4, none⟩ = some (.int .i64 y.key) from XC.out.1.cell 4)))); clear hA HM KM XM; generalize (w7.alloc (.cells #[.bool false, .string ⟨#[]⟩] 39)) = w8 at *; generalize extc g7 w7 (nx + 1) = g8 at *; generalize w7.heap.size = bv at *)
        | (have hA : Evo 0 0 g1 (extc g1 w2 (nx + 1)) w2 (w2.alloc (.cells #[.bool false, .string ⟨#[]⟩] 39)).drew := ((Evo.alloc g1 (nx + 1) w2 (.cells #[.bool false, .string ⟨#[]⟩] 39)).trans (Evo.drew 0 0 _ _)); have HL := hid (HO.out.frame hA (by omega)); have XL := hid (XO.out.frame hA (by omega)); have KL := hid (KO.out.trans (KeepB.evo hA (by omega))); have YL : Hid (LocC (w2.alloc (.cells #[.bool false, .string ⟨#[]⟩] 39)).drew (extc g1 w2 (nx + 1)) (nx + 1) w2.heap.size 39 [.bool false, .string ⟨#[]⟩]) := hid (LocC.new g1 (nx + 1) w2 39 [.bool false, .string ⟨#[]⟩]); have hS' := And.intro HL.out.way.1 (And.intro HL.out.way.2.1 (And.intro HL.out.way.2.2.1 (And.intro HL.out.way.2.2.2 (show World.cell? _ ⟨bx, 4, none⟩ = some (.int .i64 y.key) from XL.out.1.cell 4)))); clear hA; generalize (w2.alloc (.cells #[.bool false, .string ⟨#[]⟩] 39)).drew = w7 at *; generalize extc g1 w2 (nx + 1) = g7 at *; generalize w2.heap.size = bv at *)
      try (obtain ⟨u0, u1, f0, f1⟩ := YC.out.1.two)
      try go_wp2_with fail
      refine hK.out _ _ ?_ (fun hH2 => ?_)
      · (try dsimp only); (first | assumption | exact hS0)
      clear hK K hH1
      try simp only [Act.put, List.setIfInBounds_toArray, List.set_cons_zero, List.set_cons_succ]
      refine wpAnyH_ready (rs := [15]) (by kernel_rfl) (by simp) ?_
      refine AllReadyH.cons (by simp only [List.getElem?_toArray, List.getElem?_cons_zero, List.getElem?_cons_succ]; rfl) (fun K hK => ?_) AllReadyH.nil
      go_simp
      have hE := (evo_store (g := g8) (w := w8) (b := bv) (i := 0) (.bool r.1.1.there) YC.out.2).trans (evo_store (w := w8.setCell ⟨bv, 0, none⟩ (.bool r.1.1.there)) (i := 1) (.string r.1.1.bytes) YC.out.2)
      have YZ : Hid (LocC _ g8 (nx + 1) bv 39 [.bool r.1.1.there, .string r.1.1.bytes]) := hid ((YC.out.set 0 (.bool r.1.1.there)).set 1 (.string r.1.1.bytes))
      have HZ := hid (HC.out.frame hE (by omega))
      have XZ := hid (XC.out.frame hE (by omega)); have KZ := hid (KC.out.trans (KeepB.evo hE (by omega)))
      have hS' := And.intro HZ.out.way.1 (And.intro HZ.out.way.2.1 (And.intro HZ.out.way.2.2.1 (And.intro HZ.out.way.2.2.2 (show World.cell? _ ⟨bx, 4, none⟩ = some (.int .i64 y.key) from XZ.out.1.cell 4))))
      clear hE HC KC YC XC
      generalize (w8.setCell ⟨bv, 0, none⟩ (.bool r.1.1.there)).setCell ⟨bv, 1, none⟩ (.string r.1.1.bytes) = w9 at *
      try go_wp2_with fail
      refine hK.out _ _ ?_ (fun hH3 => ?_)
      · (try dsimp only); (first | assumption | exact hS0)
      clear hK K hH2
      try simp only [Act.put, List.setIfInBounds_toArray, List.set_cons_zero, List.set_cons_succ]
      refine wpAnyH_take (i := 16) (v := ?_) (by simp only [List.getElem?_toArray, List.getElem?_cons_zero, List.getElem?_cons_succ]; rfl) (by kernel_rfl) (by kernel_rfl) (by kernel_rfl) (fun _ _ _ h => h) (Or.inl ⟨by rfl, ?_⟩) (by assumption) ?_
      rotate_left
      · intro w hSw; (try dsimp only at hSw); go_simp; (try with_reducible rfl)
      try simp only [Act.put, List.setIfInBounds_toArray, List.set_cons_zero, List.set_cons_succ]
      refine wpAnyH_done (by kernel_rfl) ?_ _
      refine NoPanic.normal ?_
      exact HJ bv g8 w9 ⟨HZ.out, YZ.out, XZ.out, KZ.out⟩
    refine AllReadyH.cons (by simp only [List.getElem?_toArray, List.getElem?_cons_zero, List.getElem?_cons_succ]; rfl) (fun K hK => ?_) AllReadyH.nil
    go_simp
    first
      | (have hA : Evo 0 0 g7 (extc g7 w7 (nx + 1)) w7 (w7.alloc (.cells #[.bool false, .string ⟨#[]⟩] 39)) := Evo.alloc g7 (nx + 1) w7 (.cells #[.bool false, .string ⟨#[]⟩] 39); have HC := hid (HM.out.frame hA (by omega)); have XC := hid (XM.out.frame hA (by omega)); have KC := hid (KM.out.trans (KeepB.evo hA (by omega))); have YC : Hid (LocC (w7.alloc (.cells #[.bool false, .string ⟨#[]⟩] 39)) (extc g7 w7 (nx + 1)) (nx + 1) w7.heap.size 39 [.bool false, .string ⟨#[]⟩]) := hid (LocC.new g7 (nx + 1) w7 39 [.bool false, .string ⟨#[]⟩]); have hS' := And.intro HC.out.way.1 (And.intro HC.out.way.2.1 (And.intro HC.out.way.2.2.1 (And.intro HC.out.way.2.2.2 (show World.cell? _ ⟨bx, 4, none⟩ = some (.int .i64 y.key) from XC.out.1.cell 4)))); clear hA HM KM XM; generalize (w7.alloc (.cells #[.bool false, .string ⟨#[]⟩] 39)) = w8 at *; generalize extc g7 w7 (nx + 1) = g8 at *; generalize w7.heap.size = bv at *)
      | (have hA : Evo 0 0 g1 (extc g1 w2 (nx + 1)) w2 (w2.alloc (.cells #[.bool false, .string ⟨#[]⟩] 39)).drew := ((Evo.alloc g1 (nx + 1) w2 (.cells #[.bool false, .string ⟨#[]⟩] 39)).trans (Evo.drew 0 0 _ _)); have HL := hid (HO.out.frame hA (by omega)); have XL := hid (XO.out.frame hA (by omega)); have KL := hid (KO.out.trans (KeepB.evo hA (by omega))); have YL : Hid (LocC (w2.alloc (.cells #[.bool false, .string ⟨#[]⟩] 39)).drew (extc g1 w2 (nx + 1)) (nx + 1) w2.heap.size 39 [.bool false, .string ⟨#[]⟩]) := hid (LocC.new g1 (nx + 1) w2 39 [.bool false, .string ⟨#[]⟩]); have hS' := And.intro HL.out.way.1 (And.intro HL.out.way.2.1 (And.intro HL.out.way.2.2.1 (And.intro HL.out.way.2.2.2 (show World.cell? _ ⟨bx, 4, none⟩ = some (.int .i64 y.key) from XL.out.1.cell 4)))); clear hA; generalize (w2.alloc (.cells #[.bool false, .string ⟨#[]⟩] 39)).drew = w7 at *; generalize extc g1 w2 (nx + 1) = g7 at *; generalize w2.heap.size = bv at *)
    try (obtain ⟨u0, u1, f0, f1⟩ := YC.out.1.two)
    try go_wp2_with fail
    refine hK.out _ _ ?_ (fun hH4 => ?_)
    · (try dsimp only); (first | assumption | exact hS0)
    clear hK K hH0
    try simp only [Act.put, List.setIfInBounds_toArray, List.set_cons_zero, List.set_cons_succ]
    refine wpAnyH_ready (rs := [10]) (by kernel_rfl) (by simp) ?_
    refine AllReadyH.cons (by simp only [List.getElem?_toArray, List.getElem?_cons_zero, List.getElem?_cons_succ]; rfl) (fun K hK => ?_) AllReadyH.nil
    go_simp
    go_at_call 20
    first
      | ((with_reducible refine (CD.out _ _ HL.out).mono ?_); rintro e w8 ⟨rfl, g8, hH, hE⟩; have HC := hid hH; have XC := hid (XL.out.frame hE (by omega)); have YC := hid (YL.out.frame hE (by omega)); have KC := hid (KL.out.trans (KeepB.evo hE (by omega))); have hS' := And.intro HC.out.way.1 (And.intro HC.out.way.2.1 (And.intro HC.out.way.2.2.1 (And.intro HC.out.way.2.2.2 (show World.cell? _ ⟨bx, 4, none⟩ = some (.int .i64 y.key) from XC.out.1.cell 4)))); clear hH hE HL KL XL YL)
      | ((with_reducible refine (CD.out _ _ HA.out).mono ?_); rintro e w7 ⟨rfl, g7, hH, hE⟩; have HM := hid hH; have XM := hid (XA.out.frame hE (by omega)); have KM := hid (KA.out.trans (KeepB.evo hE (by omega))); have hS' := And.intro HM.out.way.1 (And.intro HM.out.way.2.1 (And.intro HM.out.way.2.2.1 (And.intro HM.out.way.2.2.2 (show World.cell? _ ⟨bx, 4, none⟩ = some (.int .i64 y.key) from XM.out.1.cell 4)))); clear hH hE)
    try (obtain ⟨u0, u1, f0, f1⟩ := YC.out.1.two)
    try go_wp2_with fail
    refine hK.out _ _ ?_ (fun hH5 => ?_)
    · (try dsimp only); (first | assumption | exact hS0)
    clear hK K hH4
    try simp only [Act.put, List.setIfInBounds_toArray, List.set_cons_zero, List.set_cons_succ]
    refine wpAnyH_take (i := 11) (v := ?_) (by simp only [List.getElem?_toArray, List.getElem?_cons_zero, List.getElem?_cons_succ]; rfl) (by kernel_rfl) (by kernel_rfl) (by kernel_rfl) (fun _ _ _ h => h) (Or.inl ⟨by rfl, ?_⟩) (by assumption) ?_
    rotate_left
    · intro w hSw; (try dsimp only at hSw); go_simp; (try with_reducible rfl)
    try simp only [Act.put, List.setIfInBounds_toArray, List.set_cons_zero, List.set_cons_succ]
    refine wpAnyH_take (i := 12) (v := ?_) (by simp only [List.getElem?_toArray, List.getElem?_cons_zero, List.getElem?_cons_succ]; rfl) (by kernel_rfl) (by kernel_rfl) (by kernel_rfl) (fun _ _ _ h => h) (Or.inl ⟨by rfl, ?_⟩) (by assumption) ?_
    rotate_left
    · intro w hSw; (try dsimp only at hSw); go_simp; (try with_reducible rfl)
    try simp only [Act.put, List.setIfInBounds_toArray, List.set_cons_zero, List.set_cons_succ]
    refine wpAnyH_take (i := 13) (v := ?_) (by simp only [List.getElem?_toArray, List.getElem?_cons_zero, List.getElem?_cons_succ]; rfl) (by kernel_rfl) (by kernel_rfl) (by kernel_rfl) (fun _ _ _ h => h) (Or.inl ⟨by rfl, ?_⟩) (by assumption) ?_
    rotate_left
    · intro w hSw; (try dsimp only at hSw); go_simp; (try with_reducible rfl)
    try simp only [Act.put, List.setIfInBounds_toArray, List.set_cons_zero, List.set_cons_succ]
    refine wpAnyH_ready (rs := [15]) (by kernel_rfl) (by simp) ?_
    refine AllReadyH.cons (by simp only [List.getElem?_toArray, List.getElem?_cons_zero, List.getElem?_cons_succ]; rfl) (fun K hK => ?_) AllReadyH.nil
    go_simp
    have hE := (evo_store (g := g8) (w := w8) (b := bv) (i := 0) (.bool r.1.1.there) YC.out.2).trans (evo_store (w := w8.setCell ⟨bv, 0, none⟩ (.bool r.1.1.there)) (i := 1) (.string r.1.1.bytes) YC.out.2)
    have YZ : Hid (LocC _ g8 (nx + 1) bv 39 [.bool r.1.1.there, .string r.1.1.bytes]) := hid ((YC.out.set 0 (.bool r.1.1.there)).set 1 (.string r.1.1.bytes))
    have HZ := hid (HC.out.frame hE (by omega))
    have XZ := hid (XC.out.frame hE (by omega)); have KZ := hid (KC.out.trans (KeepB.evo hE (by omega)))
    have hS' := And.intro HZ.out.way.1 (And.intro HZ.out.way.2.1 (And.intro HZ.out.way.2.2.1 (And.intro HZ.out.way.2.2.2 (show World.cell? _ ⟨bx, 4, none⟩ = some (.int .i64 y.key) from XZ.out.1.cell 4))))
    clear hE HC KC YC XC
    generalize (w8.setCell ⟨bv, 0, none⟩ (.bool r.1.1.there)).setCell ⟨bv, 1, none⟩ (.string r.1.1.bytes) = w9 at *
    try go_wp2_with fail
    refine hK.out _ _ ?_ (fun hH6 => ?_)
    · (try dsimp only); (first | assumption | exact hS0)
    clear hK K hH5
    try simp only [Act.put, List.setIfInBounds_toArray, List.set_cons_zero, List.set_cons_succ]
    refine wpAnyH_take (i := 16) (v := ?_) (by simp only [List.getElem?_toArray, List.getElem?_cons_zero, List.getElem?_cons_succ]; rfl) (by kernel_rfl) (by kernel_rfl) (by kernel_rfl) (fun _ _ _ h => h) (Or.inl ⟨by rfl, ?_⟩) (by assumption) ?_
    rotate_left
    · intro w hSw; (try dsimp only at hSw); go_simp; (try with_reducible rfl)
    try simp only [Act.put, List.setIfInBounds_toArray, List.set_cons_zero, List.set_cons_succ]
    refine wpAnyH_done (by kernel_rfl) ?_ _
    refine NoPanic.normal ?_
    exact HJ bv g8 w9 ⟨HZ.out, YZ.out, XZ.out, KZ.out⟩
    -- END 27
  · skip
    obtain ⟨hH, hY, hX, hK⟩ := hS
    clear HA XA KA HO XO KO hS0 CD
    have HO := hid hH
    have VO := hid hY
    have XO := hid hX
    have KO := hid hK
    have HA := hid (hH.below (Below.refl wa.heap.size wa).drew)
    have VA := hid (hY.below (Below.refl wa.heap.size wa).drew)
    have XA := hid (hX.below (Below.refl wa.heap.size wa).drew)
    have KA := hid (hK.trans (KeepB.below (Below.refl wa.heap.size wa).drew))
    clear hH hY hX hK
    have hS0 := And.intro HA.out.way.1 (And.intro HA.out.way.2.1 (And.intro HA.out.way.2.2.1 (And.intro HA.out.way.2.2.2 (show World.cell? _ ⟨bx, 4, none⟩ = some (.int .i64 y.key) from XA.out.1.cell 4))))
    have XE2 : Hid ((upd x i { x i with D := r.2 } i).E = Dq) := hid (by rw [upd_same]; exact XDE.out)
    have XB2 : Hid ((upd x i { x i with D := r.2 } i).b = bq) := hid (by rw [upd_same]; exact XB.out)
    have CD := hid (fun (W : World) (G : Nat → Nat) (k : HouseT W G p h vp c t s (.slice (some ⟨b1, f1, none⟩) n cd) (.slice (some ⟨b2, f2, none⟩) n cw) nx N n V V (upd x i { x i with D := r.2 })) => house_getW k (by omega) hin XB2.out XE2.out y.key)
    rw [HR.out] at CD
    go_wp2_with fail
    refine' join3 (fun (b : Nat) (G : Nat → Nat) (W : World) => HouseT W G p h vp c t s (.slice (some ⟨b1, f1, none⟩) n cd) (.slice (some ⟨b2, f2, none⟩) n cw) nx (N + 1) n V V (upd (upd x i { x i with D := r.2 }) i { upd x i { x i with D := r.2 } i with E := r.2 }) ∧ LocC W G (nx + 2) b 39 [.bool r.1.1.there, .string r.1.1.bytes] ∧ LocC W G (nx + 1) ba 39 [.bool r.1.1.there, .string r.1.1.bytes] ∧ KeepB g w G W) _ (fun HJ => ?_) (fun bb gb wb hS => ?_)
    rotate_left
    · skip
      -- REGION 28
      refine wp_region_noPanic ?_
      refine wp_region_held_drew (S := (fun W' : World => W'.cell? ⟨h, 0, none⟩ = some (.pointer (some ⟨vp, 0, none⟩)) ∧ W'.cell? ⟨vp, 0, none⟩ = some (.pointer (some ⟨t, 0, none⟩)) ∧ W'.cell? ⟨h, 1, none⟩ = some (.pointer (some ⟨c, 0, none⟩)) ∧ W'.cell? ⟨c, 0, none⟩ = some (.pointer (some ⟨s, 0, none⟩)) ∧ W'.cell? ⟨bx, 4, none⟩ = some (.int .i64 y.key))) (by kernel_rfl) ?_ (fun hH0 => ?_)
      · (try dsimp only); (first | assumption | exact hS0)
      refine wpAnyH_take (i := 0) (v := ?_) (by simp only [List.getElem?_toArray, List.getElem?_cons_zero]; rfl) (by kernel_rfl) (by kernel_rfl) (by kernel_rfl) (fun _ _ _ h => h) (Or.inl ⟨by rfl, ?_⟩) (by assumption) ?_
      rotate_left
      · intro w hSw; (try dsimp only at hSw); go_simp; (try with_reducible rfl)
      try simp only [Act.put, List.setIfInBounds_toArray, List.set_cons_zero, List.set_cons_succ]
      refine wpAnyH_take (i := 1) (v := ?_) (by simp only [List.getElem?_toArray, List.getElem?_cons_zero, List.getElem?_cons_succ]; rfl) (by kernel_rfl) (by kernel_rfl) (by kernel_rfl) (fun _ _ _ h => h) (Or.inl ⟨by rfl, ?_⟩) (by assumption) ?_
      rotate_left
      · intro w hSw; (try dsimp only at hSw); go_simp; (try with_reducible rfl)
      try simp only [Act.put, List.setIfInBounds_toArray, List.set_cons_zero, List.set_cons_succ]
      refine wpAnyH_take (i := 2) (v := ?_) (by simp only [List.getElem?_toArray, List.getElem?_cons_zero, List.getElem?_cons_succ]; rfl) (by kernel_rfl) (by kernel_rfl) (by kernel_rfl) (fun _ _ _ h => h) (Or.inl ⟨by rfl, ?_⟩) (by assumption) ?_
      rotate_left
      · intro w hSw; (try dsimp only at hSw); go_simp; (try with_reducible rfl)
      try simp only [Act.put, List.setIfInBounds_toArray, List.set_cons_zero, List.set_cons_succ]
      refine wpAnyH_take (i := 3) (v := ?_) (by simp only [List.getElem?_toArray, List.getElem?_cons_zero, List.getElem?_cons_succ]; rfl) (by kernel_rfl) (by kernel_rfl) (by kernel_rfl) (fun _ _ _ h => h) (Or.inl ⟨by rfl, ?_⟩) (by assumption) ?_
      rotate_left
      · intro w hSw; (try dsimp only at hSw); go_simp; (try with_reducible rfl)
      try simp only [Act.put, List.setIfInBounds_toArray, List.set_cons_zero, List.set_cons_succ]
      refine wpAnyH_take (i := 4) (v := ?_) (by simp only [List.getElem?_toArray, List.getElem?_cons_zero, List.getElem?_cons_succ]; rfl) (by kernel_rfl) (by kernel_rfl) (by kernel_rfl) (fun _ _ _ h => h) (Or.inl ⟨by rfl, ?_⟩) (by assumption) ?_
      rotate_left
      · intro w hSw; (try dsimp only at hSw); go_simp; (try with_reducible rfl)
      try simp only [Act.put, List.setIfInBounds_toArray, List.set_cons_zero, List.set_cons_succ]
      refine wpAnyH_take (i := 5) (v := ?_) (by simp only [List.getElem?_toArray, List.getElem?_cons_zero, List.getElem?_cons_succ]; rfl) (by kernel_rfl) (by kernel_rfl) (by kernel_rfl) (fun _ _ _ h => h) (Or.inl ⟨by rfl, ?_⟩) (by assumption) ?_
      rotate_left
      · intro w hSw; (try dsimp only at hSw); go_simp; (try with_reducible rfl)
      try simp only [Act.put, List.setIfInBounds_toArray, List.set_cons_zero, List.set_cons_succ]
      refine wpAnyH_take (i := 6) (v := ?_) (by simp only [List.getElem?_toArray, List.getElem?_cons_zero, List.getElem?_cons_succ]; rfl) (by kernel_rfl) (by kernel_rfl) (by kernel_rfl) (fun _ _ _ h => h) (Or.inl ⟨by rfl, ?_⟩) (by assumption) ?_
      rotate_left
      · intro w hSw; (try dsimp only at hSw); go_simp; (try with_reducible rfl)
      try simp only [Act.put, List.setIfInBounds_toArray, List.set_cons_zero, List.set_cons_succ]
      refine wpAnyH_take (i := 7) (v := ?_) (by simp only [List.getElem?_toArray, List.getElem?_cons_zero, List.getElem?_cons_succ]; rfl) (by kernel_rfl) (by kernel_rfl) (by kernel_rfl) (fun _ _ _ h => h) (Or.inl ⟨by rfl, ?_⟩) (by assumption) ?_
      rotate_left
      · intro w hSw; (try dsimp only at hSw); go_simp; (try with_reducible rfl)
      try simp only [Act.put, List.setIfInBounds_toArray, List.set_cons_zero, List.set_cons_succ]
      refine wpAnyH_take (i := 8) (v := ?_) (by simp only [List.getElem?_toArray, List.getElem?_cons_zero, List.getElem?_cons_succ]; rfl) (by kernel_rfl) (by kernel_rfl) (by kernel_rfl) (fun _ _ _ h => h) (Or.inl ⟨by rfl, ?_⟩) (by assumption) ?_
      rotate_left
      · intro w hSw; (try dsimp only at hSw); go_simp; (try with_reducible rfl)
      try simp only [Act.put, List.setIfInBounds_toArray, List.set_cons_zero, List.set_cons_succ]
      refine wpAnyH_take (i := 9) (v := ?_) (by simp only [List.getElem?_toArray, List.getElem?_cons_zero, List.getElem?_cons_succ]; rfl) (by kernel_rfl) (by kernel_rfl) (by kernel_rfl) (fun _ _ _ h => h) (Or.inl ⟨by rfl, ?_⟩) (by assumption) ?_
      rotate_left
      · intro w hSw; (try dsimp only at hSw); go_simp; (try with_reducible rfl)
      try simp only [Act.put, List.setIfInBounds_toArray, List.set_cons_zero, List.set_cons_succ]
      refine wpAnyH_ready (rs := [10, 14]) (by kernel_rfl) (by simp) ?_
      refine AllReadyH.cons (by simp only [List.getElem?_toArray, List.getElem?_cons_zero, List.getElem?_cons_succ]; rfl) (fun K hK => ?_) ?_
      · skip
        go_simp
        go_at_call 21
        first
          | ((with_reducible refine (CD.out _ _ HL.out).mono ?_); rintro e w8 ⟨rfl, g8, hH, hE⟩; have HC := hid hH; have XC := hid (XL.out.frame hE (by omega)); have VC := hid (VL.out.frame hE (by omega)); have YC := hid (YL.out.frame hE (by omega)); have KC := hid (KL.out.trans (KeepB.evo hE (by omega))); have hS' := And.intro HC.out.way.1 (And.intro HC.out.way.2.1 (And.intro HC.out.way.2.2.1 (And.intro HC.out.way.2.2.2 (show World.cell? _ ⟨bx, 4, none⟩ = some (.int .i64 y.key) from XC.out.1.cell 4)))); clear hH hE HL KL XL VL YL)
          | ((with_reducible refine (CD.out _ _ HA.out).mono ?_); rintro e w7 ⟨rfl, g7, hH, hE⟩; have HM := hid hH; have XM := hid (XA.out.frame hE (by omega)); have VM := hid (VA.out.frame hE (by omega)); have KM := hid (KA.out.trans (KeepB.evo hE (by omega))); have hS' := And.intro HM.out.way.1 (And.intro HM.out.way.2.1 (And.intro HM.out.way.2.2.1 (And.intro HM.out.way.2.2.2 (show World.cell? _ ⟨bx, 4, none⟩ = some (.int .i64 y.key) from XM.out.1.cell 4)))); clear hH hE)
        try (obtain ⟨u0, u1, f0, f1⟩ := YC.out.1.two)
        try go_wp2_with fail
        refine hK.out _ _ ?_ (fun hH1 => ?_)
        · (try dsimp only); (first | assumption | exact hS0)
        clear hK K hH0
        try simp only [Act.put, List.setIfInBounds_toArray, List.set_cons_zero, List.set_cons_succ]
        refine wpAnyH_take (i := 11) (v := ?_) (by simp only [List.getElem?_toArray, List.getElem?_cons_zero, List.getElem?_cons_succ]; rfl) (by kernel_rfl) (by kernel_rfl) (by kernel_rfl) (fun _ _ _ h => h) (Or.inl ⟨by rfl, ?_⟩) (by assumption) ?_
        rotate_left
        · intro w hSw; (try dsimp only at hSw); go_simp; (try with_reducible rfl)
        try simp only [Act.put, List.setIfInBounds_toArray, List.set_cons_zero, List.set_cons_succ]
        refine wpAnyH_take (i := 12) (v := ?_) (by simp only [List.getElem?_toArray, List.getElem?_cons_zero, List.getElem?_cons_succ]; rfl) (by kernel_rfl) (by kernel_rfl) (by kernel_rfl) (fun _ _ _ h => h) (Or.inl ⟨by rfl, ?_⟩) (by assumption) ?_
        rotate_left
        · intro w hSw; (try dsimp only at hSw); go_simp; (try with_reducible rfl)
        try simp only [Act.put, List.setIfInBounds_toArray, List.set_cons_zero, List.set_cons_succ]
        refine wpAnyH_take (i := 13) (v := ?_) (by simp only [List.getElem?_toArray, List.getElem?_cons_zero, List.getElem?_cons_succ]; rfl) (by kernel_rfl) (by kernel_rfl) (by kernel_rfl) (fun _ _ _ h => h) (Or.inl ⟨by rfl, ?_⟩) (by assumption) ?_
        rotate_left
        · intro w hSw; (try dsimp only at hSw); go_simp; (try with_reducible rfl)
        try simp only [Act.put, List.setIfInBounds_toArray, List.set_cons_zero, List.set_cons_succ]
        refine wpAnyH_ready (rs := [14]) (by kernel_rfl) (by simp) ?_
        refine AllReadyH.cons (by simp only [List.getElem?_toArray, List.getElem?_cons_zero, List.getElem?_cons_succ]; rfl) (fun K hK => ?_) AllReadyH.nil
        go_simp
        first
          | (have hA : Evo 0 0 g7 (extc g7 w7 (nx + 2)) w7 (w7.alloc (.cells #[.bool false, .string ⟨#[]⟩] 39)) := Evo.alloc g7 (nx + 2) w7 (.cells #[.bool false, .string ⟨#[]⟩] 39); have HC := hid (HM.out.frame hA (by omega)); have XC := hid (XM.out.frame hA (by omega)); have VC := hid (VM.out.frame hA (by omega)); have KC := hid (KM.out.trans (KeepB.evo hA (by omega))); have YC : Hid (LocC (w7.alloc (.cells #[.bool false, .string ⟨#[]⟩] 39)) (extc g7 w7 (nx + 2)) (nx + 2) w7.heap.size 39 [.bool false, .string ⟨#[]⟩]) := hid (LocC.new g7 (nx + 2) w7 39 [.bool false, .string ⟨#[]⟩]); have hS' := And.intro HC.out.way.1 (And.intro HC.out.way.2.1 (And.intro HC.out.way.2.2.1 (And.intro HC.out.way.2.2.2 (show World.cell? _ ⟨bx, 4, none⟩ = some (.int .i64 y.key) from XC.out.1.cell 4)))); clear hA HM KM XM VM; generalize (w7.alloc (.cells #[.bool false, .string ⟨#[]⟩] 39)) = w8 at *; generalize extc g7 w7 (nx + 2) = g8 at *; generalize w7.heap.size = bv at *)
          | (have hA : Evo 0 0 ga (extc ga wa (nx + 2)) wa (wa.alloc (.cells #[.bool false, .string ⟨#[]⟩] 39)).drew := ((Evo.alloc ga (nx + 2) wa (.cells #[.bool false, .string ⟨#[]⟩] 39)).trans (Evo.drew 0 0 _ _)); have HL := hid (HO.out.frame hA (by omega)); have XL := hid (XO.out.frame hA (by omega)); have VL := hid (VO.out.frame hA (by omega)); have KL := hid (KO.out.trans (KeepB.evo hA (by omega))); have YL : Hid (LocC (wa.alloc (.cells #[.bool false, .string ⟨#[]⟩] 39)).drew (extc ga wa (nx + 2)) (nx + 2) wa.heap.size 39 [.bool false, .string ⟨#[]⟩]) := hid (LocC.new ga (nx + 2) wa 39 [.bool false, .string ⟨#[]⟩]); have hS' := And.intro HL.out.way.1 (And.intro HL.out.way.2.1 (And.intro HL.out.way.2.2.1 (And.intro HL.out.way.2.2.2 (show World.cell? _ ⟨bx, 4, none⟩ = some (.int .i64 y.key) from XL.out.1.cell 4)))); clear hA; generalize (wa.alloc (.cells #[.bool false, .string ⟨#[]⟩] 39)).drew = w7 at *; generalize extc ga wa (nx + 2) = g7 at *; generalize wa.heap.size = bv at *)
        try (obtain ⟨u0, u1, f0, f1⟩ := YC.out.1.two)
        try go_wp2_with fail
        refine hK.out _ _ ?_ (fun hH2 => ?_)
        · (try dsimp only); (first | assumption | exact hS0)
        clear hK K hH1
        try simp only [Act.put, List.setIfInBounds_toArray, List.set_cons_zero, List.set_cons_succ]
        refine wpAnyH_ready (rs := [15]) (by kernel_rfl) (by simp) ?_
        refine AllReadyH.cons (by simp only [List.getElem?_toArray, List.getElem?_cons_zero, List.getElem?_cons_succ]; rfl) (fun K hK => ?_) AllReadyH.nil
        go_simp
        have hE := (evo_store (g := g8) (w := w8) (b := bv) (i := 0) (.bool r.1.1.there) YC.out.2).trans (evo_store (w := w8.setCell ⟨bv, 0, none⟩ (.bool r.1.1.there)) (i := 1) (.string r.1.1.bytes) YC.out.2)
        have YZ : Hid (LocC _ g8 (nx + 2) bv 39 [.bool r.1.1.there, .string r.1.1.bytes]) := hid ((YC.out.set 0 (.bool r.1.1.there)).set 1 (.string r.1.1.bytes))
        have HZ := hid (HC.out.frame hE (by omega))
        have XZ := hid (XC.out.frame hE (by omega)); have VZ := hid (VC.out.frame hE (by omega)); have KZ := hid (KC.out.trans (KeepB.evo hE (by omega)))
        have hS' := And.intro HZ.out.way.1 (And.intro HZ.out.way.2.1 (And.intro HZ.out.way.2.2.1 (And.intro HZ.out.way.2.2.2 (show World.cell? _ ⟨bx, 4, none⟩ = some (.int .i64 y.key) from XZ.out.1.cell 4))))
        clear hE HC KC YC XC VC
        generalize (w8.setCell ⟨bv, 0, none⟩ (.bool r.1.1.there)).setCell ⟨bv, 1, none⟩ (.string r.1.1.bytes) = w9 at *
        try go_wp2_with fail
        refine hK.out _ _ ?_ (fun hH3 => ?_)
        · (try dsimp only); (first | assumption | exact hS0)
        clear hK K hH2
        try simp only [Act.put, List.setIfInBounds_toArray, List.set_cons_zero, List.set_cons_succ]
        refine wpAnyH_take (i := 16) (v := ?_) (by simp only [List.getElem?_toArray, List.getElem?_cons_zero, List.getElem?_cons_succ]; rfl) (by kernel_rfl) (by kernel_rfl) (by kernel_rfl) (fun _ _ _ h => h) (Or.inl ⟨by rfl, ?_⟩) (by assumption) ?_
        rotate_left
        · intro w hSw; (try dsimp only at hSw); go_simp; (try with_reducible rfl)
        try simp only [Act.put, List.setIfInBounds_toArray, List.set_cons_zero, List.set_cons_succ]
        refine wpAnyH_done (by kernel_rfl) ?_ _
        refine NoPanic.normal ?_
        exact HJ bv g8 w9 ⟨HZ.out, YZ.out, VZ.out, KZ.out⟩
      refine AllReadyH.cons (by simp only [List.getElem?_toArray, List.getElem?_cons_zero, List.getElem?_cons_succ]; rfl) (fun K hK => ?_) AllReadyH.nil
      go_simp
      first
        | (have hA : Evo 0 0 g7 (extc g7 w7 (nx + 2)) w7 (w7.alloc (.cells #[.bool false, .string ⟨#[]⟩] 39)) := Evo.alloc g7 (nx + 2) w7 (.cells #[.bool false, .string ⟨#[]⟩] 39); have HC := hid (HM.out.frame hA (by omega)); have XC := hid (XM.out.frame hA (by omega)); have VC := hid (VM.out.frame hA (by omega)); have KC := hid (KM.out.trans (KeepB.evo hA (by omega))); have YC : Hid (LocC (w7.alloc (.cells #[.bool false, .string ⟨#[]⟩] 39)) (extc g7 w7 (nx + 2)) (nx + 2) w7.heap.size 39 [.bool false, .string ⟨#[]⟩]) := hid (LocC.new g7 (nx + 2) w7 39 [.bool false, .string ⟨#[]⟩]); have hS' := And.intro HC.out.way.1 (And.intro HC.out.way.2.1 (And.intro HC.out.way.2.2.1 (And.intro HC.out.way.2.2.2 (show World.cell? _ ⟨bx, 4, none⟩ = some (.int .i64 y.key) from XC.out.1.cell 4)))); clear hA HM KM XM VM; generalize (w7.alloc (.cells #[.bool false, .string ⟨#[]⟩] 39)) = w8 at *; generalize extc g7 w7 (nx + 2) = g8 at *; generalize w7.heap.size = bv at *)
        | (have hA : Evo 0 0 ga (extc ga wa (nx + 2)) wa (wa.alloc (.cells #[.bool false, .string ⟨#[]⟩] 39)).drew := ((Evo.alloc ga (nx + 2) wa (.cells #[.bool false, .string ⟨#[]⟩] 39)).trans (Evo.drew 0 0 _ _)); have HL := hid (HO.out.frame hA (by omega)); have XL := hid (XO.out.frame hA (by omega)); have VL := hid (VO.out.frame hA (by omega)); have KL := hid (KO.out.trans (KeepB.evo hA (by omega))); have YL : Hid (LocC (wa.alloc (.cells #[.bool false, .string ⟨#[]⟩] 39)).drew (extc ga wa (nx + 2)) (nx + 2) wa.heap.size 39 [.bool false, .string ⟨#[]⟩]) := hid (LocC.new ga (nx + 2) wa 39 [.bool false, .string ⟨#[]⟩]); have hS' := And.intro HL.out.way.1 (And.intro HL.out.way.2.1 (And.intro HL.out.way.2.2.1 (And.intro HL.out.way.2.2.2 (show World.cell? _ ⟨bx, 4, none⟩ = some (.int .i64 y.key) from XL.out.1.cell 4)))); clear hA; generalize (wa.alloc (.cells #[.bool false, .string ⟨#[]⟩] 39)).drew = w7 at *; generalize extc ga wa (nx + 2) = g7 at *; generalize wa.heap.size = bv at *)
      try (obtain ⟨u0, u1, f0, f1⟩ := YC.out.1.two)
      try go_wp2_with fail
      refine hK.out _ _ ?_ (fun hH4 => ?_)
      · (try dsimp only); (first | assumption | exact hS0)
      clear hK K hH0
      try simp only [Act.put, List.setIfInBounds_toArray, List.set_cons_zero, List.set_cons_succ]
      refine wpAnyH_ready (rs := [10]) (by kernel_rfl) (by simp) ?_
      refine AllReadyH.cons (by simp only [List.getElem?_toArray, List.getElem?_cons_zero, List.getElem?_cons_succ]; rfl) (fun K hK => ?_) AllReadyH.nil
      go_simp
      go_at_call 21
      first
        | ((with_reducible refine (CD.out _ _ HL.out).mono ?_); rintro e w8 ⟨rfl, g8, hH, hE⟩; have HC := hid hH; have XC := hid (XL.out.frame hE (by omega)); have VC := hid (VL.out.frame hE (by omega)); have YC := hid (YL.out.frame hE (by omega)); have KC := hid (KL.out.trans (KeepB.evo hE (by omega))); have hS' := And.intro HC.out.way.1 (And.intro HC.out.way.2.1 (And.intro HC.out.way.2.2.1 (And.intro HC.out.way.2.2.2 (show World.cell? _ ⟨bx, 4, none⟩ = some (.int .i64 y.key) from XC.out.1.cell 4)))); clear hH hE HL KL XL VL YL)
        | ((with_reducible refine (CD.out _ _ HA.out).mono ?_); rintro e w7 ⟨rfl, g7, hH, hE⟩; have HM := hid hH; have XM := hid (XA.out.frame hE (by omega)); have VM := hid (VA.out.frame hE (by omega)); have KM := hid (KA.out.trans (KeepB.evo hE (by omega))); have hS' := And.intro HM.out.way.1 (And.intro HM.out.way.2.1 (And.intro HM.out.way.2.2.1 (And.intro HM.out.way.2.2.2 (show World.cell? _ ⟨bx, 4, none⟩ = some (.int .i64 y.key) from XM.out.1.cell 4)))); clear hH hE)
      try (obtain ⟨u0, u1, f0, f1⟩ := YC.out.1.two)
      try go_wp2_with fail
      refine hK.out _ _ ?_ (fun hH5 => ?_)
      · (try dsimp only); (first | assumption | exact hS0)
      clear hK K hH4
      try simp only [Act.put, List.setIfInBounds_toArray, List.set_cons_zero, List.set_cons_succ]
      refine wpAnyH_take (i := 11) (v := ?_) (by simp only [List.getElem?_toArray, List.getElem?_cons_zero, List.getElem?_cons_succ]; rfl) (by kernel_rfl) (by kernel_rfl) (by kernel_rfl) (fun _ _ _ h => h) (Or.inl ⟨by rfl, ?_⟩) (by assumption) ?_
      rotate_left
      · intro w hSw; (try dsimp only at hSw); go_simp; (try with_reducible rfl)
      try simp only [Act.put, List.setIfInBounds_toArray, List.set_cons_zero, List.set_cons_succ]
      refine wpAnyH_take (i := 12) (v := ?_) (by simp only [List.getElem?_toArray, List.getElem?_cons_zero, List.getElem?_cons_succ]; rfl) (by kernel_rfl) (by kernel_rfl) (by kernel_rfl) (fun _ _ _ h => h) (Or.inl ⟨by rfl, ?_⟩) (by assumption) ?_
      rotate_left
      · intro w hSw; (try dsimp only at hSw); go_simp; (try with_reducible rfl)
      try simp only [Act.put, List.setIfInBounds_toArray, List.set_cons_zero, List.set_cons_succ]
      refine wpAnyH_take (i := 13) (v := ?_) (by simp only [List.getElem?_toArray, List.getElem?_cons_zero, List.getElem?_cons_succ]; rfl) (by kernel_rfl) (by kernel_rfl) (by kernel_rfl) (fun _ _ _ h => h) (Or.inl ⟨by rfl, ?_⟩) (by assumption) ?_
      rotate_left
      · intro w hSw; (try dsimp only at hSw); go_simp; (try with_reducible rfl)
      try simp only [Act.put, List.setIfInBounds_toArray, List.set_cons_zero, List.set_cons_succ]
      refine wpAnyH_ready (rs := [15]) (by kernel_rfl) (by simp) ?_
      refine AllReadyH.cons (by simp only [List.getElem?_toArray, List.getElem?_cons_zero, List.getElem?_cons_succ]; rfl) (fun K hK => ?_) AllReadyH.nil
      go_simp
      have hE := (evo_store (g := g8) (w := w8) (b := bv) (i := 0) (.bool r.1.1.there) YC.out.2).trans (evo_store (w := w8.setCell ⟨bv, 0, none⟩ (.bool r.1.1.there)) (i := 1) (.string r.1.1.bytes) YC.out.2)
      have YZ : Hid (LocC _ g8 (nx + 2) bv 39 [.bool r.1.1.there, .string r.1.1.bytes]) := hid ((YC.out.set 0 (.bool r.1.1.there)).set 1 (.string r.1.1.bytes))
      have HZ := hid (HC.out.frame hE (by omega))
      have XZ := hid (XC.out.frame hE (by omega)); have VZ := hid (VC.out.frame hE (by omega)); have KZ := hid (KC.out.trans (KeepB.evo hE (by omega)))
      have hS' := And.intro HZ.out.way.1 (And.intro HZ.out.way.2.1 (And.intro HZ.out.way.2.2.1 (And.intro HZ.out.way.2.2.2 (show World.cell? _ ⟨bx, 4, none⟩ = some (.int .i64 y.key) from XZ.out.1.cell 4))))
      clear hE HC KC YC XC VC
      generalize (w8.setCell ⟨bv, 0, none⟩ (.bool r.1.1.there)).setCell ⟨bv, 1, none⟩ (.string r.1.1.bytes) = w9 at *
      try go_wp2_with fail
      refine hK.out _ _ ?_ (fun hH6 => ?_)
      · (try dsimp only); (first | assumption | exact hS0)
      clear hK K hH5
      try simp only [Act.put, List.setIfInBounds_toArray, List.set_cons_zero, List.set_cons_succ]
      refine wpAnyH_take (i := 16) (v := ?_) (by simp only [List.getElem?_toArray, List.getElem?_cons_zero, List.getElem?_cons_succ]; rfl) (by kernel_rfl) (by kernel_rfl) (by kernel_rfl) (fun _ _ _ h => h) (Or.inl ⟨by rfl, ?_⟩) (by assumption) ?_
      rotate_left
      · intro w hSw; (try dsimp only at hSw); go_simp; (try with_reducible rfl)
      try simp only [Act.put, List.setIfInBounds_toArray, List.set_cons_zero, List.set_cons_succ]
      refine wpAnyH_done (by kernel_rfl) ?_ _
      refine NoPanic.normal ?_
      exact HJ bv g8 w9 ⟨HZ.out, YZ.out, VZ.out, KZ.out⟩
      -- END 28
    · skip
      obtain ⟨hH, hY, hV, hK⟩ := hS
      clear HA XA KA VA HO XO KO VO hS0 CD
      obtain ⟨p0, p1, -, -⟩ := hV.1.two
      obtain ⟨p2, p3, -, -⟩ := hY.1.two
      have HZ := hid hH
      have KZ := hid hK
      clear hH hY hV hK
      go_wp2_with fail
      go_ret
      exact ⟨rfl, gb, V, ⟨vp, c, _, _, nx, n, _, HZ.out.all.moreN (by omega), upd_get rfl DE.out⟩, fun h => h, KZ.out⟩

set_option maxHeartbeats 4000000 in
set_option maxRecDepth 100000 in
theorem house_put (g : Nat → Nat) (p h N : Nat) (V : Vt) (y : Vst) (w : World) (hp : 1 ≤ p) (hN : N + 8 < 1000000) (hy : y.v.bytes.size ≤ maxLen) (hH : HouseAt w g p h N V) (hop : y.op = 2) :
    Calls Try.prog 43 #[.pointer (some ⟨h, 0, none⟩), .agg #[.int .i64 y.op, .int .i64 y.k, .int .i64 y.mode, .int .i64 y.at_, .int .i64 y.key, .int .i64 y.keep, .bool y.v.there, .string y.v.bytes]] w (StepPost g p h N V w) := by
  obtain ⟨vp, c, vd, vw, nx, n, x, hC, hDE⟩ := hH
  obtain ⟨t, s, hT⟩ := hC.toT
  have hnx := hC.nxt
  have H0 := hid hT
  have DE := hid hDE
  have OP := hid hop
  clear hC hDE hT hop
  go_enter Try.func43, Try.ntmps43
  try go_upto_region 1 with (fail)
  have hA := Evo.alloc g nx w (.cells #[.int .i64 y.op, .int .i64 y.k, .int .i64 y.mode, .int .i64 y.at_, .int .i64 y.key, .int .i64 y.keep, .bool y.v.there, .string y.v.bytes] 72)
  have X1 : Hid (LocC (w.alloc (.cells #[.int .i64 y.op, .int .i64 y.k, .int .i64 y.mode, .int .i64 y.at_, .int .i64 y.key, .int .i64 y.keep, .bool y.v.there, .string y.v.bytes] 72)) (extc g w nx) nx w.heap.size 72 (vsL y)) := hid (LocC.new g nx w 72 (vsL y))
  have H1 := hid (H0.out.frame hA (by omega))
  have K1 := hid (KeepB.evo hA (by omega))
  clear hA H0
  generalize w.alloc (.cells #[.int .i64 y.op, .int .i64 y.k, .int .i64 y.mode, .int .i64 y.at_, .int .i64 y.key, .int .i64 y.keep, .bool y.v.there, .string y.v.bytes] 72) = w1 at *
  generalize extc g w nx = g1 at *
  generalize w.heap.size = bx at *
  obtain ⟨c0, c1, c2, c3, c4, c5, c6, c7⟩ : w1.cell? ⟨bx, 0, none⟩ = some (.int .i64 y.op) ∧ w1.cell? ⟨bx, 1, none⟩ = some (.int .i64 y.k) ∧ w1.cell? ⟨bx, 2, none⟩ = some (.int .i64 y.mode) ∧ w1.cell? ⟨bx, 3, none⟩ = some (.int .i64 y.at_) ∧ w1.cell? ⟨bx, 4, none⟩ = some (.int .i64 y.key) ∧ w1.cell? ⟨bx, 5, none⟩ = some (.int .i64 y.keep) ∧ w1.cell? ⟨bx, 6, none⟩ = some (.bool y.v.there) ∧ w1.cell? ⟨bx, 7, none⟩ = some (.string y.v.bytes) :=
    ⟨X1.out.1.cell 0, X1.out.1.cell 1, X1.out.1.cell 2, X1.out.1.cell 3, X1.out.1.cell 4, X1.out.1.cell 5, X1.out.1.cell 6, X1.out.1.cell 7⟩
  obtain ⟨k0, kt, k1, ks⟩ := H1.out.way
  obtain ⟨k2, k3⟩ : w1.cell? ⟨h, 2, none⟩ = some vd ∧ w1.cell? ⟨h, 3, none⟩ = some vw := ⟨H1.out.all.loc.1.cell 2, H1.out.all.loc.1.cell 3⟩
  rw [OP.out] at c0
  have OX := OP
  clear OP
  obtain ⟨ad, cd, hvd, sd, -⟩ := H1.out.all.rd.slice
  obtain ⟨aw, cw, hvw, sw, -⟩ := H1.out.all.rb.slice
  rw [rowD_length] at hvd
  rw [rowB_length] at hvw
  subst hvd
  subst hvw
  have hfew := H1.out.all.few
  have SD := hid sd
  have SW := hid sw
  clear sd sw
  by_cases hn0 : n = 0
  · subst hn0
    go_wp2_with fail
    go_ret
    exact ⟨rfl, g1, V, ⟨vp, c, _, _, nx, 0, x, H1.out.all.moreN (by omega), DE.out⟩, fun h => h, K1.out⟩
  have hz : ((n : Int) == 0) = false := by rw [beq_eq_false_iff_ne]; omega
  obtain ⟨i, hi1, hi2⟩ := umodH y.k n ⟨by omega, by omega⟩
  have hin : i < n := by omega
  have hi0 : (0 : Int) ≤ (i : Int) := by omega
  obtain ⟨b1, f1, rfl⟩ : ∃ b o, ad = some ⟨b, o, none⟩ := by
    rcases SD.out with e | ⟨b, o, e, -⟩
    · have := rowD_length n x; rw [e] at this; simp at this; omega
    · exact ⟨b, o, e⟩
  obtain ⟨b2, f2, rfl⟩ : ∃ b o, aw = some ⟨b, o, none⟩ := by
    rcases SW.out with e | ⟨b, o, e, -⟩
    · have := rowB_length n x; rw [e] at this; simp at this; omega
    · exact ⟨b, o, e⟩
  have z1 : w1.cell? ⟨b1, f1 + i, none⟩ = some (.pointer (some ⟨(x i).d, 0, none⟩)) := by
    rcases SD.out with e | ⟨b, o, e, hc⟩
    · have := rowD_length n x; rw [e] at this; simp at this; omega
    · cases e; exact hc _ _ (rowD_get x hin)
  have z2 : w1.cell? ⟨b2, f2 + i, none⟩ = some (.pointer (some ⟨(x i).b, 0, none⟩)) := by
    rcases SW.out with e | ⟨b, o, e, hc⟩
    · have := rowB_length n x; rw [e] at this; simp at this; omega
    · cases e; exact hc _ _ (rowB_get x hin)
  obtain ⟨dq, hdq⟩ : ∃ d, (x i).d = d := ⟨_, rfl⟩
  obtain ⟨bq, hbq⟩ : ∃ b, (x i).b = b := ⟨_, rfl⟩
  obtain ⟨Dq, hDq⟩ : ∃ D, (x i).D = D := ⟨_, rfl⟩
  rw [hdq] at z1
  rw [hbq] at z2
  have XD := hid hdq
  have XB := hid hbq
  have XDD := hid hDq
  have XDE := hid ((DE.out i hin).symm.trans hDq)
  have HN0 := hid hn0
  clear hdq hbq hDq SD SW hn0
  have hS0 : Below w1.heap.size w1 w1.drew ∧ w1.drew.cell? ⟨bx, 1, none⟩ = some (.int .i64 y.k) ∧ w1.drew.cell? ⟨h, 2, none⟩ = some (.slice (some ⟨b1, f1, none⟩) n cd) ∧ w1.drew.cell? ⟨h, 3, none⟩ = some (.slice (some ⟨b2, f2, none⟩) n cw) ∧ w1.drew.cell? ⟨b1, f1 + i, none⟩ = some (.pointer (some ⟨dq, 0, none⟩)) ∧ w1.drew.cell? ⟨b2, f2 + i, none⟩ = some (.pointer (some ⟨bq, 0, none⟩)) := ⟨(Below.refl _ _).drew, c1, k2, k3, z1, z2⟩
  go_wp2_with fail
  clear k2 k3 z1 z2
  have hz1 : ¬ (n : Int) = 0 := by have := HN0.out; omega
  have hz2 : ¬ n = 0 := HN0.out
  have hwn : IntKind.u64.wrap (n : Int) = (n : Int) := by rw [IntKind.wrap_u64]; omega
  -- REGION 23put
  refine wp_region_noPanic ?_
  refine wp_region_held_drew (S := (fun W : World => Below w1.heap.size w1 W ∧ W.cell? ⟨bx, 1, none⟩ = some (.int .i64 y.k) ∧ W.cell? ⟨h, 2, none⟩ = some (.slice (some ⟨b1, f1, none⟩) n cd) ∧ W.cell? ⟨h, 3, none⟩ = some (.slice (some ⟨b2, f2, none⟩) n cw) ∧ W.cell? ⟨b1, f1 + i, none⟩ = some (.pointer (some ⟨dq, 0, none⟩)) ∧ W.cell? ⟨b2, f2 + i, none⟩ = some (.pointer (some ⟨bq, 0, none⟩)))) (by kernel_rfl) ?_ (fun hH0 => ?_)
  · (try dsimp only); (first | assumption | exact hS0)
  refine wpAnyH_take (i := 0) (v := ?_) (by simp only [List.getElem?_toArray, List.getElem?_cons_zero]; rfl) (by kernel_rfl) (by kernel_rfl) (by kernel_rfl) (fun _ _ _ h => h) (Or.inl ⟨by rfl, ?_⟩) (by assumption) ?_
  rotate_left
  · intro w hSw; (try dsimp only at hSw); go_simp; (try with_reducible rfl)
  try simp only [Act.put, List.setIfInBounds_toArray, List.set_cons_zero, List.set_cons_succ]
  refine wpAnyH_take (i := 1) (v := ?_) (by simp only [List.getElem?_toArray, List.getElem?_cons_zero, List.getElem?_cons_succ]; rfl) (by kernel_rfl) (by kernel_rfl) (by kernel_rfl) (fun _ _ _ h => h) (Or.inl ⟨by rfl, ?_⟩) (by assumption) ?_
  rotate_left
  · intro w hSw; (try dsimp only at hSw); go_simp; (try with_reducible rfl)
  try simp only [Act.put, List.setIfInBounds_toArray, List.set_cons_zero, List.set_cons_succ]
  refine wpAnyH_take (i := 3) (v := ?_) (by simp only [List.getElem?_toArray, List.getElem?_cons_zero, List.getElem?_cons_succ]; rfl) (by kernel_rfl) (by kernel_rfl) (by kernel_rfl) (fun _ _ _ h => h) (Or.inl ⟨by rfl, ?_⟩) (by assumption) ?_
  rotate_left
  · intro w hSw; (try dsimp only at hSw); go_simp; (try with_reducible rfl)
  try simp only [Act.put, List.setIfInBounds_toArray, List.set_cons_zero, List.set_cons_succ]
  refine wpAnyH_take (i := 4) (v := ?_) (by simp only [List.getElem?_toArray, List.getElem?_cons_zero, List.getElem?_cons_succ]; rfl) (by kernel_rfl) (by kernel_rfl) (by kernel_rfl) (fun _ _ _ h => h) (Or.inl ⟨by rfl, ?_⟩) (by assumption) ?_
  rotate_left
  · intro w hSw; (try dsimp only at hSw); go_simp; (try with_reducible rfl)
  try simp only [Act.put, List.setIfInBounds_toArray, List.set_cons_zero, List.set_cons_succ]
  refine wpAnyH_take (i := 5) (v := ?_) (by simp only [List.getElem?_toArray, List.getElem?_cons_zero, List.getElem?_cons_succ]; rfl) (by kernel_rfl) (by kernel_rfl) (by kernel_rfl) (fun _ _ _ h => h) (Or.inl ⟨by rfl, ?_⟩) (by assumption) ?_
  rotate_left
  · intro w hSw; (try dsimp only at hSw); go_simp; (try with_reducible rfl)
  try simp only [Act.put, List.setIfInBounds_toArray, List.set_cons_zero, List.set_cons_succ]
  refine wpAnyH_take (i := 6) (v := ?_) (by simp only [List.getElem?_toArray, List.getElem?_cons_zero, List.getElem?_cons_succ]; rfl) (by kernel_rfl) (by kernel_rfl) (by kernel_rfl) (fun _ _ _ h => h) (Or.inl ⟨by rfl, ?_⟩) (by assumption) ?_
  rotate_left
  · intro w hSw; (try dsimp only at hSw); go_simp; (try with_reducible rfl)
  try simp only [Act.put, List.setIfInBounds_toArray, List.set_cons_zero, List.set_cons_succ]
  refine wpAnyH_take (i := 7) (v := ?_) (by simp only [List.getElem?_toArray, List.getElem?_cons_zero, List.getElem?_cons_succ]; rfl) (by kernel_rfl) (by kernel_rfl) (by kernel_rfl) (fun _ _ _ h => h) (Or.inl ⟨by rfl, ?_⟩) (by assumption) ?_
  rotate_left
  · intro w hSw; (try dsimp only at hSw); go_simp; (try with_reducible rfl)
  try simp only [Act.put, List.setIfInBounds_toArray, List.set_cons_zero, List.set_cons_succ]
  refine' join1 (fun W : World => Below w1.heap.size w1 W ∧ W.cell? ⟨bx, 1, none⟩ = some (.int .i64 y.k) ∧ W.cell? ⟨h, 2, none⟩ = some (.slice (some ⟨b1, f1, none⟩) n cd) ∧ W.cell? ⟨h, 3, none⟩ = some (.slice (some ⟨b2, f2, none⟩) n cw) ∧ W.cell? ⟨b1, f1 + i, none⟩ = some (.pointer (some ⟨dq, 0, none⟩)) ∧ W.cell? ⟨b2, f2 + i, none⟩ = some (.pointer (some ⟨bq, 0, none⟩))) _ (fun HJ1 => ?_) (fun wj1 hj1 => ?_)
  rotate_left
  · skip
    refine wpAnyH_ready (rs := [2, 8]) (by kernel_rfl) (by simp) ?_
    refine AllReadyH.cons (by simp only [List.getElem?_toArray, List.getElem?_cons_zero, List.getElem?_cons_succ]; rfl) (fun K hK => ?_) ?_
    go_simp
    refine hK.out _ _ ?_ (fun hH2 => ?_)
    · (try dsimp only); (first | assumption | exact hS0)
    clear hK K
    try simp only [Act.put, List.setIfInBounds_toArray, List.set_cons_zero, List.set_cons_succ]
    refine wpAnyH_ready (rs := [8]) (by kernel_rfl) (by simp) ?_
    refine AllReadyH.cons (by simp only [List.getElem?_toArray, List.getElem?_cons_zero, List.getElem?_cons_succ]; rfl) (fun K hK => ?_) AllReadyH.nil
    go_simp
    refine hK.out _ _ ?_ (fun hH3 => ?_)
    · (try dsimp only); (first | assumption | exact hS0)
    clear hK K hH2
    try simp only [Act.put, List.setIfInBounds_toArray, List.set_cons_zero, List.set_cons_succ]
    exact HJ1 _ (by assumption)
    refine AllReadyH.cons (by simp only [List.getElem?_toArray, List.getElem?_cons_zero, List.getElem?_cons_succ]; rfl) (fun K hK => ?_) AllReadyH.nil
    go_simp
    refine hK.out _ _ ?_ (fun hH4 => ?_)
    · (try dsimp only); (first | assumption | exact hS0)
    clear hK K
    try simp only [Act.put, List.setIfInBounds_toArray, List.set_cons_zero, List.set_cons_succ]
    refine wpAnyH_ready (rs := [2]) (by kernel_rfl) (by simp) ?_
    refine AllReadyH.cons (by simp only [List.getElem?_toArray, List.getElem?_cons_zero, List.getElem?_cons_succ]; rfl) (fun K hK => ?_) AllReadyH.nil
    go_simp
    refine hK.out _ _ ?_ (fun hH5 => ?_)
    · (try dsimp only); (first | assumption | exact hS0)
    clear hK K hH4
    try simp only [Act.put, List.setIfInBounds_toArray, List.set_cons_zero, List.set_cons_succ]
    exact HJ1 _ (by assumption)
  refine wpAnyH_take (i := 9) (v := ?_) (by simp only [List.getElem?_toArray, List.getElem?_cons_zero, List.getElem?_cons_succ]; rfl) (by kernel_rfl) (by kernel_rfl) (by kernel_rfl) (fun _ _ _ h => h) (Or.inl ⟨by rfl, ?_⟩) (by assumption) ?_
  rotate_left
  · intro w hSw; (try dsimp only at hSw); go_simp; (try with_reducible rfl)
  try simp only [Act.put, List.setIfInBounds_toArray, List.set_cons_zero, List.set_cons_succ]
  refine wpAnyH_ready (rs := [10]) (by kernel_rfl) (by simp) ?_
  refine AllReadyH.cons (by simp only [List.getElem?_toArray, List.getElem?_cons_zero, List.getElem?_cons_succ]; rfl) (fun K hK => ?_) AllReadyH.nil
  go_simp
  refine hK.out _ _ ?_ (fun hH6 => ?_)
  · (try dsimp only); (first | assumption | exact hS0)
  clear hK K
  try simp only [Act.put, List.setIfInBounds_toArray, List.set_cons_zero, List.set_cons_succ]
  refine wpAnyH_take (i := 11) (v := ?_) (by simp only [List.getElem?_toArray, List.getElem?_cons_zero, List.getElem?_cons_succ]; rfl) (by kernel_rfl) (by kernel_rfl) (by kernel_rfl) (fun _ _ _ h => h) (Or.inl ⟨by rfl, ?_⟩) (by assumption) ?_
  rotate_left
  · intro w hSw; (try dsimp only at hSw); go_simp; (try with_reducible rfl)
  try simp only [Act.put, List.setIfInBounds_toArray, List.set_cons_zero, List.set_cons_succ]
  refine wpAnyH_done (by kernel_rfl) ?_ _
  refine NoPanic.normal ?_
  skip
  -- END 23put
  rw [show IntKind.i64.wrap ((IntKind.u64.wrap y.k).tmod (n : Int)) = (i : Int) from (IntWalk.i64_left _).trans hi1]
  obtain ⟨hB3, c1_, k2, k3, z1, z2⟩ := hj1
  clear hi1 hz hz1 hz2 hwn hS0 c1_
  go_wp2_with fail
  go_quiet (fail)
  have hB := hB3.trans ((below_drewN wj1 nq).mono hB3.size)
  have H2 := hid (H1.out.below hB)
  have X2 := hid (X1.out.below hB)
  have K2 := hid (K1.out.trans (KeepB.below hB))
  clear hB hB3 H1 X1 K1 c0 c1 c2 c3 c4 c5 c6 c7 k0 k1 k2 k3 kt ks z1 z2 hfew hi2
  generalize wj1.drewN nq = w2 at *
  have c0 : w2.cell? ⟨bx, 0, none⟩ = some (.int .i64 y.op) := X2.out.1.cell 0
  rw [OX.out] at c0
  clear OX
  obtain ⟨r, hr⟩ : ∃ r, putD Dq y.key y.v = r := ⟨_, rfl⟩
  have HR := hid hr
  have HA := hid (H2.out.below (Below.refl w2.heap.size w2).drew)
  have XA := hid (X2.out.below (Below.refl w2.heap.size w2).drew)
  have KA := hid (K2.out.trans (KeepB.below (Below.refl w2.heap.size w2).drew))
  obtain ⟨c4, c6, c7⟩ : w2.cell? ⟨bx, 4, none⟩ = some (.int .i64 y.key) ∧ w2.cell? ⟨bx, 6, none⟩ = some (.bool y.v.there) ∧ w2.cell? ⟨bx, 7, none⟩ = some (.string y.v.bytes) := ⟨X2.out.1.cell 4, X2.out.1.cell 6, X2.out.1.cell 7⟩
  have hS0 : w2.drew.cell? ⟨bx, 4, none⟩ = some (.int .i64 y.key) ∧ w2.drew.cell? ⟨bx, 6, none⟩ = some (.bool y.v.there) ∧ w2.drew.cell? ⟨bx, 7, none⟩ = some (.string y.v.bytes) := ⟨c4, c6, c7⟩
  clear H2 X2 K2 hr
  have PD := hid (fun (W : World) (G : Nat → Nat) (N : Nat) (x0 : Nat → En) (k : HouseT W G p h vp c t s (.slice (some ⟨b1, f1, none⟩) n cd) (.slice (some ⟨b2, f2, none⟩) n cw) nx N n V V x0) (h1 : (x0 i).d = dq) (h2 : (x0 i).D = Dq) => house_putD k hin h1 h2 y.key y.v hy)
  have PW := hid (fun (W : World) (G : Nat → Nat) (x0 : Nat → En) (k : HouseT W G p h vp c t s (.slice (some ⟨b1, f1, none⟩) n cd) (.slice (some ⟨b2, f2, none⟩) n cw) nx N n V V x0) (h1 : (x0 i).b = bq) (h2 : (x0 i).E = Dq) => house_putW k (by omega) hin h1 h2 y.key y.v hy)
  rw [HR.out] at PD PW
  have XS1 : Hid ((upd x i { x i with E := r.2 } i).d = dq) := hid (by rw [upd_same]; exact XD.out)
  have XS2 : Hid ((upd x i { x i with E := r.2 } i).D = Dq) := hid (by rw [upd_same]; exact XDD.out)
  have XT1 : Hid ((upd x i { x i with D := r.2 } i).b = bq) := hid (by rw [upd_same]; exact XB.out)
  have XT2 : Hid ((upd x i { x i with D := r.2 } i).E = Dq) := hid (by rw [upd_same]; exact XDE.out)
  go_wp2_with fail
  -- REGION 31
  refine wp_region_noPanic ?_
  refine wp_region_held_drew (S := (fun W' : World => W'.cell? ⟨bx, 4, none⟩ = some (.int .i64 y.key) ∧ W'.cell? ⟨bx, 6, none⟩ = some (.bool y.v.there) ∧ W'.cell? ⟨bx, 7, none⟩ = some (.string y.v.bytes))) (by kernel_rfl) ?_ (fun hH0 => ?_)
  · (try dsimp only); (first | assumption | exact hS0)
  refine wpAnyH_take (i := 0) (v := ?_) (by simp only [List.getElem?_toArray, List.getElem?_cons_zero]; rfl) (by kernel_rfl) (by kernel_rfl) (by kernel_rfl) (fun _ _ _ h => h) (Or.inl ⟨by rfl, ?_⟩) (by assumption) ?_
  rotate_left
  · intro w hSw; (try dsimp only at hSw); go_simp; (try with_reducible rfl)
  try simp only [Act.put, List.setIfInBounds_toArray, List.set_cons_zero, List.set_cons_succ]
  refine wpAnyH_take (i := 1) (v := ?_) (by simp only [List.getElem?_toArray, List.getElem?_cons_zero, List.getElem?_cons_succ]; rfl) (by kernel_rfl) (by kernel_rfl) (by kernel_rfl) (fun _ _ _ h => h) (Or.inl ⟨by rfl, ?_⟩) (by assumption) ?_
  rotate_left
  · intro w hSw; (try dsimp only at hSw); go_simp; (try with_reducible rfl)
  try simp only [Act.put, List.setIfInBounds_toArray, List.set_cons_zero, List.set_cons_succ]
  refine wpAnyH_take (i := 2) (v := ?_) (by simp only [List.getElem?_toArray, List.getElem?_cons_zero, List.getElem?_cons_succ]; rfl) (by kernel_rfl) (by kernel_rfl) (by kernel_rfl) (fun _ _ _ h => h) (Or.inl ⟨by rfl, ?_⟩) (by assumption) ?_
  rotate_left
  · intro w hSw; (try dsimp only at hSw); go_simp; (try with_reducible rfl)
  try simp only [Act.put, List.setIfInBounds_toArray, List.set_cons_zero, List.set_cons_succ]
  refine wpAnyH_take (i := 3) (v := ?_) (by simp only [List.getElem?_toArray, List.getElem?_cons_zero, List.getElem?_cons_succ]; rfl) (by kernel_rfl) (by kernel_rfl) (by kernel_rfl) (fun _ _ _ h => h) (Or.inl ⟨by rfl, ?_⟩) (by assumption) ?_
  rotate_left
  · intro w hSw; (try dsimp only at hSw); go_simp; (try with_reducible rfl)
  try simp only [Act.put, List.setIfInBounds_toArray, List.set_cons_zero, List.set_cons_succ]
  refine wpAnyH_take (i := 4) (v := ?_) (by simp only [List.getElem?_toArray, List.getElem?_cons_zero, List.getElem?_cons_succ]; rfl) (by kernel_rfl) (by kernel_rfl) (by kernel_rfl) (fun _ _ _ h => h) (Or.inl ⟨by rfl, ?_⟩) (by assumption) ?_
  rotate_left
  · intro w hSw; (try dsimp only at hSw); go_simp; (try with_reducible rfl)
  try simp only [Act.put, List.setIfInBounds_toArray, List.set_cons_zero, List.set_cons_succ]
  refine wpAnyH_take (i := 6) (v := ?_) (by simp only [List.getElem?_toArray, List.getElem?_cons_zero, List.getElem?_cons_succ]; rfl) (by kernel_rfl) (by kernel_rfl) (by kernel_rfl) (fun _ _ _ h => h) (Or.inl ⟨by rfl, ?_⟩) (by assumption) ?_
  rotate_left
  · intro w hSw; (try dsimp only at hSw); go_simp; (try with_reducible rfl)
  try simp only [Act.put, List.setIfInBounds_toArray, List.set_cons_zero, List.set_cons_succ]
  refine wpAnyH_take (i := 7) (v := ?_) (by simp only [List.getElem?_toArray, List.getElem?_cons_zero, List.getElem?_cons_succ]; rfl) (by kernel_rfl) (by kernel_rfl) (by kernel_rfl) (fun _ _ _ h => h) (Or.inl ⟨by rfl, ?_⟩) (by assumption) ?_
  rotate_left
  · intro w hSw; (try dsimp only at hSw); go_simp; (try with_reducible rfl)
  try simp only [Act.put, List.setIfInBounds_toArray, List.set_cons_zero, List.set_cons_succ]
  refine wpAnyH_take (i := 8) (v := ?_) (by simp only [List.getElem?_toArray, List.getElem?_cons_zero, List.getElem?_cons_succ]; rfl) (by kernel_rfl) (by kernel_rfl) (by kernel_rfl) (fun _ _ _ h => h) (Or.inl ⟨by rfl, ?_⟩) (by assumption) ?_
  rotate_left
  · intro w hSw; (try dsimp only at hSw); go_simp; (try with_reducible rfl)
  try simp only [Act.put, List.setIfInBounds_toArray, List.set_cons_zero, List.set_cons_succ]
  refine wpAnyH_take (i := 9) (v := ?_) (by simp only [List.getElem?_toArray, List.getElem?_cons_zero, List.getElem?_cons_succ]; rfl) (by kernel_rfl) (by kernel_rfl) (by kernel_rfl) (fun _ _ _ h => h) (Or.inl ⟨by rfl, ?_⟩) (by assumption) ?_
  rotate_left
  · intro w hSw; (try dsimp only at hSw); go_simp; (try with_reducible rfl)
  try simp only [Act.put, List.setIfInBounds_toArray, List.set_cons_zero, List.set_cons_succ]
  refine wpAnyH_take (i := 10) (v := ?_) (by simp only [List.getElem?_toArray, List.getElem?_cons_zero, List.getElem?_cons_succ]; rfl) (by kernel_rfl) (by kernel_rfl) (by kernel_rfl) (fun _ _ _ h => h) (Or.inl ⟨by rfl, ?_⟩) (by assumption) ?_
  rotate_left
  · intro w hSw; (try dsimp only at hSw); go_simp; (try with_reducible rfl)
  try simp only [Act.put, List.setIfInBounds_toArray, List.set_cons_zero, List.set_cons_succ]
  refine wpAnyH_ready (rs := [5]) (by kernel_rfl) (by simp) ?_
  refine AllReadyH.cons (by simp only [List.getElem?_toArray, List.getElem?_cons_zero, List.getElem?_cons_succ]; rfl) (fun K hK => ?_) AllReadyH.nil
  go_simp
  go_at_call 22
  first
    | ((with_reducible refine (PD.out _ _ _ _ HS.out XS1.out XS2.out).mono ?_); rintro e w4 ⟨rfl, g4, hH, hE⟩; have HF := hid hH; have XF := hid (XS.out.frame hE (by omega)); have KF := hid (KS.out.trans (KeepB.evo hE (by omega))); have hS' : World.cell? _ ⟨bx, 4, none⟩ = some (.int .i64 y.key) ∧ World.cell? _ ⟨bx, 6, none⟩ = some (.bool y.v.there) ∧ World.cell? _ ⟨bx, 7, none⟩ = some (.string y.v.bytes) := ⟨XF.out.1.cell 4, XF.out.1.cell 6, XF.out.1.cell 7⟩; clear hH hE HS XS KS)
    | ((with_reducible refine (PD.out _ _ _ _ HA.out XD.out XDD.out).mono ?_); rintro e w3 ⟨rfl, g3, hH, hE⟩; have HT := hid hH; have XT := hid (XA.out.frame hE (by omega)); have KT := hid (KA.out.trans (KeepB.evo hE (by omega))); have hS' : World.cell? _ ⟨bx, 4, none⟩ = some (.int .i64 y.key) ∧ World.cell? _ ⟨bx, 6, none⟩ = some (.bool y.v.there) ∧ World.cell? _ ⟨bx, 7, none⟩ = some (.string y.v.bytes) := ⟨XT.out.1.cell 4, XT.out.1.cell 6, XT.out.1.cell 7⟩; clear hH hE HA XA KA)
  try go_wp2_with fail
  refine hK.out _ _ ?_ (fun hH1 => ?_)
  · (try dsimp only); (first | assumption | exact hS0)
  clear hK K hH0
  try simp only [Act.put, List.setIfInBounds_toArray, List.set_cons_zero, List.set_cons_succ]
  refine wpAnyH_ready (rs := [11]) (by kernel_rfl) (by simp) ?_
  refine AllReadyH.cons (by simp only [List.getElem?_toArray, List.getElem?_cons_zero, List.getElem?_cons_succ]; rfl) (fun K hK => ?_) AllReadyH.nil
  go_simp
  go_at_call 23
  first
    | ((with_reducible refine (PW.out _ _ _ HT.out XT1.out XT2.out).mono ?_); rintro e w4 ⟨rfl, g4, hH, hE⟩; have HF := hid hH; have XF := hid (XT.out.frame hE (by omega)); have KF := hid (KT.out.trans (KeepB.evo hE (by omega))); have hS' : World.cell? _ ⟨bx, 4, none⟩ = some (.int .i64 y.key) ∧ World.cell? _ ⟨bx, 6, none⟩ = some (.bool y.v.there) ∧ World.cell? _ ⟨bx, 7, none⟩ = some (.string y.v.bytes) := ⟨XF.out.1.cell 4, XF.out.1.cell 6, XF.out.1.cell 7⟩; clear hH hE HT XT KT)
    | ((with_reducible refine (PW.out _ _ _ HA.out XB.out XDE.out).mono ?_); rintro e w3 ⟨rfl, g3, hH, hE⟩; have HS := hid hH; have XS := hid (XA.out.frame hE (by omega)); have KS := hid (KA.out.trans (KeepB.evo hE (by omega))); have hS' : World.cell? _ ⟨bx, 4, none⟩ = some (.int .i64 y.key) ∧ World.cell? _ ⟨bx, 6, none⟩ = some (.bool y.v.there) ∧ World.cell? _ ⟨bx, 7, none⟩ = some (.string y.v.bytes) := ⟨XS.out.1.cell 4, XS.out.1.cell 6, XS.out.1.cell 7⟩; clear hH hE HA XA KA)
  try go_wp2_with fail
  refine hK.out _ _ ?_ (fun hH2 => ?_)
  · (try dsimp only); (first | assumption | exact hS0)
  clear hK K hH1
  try simp only [Act.put, List.setIfInBounds_toArray, List.set_cons_zero, List.set_cons_succ]
  refine wpAnyH_take (i := 12) (v := ?_) (by simp only [List.getElem?_toArray, List.getElem?_cons_zero, List.getElem?_cons_succ]; rfl) (by kernel_rfl) (by kernel_rfl) (by kernel_rfl) (fun _ _ _ h => h) (Or.inl ⟨by rfl, ?_⟩) (by assumption) ?_
  rotate_left
  · intro w hSw; (try dsimp only at hSw); go_simp; (try with_reducible rfl)
  try simp only [Act.put, List.setIfInBounds_toArray, List.set_cons_zero, List.set_cons_succ]
  refine wpAnyH_take (i := 13) (v := ?_) (by simp only [List.getElem?_toArray, List.getElem?_cons_zero, List.getElem?_cons_succ]; rfl) (by kernel_rfl) (by kernel_rfl) (by kernel_rfl) (fun _ _ _ h => h) (Or.inl ⟨by rfl, ?_⟩) (by assumption) ?_
  rotate_left
  · intro w hSw; (try dsimp only at hSw); go_simp; (try with_reducible rfl)
  try simp only [Act.put, List.setIfInBounds_toArray, List.set_cons_zero, List.set_cons_succ]
  refine wpAnyH_done (by kernel_rfl) ?_ _
  refine NoPanic.normal ?_
  go_wp2_with fail
  go_ret
  exact ⟨rfl, g4, V, ⟨vp, c, _, _, nx, n, _, HF.out.all.moreN (by omega), (by first | exact upd_get rfl DE.out | exact upd_get' rfl DE.out)⟩, fun h => h, KF.out⟩
  -- END 31

end Go.Proofs.Ytoiobhcgpajogac
