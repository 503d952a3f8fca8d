/- The house of a vault's law: step, a deed begins. -/
import Derived.Test.YtoiobhcgpajogacHouse6
namespace Go.Proofs.Ytoiobhcgpajogac
open Go.RowKit

theorem join4 {α β γ : Type} {Goal : Prop} (Facts Φ : α → β → γ → World → Prop) (h2 : (∀ a c d w, Facts a c d w → Φ a c d w) → Goal) (h1 : ∀ a c d w, Facts a c d w → Φ a c d w) : Goal := h2 h1
theorem join5 {α β γ δ : Type} {Goal : Prop} (Facts Φ : α → β → γ → δ → World → Prop) (h2 : (∀ a c d e w, Facts a c d e w → Φ a c d e w) → Goal) (h1 : ∀ a c d e w, Facts a c d e w → Φ a c d e w) : Goal := h2 h1
theorem join6 {α β γ δ ε : Type} {Goal : Prop} (Facts Φ : α → β → γ → δ → ε → World → Prop) (h2 : (∀ a c d e f w, Facts a c d e f w → Φ a c d e f w) → Goal) (h1 : ∀ a c d e f w, Facts a c d e f w → Φ a c d e f w) : Goal := h2 h1

theorem Mid7.below' {ga g : Nat → Nat} {wa w w' : World} {p h vp c nx N n d d3 : Nat} {V : Vt} {x : Nat → En} {D : Ded} {vd0 vw0 vd vw : Value} {xs ys : List Value} (m : Mid7 ga wa p h vp c nx N n d d3 V x D vd0 vw0 vd vw xs ys g w) (e : Below w.heap.size w w') : Mid7 ga wa p h vp c nx N n d d3 V x D vd0 vw0 vd vw xs ys g w' := m.fresh (Evo.of_same e)

set_option maxHeartbeats 4000000 in
set_option maxRecDepth 100000 in
theorem house_begin (g : Nat → Nat) (p h N : Nat) (V : Vt) (y : Vst) (w : World) (hp : 1 ≤ p) (_ : N + 8 < 1000000) (_ : y.v.bytes.size ≤ maxLen) (hH : HouseAt w g p h N V) (h0 : y.op = 0) :
    Calls Try.prog 43 #[.pointer (some ⟨h, 0, none⟩), .agg #[.int .i64 y.op, .int .i64 y.k, .int .i64 y.mode, .int .i64 y.at_, .int .i64 y.key, .int .i64 y.keep, .bool y.v.there, .string y.v.bytes]] w (StepPost g p h N V w) := by
  obtain ⟨vp, c, vd, vw, nx, n, x, hC, hDE⟩ := hH
  have H0 := hid hC
  have DE := hid hDE
  have OP := hid h0
  clear hC hDE h0
  go_enter Try.func43, Try.ntmps43
  try go_upto_region 1 with (fail)
  have hA := (Below.refl w.heap.size w).alloc (Nat.le_refl _) (.cells #[.int .i64 y.op, .int .i64 y.k, .int .i64 y.mode, .int .i64 y.at_, .int .i64 y.key, .int .i64 y.keep, .bool y.v.there, .string y.v.bytes] 72)
  have X1 : Hid (Loc (w.alloc (.cells #[.int .i64 y.op, .int .i64 y.k, .int .i64 y.mode, .int .i64 y.at_, .int .i64 y.key, .int .i64 y.keep, .bool y.v.there, .string y.v.bytes] 72)) w.heap.size 72 (vsL y)) := hid (Loc.new w 72 (vsL y))
  have H1 := hid (H0.out.below hA)
  have K1 := hid (KeepB.below (g := g) hA)
  clear hA H0
  generalize w.alloc (.cells #[.int .i64 y.op, .int .i64 y.k, .int .i64 y.mode, .int .i64 y.at_, .int .i64 y.key, .int .i64 y.keep, .bool y.v.there, .string y.v.bytes] 72) = w1 at *
  generalize w.heap.size = bx at *
  obtain ⟨c0, c1, c2, c3, c4, c5, c6, c7⟩ : w1.cell? ⟨bx, 0, none⟩ = some (.int .i64 y.op) ∧ w1.cell? ⟨bx, 1, none⟩ = some (.int .i64 y.k) ∧ w1.cell? ⟨bx, 2, none⟩ = some (.int .i64 y.mode) ∧ w1.cell? ⟨bx, 3, none⟩ = some (.int .i64 y.at_) ∧ w1.cell? ⟨bx, 4, none⟩ = some (.int .i64 y.key) ∧ w1.cell? ⟨bx, 5, none⟩ = some (.int .i64 y.keep) ∧ w1.cell? ⟨bx, 6, none⟩ = some (.bool y.v.there) ∧ w1.cell? ⟨bx, 7, none⟩ = some (.string y.v.bytes) :=
    ⟨X1.out.cell 0, X1.out.cell 1, X1.out.cell 2, X1.out.cell 3, X1.out.cell 4, X1.out.cell 5, X1.out.cell 6, X1.out.cell 7⟩
  obtain ⟨k0, k1, k2, k3⟩ : w1.cell? ⟨h, 0, none⟩ = some (.pointer (some ⟨vp, 0, none⟩)) ∧ w1.cell? ⟨h, 1, none⟩ = some (.pointer (some ⟨c, 0, none⟩)) ∧ w1.cell? ⟨h, 2, none⟩ = some vd ∧ w1.cell? ⟨h, 3, none⟩ = some vw := ⟨H1.out.loc.1.cell 0, H1.out.loc.1.cell 1, H1.out.loc.1.cell 2, H1.out.loc.1.cell 3⟩
  rw [OP.out] at c0
  clear OP
  have BE := hid (vault_Begin g (p + 1) vp V nx y.mode y.at_ w1.drew (H1.out.vault.below (Below.refl _ _).drew))
  have hS0 : w1.drew.cell? ⟨h, 0, none⟩ = some (.pointer (some ⟨vp, 0, none⟩)) ∧ w1.drew.cell? ⟨bx, 2, none⟩ = some (.int .i64 y.mode) ∧ w1.drew.cell? ⟨bx, 3, none⟩ = some (.int .i64 y.at_) := ⟨k0, c2, c3⟩
  have CB := hid (fun (g2 : Nat → Nat) (w2 : World) (h2 : CourtAt w2 g2 (p + 12) c N ⟨V, fun _ => none⟩) => (by
    obtain ⟨-, s, ds, hCL⟩ := h2
    exact court_Begin g2 (p + 12) c s ds N V.tab V.log (fun _ => none) (nx + 1) y.mode y.at_ w2 hCL : Calls Try.prog 90 #[.pointer (some ⟨c, 0, none⟩), .int .i64 y.mode, .int .i64 y.at_] w2 (CBeginPost g2 (nx + 1) (beginV V.tab y.mode y.at_) w2)))
  generalize hbv : beginV V.tab y.mode y.at_ = bv at *
  have HBV := hid hbv
  obtain ⟨oD, cde⟩ := bv
  clear hbv
  cases oD with
  | none =>
    unfold BeginPost at BE
    unfold CBeginPost at CB
    simp only at BE CB
    go_wp2_with fail
    -- REGION 2n
    refine wp_region_noPanic ?_
    refine wp_region_held_drew (S := (fun W' : World => W'.cell? ⟨h, 0, none⟩ = some (.pointer (some ⟨vp, 0, none⟩)) ∧ W'.cell? ⟨bx, 2, none⟩ = some (.int .i64 y.mode) ∧ W'.cell? ⟨bx, 3, none⟩ = some (.int .i64 y.at_))) (by kernel_rfl) ?_ (fun hH0 => ?_)
    · (try dsimp only); (first | assumption | exact hS0)
    refine wpAnyH_take (i := 0) (v := ?_) (by simp only [List.getElem?_toArray, List.getElem?_cons_zero]; rfl) (by kernel_rfl) (by kernel_rfl) (by kernel_rfl) (fun _ _ _ h => h) (Or.inl ⟨by rfl, ?_⟩) (by assumption) ?_
    rotate_left
    · intro w hSw; (try dsimp only at hSw); go_simp; (try with_reducible rfl)
    try simp only [Act.put, List.setIfInBounds_toArray, List.set_cons_zero, List.set_cons_succ]
    refine wpAnyH_take (i := 1) (v := ?_) (by simp only [List.getElem?_toArray, List.getElem?_cons_zero, List.getElem?_cons_succ]; rfl) (by kernel_rfl) (by kernel_rfl) (by kernel_rfl) (fun _ _ _ h => h) (Or.inl ⟨by rfl, ?_⟩) (by assumption) ?_
    rotate_left
    · intro w hSw; (try dsimp only at hSw); go_simp; (try with_reducible rfl)
    try simp only [Act.put, List.setIfInBounds_toArray, List.set_cons_zero, List.set_cons_succ]
    refine wpAnyH_take (i := 2) (v := ?_) (by simp only [List.getElem?_toArray, List.getElem?_cons_zero, List.getElem?_cons_succ]; rfl) (by kernel_rfl) (by kernel_rfl) (by kernel_rfl) (fun _ _ _ h => h) (Or.inl ⟨by rfl, ?_⟩) (by assumption) ?_
    rotate_left
    · intro w hSw; (try dsimp only at hSw); go_simp; (try with_reducible rfl)
    try simp only [Act.put, List.setIfInBounds_toArray, List.set_cons_zero, List.set_cons_succ]
    refine wpAnyH_take (i := 3) (v := ?_) (by simp only [List.getElem?_toArray, List.getElem?_cons_zero, List.getElem?_cons_succ]; rfl) (by kernel_rfl) (by kernel_rfl) (by kernel_rfl) (fun _ _ _ h => h) (Or.inl ⟨by rfl, ?_⟩) (by assumption) ?_
    rotate_left
    · intro w hSw; (try dsimp only at hSw); go_simp; (try with_reducible rfl)
    try simp only [Act.put, List.setIfInBounds_toArray, List.set_cons_zero, List.set_cons_succ]
    refine wpAnyH_take (i := 4) (v := ?_) (by simp only [List.getElem?_toArray, List.getElem?_cons_zero, List.getElem?_cons_succ]; rfl) (by kernel_rfl) (by kernel_rfl) (by kernel_rfl) (fun _ _ _ h => h) (Or.inl ⟨by rfl, ?_⟩) (by assumption) ?_
    rotate_left
    · intro w hSw; (try dsimp only at hSw); go_simp; (try with_reducible rfl)
    try simp only [Act.put, List.setIfInBounds_toArray, List.set_cons_zero, List.set_cons_succ]
    refine wpAnyH_take (i := 5) (v := ?_) (by simp only [List.getElem?_toArray, List.getElem?_cons_zero, List.getElem?_cons_succ]; rfl) (by kernel_rfl) (by kernel_rfl) (by kernel_rfl) (fun _ _ _ h => h) (Or.inl ⟨by rfl, ?_⟩) (by assumption) ?_
    rotate_left
    · intro w hSw; (try dsimp only at hSw); go_simp; (try with_reducible rfl)
    try simp only [Act.put, List.setIfInBounds_toArray, List.set_cons_zero, List.set_cons_succ]
    refine wpAnyH_take (i := 6) (v := ?_) (by simp only [List.getElem?_toArray, List.getElem?_cons_zero, List.getElem?_cons_succ]; rfl) (by kernel_rfl) (by kernel_rfl) (by kernel_rfl) (fun _ _ _ h => h) (Or.inl ⟨by rfl, ?_⟩) (by assumption) ?_
    rotate_left
    · intro w hSw; (try dsimp only at hSw); go_simp; (try with_reducible rfl)
    try simp only [Act.put, List.setIfInBounds_toArray, List.set_cons_zero, List.set_cons_succ]
    refine wpAnyH_take (i := 7) (v := ?_) (by simp only [List.getElem?_toArray, List.getElem?_cons_zero, List.getElem?_cons_succ]; rfl) (by kernel_rfl) (by kernel_rfl) (by kernel_rfl) (fun _ _ _ h => h) (Or.inl ⟨by rfl, ?_⟩) (by assumption) ?_
    rotate_left
    · intro w hSw; (try dsimp only at hSw); go_simp; (try with_reducible rfl)
    try simp only [Act.put, List.setIfInBounds_toArray, List.set_cons_zero, List.set_cons_succ]
    refine wpAnyH_ready (rs := [8]) (by kernel_rfl) (by simp) ?_
    refine AllReadyH.cons (by simp only [List.getElem?_toArray, List.getElem?_cons_zero, List.getElem?_cons_succ]; rfl) (fun K hK => ?_) AllReadyH.nil
    go_simp
    go_at_call 51
    (with_reducible refine BE.out.mono ?_)
    rintro e w2 ⟨hb2, rfl⟩
    have HB2 := hid hb2
    have HB3 := hid ((Below.refl w1.heap.size w1).drew.trans hb2)
    have hS' : w2.cell? ⟨h, 0, none⟩ = some (.pointer (some ⟨vp, 0, none⟩)) ∧ w2.cell? ⟨bx, 2, none⟩ = some (.int .i64 y.mode) ∧ w2.cell? ⟨bx, 3, none⟩ = some (.int .i64 y.at_) := ⟨(H1.out.loc.1.below HB3.out H1.out.loc.1.lt).cell 0, (X1.out.below HB3.out X1.out.lt).cell 2, (X1.out.below HB3.out X1.out.lt).cell 3⟩
    clear hb2 BE
    try go_wp2_with fail
    refine hK.out _ _ ?_ (fun hH1 => ?_)
    · (try dsimp only); (first | assumption | exact hS0)
    clear hK K hH0
    try simp only [Act.put, List.setIfInBounds_toArray, List.set_cons_zero, List.set_cons_succ]
    refine wpAnyH_take (i := 9) (v := ?_) (by simp only [List.getElem?_toArray, List.getElem?_cons_zero, List.getElem?_cons_succ]; rfl) (by kernel_rfl) (by kernel_rfl) (by kernel_rfl) (fun _ _ _ h => h) (Or.inl ⟨by rfl, ?_⟩) (by assumption) ?_
    rotate_left
    · intro w hSw; (try dsimp only at hSw); go_simp; (try with_reducible rfl)
    try simp only [Act.put, List.setIfInBounds_toArray, List.set_cons_zero, List.set_cons_succ]
    refine wpAnyH_take (i := 10) (v := ?_) (by simp only [List.getElem?_toArray, List.getElem?_cons_zero, List.getElem?_cons_succ]; rfl) (by kernel_rfl) (by kernel_rfl) (by kernel_rfl) (fun _ _ _ h => h) (Or.inl ⟨by rfl, ?_⟩) (by assumption) ?_
    rotate_left
    · intro w hSw; (try dsimp only at hSw); go_simp; (try with_reducible rfl)
    try simp only [Act.put, List.setIfInBounds_toArray, List.set_cons_zero, List.set_cons_succ]
    refine wpAnyH_take (i := 11) (v := ?_) (by simp only [List.getElem?_toArray, List.getElem?_cons_zero, List.getElem?_cons_succ]; rfl) (by kernel_rfl) (by kernel_rfl) (by kernel_rfl) (fun _ _ _ h => h) (Or.inl ⟨by rfl, ?_⟩) (by assumption) ?_
    rotate_left
    · intro w hSw; (try dsimp only at hSw); go_simp; (try with_reducible rfl)
    try simp only [Act.put, List.setIfInBounds_toArray, List.set_cons_zero, List.set_cons_succ]
    refine wpAnyH_take (i := 12) (v := ?_) (by simp only [List.getElem?_toArray, List.getElem?_cons_zero, List.getElem?_cons_succ]; rfl) (by kernel_rfl) (by kernel_rfl) (by kernel_rfl) (fun _ _ _ h => h) (Or.inl ⟨by rfl, ?_⟩) (by assumption) ?_
    rotate_left
    · intro w hSw; (try dsimp only at hSw); go_simp; (try with_reducible rfl)
    try simp only [Act.put, List.setIfInBounds_toArray, List.set_cons_zero, List.set_cons_succ]
    refine wpAnyH_take (i := 13) (v := ?_) (by simp only [List.getElem?_toArray, List.getElem?_cons_zero, List.getElem?_cons_succ]; rfl) (by kernel_rfl) (by kernel_rfl) (by kernel_rfl) (fun _ _ _ h => h) (Or.inl ⟨by rfl, ?_⟩) (by assumption) ?_
    rotate_left
    · intro w hSw; (try dsimp only at hSw); go_simp; (try with_reducible rfl)
    try simp only [Act.put, List.setIfInBounds_toArray, List.set_cons_zero, List.set_cons_succ]
    refine wpAnyH_done (by kernel_rfl) ?_ _
    refine NoPanic.normal ?_
    rotate_left
    -- END 2n
    have H2 := hid (H1.out.below HB3.out)
    have K2 := hid (K1.out.trans (KeepB.below (g := g) HB3.out))
    have X2 := hid (X1.out.below HB3.out X1.out.lt)
    clear H1 K1 X1 HB2 HB3 c0 c1 c2 c3 c4 c5 c6 c7 k0 k1 k2 k3 hS0
    have CC := hid (CB.out g w2.drew (H2.out.court.below (Below.refl _ _).drew))
    clear CB
    have hS0 : w2.drew.cell? ⟨h, 1, none⟩ = some (.pointer (some ⟨c, 0, none⟩)) ∧ w2.drew.cell? ⟨bx, 2, none⟩ = some (.int .i64 y.mode) ∧ w2.drew.cell? ⟨bx, 3, none⟩ = some (.int .i64 y.at_) := ⟨H2.out.loc.1.cell 1, X2.out.cell 2, X2.out.cell 3⟩
    go_wp2_with fail
    -- REGION 3n
    refine wp_region_noPanic ?_
    refine wp_region_held_drew (S := (fun W' : World => W'.cell? ⟨h, 1, none⟩ = some (.pointer (some ⟨c, 0, none⟩)) ∧ W'.cell? ⟨bx, 2, none⟩ = some (.int .i64 y.mode) ∧ W'.cell? ⟨bx, 3, none⟩ = some (.int .i64 y.at_))) (by kernel_rfl) ?_ (fun hH0 => ?_)
    · (try dsimp only); (first | assumption | exact hS0)
    refine wpAnyH_take (i := 0) (v := ?_) (by simp only [List.getElem?_toArray, List.getElem?_cons_zero]; rfl) (by kernel_rfl) (by kernel_rfl) (by kernel_rfl) (fun _ _ _ h => h) (Or.inl ⟨by rfl, ?_⟩) (by assumption) ?_
    rotate_left
    · intro w hSw; (try dsimp only at hSw); go_simp; (try with_reducible rfl)
    try simp only [Act.put, List.setIfInBounds_toArray, List.set_cons_zero, List.set_cons_succ]
    refine wpAnyH_take (i := 1) (v := ?_) (by simp only [List.getElem?_toArray, List.getElem?_cons_zero, List.getElem?_cons_succ]; rfl) (by kernel_rfl) (by kernel_rfl) (by kernel_rfl) (fun _ _ _ h => h) (Or.inl ⟨by rfl, ?_⟩) (by assumption) ?_
    rotate_left
    · intro w hSw; (try dsimp only at hSw); go_simp; (try with_reducible rfl)
    try simp only [Act.put, List.setIfInBounds_toArray, List.set_cons_zero, List.set_cons_succ]
    refine wpAnyH_take (i := 2) (v := ?_) (by simp only [List.getElem?_toArray, List.getElem?_cons_zero, List.getElem?_cons_succ]; rfl) (by kernel_rfl) (by kernel_rfl) (by kernel_rfl) (fun _ _ _ h => h) (Or.inl ⟨by rfl, ?_⟩) (by assumption) ?_
    rotate_left
    · intro w hSw; (try dsimp only at hSw); go_simp; (try with_reducible rfl)
    try simp only [Act.put, List.setIfInBounds_toArray, List.set_cons_zero, List.set_cons_succ]
    refine wpAnyH_take (i := 3) (v := ?_) (by simp only [List.getElem?_toArray, List.getElem?_cons_zero, List.getElem?_cons_succ]; rfl) (by kernel_rfl) (by kernel_rfl) (by kernel_rfl) (fun _ _ _ h => h) (Or.inl ⟨by rfl, ?_⟩) (by assumption) ?_
    rotate_left
    · intro w hSw; (try dsimp only at hSw); go_simp; (try with_reducible rfl)
    try simp only [Act.put, List.setIfInBounds_toArray, List.set_cons_zero, List.set_cons_succ]
    refine wpAnyH_take (i := 4) (v := ?_) (by simp only [List.getElem?_toArray, List.getElem?_cons_zero, List.getElem?_cons_succ]; rfl) (by kernel_rfl) (by kernel_rfl) (by kernel_rfl) (fun _ _ _ h => h) (Or.inl ⟨by rfl, ?_⟩) (by assumption) ?_
    rotate_left
    · intro w hSw; (try dsimp only at hSw); go_simp; (try with_reducible rfl)
    try simp only [Act.put, List.setIfInBounds_toArray, List.set_cons_zero, List.set_cons_succ]
    refine wpAnyH_take (i := 5) (v := ?_) (by simp only [List.getElem?_toArray, List.getElem?_cons_zero, List.getElem?_cons_succ]; rfl) (by kernel_rfl) (by kernel_rfl) (by kernel_rfl) (fun _ _ _ h => h) (Or.inl ⟨by rfl, ?_⟩) (by assumption) ?_
    rotate_left
    · intro w hSw; (try dsimp only at hSw); go_simp; (try with_reducible rfl)
    try simp only [Act.put, List.setIfInBounds_toArray, List.set_cons_zero, List.set_cons_succ]
    refine wpAnyH_take (i := 6) (v := ?_) (by simp only [List.getElem?_toArray, List.getElem?_cons_zero, List.getElem?_cons_succ]; rfl) (by kernel_rfl) (by kernel_rfl) (by kernel_rfl) (fun _ _ _ h => h) (Or.inl ⟨by rfl, ?_⟩) (by assumption) ?_
    rotate_left
    · intro w hSw; (try dsimp only at hSw); go_simp; (try with_reducible rfl)
    try simp only [Act.put, List.setIfInBounds_toArray, List.set_cons_zero, List.set_cons_succ]
    refine wpAnyH_take (i := 7) (v := ?_) (by simp only [List.getElem?_toArray, List.getElem?_cons_zero, List.getElem?_cons_succ]; rfl) (by kernel_rfl) (by kernel_rfl) (by kernel_rfl) (fun _ _ _ h => h) (Or.inl ⟨by rfl, ?_⟩) (by assumption) ?_
    rotate_left
    · intro w hSw; (try dsimp only at hSw); go_simp; (try with_reducible rfl)
    try simp only [Act.put, List.setIfInBounds_toArray, List.set_cons_zero, List.set_cons_succ]
    refine wpAnyH_ready (rs := [8]) (by kernel_rfl) (by simp) ?_
    refine AllReadyH.cons (by simp only [List.getElem?_toArray, List.getElem?_cons_zero, List.getElem?_cons_succ]; rfl) (fun K hK => ?_) AllReadyH.nil
    go_simp
    go_at_call 90
    (with_reducible refine CC.out.mono ?_)
    rintro e w3 ⟨hb3, rfl⟩
    have HB4 := hid hb3
    have HB5 := hid ((Below.refl w2.heap.size w2).drew.trans hb3)
    have hS' : w3.cell? ⟨h, 1, none⟩ = some (.pointer (some ⟨c, 0, none⟩)) ∧ w3.cell? ⟨bx, 2, none⟩ = some (.int .i64 y.mode) ∧ w3.cell? ⟨bx, 3, none⟩ = some (.int .i64 y.at_) := ⟨(H2.out.loc.1.below HB5.out H2.out.loc.1.lt).cell 1, (X2.out.below HB5.out X2.out.lt).cell 2, (X2.out.below HB5.out X2.out.lt).cell 3⟩
    clear hb3 CC
    try go_wp2_with fail
    refine hK.out _ _ ?_ (fun hH1 => ?_)
    · (try dsimp only); (first | assumption | exact hS0)
    clear hK K hH0
    try simp only [Act.put, List.setIfInBounds_toArray, List.set_cons_zero, List.set_cons_succ]
    refine wpAnyH_take (i := 9) (v := ?_) (by simp only [List.getElem?_toArray, List.getElem?_cons_zero, List.getElem?_cons_succ]; rfl) (by kernel_rfl) (by kernel_rfl) (by kernel_rfl) (fun _ _ _ h => h) (Or.inl ⟨by rfl, ?_⟩) (by assumption) ?_
    rotate_left
    · intro w hSw; (try dsimp only at hSw); go_simp; (try with_reducible rfl)
    try simp only [Act.put, List.setIfInBounds_toArray, List.set_cons_zero, List.set_cons_succ]
    refine wpAnyH_take (i := 10) (v := ?_) (by simp only [List.getElem?_toArray, List.getElem?_cons_zero, List.getElem?_cons_succ]; rfl) (by kernel_rfl) (by kernel_rfl) (by kernel_rfl) (fun _ _ _ h => h) (Or.inl ⟨by rfl, ?_⟩) (by assumption) ?_
    rotate_left
    · intro w hSw; (try dsimp only at hSw); go_simp; (try with_reducible rfl)
    try simp only [Act.put, List.setIfInBounds_toArray, List.set_cons_zero, List.set_cons_succ]
    refine wpAnyH_take (i := 11) (v := ?_) (by simp only [List.getElem?_toArray, List.getElem?_cons_zero, List.getElem?_cons_succ]; rfl) (by kernel_rfl) (by kernel_rfl) (by kernel_rfl) (fun _ _ _ h => h) (Or.inl ⟨by rfl, ?_⟩) (by assumption) ?_
    rotate_left
    · intro w hSw; (try dsimp only at hSw); go_simp; (try with_reducible rfl)
    try simp only [Act.put, List.setIfInBounds_toArray, List.set_cons_zero, List.set_cons_succ]
    refine wpAnyH_take (i := 12) (v := ?_) (by simp only [List.getElem?_toArray, List.getElem?_cons_zero, List.getElem?_cons_succ]; rfl) (by kernel_rfl) (by kernel_rfl) (by kernel_rfl) (fun _ _ _ h => h) (Or.inl ⟨by rfl, ?_⟩) (by assumption) ?_
    rotate_left
    · intro w hSw; (try dsimp only at hSw); go_simp; (try with_reducible rfl)
    try simp only [Act.put, List.setIfInBounds_toArray, List.set_cons_zero, List.set_cons_succ]
    refine wpAnyH_take (i := 13) (v := ?_) (by simp only [List.getElem?_toArray, List.getElem?_cons_zero, List.getElem?_cons_succ]; rfl) (by kernel_rfl) (by kernel_rfl) (by kernel_rfl) (fun _ _ _ h => h) (Or.inl ⟨by rfl, ?_⟩) (by assumption) ?_
    rotate_left
    · intro w hSw; (try dsimp only at hSw); go_simp; (try with_reducible rfl)
    try simp only [Act.put, List.setIfInBounds_toArray, List.set_cons_zero, List.set_cons_succ]
    refine wpAnyH_done (by kernel_rfl) ?_ _
    refine NoPanic.normal ?_
    rotate_left
    -- END 3n
    have H3 := hid (H2.out.below HB5.out)
    have K3 := hid (K2.out.trans (KeepB.below (g := g) HB5.out))
    clear H2 K2 X2 HB5 hS0
    go_wp2_with fail
    go_ret
    exact ⟨rfl, g, V, ⟨vp, c, _, _, nx, n, x, H3.out.moreN (by omega), DE.out⟩, fun h => h, K3.out⟩
  | some D =>
  unfold BeginPost at BE
  unfold CBeginPost at CB
  simp only at BE CB
  go_wp2_with fail
  -- REGION 2
  refine wp_region_noPanic ?_
  refine wp_region_held_drew (S := (fun W' : World => W'.cell? ⟨h, 0, none⟩ = some (.pointer (some ⟨vp, 0, none⟩)) ∧ W'.cell? ⟨bx, 2, none⟩ = some (.int .i64 y.mode) ∧ W'.cell? ⟨bx, 3, none⟩ = some (.int .i64 y.at_))) (by kernel_rfl) ?_ (fun hH0 => ?_)
  · (try dsimp only); (first | assumption | exact hS0)
  refine wpAnyH_take (i := 0) (v := ?_) (by simp only [List.getElem?_toArray, List.getElem?_cons_zero]; rfl) (by kernel_rfl) (by kernel_rfl) (by kernel_rfl) (fun _ _ _ h => h) (Or.inl ⟨by rfl, ?_⟩) (by assumption) ?_
  rotate_left
  · intro w hSw; (try dsimp only at hSw); go_simp; (try with_reducible rfl)
  try simp only [Act.put, List.setIfInBounds_toArray, List.set_cons_zero, List.set_cons_succ]
  refine wpAnyH_take (i := 1) (v := ?_) (by simp only [List.getElem?_toArray, List.getElem?_cons_zero, List.getElem?_cons_succ]; rfl) (by kernel_rfl) (by kernel_rfl) (by kernel_rfl) (fun _ _ _ h => h) (Or.inl ⟨by rfl, ?_⟩) (by assumption) ?_
  rotate_left
  · intro w hSw; (try dsimp only at hSw); go_simp; (try with_reducible rfl)
  try simp only [Act.put, List.setIfInBounds_toArray, List.set_cons_zero, List.set_cons_succ]
  refine wpAnyH_take (i := 2) (v := ?_) (by simp only [List.getElem?_toArray, List.getElem?_cons_zero, List.getElem?_cons_succ]; rfl) (by kernel_rfl) (by kernel_rfl) (by kernel_rfl) (fun _ _ _ h => h) (Or.inl ⟨by rfl, ?_⟩) (by assumption) ?_
  rotate_left
  · intro w hSw; (try dsimp only at hSw); go_simp; (try with_reducible rfl)
  try simp only [Act.put, List.setIfInBounds_toArray, List.set_cons_zero, List.set_cons_succ]
  refine wpAnyH_take (i := 3) (v := ?_) (by simp only [List.getElem?_toArray, List.getElem?_cons_zero, List.getElem?_cons_succ]; rfl) (by kernel_rfl) (by kernel_rfl) (by kernel_rfl) (fun _ _ _ h => h) (Or.inl ⟨by rfl, ?_⟩) (by assumption) ?_
  rotate_left
  · intro w hSw; (try dsimp only at hSw); go_simp; (try with_reducible rfl)
  try simp only [Act.put, List.setIfInBounds_toArray, List.set_cons_zero, List.set_cons_succ]
  refine wpAnyH_take (i := 4) (v := ?_) (by simp only [List.getElem?_toArray, List.getElem?_cons_zero, List.getElem?_cons_succ]; rfl) (by kernel_rfl) (by kernel_rfl) (by kernel_rfl) (fun _ _ _ h => h) (Or.inl ⟨by rfl, ?_⟩) (by assumption) ?_
  rotate_left
  · intro w hSw; (try dsimp only at hSw); go_simp; (try with_reducible rfl)
  try simp only [Act.put, List.setIfInBounds_toArray, List.set_cons_zero, List.set_cons_succ]
  refine wpAnyH_take (i := 5) (v := ?_) (by simp only [List.getElem?_toArray, List.getElem?_cons_zero, List.getElem?_cons_succ]; rfl) (by kernel_rfl) (by kernel_rfl) (by kernel_rfl) (fun _ _ _ h => h) (Or.inl ⟨by rfl, ?_⟩) (by assumption) ?_
  rotate_left
  · intro w hSw; (try dsimp only at hSw); go_simp; (try with_reducible rfl)
  try simp only [Act.put, List.setIfInBounds_toArray, List.set_cons_zero, List.set_cons_succ]
  refine wpAnyH_take (i := 6) (v := ?_) (by simp only [List.getElem?_toArray, List.getElem?_cons_zero, List.getElem?_cons_succ]; rfl) (by kernel_rfl) (by kernel_rfl) (by kernel_rfl) (fun _ _ _ h => h) (Or.inl ⟨by rfl, ?_⟩) (by assumption) ?_
  rotate_left
  · intro w hSw; (try dsimp only at hSw); go_simp; (try with_reducible rfl)
  try simp only [Act.put, List.setIfInBounds_toArray, List.set_cons_zero, List.set_cons_succ]
  refine wpAnyH_take (i := 7) (v := ?_) (by simp only [List.getElem?_toArray, List.getElem?_cons_zero, List.getElem?_cons_succ]; rfl) (by kernel_rfl) (by kernel_rfl) (by kernel_rfl) (fun _ _ _ h => h) (Or.inl ⟨by rfl, ?_⟩) (by assumption) ?_
  rotate_left
  · intro w hSw; (try dsimp only at hSw); go_simp; (try with_reducible rfl)
  try simp only [Act.put, List.setIfInBounds_toArray, List.set_cons_zero, List.set_cons_succ]
  refine wpAnyH_ready (rs := [8]) (by kernel_rfl) (by simp) ?_
  refine AllReadyH.cons (by simp only [List.getElem?_toArray, List.getElem?_cons_zero, List.getElem?_cons_succ]; rfl) (fun K hK => ?_) AllReadyH.nil
  go_simp
  go_at_call 51
  (with_reducible refine BE.out.mono ?_)
  rintro e w2 ⟨hb2, d, rfl, hd2, hD2⟩
  have HB2 := hid hb2
  have HB3 := hid ((Below.refl w1.heap.size w1).drew.trans hb2)
  have HD2 := hid hD2
  have hS' : w2.cell? ⟨h, 0, none⟩ = some (.pointer (some ⟨vp, 0, none⟩)) ∧ w2.cell? ⟨bx, 2, none⟩ = some (.int .i64 y.mode) ∧ w2.cell? ⟨bx, 3, none⟩ = some (.int .i64 y.at_) := ⟨(H1.out.loc.1.below HB3.out H1.out.loc.1.lt).cell 0, (X1.out.below HB3.out X1.out.lt).cell 2, (X1.out.below HB3.out X1.out.lt).cell 3⟩
  clear hb2 hd2 hD2 BE
  try go_wp2_with fail
  refine hK.out _ _ ?_ (fun hH1 => ?_)
  · (try dsimp only); (first | assumption | exact hS0)
  clear hK K hH0
  try simp only [Act.put, List.setIfInBounds_toArray, List.set_cons_zero, List.set_cons_succ]
  refine wpAnyH_take (i := 9) (v := ?_) (by simp only [List.getElem?_toArray, List.getElem?_cons_zero, List.getElem?_cons_succ]; rfl) (by kernel_rfl) (by kernel_rfl) (by kernel_rfl) (fun _ _ _ h => h) (Or.inl ⟨by rfl, ?_⟩) (by assumption) ?_
  rotate_left
  · intro w hSw; (try dsimp only at hSw); go_simp; (try with_reducible rfl)
  try simp only [Act.put, List.setIfInBounds_toArray, List.set_cons_zero, List.set_cons_succ]
  refine wpAnyH_take (i := 10) (v := ?_) (by simp only [List.getElem?_toArray, List.getElem?_cons_zero, List.getElem?_cons_succ]; rfl) (by kernel_rfl) (by kernel_rfl) (by kernel_rfl) (fun _ _ _ h => h) (Or.inl ⟨by rfl, ?_⟩) (by assumption) ?_
  rotate_left
  · intro w hSw; (try dsimp only at hSw); go_simp; (try with_reducible rfl)
  try simp only [Act.put, List.setIfInBounds_toArray, List.set_cons_zero, List.set_cons_succ]
  refine wpAnyH_take (i := 11) (v := ?_) (by simp only [List.getElem?_toArray, List.getElem?_cons_zero, List.getElem?_cons_succ]; rfl) (by kernel_rfl) (by kernel_rfl) (by kernel_rfl) (fun _ _ _ h => h) (Or.inl ⟨by rfl, ?_⟩) (by assumption) ?_
  rotate_left
  · intro w hSw; (try dsimp only at hSw); go_simp; (try with_reducible rfl)
  try simp only [Act.put, List.setIfInBounds_toArray, List.set_cons_zero, List.set_cons_succ]
  refine wpAnyH_take (i := 12) (v := ?_) (by simp only [List.getElem?_toArray, List.getElem?_cons_zero, List.getElem?_cons_succ]; rfl) (by kernel_rfl) (by kernel_rfl) (by kernel_rfl) (fun _ _ _ h => h) (Or.inl ⟨by rfl, ?_⟩) (by assumption) ?_
  rotate_left
  · intro w hSw; (try dsimp only at hSw); go_simp; (try with_reducible rfl)
  try simp only [Act.put, List.setIfInBounds_toArray, List.set_cons_zero, List.set_cons_succ]
  refine wpAnyH_take (i := 13) (v := ?_) (by simp only [List.getElem?_toArray, List.getElem?_cons_zero, List.getElem?_cons_succ]; rfl) (by kernel_rfl) (by kernel_rfl) (by kernel_rfl) (fun _ _ _ h => h) (Or.inl ⟨by rfl, ?_⟩) (by assumption) ?_
  rotate_left
  · intro w hSw; (try dsimp only at hSw); go_simp; (try with_reducible rfl)
  try simp only [Act.put, List.setIfInBounds_toArray, List.set_cons_zero, List.set_cons_succ]
  refine wpAnyH_done (by kernel_rfl) ?_ _
  refine NoPanic.normal ?_
  rotate_left
  -- END 2
  have hE2 := (Evo.drew 0 0 g w1).trans (Evo.of_below (lo := 0) (hi := 0) g nx HB2.out)
  have H2 := hid (H1.out.frame hE2 (by omega))
  have K2 := hid (K1.out.trans (KeepB.evo hE2 (by omega)))
  have X2 := hid (X1.out.below HB3.out X1.out.lt)
  clear hE2 H1 K1 X1 HB2 HB3 c0 c1 c2 c3 c4 c5 c6 c7 k0 k1 k2 k3 hS0
  generalize extc g w1.drew nx = g2 at *
  have CC := hid (CB.out g2 w2.drew (H2.out.court.below (Below.refl _ _).drew))
  clear CB
  have hS0 : w2.drew.cell? ⟨h, 1, none⟩ = some (.pointer (some ⟨c, 0, none⟩)) ∧ w2.drew.cell? ⟨bx, 2, none⟩ = some (.int .i64 y.mode) ∧ w2.drew.cell? ⟨bx, 3, none⟩ = some (.int .i64 y.at_) := ⟨H2.out.loc.1.cell 1, X2.out.cell 2, X2.out.cell 3⟩
  go_wp2_with fail
  -- REGION 3
  refine wp_region_noPanic ?_
  refine wp_region_held_drew (S := (fun W' : World => W'.cell? ⟨h, 1, none⟩ = some (.pointer (some ⟨c, 0, none⟩)) ∧ W'.cell? ⟨bx, 2, none⟩ = some (.int .i64 y.mode) ∧ W'.cell? ⟨bx, 3, none⟩ = some (.int .i64 y.at_))) (by kernel_rfl) ?_ (fun hH0 => ?_)
  · (try dsimp only); (first | assumption | exact hS0)
  refine wpAnyH_take (i := 0) (v := ?_) (by simp only [List.getElem?_toArray, List.getElem?_cons_zero]; rfl) (by kernel_rfl) (by kernel_rfl) (by kernel_rfl) (fun _ _ _ h => h) (Or.inl ⟨by rfl, ?_⟩) (by assumption) ?_
  rotate_left
  · intro w hSw; (try dsimp only at hSw); go_simp; (try with_reducible rfl)
  try simp only [Act.put, List.setIfInBounds_toArray, List.set_cons_zero, List.set_cons_succ]
  refine wpAnyH_take (i := 1) (v := ?_) (by simp only [List.getElem?_toArray, List.getElem?_cons_zero, List.getElem?_cons_succ]; rfl) (by kernel_rfl) (by kernel_rfl) (by kernel_rfl) (fun _ _ _ h => h) (Or.inl ⟨by rfl, ?_⟩) (by assumption) ?_
  rotate_left
  · intro w hSw; (try dsimp only at hSw); go_simp; (try with_reducible rfl)
  try simp only [Act.put, List.setIfInBounds_toArray, List.set_cons_zero, List.set_cons_succ]
  refine wpAnyH_take (i := 2) (v := ?_) (by simp only [List.getElem?_toArray, List.getElem?_cons_zero, List.getElem?_cons_succ]; rfl) (by kernel_rfl) (by kernel_rfl) (by kernel_rfl) (fun _ _ _ h => h) (Or.inl ⟨by rfl, ?_⟩) (by assumption) ?_
  rotate_left
  · intro w hSw; (try dsimp only at hSw); go_simp; (try with_reducible rfl)
  try simp only [Act.put, List.setIfInBounds_toArray, List.set_cons_zero, List.set_cons_succ]
  refine wpAnyH_take (i := 3) (v := ?_) (by simp only [List.getElem?_toArray, List.getElem?_cons_zero, List.getElem?_cons_succ]; rfl) (by kernel_rfl) (by kernel_rfl) (by kernel_rfl) (fun _ _ _ h => h) (Or.inl ⟨by rfl, ?_⟩) (by assumption) ?_
  rotate_left
  · intro w hSw; (try dsimp only at hSw); go_simp; (try with_reducible rfl)
  try simp only [Act.put, List.setIfInBounds_toArray, List.set_cons_zero, List.set_cons_succ]
  refine wpAnyH_take (i := 4) (v := ?_) (by simp only [List.getElem?_toArray, List.getElem?_cons_zero, List.getElem?_cons_succ]; rfl) (by kernel_rfl) (by kernel_rfl) (by kernel_rfl) (fun _ _ _ h => h) (Or.inl ⟨by rfl, ?_⟩) (by assumption) ?_
  rotate_left
  · intro w hSw; (try dsimp only at hSw); go_simp; (try with_reducible rfl)
  try simp only [Act.put, List.setIfInBounds_toArray, List.set_cons_zero, List.set_cons_succ]
  refine wpAnyH_take (i := 5) (v := ?_) (by simp only [List.getElem?_toArray, List.getElem?_cons_zero, List.getElem?_cons_succ]; rfl) (by kernel_rfl) (by kernel_rfl) (by kernel_rfl) (fun _ _ _ h => h) (Or.inl ⟨by rfl, ?_⟩) (by assumption) ?_
  rotate_left
  · intro w hSw; (try dsimp only at hSw); go_simp; (try with_reducible rfl)
  try simp only [Act.put, List.setIfInBounds_toArray, List.set_cons_zero, List.set_cons_succ]
  refine wpAnyH_take (i := 6) (v := ?_) (by simp only [List.getElem?_toArray, List.getElem?_cons_zero, List.getElem?_cons_succ]; rfl) (by kernel_rfl) (by kernel_rfl) (by kernel_rfl) (fun _ _ _ h => h) (Or.inl ⟨by rfl, ?_⟩) (by assumption) ?_
  rotate_left
  · intro w hSw; (try dsimp only at hSw); go_simp; (try with_reducible rfl)
  try simp only [Act.put, List.setIfInBounds_toArray, List.set_cons_zero, List.set_cons_succ]
  refine wpAnyH_take (i := 7) (v := ?_) (by simp only [List.getElem?_toArray, List.getElem?_cons_zero, List.getElem?_cons_succ]; rfl) (by kernel_rfl) (by kernel_rfl) (by kernel_rfl) (fun _ _ _ h => h) (Or.inl ⟨by rfl, ?_⟩) (by assumption) ?_
  rotate_left
  · intro w hSw; (try dsimp only at hSw); go_simp; (try with_reducible rfl)
  try simp only [Act.put, List.setIfInBounds_toArray, List.set_cons_zero, List.set_cons_succ]
  refine wpAnyH_ready (rs := [8]) (by kernel_rfl) (by simp) ?_
  refine AllReadyH.cons (by simp only [List.getElem?_toArray, List.getElem?_cons_zero, List.getElem?_cons_succ]; rfl) (fun K hK => ?_) AllReadyH.nil
  go_simp
  go_at_call 90
  (with_reducible refine CC.out.mono ?_)
  rintro e w3 ⟨hb3, d3, rfl, hd3, hD3⟩
  have HB4 := hid hb3
  have HB5 := hid ((Below.refl w2.heap.size w2).drew.trans hb3)
  have HW3 := hid hD3
  have hS' : w3.cell? ⟨h, 1, none⟩ = some (.pointer (some ⟨c, 0, none⟩)) ∧ w3.cell? ⟨bx, 2, none⟩ = some (.int .i64 y.mode) ∧ w3.cell? ⟨bx, 3, none⟩ = some (.int .i64 y.at_) := ⟨(H2.out.loc.1.below HB5.out H2.out.loc.1.lt).cell 1, (X2.out.below HB5.out X2.out.lt).cell 2, (X2.out.below HB5.out X2.out.lt).cell 3⟩
  clear hb3 hd3 hD3 CC HB5
  try go_wp2_with fail
  refine hK.out _ _ ?_ (fun hH1 => ?_)
  · (try dsimp only); (first | assumption | exact hS0)
  clear hK K hH0
  try simp only [Act.put, List.setIfInBounds_toArray, List.set_cons_zero, List.set_cons_succ]
  refine wpAnyH_take (i := 9) (v := ?_) (by simp only [List.getElem?_toArray, List.getElem?_cons_zero, List.getElem?_cons_succ]; rfl) (by kernel_rfl) (by kernel_rfl) (by kernel_rfl) (fun _ _ _ h => h) (Or.inl ⟨by rfl, ?_⟩) (by assumption) ?_
  rotate_left
  · intro w hSw; (try dsimp only at hSw); go_simp; (try with_reducible rfl)
  try simp only [Act.put, List.setIfInBounds_toArray, List.set_cons_zero, List.set_cons_succ]
  refine wpAnyH_take (i := 10) (v := ?_) (by simp only [List.getElem?_toArray, List.getElem?_cons_zero, List.getElem?_cons_succ]; rfl) (by kernel_rfl) (by kernel_rfl) (by kernel_rfl) (fun _ _ _ h => h) (Or.inl ⟨by rfl, ?_⟩) (by assumption) ?_
  rotate_left
  · intro w hSw; (try dsimp only at hSw); go_simp; (try with_reducible rfl)
  try simp only [Act.put, List.setIfInBounds_toArray, List.set_cons_zero, List.set_cons_succ]
  refine wpAnyH_take (i := 11) (v := ?_) (by simp only [List.getElem?_toArray, List.getElem?_cons_zero, List.getElem?_cons_succ]; rfl) (by kernel_rfl) (by kernel_rfl) (by kernel_rfl) (fun _ _ _ h => h) (Or.inl ⟨by rfl, ?_⟩) (by assumption) ?_
  rotate_left
  · intro w hSw; (try dsimp only at hSw); go_simp; (try with_reducible rfl)
  try simp only [Act.put, List.setIfInBounds_toArray, List.set_cons_zero, List.set_cons_succ]
  refine wpAnyH_take (i := 12) (v := ?_) (by simp only [List.getElem?_toArray, List.getElem?_cons_zero, List.getElem?_cons_succ]; rfl) (by kernel_rfl) (by kernel_rfl) (by kernel_rfl) (fun _ _ _ h => h) (Or.inl ⟨by rfl, ?_⟩) (by assumption) ?_
  rotate_left
  · intro w hSw; (try dsimp only at hSw); go_simp; (try with_reducible rfl)
  try simp only [Act.put, List.setIfInBounds_toArray, List.set_cons_zero, List.set_cons_succ]
  refine wpAnyH_take (i := 13) (v := ?_) (by simp only [List.getElem?_toArray, List.getElem?_cons_zero, List.getElem?_cons_succ]; rfl) (by kernel_rfl) (by kernel_rfl) (by kernel_rfl) (fun _ _ _ h => h) (Or.inl ⟨by rfl, ?_⟩) (by assumption) ?_
  rotate_left
  · intro w hSw; (try dsimp only at hSw); go_simp; (try with_reducible rfl)
  try simp only [Act.put, List.setIfInBounds_toArray, List.set_cons_zero, List.set_cons_succ]
  refine wpAnyH_done (by kernel_rfl) ?_ _
  refine NoPanic.normal ?_
  rotate_left
  -- END 3
  have hE3 := (Evo.drew 0 0 g2 w2).trans (Evo.of_below (lo := 0) (hi := 0) g2 (nx + 1) HB4.out)
  have H3 := hid (H2.out.frame hE3 (by omega))
  have K3 := hid (K2.out.trans (KeepB.evo hE3 (by omega)))
  have D3 := hid (HD2.out.frame hE3 (by omega))
  clear hE3 H2 K2 X2 HB4 HD2 hS0
  generalize extc g2 w2.drew (nx + 1) = g3 at *
  obtain ⟨k2, k3⟩ : w3.cell? ⟨h, 2, none⟩ = some vd ∧ w3.cell? ⟨h, 3, none⟩ = some vw := ⟨H3.out.loc.1.cell 2, H3.out.loc.1.cell 3⟩
  obtain ⟨ad, cd, rfl, -, -⟩ := H3.out.rd.slice
  rw [rowD_length] at k2 H3
  have hfew := H3.out.few
  by_cases h6 : n < 6
  · have h6' : (n : Int) < 6 := by omega
    obtain ⟨i0, hi, hz0, hz1, hz2⟩ := info_parts Try.infoPD
    obtain ⟨j0, hj, hy0, hy1, hy2⟩ := info_parts Try.infoPW
    have HM := hid (show (rowD n x).length = n ∧ (rowB n x).length = n from ⟨rowD_length n x, rowB_length n x⟩)
    have Mw3 : Hid (Mid7 g3 w3 p h vp c nx N n d d3 V x D (.slice ad n cd) vw (.slice ad n cd) vw (rowD n x) (rowB n x) g3 w3) := hid ⟨H3.out.loc, H3.out.rest, H3.out.rd, H3.out.rb, D3.out, HW3.out, KeepB.refl _ _⟩
    clear D3 HW3 H3
    go_wp2_with fail
    have hS0 : w3.drew.cell? ⟨h, 2, none⟩ = some (.slice ad n cd) ∧ w3.drew.cell? ⟨h, 3, none⟩ = some vw := ⟨k2, k3⟩
    -- REGION 7
    refine wp_region_noPanic ?_
    refine wp_region_held_drew (S := fun _ => True) (by kernel_rfl) True.intro (fun _ => ?_)
    refine wpAnyH_take (i := 0) (v := ?_) (by simp only [List.getElem?_toArray, List.getElem?_cons_zero]; rfl) (by kernel_rfl) (by kernel_rfl) (by kernel_rfl) (fun _ _ _ h => h) (Or.inl ⟨by rfl, ?_⟩) True.intro ?_
    rotate_left
    · intro w hSw; (try dsimp only at hSw); go_simp; (try with_reducible rfl)
    try simp only [Act.put, List.setIfInBounds_toArray, List.set_cons_zero, List.set_cons_succ]
    refine wpAnyH_take (i := 1) (v := ?_) (by simp only [List.getElem?_toArray, List.getElem?_cons_zero, List.getElem?_cons_succ]; rfl) (by kernel_rfl) (by kernel_rfl) (by kernel_rfl) (fun _ _ _ h => h) (Or.inl ⟨by rfl, ?_⟩) True.intro ?_
    rotate_left
    · intro w hSw; (try dsimp only at hSw); go_simp; (try with_reducible rfl)
    try simp only [Act.put, List.setIfInBounds_toArray, List.set_cons_zero, List.set_cons_succ]
    refine wpAnyH_take (i := 2) (v := ?_) (by simp only [List.getElem?_toArray, List.getElem?_cons_zero, List.getElem?_cons_succ]; rfl) (by kernel_rfl) (by kernel_rfl) (by kernel_rfl) (fun _ _ _ h => h) (Or.inl ⟨by rfl, ?_⟩) True.intro ?_
    rotate_left
    · intro w hSw; (try dsimp only at hSw); go_simp; (try with_reducible rfl)
    try simp only [Act.put, List.setIfInBounds_toArray, List.set_cons_zero, List.set_cons_succ]
    refine wpAnyH_take (i := 3) (v := ?_) (by simp only [List.getElem?_toArray, List.getElem?_cons_zero, List.getElem?_cons_succ]; rfl) (by kernel_rfl) (by kernel_rfl) (by kernel_rfl) (fun _ _ _ h => h) (Or.inl ⟨by rfl, ?_⟩) True.intro ?_
    rotate_left
    · intro w hSw; (try dsimp only at hSw); go_simp; (try with_reducible rfl)
    try simp only [Act.put, List.setIfInBounds_toArray, List.set_cons_zero, List.set_cons_succ]
    refine wpAnyH_take (i := 4) (v := ?_) (by simp only [List.getElem?_toArray, List.getElem?_cons_zero, List.getElem?_cons_succ]; rfl) (by kernel_rfl) (by kernel_rfl) (by kernel_rfl) (fun _ _ _ h => h) (Or.inl ⟨by rfl, ?_⟩) True.intro ?_
    rotate_left
    · intro w hSw; (try dsimp only at hSw); go_simp; (try with_reducible rfl)
    try simp only [Act.put, List.setIfInBounds_toArray, List.set_cons_zero, List.set_cons_succ]
    refine wpAnyH_take (i := 6) (v := ?_) (by simp only [List.getElem?_toArray, List.getElem?_cons_zero, List.getElem?_cons_succ]; rfl) (by kernel_rfl) (by kernel_rfl) (by kernel_rfl) (fun _ _ _ h => h) (Or.inl ⟨by rfl, ?_⟩) True.intro ?_
    rotate_left
    · intro w hSw; (try dsimp only at hSw); go_simp; (try with_reducible rfl)
    try simp only [Act.put, List.setIfInBounds_toArray, List.set_cons_zero, List.set_cons_succ]
    refine wpAnyH_take (i := 9) (v := ?_) (by simp only [List.getElem?_toArray, List.getElem?_cons_zero, List.getElem?_cons_succ]; rfl) (by kernel_rfl) (by kernel_rfl) (by kernel_rfl) (fun _ _ _ h => h) (Or.inl ⟨by rfl, ?_⟩) True.intro ?_
    rotate_left
    · intro w hSw; (try dsimp only at hSw); go_simp; (try with_reducible rfl)
    try simp only [Act.put, List.setIfInBounds_toArray, List.set_cons_zero, List.set_cons_succ]
    refine wpAnyH_take (i := 10) (v := ?_) (by simp only [List.getElem?_toArray, List.getElem?_cons_zero, List.getElem?_cons_succ]; rfl) (by kernel_rfl) (by kernel_rfl) (by kernel_rfl) (fun _ _ _ h => h) (Or.inl ⟨by rfl, ?_⟩) True.intro ?_
    rotate_left
    · intro w hSw; (try dsimp only at hSw); go_simp; (try with_reducible rfl)
    try simp only [Act.put, List.setIfInBounds_toArray, List.set_cons_zero, List.set_cons_succ]
    refine wpAnyH_take (i := 11) (v := ?_) (by simp only [List.getElem?_toArray, List.getElem?_cons_zero, List.getElem?_cons_succ]; rfl) (by kernel_rfl) (by kernel_rfl) (by kernel_rfl) (fun _ _ _ h => h) (Or.inl ⟨by rfl, ?_⟩) True.intro ?_
    rotate_left
    · intro w hSw; (try dsimp only at hSw); go_simp; (try with_reducible rfl)
    try simp only [Act.put, List.setIfInBounds_toArray, List.set_cons_zero, List.set_cons_succ]
    refine wpAnyH_take (i := 13) (v := ?_) (by simp only [List.getElem?_toArray, List.getElem?_cons_zero, List.getElem?_cons_succ]; rfl) (by kernel_rfl) (by kernel_rfl) (by kernel_rfl) (fun _ _ _ h => h) (Or.inl ⟨by rfl, ?_⟩) True.intro ?_
    rotate_left
    · intro w hSw; (try dsimp only at hSw); go_simp; (try with_reducible rfl)
    try simp only [Act.put, List.setIfInBounds_toArray, List.set_cons_zero, List.set_cons_succ]
    have M := hid (Mw3.out.below' (Below.refl w3.heap.size w3).drew)
    clear hS0
    generalize w3.drew = w at *
    revert w
    refine' join6 (fun (g : Nat → Nat) (bd : Nat) (bw : Nat) (a8 : Option Addr) (c8 : Nat) (w : World) => Mid7 g3 w3 p h vp c nx N n d d3 V x D (.slice ad n cd) vw (.slice a8 (n + 1) c8) (vw) (rowD n x ++ [.pointer (some ⟨d, 0, none⟩)]) (rowB n x) g w ∧ LocC w g (p + 36) bw 33 [.pointer (some ⟨d3, 0, none⟩)]) _ (fun HJ5_7_8_12_14 => ?_) (fun g bd bw a8 c8 w hf => ?_)
    rotate_left
    · skip
      have HHJ5_7_8_12_14 := hid HJ5_7_8_12_14
      clear HJ5_7_8_12_14
      refine' join6 (fun (g : Nat → Nat) (bd : Nat) (bw : Nat) (a8 : Option Addr) (c8 : Nat) (w : World) => Mid7 g3 w3 p h vp c nx N n d d3 V x D (.slice ad n cd) vw (.slice a8 (n + 1) c8) (vw) (rowD n x ++ [.pointer (some ⟨d, 0, none⟩)]) (rowB n x) g w ∧ LocC w g (p + 36) bw 33 [.pointer (some ⟨d3, 0, none⟩)]) _ (fun HJ5_7_8_14 => ?_) (fun g bd bw a8 c8 w hf => ?_)
      rotate_left
      · skip
        have HHJ5_7_8_14 := hid HJ5_7_8_14
        clear HJ5_7_8_14
        refine' join5 (fun (g : Nat → Nat) (bd : Nat) (a8 : Option Addr) (c8 : Nat) (w : World) => Mid7 g3 w3 p h vp c nx N n d d3 V x D (.slice ad n cd) vw (.slice a8 (n + 1) c8) (vw) (rowD n x ++ [.pointer (some ⟨d, 0, none⟩)]) (rowB n x) g w) _ (fun HJ5_7_8_12 => ?_) (fun g bd a8 c8 w hf => ?_)
        rotate_left
        · skip
          have HHJ5_7_8_12 := hid HJ5_7_8_12
          clear HJ5_7_8_12
          refine' join4 (fun (g : Nat → Nat) (bd : Nat) (bw : Nat) (w : World) => Mid7 g3 w3 p h vp c nx N n d d3 V x D (.slice ad n cd) vw (.slice ad n cd) (vw) (rowD n x) (rowB n x) g w ∧ LocC w g (p + 36) bd 31 [.pointer (some ⟨d, 0, none⟩)] ∧ LocC w g (p + 36) bw 33 [.pointer (some ⟨d3, 0, none⟩)]) _ (fun HJ5_7_12_14 => ?_) (fun g bd bw w hf => ?_)
          rotate_left
          · skip
            have HHJ5_7_12_14 := hid HJ5_7_12_14
            clear HJ5_7_12_14
            refine' join5 (fun (g : Nat → Nat) (bd : Nat) (a8 : Option Addr) (c8 : Nat) (w : World) => Mid7 g3 w3 p h vp c nx N n d d3 V x D (.slice ad n cd) vw (.slice a8 (n + 1) c8) (vw) (rowD n x ++ [.pointer (some ⟨d, 0, none⟩)]) (rowB n x) g w) _ (fun HJ5_7_8 => ?_) (fun g bd a8 c8 w hf => ?_)
            rotate_left
            · skip
              have HHJ5_7_8 := hid HJ5_7_8
              clear HJ5_7_8
              refine' join4 (fun (g : Nat → Nat) (bd : Nat) (bw : Nat) (w : World) => Mid7 g3 w3 p h vp c nx N n d d3 V x D (.slice ad n cd) vw (.slice ad n cd) (vw) (rowD n x) (rowB n x) g w ∧ LocC w g (p + 36) bd 31 [.pointer (some ⟨d, 0, none⟩)] ∧ LocC w g (p + 36) bw 33 [.pointer (some ⟨d3, 0, none⟩)]) _ (fun HJ7_12_14 => ?_) (fun g bd bw w hf => ?_)
              rotate_left
              · skip
                have HHJ7_12_14 := hid HJ7_12_14
                clear HJ7_12_14
                refine' join3 (fun (g : Nat → Nat) (bw : Nat) (w : World) => Mid7 g3 w3 p h vp c nx N n d d3 V x D (.slice ad n cd) vw (.slice ad n cd) (vw) (rowD n x) (rowB n x) g w ∧ LocC w g (p + 36) bw 33 [.pointer (some ⟨d3, 0, none⟩)]) _ (fun HJ5_12_14 => ?_) (fun g bw w hf => ?_)
                rotate_left
                · skip
                  have HHJ5_12_14 := hid HJ5_12_14
                  clear HJ5_12_14
                  refine' join4 (fun (g : Nat → Nat) (bd : Nat) (bw : Nat) (w : World) => Mid7 g3 w3 p h vp c nx N n d d3 V x D (.slice ad n cd) vw (.slice ad n cd) (vw) (rowD n x) (rowB n x) g w ∧ LocC w g (p + 36) bd 31 [.pointer (some ⟨d, 0, none⟩)] ∧ LocC w g (p + 36) bw 33 [.pointer (some ⟨d3, 0, none⟩)]) _ (fun HJ5_7_14 => ?_) (fun g bd bw w hf => ?_)
                  rotate_left
                  · skip
                    have HHJ5_7_14 := hid HJ5_7_14
                    clear HJ5_7_14
                    refine' join3 (fun (g : Nat → Nat) (bd : Nat) (w : World) => Mid7 g3 w3 p h vp c nx N n d d3 V x D (.slice ad n cd) vw (.slice ad n cd) (vw) (rowD n x) (rowB n x) g w ∧ LocC w g (p + 36) bd 31 [.pointer (some ⟨d, 0, none⟩)]) _ (fun HJ5_7_12 => ?_) (fun g bd w hf => ?_)
                    rotate_left
                    · skip
                      have HHJ5_7_12 := hid HJ5_7_12
                      clear HJ5_7_12
                      refine' join3 (fun (g : Nat → Nat) (bw : Nat) (w : World) => Mid7 g3 w3 p h vp c nx N n d d3 V x D (.slice ad n cd) vw (.slice ad n cd) (vw) (rowD n x) (rowB n x) g w ∧ LocC w g (p + 36) bw 33 [.pointer (some ⟨d3, 0, none⟩)]) _ (fun HJ12_14 => ?_) (fun g bw w hf => ?_)
                      rotate_left
                      · skip
                        have HHJ12_14 := hid HJ12_14
                        clear HJ12_14
                        refine' join4 (fun (g : Nat → Nat) (bd : Nat) (bw : Nat) (w : World) => Mid7 g3 w3 p h vp c nx N n d d3 V x D (.slice ad n cd) vw (.slice ad n cd) (vw) (rowD n x) (rowB n x) g w ∧ LocC w g (p + 36) bd 31 [.pointer (some ⟨d, 0, none⟩)] ∧ LocC w g (p + 36) bw 33 [.pointer (some ⟨d3, 0, none⟩)]) _ (fun HJ7_14 => ?_) (fun g bd bw w hf => ?_)
                        rotate_left
                        · skip
                          have HHJ7_14 := hid HJ7_14
                          clear HJ7_14
                          refine' join3 (fun (g : Nat → Nat) (bd : Nat) (w : World) => Mid7 g3 w3 p h vp c nx N n d d3 V x D (.slice ad n cd) vw (.slice ad n cd) (vw) (rowD n x) (rowB n x) g w ∧ LocC w g (p + 36) bd 31 [.pointer (some ⟨d, 0, none⟩)]) _ (fun HJ7_12 => ?_) (fun g bd w hf => ?_)
                          rotate_left
                          · skip
                            have HHJ7_12 := hid HJ7_12
                            clear HJ7_12
                            refine' join3 (fun (g : Nat → Nat) (bw : Nat) (w : World) => Mid7 g3 w3 p h vp c nx N n d d3 V x D (.slice ad n cd) vw (.slice ad n cd) (vw) (rowD n x) (rowB n x) g w ∧ LocC w g (p + 36) bw 33 [.pointer (some ⟨d3, 0, none⟩)]) _ (fun HJ5_14 => ?_) (fun g bw w hf => ?_)
                            rotate_left
                            · skip
                              have HHJ5_14 := hid HJ5_14
                              clear HJ5_14
                              refine' join2 (fun (g : Nat → Nat) (w : World) => Mid7 g3 w3 p h vp c nx N n d d3 V x D (.slice ad n cd) vw (.slice ad n cd) (vw) (rowD n x) (rowB n x) g w) _ (fun HJ5_12 => ?_) (fun g w hf => ?_)
                              rotate_left
                              · skip
                                have HHJ5_12 := hid HJ5_12
                                clear HJ5_12
                                refine' join3 (fun (g : Nat → Nat) (bd : Nat) (w : World) => Mid7 g3 w3 p h vp c nx N n d d3 V x D (.slice ad n cd) vw (.slice ad n cd) (vw) (rowD n x) (rowB n x) g w ∧ LocC w g (p + 36) bd 31 [.pointer (some ⟨d, 0, none⟩)]) _ (fun HJ5_7 => ?_) (fun g bd w hf => ?_)
                                rotate_left
                                · skip
                                  have HHJ5_7 := hid HJ5_7
                                  clear HJ5_7
                                  refine' join3 (fun (g : Nat → Nat) (bw : Nat) (w : World) => Mid7 g3 w3 p h vp c nx N n d d3 V x D (.slice ad n cd) vw (.slice ad n cd) (vw) (rowD n x) (rowB n x) g w ∧ LocC w g (p + 36) bw 33 [.pointer (some ⟨d3, 0, none⟩)]) _ (fun HJ14 => ?_) (fun g bw w hf => ?_)
                                  rotate_left
                                  · skip
                                    have HHJ14 := hid HJ14
                                    clear HJ14
                                    refine' join2 (fun (g : Nat → Nat) (w : World) => Mid7 g3 w3 p h vp c nx N n d d3 V x D (.slice ad n cd) vw (.slice ad n cd) (vw) (rowD n x) (rowB n x) g w) _ (fun HJ12 => ?_) (fun g w hf => ?_)
                                    rotate_left
                                    · skip
                                      have HHJ12 := hid HJ12
                                      clear HJ12
                                      refine' join3 (fun (g : Nat → Nat) (bd : Nat) (w : World) => Mid7 g3 w3 p h vp c nx N n d d3 V x D (.slice ad n cd) vw (.slice ad n cd) (vw) (rowD n x) (rowB n x) g w ∧ LocC w g (p + 36) bd 31 [.pointer (some ⟨d, 0, none⟩)]) _ (fun HJ7 => ?_) (fun g bd w hf => ?_)
                                      rotate_left
                                      · skip
                                        have HHJ7 := hid HJ7
                                        clear HJ7
                                        refine' join2 (fun (g : Nat → Nat) (w : World) => Mid7 g3 w3 p h vp c nx N n d d3 V x D (.slice ad n cd) vw (.slice ad n cd) (vw) (rowD n x) (rowB n x) g w) _ (fun HJ5 => ?_) (fun g w hf => ?_)
                                        rotate_left
                                        · skip
                                          have HHJ5 := hid HJ5
                                          clear HJ5
                                          intro w M0
                                          obtain ⟨g, M⟩ : ∃ g, Hid (Mid7 g3 w3 p h vp c nx N n d d3 V x D (.slice ad n cd) vw (.slice ad n cd) (vw) (rowD n x) (rowB n x) g w) := ⟨g3, M0⟩
                                          clear M0
                                          refine wpAnyH_ready (rs := [5, 7, 12, 14]) (by kernel_rfl) (by simp) ?_
                                          refine AllReadyH.cons (by simp only [List.getElem?_toArray, List.getElem?_cons_zero, List.getElem?_cons_succ]; rfl) (fun K hK => ?_) ?_
                                          · skip
                                            have q := M.out.loc.1.cell 2
                                            simp only [List.getElem?_cons_succ, List.getElem?_cons_zero] at q
                                            go_simp
                                            refine hK.out _ _ True.intro (fun _ => ?_)
                                            clear q
                                            clear hK K
                                            try simp only [Act.put, List.setIfInBounds_toArray, List.set_cons_zero, List.set_cons_succ]
                                            exact HHJ5.out g w M.out
                                          refine AllReadyH.cons (by simp only [List.getElem?_toArray, List.getElem?_cons_zero, List.getElem?_cons_succ]; rfl) (fun K hK => ?_) ?_
                                          · skip
                                            go_simp
                                            have hA : Evo 0 0 g (extc g w (p + 36)) w (w.alloc (.cells #[.pointer (some ⟨d, 0, none⟩)] 31)) := Evo.alloc g (p + 36) w (.cells #[.pointer (some ⟨d, 0, none⟩)] 31)
                                            have M2 := hid (M.out.fresh hA)
                                            have LD3 : Hid (LocC (w.alloc (.cells #[.pointer (some ⟨d, 0, none⟩)] 31)) (extc g w (p + 36)) (p + 36) w.heap.size 31 [.pointer (some ⟨d, 0, none⟩)]) := hid (LocC.new g (p + 36) w 31 [.pointer (some ⟨d, 0, none⟩)])
                                            clear hA
                                            generalize (w.alloc (.cells #[.pointer (some ⟨d, 0, none⟩)] 31)) = w2 at *
                                            generalize extc g w (p + 36) = g2 at *
                                            generalize w.heap.size = bd at *
                                            refine hK.out _ _ True.intro (fun _ => ?_)
                                            clear hK K
                                            try simp only [Act.put, List.setIfInBounds_toArray, List.set_cons_zero, List.set_cons_succ]
                                            exact HHJ7.out g2 bd w2 ⟨M2.out, LD3.out⟩
                                          refine AllReadyH.cons (by simp only [List.getElem?_toArray, List.getElem?_cons_zero, List.getElem?_cons_succ]; rfl) (fun K hK => ?_) ?_
                                          · skip
                                            have q := M.out.loc.1.cell 3
                                            simp only [List.getElem?_cons_succ, List.getElem?_cons_zero] at q
                                            go_simp
                                            refine hK.out _ _ True.intro (fun _ => ?_)
                                            clear q
                                            clear hK K
                                            try simp only [Act.put, List.setIfInBounds_toArray, List.set_cons_zero, List.set_cons_succ]
                                            exact HHJ12.out g w M.out
                                          refine AllReadyH.cons (by simp only [List.getElem?_toArray, List.getElem?_cons_zero, List.getElem?_cons_succ]; rfl) (fun K hK => ?_) AllReadyH.nil
                                          go_simp
                                          have hA : Evo 0 0 g (extc g w (p + 36)) w (w.alloc (.cells #[.pointer (some ⟨d3, 0, none⟩)] 33)) := Evo.alloc g (p + 36) w (.cells #[.pointer (some ⟨d3, 0, none⟩)] 33)
                                          have M2 := hid (M.out.fresh hA)
                                          have LW3 : Hid (LocC (w.alloc (.cells #[.pointer (some ⟨d3, 0, none⟩)] 33)) (extc g w (p + 36)) (p + 36) w.heap.size 33 [.pointer (some ⟨d3, 0, none⟩)]) := hid (LocC.new g (p + 36) w 33 [.pointer (some ⟨d3, 0, none⟩)])
                                          clear hA
                                          generalize (w.alloc (.cells #[.pointer (some ⟨d3, 0, none⟩)] 33)) = w2 at *
                                          generalize extc g w (p + 36) = g2 at *
                                          generalize w.heap.size = bw at *
                                          refine hK.out _ _ True.intro (fun _ => ?_)
                                          clear hK K
                                          try simp only [Act.put, List.setIfInBounds_toArray, List.set_cons_zero, List.set_cons_succ]
                                          exact HHJ14.out g2 bw w2 ⟨M2.out, LW3.out⟩
                                        · skip
                                          have hM := hf
                                          have M := hid hM
                                          clear hM hf
                                          refine wpAnyH_ready (rs := [7, 12, 14]) (by kernel_rfl) (by simp) ?_
                                          refine AllReadyH.cons (by simp only [List.getElem?_toArray, List.getElem?_cons_zero, List.getElem?_cons_succ]; rfl) (fun K hK => ?_) ?_
                                          · skip
                                            go_simp
                                            have hA : Evo 0 0 g (extc g w (p + 36)) w (w.alloc (.cells #[.pointer (some ⟨d, 0, none⟩)] 31)) := Evo.alloc g (p + 36) w (.cells #[.pointer (some ⟨d, 0, none⟩)] 31)
                                            have M2 := hid (M.out.fresh hA)
                                            have LD3 : Hid (LocC (w.alloc (.cells #[.pointer (some ⟨d, 0, none⟩)] 31)) (extc g w (p + 36)) (p + 36) w.heap.size 31 [.pointer (some ⟨d, 0, none⟩)]) := hid (LocC.new g (p + 36) w 31 [.pointer (some ⟨d, 0, none⟩)])
                                            clear hA
                                            generalize (w.alloc (.cells #[.pointer (some ⟨d, 0, none⟩)] 31)) = w2 at *
                                            generalize extc g w (p + 36) = g2 at *
                                            generalize w.heap.size = bd at *
                                            refine hK.out _ _ True.intro (fun _ => ?_)
                                            clear hK K
                                            try simp only [Act.put, List.setIfInBounds_toArray, List.set_cons_zero, List.set_cons_succ]
                                            exact HHJ5_7.out g2 bd w2 ⟨M2.out, LD3.out⟩
                                          refine AllReadyH.cons (by simp only [List.getElem?_toArray, List.getElem?_cons_zero, List.getElem?_cons_succ]; rfl) (fun K hK => ?_) ?_
                                          · skip
                                            have q := M.out.loc.1.cell 3
                                            simp only [List.getElem?_cons_succ, List.getElem?_cons_zero] at q
                                            go_simp
                                            refine hK.out _ _ True.intro (fun _ => ?_)
                                            clear q
                                            clear hK K
                                            try simp only [Act.put, List.setIfInBounds_toArray, List.set_cons_zero, List.set_cons_succ]
                                            exact HHJ5_12.out g w M.out
                                          refine AllReadyH.cons (by simp only [List.getElem?_toArray, List.getElem?_cons_zero, List.getElem?_cons_succ]; rfl) (fun K hK => ?_) AllReadyH.nil
                                          go_simp
                                          have hA : Evo 0 0 g (extc g w (p + 36)) w (w.alloc (.cells #[.pointer (some ⟨d3, 0, none⟩)] 33)) := Evo.alloc g (p + 36) w (.cells #[.pointer (some ⟨d3, 0, none⟩)] 33)
                                          have M2 := hid (M.out.fresh hA)
                                          have LW3 : Hid (LocC (w.alloc (.cells #[.pointer (some ⟨d3, 0, none⟩)] 33)) (extc g w (p + 36)) (p + 36) w.heap.size 33 [.pointer (some ⟨d3, 0, none⟩)]) := hid (LocC.new g (p + 36) w 33 [.pointer (some ⟨d3, 0, none⟩)])
                                          clear hA
                                          generalize (w.alloc (.cells #[.pointer (some ⟨d3, 0, none⟩)] 33)) = w2 at *
                                          generalize extc g w (p + 36) = g2 at *
                                          generalize w.heap.size = bw at *
                                          refine hK.out _ _ True.intro (fun _ => ?_)
                                          clear hK K
                                          try simp only [Act.put, List.setIfInBounds_toArray, List.set_cons_zero, List.set_cons_succ]
                                          exact HHJ5_14.out g2 bw w2 ⟨M2.out, LW3.out⟩
                                      · skip
                                        obtain ⟨hM, hLD⟩ := hf
                                        have M := hid hM
                                        have LD := hid hLD
                                        clear hM hLD
                                        refine wpAnyH_ready (rs := [5, 12, 14]) (by kernel_rfl) (by simp) ?_
                                        refine AllReadyH.cons (by simp only [List.getElem?_toArray, List.getElem?_cons_zero, List.getElem?_cons_succ]; rfl) (fun K hK => ?_) ?_
                                        · skip
                                          have q := M.out.loc.1.cell 2
                                          simp only [List.getElem?_cons_succ, List.getElem?_cons_zero] at q
                                          go_simp
                                          refine hK.out _ _ True.intro (fun _ => ?_)
                                          clear q
                                          clear hK K
                                          try simp only [Act.put, List.setIfInBounds_toArray, List.set_cons_zero, List.set_cons_succ]
                                          exact HHJ5_7.out g bd w ⟨M.out, LD.out⟩
                                        refine AllReadyH.cons (by simp only [List.getElem?_toArray, List.getElem?_cons_zero, List.getElem?_cons_succ]; rfl) (fun K hK => ?_) ?_
                                        · skip
                                          have q := M.out.loc.1.cell 3
                                          simp only [List.getElem?_cons_succ, List.getElem?_cons_zero] at q
                                          go_simp
                                          refine hK.out _ _ True.intro (fun _ => ?_)
                                          clear q
                                          clear hK K
                                          try simp only [Act.put, List.setIfInBounds_toArray, List.set_cons_zero, List.set_cons_succ]
                                          exact HHJ7_12.out g bd w ⟨M.out, LD.out⟩
                                        refine AllReadyH.cons (by simp only [List.getElem?_toArray, List.getElem?_cons_zero, List.getElem?_cons_succ]; rfl) (fun K hK => ?_) AllReadyH.nil
                                        go_simp
                                        have hA : Evo 0 0 g (extc g w (p + 36)) w (w.alloc (.cells #[.pointer (some ⟨d3, 0, none⟩)] 33)) := Evo.alloc g (p + 36) w (.cells #[.pointer (some ⟨d3, 0, none⟩)] 33)
                                        have M2 := hid (M.out.fresh hA)
                                        have LD2 := hid (LD.out.frame hA (by omega))
                                        have LW3 : Hid (LocC (w.alloc (.cells #[.pointer (some ⟨d3, 0, none⟩)] 33)) (extc g w (p + 36)) (p + 36) w.heap.size 33 [.pointer (some ⟨d3, 0, none⟩)]) := hid (LocC.new g (p + 36) w 33 [.pointer (some ⟨d3, 0, none⟩)])
                                        clear hA
                                        generalize (w.alloc (.cells #[.pointer (some ⟨d3, 0, none⟩)] 33)) = w2 at *
                                        generalize extc g w (p + 36) = g2 at *
                                        generalize w.heap.size = bw at *
                                        refine hK.out _ _ True.intro (fun _ => ?_)
                                        clear hK K
                                        try simp only [Act.put, List.setIfInBounds_toArray, List.set_cons_zero, List.set_cons_succ]
                                        exact HHJ7_14.out g2 bd bw w2 ⟨M2.out, LD2.out, LW3.out⟩
                                    · skip
                                      have hM := hf
                                      have M := hid hM
                                      clear hM hf
                                      refine wpAnyH_ready (rs := [5, 7, 14]) (by kernel_rfl) (by simp) ?_
                                      refine AllReadyH.cons (by simp only [List.getElem?_toArray, List.getElem?_cons_zero, List.getElem?_cons_succ]; rfl) (fun K hK => ?_) ?_
                                      · skip
                                        have q := M.out.loc.1.cell 2
                                        simp only [List.getElem?_cons_succ, List.getElem?_cons_zero] at q
                                        go_simp
                                        refine hK.out _ _ True.intro (fun _ => ?_)
                                        clear q
                                        clear hK K
                                        try simp only [Act.put, List.setIfInBounds_toArray, List.set_cons_zero, List.set_cons_succ]
                                        exact HHJ5_12.out g w M.out
                                      refine AllReadyH.cons (by simp only [List.getElem?_toArray, List.getElem?_cons_zero, List.getElem?_cons_succ]; rfl) (fun K hK => ?_) ?_
                                      · skip
                                        go_simp
                                        have hA : Evo 0 0 g (extc g w (p + 36)) w (w.alloc (.cells #[.pointer (some ⟨d, 0, none⟩)] 31)) := Evo.alloc g (p + 36) w (.cells #[.pointer (some ⟨d, 0, none⟩)] 31)
                                        have M2 := hid (M.out.fresh hA)
                                        have LD3 : Hid (LocC (w.alloc (.cells #[.pointer (some ⟨d, 0, none⟩)] 31)) (extc g w (p + 36)) (p + 36) w.heap.size 31 [.pointer (some ⟨d, 0, none⟩)]) := hid (LocC.new g (p + 36) w 31 [.pointer (some ⟨d, 0, none⟩)])
                                        clear hA
                                        generalize (w.alloc (.cells #[.pointer (some ⟨d, 0, none⟩)] 31)) = w2 at *
                                        generalize extc g w (p + 36) = g2 at *
                                        generalize w.heap.size = bd at *
                                        refine hK.out _ _ True.intro (fun _ => ?_)
                                        clear hK K
                                        try simp only [Act.put, List.setIfInBounds_toArray, List.set_cons_zero, List.set_cons_succ]
                                        exact HHJ7_12.out g2 bd w2 ⟨M2.out, LD3.out⟩
                                      refine AllReadyH.cons (by simp only [List.getElem?_toArray, List.getElem?_cons_zero, List.getElem?_cons_succ]; rfl) (fun K hK => ?_) AllReadyH.nil
                                      go_simp
                                      have hA : Evo 0 0 g (extc g w (p + 36)) w (w.alloc (.cells #[.pointer (some ⟨d3, 0, none⟩)] 33)) := Evo.alloc g (p + 36) w (.cells #[.pointer (some ⟨d3, 0, none⟩)] 33)
                                      have M2 := hid (M.out.fresh hA)
                                      have LW3 : Hid (LocC (w.alloc (.cells #[.pointer (some ⟨d3, 0, none⟩)] 33)) (extc g w (p + 36)) (p + 36) w.heap.size 33 [.pointer (some ⟨d3, 0, none⟩)]) := hid (LocC.new g (p + 36) w 33 [.pointer (some ⟨d3, 0, none⟩)])
                                      clear hA
                                      generalize (w.alloc (.cells #[.pointer (some ⟨d3, 0, none⟩)] 33)) = w2 at *
                                      generalize extc g w (p + 36) = g2 at *
                                      generalize w.heap.size = bw at *
                                      refine hK.out _ _ True.intro (fun _ => ?_)
                                      clear hK K
                                      try simp only [Act.put, List.setIfInBounds_toArray, List.set_cons_zero, List.set_cons_succ]
                                      exact HHJ12_14.out g2 bw w2 ⟨M2.out, LW3.out⟩
                                  · skip
                                    obtain ⟨hM, hLW⟩ := hf
                                    have M := hid hM
                                    have LW := hid hLW
                                    clear hM hLW
                                    refine wpAnyH_ready (rs := [5, 7, 12]) (by kernel_rfl) (by simp) ?_
                                    refine AllReadyH.cons (by simp only [List.getElem?_toArray, List.getElem?_cons_zero, List.getElem?_cons_succ]; rfl) (fun K hK => ?_) ?_
                                    · skip
                                      have q := M.out.loc.1.cell 2
                                      simp only [List.getElem?_cons_succ, List.getElem?_cons_zero] at q
                                      go_simp
                                      refine hK.out _ _ True.intro (fun _ => ?_)
                                      clear q
                                      clear hK K
                                      try simp only [Act.put, List.setIfInBounds_toArray, List.set_cons_zero, List.set_cons_succ]
                                      exact HHJ5_14.out g bw w ⟨M.out, LW.out⟩
                                    refine AllReadyH.cons (by simp only [List.getElem?_toArray, List.getElem?_cons_zero, List.getElem?_cons_succ]; rfl) (fun K hK => ?_) ?_
                                    · skip
                                      go_simp
                                      have hA : Evo 0 0 g (extc g w (p + 36)) w (w.alloc (.cells #[.pointer (some ⟨d, 0, none⟩)] 31)) := Evo.alloc g (p + 36) w (.cells #[.pointer (some ⟨d, 0, none⟩)] 31)
                                      have M2 := hid (M.out.fresh hA)
                                      have LW2 := hid (LW.out.frame hA (by omega))
                                      have LD3 : Hid (LocC (w.alloc (.cells #[.pointer (some ⟨d, 0, none⟩)] 31)) (extc g w (p + 36)) (p + 36) w.heap.size 31 [.pointer (some ⟨d, 0, none⟩)]) := hid (LocC.new g (p + 36) w 31 [.pointer (some ⟨d, 0, none⟩)])
                                      clear hA
                                      generalize (w.alloc (.cells #[.pointer (some ⟨d, 0, none⟩)] 31)) = w2 at *
                                      generalize extc g w (p + 36) = g2 at *
                                      generalize w.heap.size = bd at *
                                      refine hK.out _ _ True.intro (fun _ => ?_)
                                      clear hK K
                                      try simp only [Act.put, List.setIfInBounds_toArray, List.set_cons_zero, List.set_cons_succ]
                                      exact HHJ7_14.out g2 bd bw w2 ⟨M2.out, LD3.out, LW2.out⟩
                                    refine AllReadyH.cons (by simp only [List.getElem?_toArray, List.getElem?_cons_zero, List.getElem?_cons_succ]; rfl) (fun K hK => ?_) AllReadyH.nil
                                    have q := M.out.loc.1.cell 3
                                    simp only [List.getElem?_cons_succ, List.getElem?_cons_zero] at q
                                    go_simp
                                    refine hK.out _ _ True.intro (fun _ => ?_)
                                    clear q
                                    clear hK K
                                    try simp only [Act.put, List.setIfInBounds_toArray, List.set_cons_zero, List.set_cons_succ]
                                    exact HHJ12_14.out g bw w ⟨M.out, LW.out⟩
                                · skip
                                  obtain ⟨hM, hLD⟩ := hf
                                  have M := hid hM
                                  have LD := hid hLD
                                  clear hM hLD
                                  refine wpAnyH_ready (rs := [8, 12, 14]) (by kernel_rfl) (by simp) ?_
                                  refine AllReadyH.cons (by simp only [List.getElem?_toArray, List.getElem?_cons_zero, List.getElem?_cons_succ]; rfl) (fun K hK => ?_) ?_
                                  · skip
                                    (refine step_append_row rfl (.tmp 76) (.tmp 78) 66 rfl i0 (.pointer none) Try.underlying66 hi hz0 hz1 hz2 rfl (.slice ad n cd) (rowD n x) rfl M.out.rd (some ⟨bd, 0, none⟩) 1 1 [.pointer (some ⟨d, 0, none⟩)] rfl rfl (one_at LD.out.1) (by simp [Value.oneCell']) (by rw [HM.out.1]; simp only [List.length_cons, List.length_nil]; omega) ?_)
                                    intro v8 w2 hR hE
                                    obtain ⟨a8, c8, hv8, -, -⟩ := hR.slice
                                    rw [List.length_append, rowD_length] at hv8
                                    subst hv8
                                    have M2 := hid (M.out.appD hE hR)
                                    clear hR hE
                                    generalize extc g w (p + 33) = g2 at *
                                    refine hK.out _ _ True.intro (fun _ => ?_)
                                    clear hK K
                                    try simp only [Act.put, List.setIfInBounds_toArray, List.set_cons_zero, List.set_cons_succ]
                                    exact HHJ5_7_8.out g2 bd a8 c8 w2 M2.out
                                  refine AllReadyH.cons (by simp only [List.getElem?_toArray, List.getElem?_cons_zero, List.getElem?_cons_succ]; rfl) (fun K hK => ?_) ?_
                                  · skip
                                    have q := M.out.loc.1.cell 3
                                    simp only [List.getElem?_cons_succ, List.getElem?_cons_zero] at q
                                    go_simp
                                    refine hK.out _ _ True.intro (fun _ => ?_)
                                    clear q
                                    clear hK K
                                    try simp only [Act.put, List.setIfInBounds_toArray, List.set_cons_zero, List.set_cons_succ]
                                    exact HHJ5_7_12.out g bd w ⟨M.out, LD.out⟩
                                  refine AllReadyH.cons (by simp only [List.getElem?_toArray, List.getElem?_cons_zero, List.getElem?_cons_succ]; rfl) (fun K hK => ?_) AllReadyH.nil
                                  go_simp
                                  have hA : Evo 0 0 g (extc g w (p + 36)) w (w.alloc (.cells #[.pointer (some ⟨d3, 0, none⟩)] 33)) := Evo.alloc g (p + 36) w (.cells #[.pointer (some ⟨d3, 0, none⟩)] 33)
                                  have M2 := hid (M.out.fresh hA)
                                  have LD2 := hid (LD.out.frame hA (by omega))
                                  have LW3 : Hid (LocC (w.alloc (.cells #[.pointer (some ⟨d3, 0, none⟩)] 33)) (extc g w (p + 36)) (p + 36) w.heap.size 33 [.pointer (some ⟨d3, 0, none⟩)]) := hid (LocC.new g (p + 36) w 33 [.pointer (some ⟨d3, 0, none⟩)])
                                  clear hA
                                  generalize (w.alloc (.cells #[.pointer (some ⟨d3, 0, none⟩)] 33)) = w2 at *
                                  generalize extc g w (p + 36) = g2 at *
                                  generalize w.heap.size = bw at *
                                  refine hK.out _ _ True.intro (fun _ => ?_)
                                  clear hK K
                                  try simp only [Act.put, List.setIfInBounds_toArray, List.set_cons_zero, List.set_cons_succ]
                                  exact HHJ5_7_14.out g2 bd bw w2 ⟨M2.out, LD2.out, LW3.out⟩
                              · skip
                                have hM := hf
                                have M := hid hM
                                clear hM hf
                                refine wpAnyH_ready (rs := [7, 14]) (by kernel_rfl) (by simp) ?_
                                refine AllReadyH.cons (by simp only [List.getElem?_toArray, List.getElem?_cons_zero, List.getElem?_cons_succ]; rfl) (fun K hK => ?_) ?_
                                · skip
                                  go_simp
                                  have hA : Evo 0 0 g (extc g w (p + 36)) w (w.alloc (.cells #[.pointer (some ⟨d, 0, none⟩)] 31)) := Evo.alloc g (p + 36) w (.cells #[.pointer (some ⟨d, 0, none⟩)] 31)
                                  have M2 := hid (M.out.fresh hA)
                                  have LD3 : Hid (LocC (w.alloc (.cells #[.pointer (some ⟨d, 0, none⟩)] 31)) (extc g w (p + 36)) (p + 36) w.heap.size 31 [.pointer (some ⟨d, 0, none⟩)]) := hid (LocC.new g (p + 36) w 31 [.pointer (some ⟨d, 0, none⟩)])
                                  clear hA
                                  generalize (w.alloc (.cells #[.pointer (some ⟨d, 0, none⟩)] 31)) = w2 at *
                                  generalize extc g w (p + 36) = g2 at *
                                  generalize w.heap.size = bd at *
                                  refine hK.out _ _ True.intro (fun _ => ?_)
                                  clear hK K
                                  try simp only [Act.put, List.setIfInBounds_toArray, List.set_cons_zero, List.set_cons_succ]
                                  exact HHJ5_7_12.out g2 bd w2 ⟨M2.out, LD3.out⟩
                                refine AllReadyH.cons (by simp only [List.getElem?_toArray, List.getElem?_cons_zero, List.getElem?_cons_succ]; rfl) (fun K hK => ?_) AllReadyH.nil
                                go_simp
                                have hA : Evo 0 0 g (extc g w (p + 36)) w (w.alloc (.cells #[.pointer (some ⟨d3, 0, none⟩)] 33)) := Evo.alloc g (p + 36) w (.cells #[.pointer (some ⟨d3, 0, none⟩)] 33)
                                have M2 := hid (M.out.fresh hA)
                                have LW3 : Hid (LocC (w.alloc (.cells #[.pointer (some ⟨d3, 0, none⟩)] 33)) (extc g w (p + 36)) (p + 36) w.heap.size 33 [.pointer (some ⟨d3, 0, none⟩)]) := hid (LocC.new g (p + 36) w 33 [.pointer (some ⟨d3, 0, none⟩)])
                                clear hA
                                generalize (w.alloc (.cells #[.pointer (some ⟨d3, 0, none⟩)] 33)) = w2 at *
                                generalize extc g w (p + 36) = g2 at *
                                generalize w.heap.size = bw at *
                                refine hK.out _ _ True.intro (fun _ => ?_)
                                clear hK K
                                try simp only [Act.put, List.setIfInBounds_toArray, List.set_cons_zero, List.set_cons_succ]
                                exact HHJ5_12_14.out g2 bw w2 ⟨M2.out, LW3.out⟩
                            · skip
                              obtain ⟨hM, hLW⟩ := hf
                              have M := hid hM
                              have LW := hid hLW
                              clear hM hLW
                              refine wpAnyH_ready (rs := [7, 12]) (by kernel_rfl) (by simp) ?_
                              refine AllReadyH.cons (by simp only [List.getElem?_toArray, List.getElem?_cons_zero, List.getElem?_cons_succ]; rfl) (fun K hK => ?_) ?_
                              · skip
                                go_simp
                                have hA : Evo 0 0 g (extc g w (p + 36)) w (w.alloc (.cells #[.pointer (some ⟨d, 0, none⟩)] 31)) := Evo.alloc g (p + 36) w (.cells #[.pointer (some ⟨d, 0, none⟩)] 31)
                                have M2 := hid (M.out.fresh hA)
                                have LW2 := hid (LW.out.frame hA (by omega))
                                have LD3 : Hid (LocC (w.alloc (.cells #[.pointer (some ⟨d, 0, none⟩)] 31)) (extc g w (p + 36)) (p + 36) w.heap.size 31 [.pointer (some ⟨d, 0, none⟩)]) := hid (LocC.new g (p + 36) w 31 [.pointer (some ⟨d, 0, none⟩)])
                                clear hA
                                generalize (w.alloc (.cells #[.pointer (some ⟨d, 0, none⟩)] 31)) = w2 at *
                                generalize extc g w (p + 36) = g2 at *
                                generalize w.heap.size = bd at *
                                refine hK.out _ _ True.intro (fun _ => ?_)
                                clear hK K
                                try simp only [Act.put, List.setIfInBounds_toArray, List.set_cons_zero, List.set_cons_succ]
                                exact HHJ5_7_14.out g2 bd bw w2 ⟨M2.out, LD3.out, LW2.out⟩
                              refine AllReadyH.cons (by simp only [List.getElem?_toArray, List.getElem?_cons_zero, List.getElem?_cons_succ]; rfl) (fun K hK => ?_) AllReadyH.nil
                              have q := M.out.loc.1.cell 3
                              simp only [List.getElem?_cons_succ, List.getElem?_cons_zero] at q
                              go_simp
                              refine hK.out _ _ True.intro (fun _ => ?_)
                              clear q
                              clear hK K
                              try simp only [Act.put, List.setIfInBounds_toArray, List.set_cons_zero, List.set_cons_succ]
                              exact HHJ5_12_14.out g bw w ⟨M.out, LW.out⟩
                          · skip
                            obtain ⟨hM, hLD⟩ := hf
                            have M := hid hM
                            have LD := hid hLD
                            clear hM hLD
                            refine wpAnyH_ready (rs := [5, 14]) (by kernel_rfl) (by simp) ?_
                            refine AllReadyH.cons (by simp only [List.getElem?_toArray, List.getElem?_cons_zero, List.getElem?_cons_succ]; rfl) (fun K hK => ?_) ?_
                            · skip
                              have q := M.out.loc.1.cell 2
                              simp only [List.getElem?_cons_succ, List.getElem?_cons_zero] at q
                              go_simp
                              refine hK.out _ _ True.intro (fun _ => ?_)
                              clear q
                              clear hK K
                              try simp only [Act.put, List.setIfInBounds_toArray, List.set_cons_zero, List.set_cons_succ]
                              exact HHJ5_7_12.out g bd w ⟨M.out, LD.out⟩
                            refine AllReadyH.cons (by simp only [List.getElem?_toArray, List.getElem?_cons_zero, List.getElem?_cons_succ]; rfl) (fun K hK => ?_) AllReadyH.nil
                            go_simp
                            have hA : Evo 0 0 g (extc g w (p + 36)) w (w.alloc (.cells #[.pointer (some ⟨d3, 0, none⟩)] 33)) := Evo.alloc g (p + 36) w (.cells #[.pointer (some ⟨d3, 0, none⟩)] 33)
                            have M2 := hid (M.out.fresh hA)
                            have LD2 := hid (LD.out.frame hA (by omega))
                            have LW3 : Hid (LocC (w.alloc (.cells #[.pointer (some ⟨d3, 0, none⟩)] 33)) (extc g w (p + 36)) (p + 36) w.heap.size 33 [.pointer (some ⟨d3, 0, none⟩)]) := hid (LocC.new g (p + 36) w 33 [.pointer (some ⟨d3, 0, none⟩)])
                            clear hA
                            generalize (w.alloc (.cells #[.pointer (some ⟨d3, 0, none⟩)] 33)) = w2 at *
                            generalize extc g w (p + 36) = g2 at *
                            generalize w.heap.size = bw at *
                            refine hK.out _ _ True.intro (fun _ => ?_)
                            clear hK K
                            try simp only [Act.put, List.setIfInBounds_toArray, List.set_cons_zero, List.set_cons_succ]
                            exact HHJ7_12_14.out g2 bd bw w2 ⟨M2.out, LD2.out, LW3.out⟩
                        · skip
                          obtain ⟨hM, hLD, hLW⟩ := hf
                          have M := hid hM
                          have LD := hid hLD
                          have LW := hid hLW
                          clear hM hLD hLW
                          refine wpAnyH_ready (rs := [5, 12]) (by kernel_rfl) (by simp) ?_
                          refine AllReadyH.cons (by simp only [List.getElem?_toArray, List.getElem?_cons_zero, List.getElem?_cons_succ]; rfl) (fun K hK => ?_) ?_
                          · skip
                            have q := M.out.loc.1.cell 2
                            simp only [List.getElem?_cons_succ, List.getElem?_cons_zero] at q
                            go_simp
                            refine hK.out _ _ True.intro (fun _ => ?_)
                            clear q
                            clear hK K
                            try simp only [Act.put, List.setIfInBounds_toArray, List.set_cons_zero, List.set_cons_succ]
                            exact HHJ5_7_14.out g bd bw w ⟨M.out, LD.out, LW.out⟩
                          refine AllReadyH.cons (by simp only [List.getElem?_toArray, List.getElem?_cons_zero, List.getElem?_cons_succ]; rfl) (fun K hK => ?_) AllReadyH.nil
                          have q := M.out.loc.1.cell 3
                          simp only [List.getElem?_cons_succ, List.getElem?_cons_zero] at q
                          go_simp
                          refine hK.out _ _ True.intro (fun _ => ?_)
                          clear q
                          clear hK K
                          try simp only [Act.put, List.setIfInBounds_toArray, List.set_cons_zero, List.set_cons_succ]
                          exact HHJ7_12_14.out g bd bw w ⟨M.out, LD.out, LW.out⟩
                      · skip
                        obtain ⟨hM, hLW⟩ := hf
                        have M := hid hM
                        have LW := hid hLW
                        clear hM hLW
                        refine wpAnyH_ready (rs := [5, 7]) (by kernel_rfl) (by simp) ?_
                        refine AllReadyH.cons (by simp only [List.getElem?_toArray, List.getElem?_cons_zero, List.getElem?_cons_succ]; rfl) (fun K hK => ?_) ?_
                        · skip
                          have q := M.out.loc.1.cell 2
                          simp only [List.getElem?_cons_succ, List.getElem?_cons_zero] at q
                          go_simp
                          refine hK.out _ _ True.intro (fun _ => ?_)
                          clear q
                          clear hK K
                          try simp only [Act.put, List.setIfInBounds_toArray, List.set_cons_zero, List.set_cons_succ]
                          exact HHJ5_12_14.out g bw w ⟨M.out, LW.out⟩
                        refine AllReadyH.cons (by simp only [List.getElem?_toArray, List.getElem?_cons_zero, List.getElem?_cons_succ]; rfl) (fun K hK => ?_) AllReadyH.nil
                        go_simp
                        have hA : Evo 0 0 g (extc g w (p + 36)) w (w.alloc (.cells #[.pointer (some ⟨d, 0, none⟩)] 31)) := Evo.alloc g (p + 36) w (.cells #[.pointer (some ⟨d, 0, none⟩)] 31)
                        have M2 := hid (M.out.fresh hA)
                        have LW2 := hid (LW.out.frame hA (by omega))
                        have LD3 : Hid (LocC (w.alloc (.cells #[.pointer (some ⟨d, 0, none⟩)] 31)) (extc g w (p + 36)) (p + 36) w.heap.size 31 [.pointer (some ⟨d, 0, none⟩)]) := hid (LocC.new g (p + 36) w 31 [.pointer (some ⟨d, 0, none⟩)])
                        clear hA
                        generalize (w.alloc (.cells #[.pointer (some ⟨d, 0, none⟩)] 31)) = w2 at *
                        generalize extc g w (p + 36) = g2 at *
                        generalize w.heap.size = bd at *
                        refine hK.out _ _ True.intro (fun _ => ?_)
                        clear hK K
                        try simp only [Act.put, List.setIfInBounds_toArray, List.set_cons_zero, List.set_cons_succ]
                        exact HHJ7_12_14.out g2 bd bw w2 ⟨M2.out, LD3.out, LW2.out⟩
                    · skip
                      obtain ⟨hM, hLD⟩ := hf
                      have M := hid hM
                      have LD := hid hLD
                      clear hM hLD
                      refine wpAnyH_ready (rs := [8, 14]) (by kernel_rfl) (by simp) ?_
                      refine AllReadyH.cons (by simp only [List.getElem?_toArray, List.getElem?_cons_zero, List.getElem?_cons_succ]; rfl) (fun K hK => ?_) ?_
                      · skip
                        (refine step_append_row rfl (.tmp 76) (.tmp 78) 66 rfl i0 (.pointer none) Try.underlying66 hi hz0 hz1 hz2 rfl (.slice ad n cd) (rowD n x) rfl M.out.rd (some ⟨bd, 0, none⟩) 1 1 [.pointer (some ⟨d, 0, none⟩)] rfl rfl (one_at LD.out.1) (by simp [Value.oneCell']) (by rw [HM.out.1]; simp only [List.length_cons, List.length_nil]; omega) ?_)
                        intro v8 w2 hR hE
                        obtain ⟨a8, c8, hv8, -, -⟩ := hR.slice
                        rw [List.length_append, rowD_length] at hv8
                        subst hv8
                        have M2 := hid (M.out.appD hE hR)
                        clear hR hE
                        generalize extc g w (p + 33) = g2 at *
                        refine hK.out _ _ True.intro (fun _ => ?_)
                        clear hK K
                        try simp only [Act.put, List.setIfInBounds_toArray, List.set_cons_zero, List.set_cons_succ]
                        exact HHJ5_7_8_12.out g2 bd a8 c8 w2 M2.out
                      refine AllReadyH.cons (by simp only [List.getElem?_toArray, List.getElem?_cons_zero, List.getElem?_cons_succ]; rfl) (fun K hK => ?_) AllReadyH.nil
                      go_simp
                      have hA : Evo 0 0 g (extc g w (p + 36)) w (w.alloc (.cells #[.pointer (some ⟨d3, 0, none⟩)] 33)) := Evo.alloc g (p + 36) w (.cells #[.pointer (some ⟨d3, 0, none⟩)] 33)
                      have M2 := hid (M.out.fresh hA)
                      have LD2 := hid (LD.out.frame hA (by omega))
                      have LW3 : Hid (LocC (w.alloc (.cells #[.pointer (some ⟨d3, 0, none⟩)] 33)) (extc g w (p + 36)) (p + 36) w.heap.size 33 [.pointer (some ⟨d3, 0, none⟩)]) := hid (LocC.new g (p + 36) w 33 [.pointer (some ⟨d3, 0, none⟩)])
                      clear hA
                      generalize (w.alloc (.cells #[.pointer (some ⟨d3, 0, none⟩)] 33)) = w2 at *
                      generalize extc g w (p + 36) = g2 at *
                      generalize w.heap.size = bw at *
                      refine hK.out _ _ True.intro (fun _ => ?_)
                      clear hK K
                      try simp only [Act.put, List.setIfInBounds_toArray, List.set_cons_zero, List.set_cons_succ]
                      exact HHJ5_7_12_14.out g2 bd bw w2 ⟨M2.out, LD2.out, LW3.out⟩
                  · skip
                    obtain ⟨hM, hLD, hLW⟩ := hf
                    have M := hid hM
                    have LD := hid hLD
                    have LW := hid hLW
                    clear hM hLD hLW
                    refine wpAnyH_ready (rs := [8, 12]) (by kernel_rfl) (by simp) ?_
                    refine AllReadyH.cons (by simp only [List.getElem?_toArray, List.getElem?_cons_zero, List.getElem?_cons_succ]; rfl) (fun K hK => ?_) ?_
                    · skip
                      (refine step_append_row rfl (.tmp 76) (.tmp 78) 66 rfl i0 (.pointer none) Try.underlying66 hi hz0 hz1 hz2 rfl (.slice ad n cd) (rowD n x) rfl M.out.rd (some ⟨bd, 0, none⟩) 1 1 [.pointer (some ⟨d, 0, none⟩)] rfl rfl (one_at LD.out.1) (by simp [Value.oneCell']) (by rw [HM.out.1]; simp only [List.length_cons, List.length_nil]; omega) ?_)
                      intro v8 w2 hR hE
                      obtain ⟨a8, c8, hv8, -, -⟩ := hR.slice
                      rw [List.length_append, rowD_length] at hv8
                      subst hv8
                      have M2 := hid (M.out.appD hE hR)
                      have LW2 := hid (LW.out.frame hE (by omega))
                      clear hR hE
                      generalize extc g w (p + 33) = g2 at *
                      refine hK.out _ _ True.intro (fun _ => ?_)
                      clear hK K
                      try simp only [Act.put, List.setIfInBounds_toArray, List.set_cons_zero, List.set_cons_succ]
                      exact HHJ5_7_8_14.out g2 bd bw a8 c8 w2 ⟨M2.out, LW2.out⟩
                    refine AllReadyH.cons (by simp only [List.getElem?_toArray, List.getElem?_cons_zero, List.getElem?_cons_succ]; rfl) (fun K hK => ?_) AllReadyH.nil
                    have q := M.out.loc.1.cell 3
                    simp only [List.getElem?_cons_succ, List.getElem?_cons_zero] at q
                    go_simp
                    refine hK.out _ _ True.intro (fun _ => ?_)
                    clear q
                    clear hK K
                    try simp only [Act.put, List.setIfInBounds_toArray, List.set_cons_zero, List.set_cons_succ]
                    exact HHJ5_7_12_14.out g bd bw w ⟨M.out, LD.out, LW.out⟩
                · skip
                  obtain ⟨hM, hLW⟩ := hf
                  have M := hid hM
                  have LW := hid hLW
                  clear hM hLW
                  refine wpAnyH_ready (rs := [7]) (by kernel_rfl) (by simp) ?_
                  refine AllReadyH.cons (by simp only [List.getElem?_toArray, List.getElem?_cons_zero, List.getElem?_cons_succ]; rfl) (fun K hK => ?_) AllReadyH.nil
                  go_simp
                  have hA : Evo 0 0 g (extc g w (p + 36)) w (w.alloc (.cells #[.pointer (some ⟨d, 0, none⟩)] 31)) := Evo.alloc g (p + 36) w (.cells #[.pointer (some ⟨d, 0, none⟩)] 31)
                  have M2 := hid (M.out.fresh hA)
                  have LW2 := hid (LW.out.frame hA (by omega))
                  have LD3 : Hid (LocC (w.alloc (.cells #[.pointer (some ⟨d, 0, none⟩)] 31)) (extc g w (p + 36)) (p + 36) w.heap.size 31 [.pointer (some ⟨d, 0, none⟩)]) := hid (LocC.new g (p + 36) w 31 [.pointer (some ⟨d, 0, none⟩)])
                  clear hA
                  generalize (w.alloc (.cells #[.pointer (some ⟨d, 0, none⟩)] 31)) = w2 at *
                  generalize extc g w (p + 36) = g2 at *
                  generalize w.heap.size = bd at *
                  refine hK.out _ _ True.intro (fun _ => ?_)
                  clear hK K
                  try simp only [Act.put, List.setIfInBounds_toArray, List.set_cons_zero, List.set_cons_succ]
                  exact HHJ5_7_12_14.out g2 bd bw w2 ⟨M2.out, LD3.out, LW2.out⟩
              · skip
                obtain ⟨hM, hLD, hLW⟩ := hf
                have M := hid hM
                have LD := hid hLD
                have LW := hid hLW
                clear hM hLD hLW
                refine wpAnyH_ready (rs := [5]) (by kernel_rfl) (by simp) ?_
                refine AllReadyH.cons (by simp only [List.getElem?_toArray, List.getElem?_cons_zero, List.getElem?_cons_succ]; rfl) (fun K hK => ?_) AllReadyH.nil
                have q := M.out.loc.1.cell 2
                simp only [List.getElem?_cons_succ, List.getElem?_cons_zero] at q
                go_simp
                refine hK.out _ _ True.intro (fun _ => ?_)
                clear q
                clear hK K
                try simp only [Act.put, List.setIfInBounds_toArray, List.set_cons_zero, List.set_cons_succ]
                exact HHJ5_7_12_14.out g bd bw w ⟨M.out, LD.out, LW.out⟩
            · skip
              have hM := hf
              have M := hid hM
              clear hM hf
              refine wpAnyH_ready (rs := [12, 14]) (by kernel_rfl) (by simp) ?_
              refine AllReadyH.cons (by simp only [List.getElem?_toArray, List.getElem?_cons_zero, List.getElem?_cons_succ]; rfl) (fun K hK => ?_) ?_
              · skip
                have q := M.out.loc.1.cell 3
                simp only [List.getElem?_cons_succ, List.getElem?_cons_zero] at q
                go_simp
                refine hK.out _ _ True.intro (fun _ => ?_)
                clear q
                clear hK K
                try simp only [Act.put, List.setIfInBounds_toArray, List.set_cons_zero, List.set_cons_succ]
                exact HHJ5_7_8_12.out g bd a8 c8 w M.out
              refine AllReadyH.cons (by simp only [List.getElem?_toArray, List.getElem?_cons_zero, List.getElem?_cons_succ]; rfl) (fun K hK => ?_) AllReadyH.nil
              go_simp
              have hA : Evo 0 0 g (extc g w (p + 36)) w (w.alloc (.cells #[.pointer (some ⟨d3, 0, none⟩)] 33)) := Evo.alloc g (p + 36) w (.cells #[.pointer (some ⟨d3, 0, none⟩)] 33)
              have M2 := hid (M.out.fresh hA)
              have LW3 : Hid (LocC (w.alloc (.cells #[.pointer (some ⟨d3, 0, none⟩)] 33)) (extc g w (p + 36)) (p + 36) w.heap.size 33 [.pointer (some ⟨d3, 0, none⟩)]) := hid (LocC.new g (p + 36) w 33 [.pointer (some ⟨d3, 0, none⟩)])
              clear hA
              generalize (w.alloc (.cells #[.pointer (some ⟨d3, 0, none⟩)] 33)) = w2 at *
              generalize extc g w (p + 36) = g2 at *
              generalize w.heap.size = bw at *
              refine hK.out _ _ True.intro (fun _ => ?_)
              clear hK K
              try simp only [Act.put, List.setIfInBounds_toArray, List.set_cons_zero, List.set_cons_succ]
              exact HHJ5_7_8_14.out g2 bd bw a8 c8 w2 ⟨M2.out, LW3.out⟩
          · skip
            obtain ⟨hM, hLD, hLW⟩ := hf
            have M := hid hM
            have LD := hid hLD
            have LW := hid hLW
            clear hM hLD hLW
            refine wpAnyH_ready (rs := [8]) (by kernel_rfl) (by simp) ?_
            refine AllReadyH.cons (by simp only [List.getElem?_toArray, List.getElem?_cons_zero, List.getElem?_cons_succ]; rfl) (fun K hK => ?_) AllReadyH.nil
            (refine step_append_row rfl (.tmp 76) (.tmp 78) 66 rfl i0 (.pointer none) Try.underlying66 hi hz0 hz1 hz2 rfl (.slice ad n cd) (rowD n x) rfl M.out.rd (some ⟨bd, 0, none⟩) 1 1 [.pointer (some ⟨d, 0, none⟩)] rfl rfl (one_at LD.out.1) (by simp [Value.oneCell']) (by rw [HM.out.1]; simp only [List.length_cons, List.length_nil]; omega) ?_)
            intro v8 w2 hR hE
            obtain ⟨a8, c8, hv8, -, -⟩ := hR.slice
            rw [List.length_append, rowD_length] at hv8
            subst hv8
            have M2 := hid (M.out.appD hE hR)
            have LW2 := hid (LW.out.frame hE (by omega))
            clear hR hE
            generalize extc g w (p + 33) = g2 at *
            refine hK.out _ _ True.intro (fun _ => ?_)
            clear hK K
            try simp only [Act.put, List.setIfInBounds_toArray, List.set_cons_zero, List.set_cons_succ]
            exact HHJ5_7_8_12_14.out g2 bd bw a8 c8 w2 ⟨M2.out, LW2.out⟩
        · skip
          have hM := hf
          have M := hid hM
          clear hM hf
          refine wpAnyH_ready (rs := [14]) (by kernel_rfl) (by simp) ?_
          refine AllReadyH.cons (by simp only [List.getElem?_toArray, List.getElem?_cons_zero, List.getElem?_cons_succ]; rfl) (fun K hK => ?_) AllReadyH.nil
          go_simp
          have hA : Evo 0 0 g (extc g w (p + 36)) w (w.alloc (.cells #[.pointer (some ⟨d3, 0, none⟩)] 33)) := Evo.alloc g (p + 36) w (.cells #[.pointer (some ⟨d3, 0, none⟩)] 33)
          have M2 := hid (M.out.fresh hA)
          have LW3 : Hid (LocC (w.alloc (.cells #[.pointer (some ⟨d3, 0, none⟩)] 33)) (extc g w (p + 36)) (p + 36) w.heap.size 33 [.pointer (some ⟨d3, 0, none⟩)]) := hid (LocC.new g (p + 36) w 33 [.pointer (some ⟨d3, 0, none⟩)])
          clear hA
          generalize (w.alloc (.cells #[.pointer (some ⟨d3, 0, none⟩)] 33)) = w2 at *
          generalize extc g w (p + 36) = g2 at *
          generalize w.heap.size = bw at *
          refine hK.out _ _ True.intro (fun _ => ?_)
          clear hK K
          try simp only [Act.put, List.setIfInBounds_toArray, List.set_cons_zero, List.set_cons_succ]
          exact HHJ5_7_8_12_14.out g2 bd bw a8 c8 w2 ⟨M2.out, LW3.out⟩
      · skip
        obtain ⟨hM, hLW⟩ := hf
        have M := hid hM
        have LW := hid hLW
        clear hM hLW
        refine wpAnyH_ready (rs := [12]) (by kernel_rfl) (by simp) ?_
        refine AllReadyH.cons (by simp only [List.getElem?_toArray, List.getElem?_cons_zero, List.getElem?_cons_succ]; rfl) (fun K hK => ?_) AllReadyH.nil
        have q := M.out.loc.1.cell 3
        simp only [List.getElem?_cons_succ, List.getElem?_cons_zero] at q
        go_simp
        refine hK.out _ _ True.intro (fun _ => ?_)
        clear q
        clear hK K
        try simp only [Act.put, List.setIfInBounds_toArray, List.set_cons_zero, List.set_cons_succ]
        exact HHJ5_7_8_12_14.out g bd bw a8 c8 w ⟨M.out, LW.out⟩
    · skip
      obtain ⟨hM, hLW⟩ := hf
      have M := hid hM
      have LW := hid hLW
      clear hM hLW
      refine wpAnyH_ready (rs := [15]) (by kernel_rfl) (by simp) ?_
      refine AllReadyH.cons (by simp only [List.getElem?_toArray, List.getElem?_cons_zero, List.getElem?_cons_succ]; rfl) (fun K hK => ?_) AllReadyH.nil
      (refine step_append_row rfl (.tmp 83) (.tmp 85) 67 rfl j0 (.pointer none) Try.underlying67 hj hy0 hy1 hy2 rfl vw (rowB n x) rfl M.out.rb (some ⟨bw, 0, none⟩) 1 1 [.pointer (some ⟨d3, 0, none⟩)] rfl rfl (one_at LW.out.1) (by simp [Value.oneCell']) (by rw [HM.out.2]; simp only [List.length_cons, List.length_nil]; omega) ?_)
      intro v15 w2 hR hE
      obtain ⟨a15, c15, hv15, -, -⟩ := hR.slice
      rw [List.length_append, rowB_length] at hv15
      subst hv15
      have M2 := hid (M.out.appB hE hR)
      clear hR hE
      generalize extc g w (p + 34) = g2 at *
      obtain ⟨k2, k3, f2, f3⟩ : w2.cell? ⟨h, 2, none⟩ = some (.slice ad n cd) ∧ w2.cell? ⟨h, 3, none⟩ = some vw ∧ w2.frozen? ⟨h, 2, none⟩ = false ∧ w2.frozen? ⟨h, 3, none⟩ = false := ⟨M2.out.loc.1.cell 2, M2.out.loc.1.cell 3, M2.out.loc.1.free 2, M2.out.loc.1.free 3⟩
      refine hK.out _ _ True.intro (fun _ => ?_)
      clear hK K
      try simp only [Act.put, List.setIfInBounds_toArray, List.set_cons_zero, List.set_cons_succ]
      refine wpAnyH_take (i := 16) (v := ?_) (by simp only [List.getElem?_toArray, List.getElem?_cons_zero, List.getElem?_cons_succ]; rfl) (by kernel_rfl) (by kernel_rfl) (by kernel_rfl) (fun _ _ _ h => h) (Or.inl ⟨by rfl, ?_⟩) True.intro ?_
      rotate_left
      · intro w hSw; (try dsimp only at hSw); go_simp; (try with_reducible rfl)
      try simp only [Act.put, List.setIfInBounds_toArray, List.set_cons_zero, List.set_cons_succ]
      refine wpAnyH_take (i := 17) (v := ?_) (by simp only [List.getElem?_toArray, List.getElem?_cons_zero, List.getElem?_cons_succ]; rfl) (by kernel_rfl) (by kernel_rfl) (by kernel_rfl) (fun _ _ _ h => h) (Or.inl ⟨by rfl, ?_⟩) True.intro ?_
      rotate_left
      · intro w hSw; (try dsimp only at hSw); go_simp; (try with_reducible rfl)
      try simp only [Act.put, List.setIfInBounds_toArray, List.set_cons_zero, List.set_cons_succ]
      refine wpAnyH_ready (rs := [18]) (by kernel_rfl) (by simp) ?_
      refine AllReadyH.cons (by simp only [List.getElem?_toArray, List.getElem?_cons_zero, List.getElem?_cons_succ]; rfl) (fun K hK => ?_) AllReadyH.nil
      go_simp
      refine hK.out _ _ True.intro (fun _ => ?_)
      clear hK K
      try simp only [Act.put, List.setIfInBounds_toArray, List.set_cons_zero, List.set_cons_succ]
      refine wpAnyH_take (i := 19) (v := ?_) (by simp only [List.getElem?_toArray, List.getElem?_cons_zero, List.getElem?_cons_succ]; rfl) (by kernel_rfl) (by kernel_rfl) (by kernel_rfl) (fun _ _ _ h => h) (Or.inl ⟨by rfl, ?_⟩) True.intro ?_
      rotate_left
      · intro w hSw; (try dsimp only at hSw); go_simp; (try with_reducible rfl)
      try simp only [Act.put, List.setIfInBounds_toArray, List.set_cons_zero, List.set_cons_succ]
      refine wpAnyH_take (i := 20) (v := ?_) (by simp only [List.getElem?_toArray, List.getElem?_cons_zero, List.getElem?_cons_succ]; rfl) (by kernel_rfl) (by kernel_rfl) (by kernel_rfl) (fun _ _ _ h => h) (Or.inl ⟨by rfl, ?_⟩) True.intro ?_
      rotate_left
      · intro w hSw; (try dsimp only at hSw); go_simp; (try with_reducible rfl)
      try simp only [Act.put, List.setIfInBounds_toArray, List.set_cons_zero, List.set_cons_succ]
      refine wpAnyH_ready (rs := [21]) (by kernel_rfl) (by simp) ?_
      refine AllReadyH.cons (by simp only [List.getElem?_toArray, List.getElem?_cons_zero, List.getElem?_cons_succ]; rfl) (fun K hK => ?_) AllReadyH.nil
      go_simp
      refine hK.out _ _ True.intro (fun _ => ?_)
      clear hK K
      try simp only [Act.put, List.setIfInBounds_toArray, List.set_cons_zero, List.set_cons_succ]
      refine wpAnyH_done (by kernel_rfl) ?_ _
      refine NoPanic.normal ?_
      go_wp2_with fail
      go_ret
      have q := M2.out.done h6 hp DE.out
      exact ⟨rfl, g2, V, q.1, fun h => h, K3.out.trans q.2⟩
    -- END 7
  · have h6' : (6 : Int) ≤ (n : Int) := by omega
    go_wp2_with fail
    go_ret
    exact ⟨rfl, g3, V, ⟨vp, c, _, _, nx, n, x, H3.out.moreN (by omega), DE.out⟩, fun h => h, K3.out⟩

end Go.Proofs.Ytoiobhcgpajogac
