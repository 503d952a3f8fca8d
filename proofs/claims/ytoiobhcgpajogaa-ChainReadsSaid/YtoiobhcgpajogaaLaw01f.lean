/- The walk of ChainReads. -/
import Derived.Test.YtoiobhcgpajogaaPlain01
namespace Go.Proofs.Ytoiobhcgpajogaa
open Go.RowKit

theorem CB.frame {w0 w w' : World} {g g' : Nat → Nat} {c lo hi : Nat} {l : List Ent} (h : CB w0 g w c l) (hE : Evo lo hi g g' w w') (hl : 2 ≤ lo) : CB w0 g' w' c l :=
  ⟨h.base.step hE (by omega), h.chain.frame hE (by omega)⟩

/-- A store into a block of the colour q. -/
theorem evo_store {g : Nat → Nat} {w : World} {b i q : Nat} (v : Value) (hq : g b = q) : Evo q (q + 1) g g w (w.setCell ⟨b, i, none⟩ v) :=
  ⟨rfl, rfl, rfl, by simp, fun _ _ => rfl, fun k _ hn => Below.heap_setCell _ _ _ _ (by rintro rfl; exact hn ⟨by simp [hq], by simp [hq]⟩)⟩

theorem LocC.set {w : World} {g : Nat → Nat} {q b : Nat} {T : TypeId} {cs : List Value} (h : LocC w g q b T cs) (i : Nat) (v : Value) : LocC (w.setCell ⟨b, i, none⟩ v) g q b T (cs.set i v) := ⟨h.1.set i v, h.2⟩

theorem putC_length (m : List Ent) (a : Int) (v : Val) : (putC m a v).2.length ≤ m.length + 1 := by
  unfold putC
  split
  · simp
  · split <;> simp

def fnd (m : List Ent) (x : Int) : Bool := m.any (fun e => decide (e.n ≤ x))

theorem fnd_snoc (m : List Ent) (e : Ent) (x : Int) : fnd (m ++ [e]) x = (fnd m x || decide (e.n ≤ x)) := by simp [fnd]

theorem fnd_first {m : List Ent} (h : Sorted m) (x : Int) : fnd m x = decide (firstN m ≤ x) := by
  by_cases hx : firstN m ≤ x
  · rw [decide_eq_true hx]
    unfold fnd
    rw [List.any_eq_true]
    have h1 := h.1
    cases m with
    | nil => exact absurd rfl h1
    | cons e l => exact ⟨e, by simp, by simpa [firstN] using hx⟩
  · rw [decide_eq_false hx]
    unfold fnd
    rw [List.any_eq_false]
    intro e he
    have := (find_first h x).2 (by omega)
    rw [List.find?_eq_none] at this
    simpa using this e (by simpa using he)

theorem put_read {m : List Ent} (h : m ≠ []) (a x : Int) (v : Val) (hax : x < a) : readC (putC m a v).2 x = readC m x := by
  unfold putC
  split
  · rfl
  · split
    · rfl
    · have hf : firstN (m ++ [⟨a, v⟩]) = firstN m := by
        cases m with
        | nil => exact absurd rfl h
        | cons e l => rfl
      unfold readC
      simp only [hf, lastLe_snoc]
      rw [if_neg (show ¬ a ≤ x by omega)]

theorem put_ne {m : List Ent} (h : m ≠ []) (a : Int) (v : Val) : (putC m a v).2 ≠ [] := by
  unfold putC
  split
  · exact h
  · split
    · exact h
    · simp

theorem evo_drewN {lo hi : Nat} {g g' : Nat → Nat} {w w' : World} (h : Evo lo hi g g' w w') (n : Nat) : Evo lo hi g g' w (w'.drewN n) := ⟨h.os, h.tape, h.output, h.size, h.col, h.same⟩
theorem LocC.drewN {w : World} {g : Nat → Nat} {q b : Nat} {T : TypeId} {cs : List Value} (h : LocC w g q b T cs) (n : Nat) : LocC (w.drewN n) g q b T cs := h

set_option maxHeartbeats 8000000 in
set_option maxRecDepth 100000 in
theorem walk_ChainReads (a : Option Addr) (cap : Nat) (l : List CStep) (x : Int) (a2 : Option Addr) (cap2 : Nat) (l2 : List CStep) (w : World) (hl : l.length ≤ 9223372036854775807) (hA : CStepsAt w a l) (_ : (Lit.int .i64 x).wf = true) (hl2 : l2.length ≤ 9223372036854775807) (hA2 : CStepsAt w a2 l2) :
    Calls Try.prog 4 #[.slice a l.length cap, .int .i64 x, .slice a2 l2.length cap2] w (TruePost w) := by
  have hbegun := law_chainBegun w
  have hgreat := fun w1 (h : CStepsAt w1 a l) => law_greatChain a cap l w1 hl h
  have hgreat2 := fun w1 (h : CStepsAt w1 a2 l2) => law_greatChain a2 cap2 l2 w1 hl2 h
  cases hg : greatC l
  case true =>
    rw [hg] at hgreat
    have HG := hid hgreat
    have HB := hid hbegun
    clear hg hgreat hbegun hgreat2
    go_enter Try.func4, Try.ntmps4
    go_wp2_with fail
    refine HB.out.mono ?_
    rintro e w1 ⟨rfl, hb1⟩
    go_wp2_with fail
    refine (HG.out _ (hA.below hb1 (Nat.le_refl _))).mono ?_
    rintro e w2 ⟨rfl, hb⟩
    go_wp2_with fail
    go_ret
    exact ⟨rfl, hb1.trans (hb.mono hb1.size)⟩
  case false =>
    rw [hg] at hgreat
    have h80 : l.length ≤ 80 := by
      unfold greatC at hg
      simp at hg
      exact hg.2
    have HG := hid hgreat
    have HB := hid hbegun
    clear hg hgreat hbegun
    cases hg2 : greatC l2
    case true =>
      rw [hg2] at hgreat2
      have HG2 := hid hgreat2
      clear hg2 hgreat2
      go_enter Try.func4, Try.ntmps4
      go_wp2_with fail
      refine HB.out.mono ?_
      rintro e w1 ⟨rfl, hb1⟩
      go_wp2_with fail
      refine (HG.out _ (hA.below hb1 (Nat.le_refl _))).mono ?_
      rintro e w2 ⟨rfl, hb⟩
      have hb2 := hb1.trans (hb.mono hb1.size)
      clear hb hb1
      go_wp2_with fail
      refine (HG2.out _ (hA2.below hb2 (Nat.le_refl _))).mono ?_
      rintro e w3 ⟨rfl, hb⟩
      go_wp2_with fail
      go_ret
      exact ⟨rfl, hb2.trans (hb.mono hb2.size)⟩
    case false =>
      rw [hg2] at hgreat2
      have h802 : l2.length ≤ 80 := by
        unfold greatC at hg2
        simp at hg2
        exact hg2.2
      have HG2 := hid hgreat2
      clear hg2 hgreat2
      go_enter Try.func4, Try.ntmps4
      go_wp2_with fail
      refine HB.out.mono ?_
      rintro e w1 ⟨rfl, hb1⟩
      go_wp2_with fail
      refine (HG.out _ (hA.below hb1 (Nat.le_refl _))).mono ?_
      rintro e w2 ⟨rfl, hb⟩
      have hb2 := hb1.trans (hb.mono hb1.size)
      clear hb hb1
      go_wp2_with fail
      refine (HG2.out _ (hA2.below hb2 (Nat.le_refl _))).mono ?_
      rintro e w2' ⟨rfl, hb⟩
      have hb3 := hb2.trans (hb.mono hb2.size)
      clear hb hb2
      go_wp2_with fail
      refine (law_chains a cap l w2' h80 (hA.below hb3 (Nat.le_refl _))).mono ?_
      rintro e w3 ⟨g, c, ab, v, rfl, H3⟩
      have B3 := hid hb3
      have hlen : (runC l).length ≤ 81 := by have := runC_length l; omega
      have hlen6 : (runC l).length ≤ 1000000 := by omega
      have hso := hid (runC_sorted l)
      have hC := hid (⟨H3.base, H3.chain⟩ : CB w2' g w3 c _)
      clear H3 hb3 HG HB HG2 hA
      have HA2 := hid hA2
      clear hA2
      generalize runC l = m at *
      go_wp2_with fail
      refine (chain_Read _ _ _ _ w3 x hlen6 hC.out.chain).mono ?_
      rintro e w4 ⟨rfl, hb⟩
      have H4 := hid (hC.out.below hb)
      clear hb
      generalize hy : readC m x = y at *
      have Y := hid hy
      clear hy
      go_wp2_with fail
      have M5 := hid (LocC.new g 0 w4 24 [.bool y.1.there, .string y.1.bytes])
      have H5 := hid (H4.out.alloc (.cells #[.bool y.1.there, .string y.1.bytes] 24))
      refine (chain_List _ _ _ _ _ hlen6 H5.out.chain).mono ?_
      rintro e w6 ⟨v', rfl, hb, ho, hnew⟩
      have hE6 := Evo.of_below (lo := 0) (hi := 0) (extc g w4 0) 4 hb
      have H6 := hid (H5.out.frame (Evo.of_below (lo := 2) (hi := 2) (extc g w4 0) 4 hb) (Nat.le_refl 2))
      have M6 := hid (M5.out.frame hE6 (by omega))
      have r6 : RowC w6 (extc (extc g w4 0) (w4.alloc (.cells #[.bool y.1.there, .string y.1.bytes] 24)) 4) 4 41 3 v' m.length (encEnts m) := ⟨ho, fun r hr => extc_new (hnew r hr)⟩
      have R6 := hid r6
      clear r6
      obtain ⟨a', cap', rfl, -, -⟩ := ownsRow.sliceAt ho
      clear hb ho hnew hE6
      generalize extc (extc g w4 0) (w4.alloc (.cells #[.bool y.1.there, .string y.1.bytes] 24)) 4 = g6 at *
      go_wp2_with fail
      have hE7 := Evo.alloc g6 5 w6 (.cells #[.bool false, .string ⟨#[]⟩] 24)
      have N7 := hid (LocC.new g6 5 w6 24 [.bool false, .string ⟨#[]⟩])
      have H7 := hid (H6.out.frame (Evo.of_below (lo := 2) (hi := 2) g6 5 ((Below.refl _ _).alloc (Nat.le_refl _) (.cells #[.bool false, .string ⟨#[]⟩] 24))) (Nat.le_refl 2))
      have M7 := hid (M6.out.frame hE7 (by omega))
      have R7 := hid (R6.out.frame hE7 (by omega))
      clear hE7 H6 M6 R6
      generalize extc g6 w6 5 = g7 at *
      generalize hW : w6.alloc (.cells #[.bool false, .string ⟨#[]⟩] 24) = W7 at *
      clear hW
      go_loopw [14, 15] (fun o i wr => ∃ k : Nat, k ≤ m.length ∧ o = .bool (fnd (m.take k) x) ∧ i = .int .i64 k ∧ LocC wr g7 5 w6.heap.size 24 [.bool (lastLe (m.take k) x).there, .string (lastLe (m.take k) x).bytes] ∧ Evo 5 6 g7 g7 W7 wr) (fun _ i _ => m.length - (intOf i).toNat)
      case atStart => exact ⟨0, Nat.zero_le _, rfl, rfl, N7.out, Evo.refl _ _ _ _⟩
      case round =>
        obtain ⟨k, hk, rfl, rfl, L, hE⟩ := hrel
        by_cases hlt : k < m.length
        · have R8 := R7.out.frame hE (by omega)
          obtain ⟨a9, cap9, e9, hsl, -⟩ := ownsRow.sliceAt R8.1
          cases e9
          obtain ⟨b, off, rfl, hv⟩ := hsl.ents (by omega)
          obtain ⟨q1, q2, q3⟩ := hv k hlt
          obtain ⟨q4, q5, q6, q7⟩ := L.1.two
          have LL := hid L
          have EE := hid hE
          have hst := lastLe_snoc (m.take k) m[k] x
          have hfn := fnd_snoc (m.take k) m[k] x
          rw [← List.take_succ_eq_append_getElem hlt] at hst hfn
          have ST := hid hst
          have FN := hid hfn
          have hki : (k : Int) < (m.length : Int) := by omega
          clear hst hfn L hE R8 hsl
          by_cases hk0 : k = 0
          · have hd0 : ¬ ((0 : Int) < (k : Int)) := by omega
            have hd1 : decide ((0 : Int) < (k : Int)) = false := decide_eq_false hd0
            have hd2 : ¬ 0 < k := by omega
            have hd3 : decide (0 < k) = false := decide_eq_false hd2
            clear hv hk0
            generalize m[k] = e1 at *
            by_cases hle : e1.n ≤ x
            · rw [if_pos hle] at ST
              have hd : decide (e1.n ≤ x) = true := decide_eq_true hle
              rw [hd, Bool.or_true] at FN
              clear hd
              go_wp2_with fail
              go_quiet (fail)
              go_wp2
              go_roundw
              case rel => exact ⟨k + 1, by omega, by rw [FN.out], by go_num, by rw [ST.out]; exact ((LL.out.drewN _).set 0 _).set 1 _, ((evo_drewN EE.out _).trans (evo_store _ LL.out.2)).trans (evo_store _ LL.out.2)⟩
              case measure => simp [intOf]; omega
            · rw [if_neg hle] at ST
              have hd : decide (e1.n ≤ x) = false := decide_eq_false hle
              rw [hd, Bool.or_false] at FN
              clear hd
              go_wp2_with fail
              go_quiet (fail)
              go_wp2
              go_roundw
              case rel => exact ⟨k + 1, by omega, by rw [FN.out], by go_num, by rw [ST.out]; exact LL.out.drewN _, evo_drewN EE.out _⟩
              case measure => simp [intOf]; omega
          · obtain ⟨j, rfl⟩ : ∃ j, k = j + 1 := ⟨k - 1, by omega⟩
            clear hk0
            obtain ⟨r1, -, -⟩ := hv j (by omega)
            have hlt2 := List.pairwise_iff_getElem.1 hso.out.2.1 j (j + 1) (by omega) hlt (by omega)
            clear hv
            generalize m[j + 1] = e1 at *
            generalize m[j] = e0 at *
            have hji : (j : Int) < (m.length : Int) := by omega
            by_cases hle : e1.n ≤ x
            · rw [if_pos hle] at ST
              have hd : decide (e1.n ≤ x) = true := decide_eq_true hle
              rw [hd, Bool.or_true] at FN
              clear hd
              go_wp2_with fail
              go_quiet (fail)
              go_wp2
              go_roundw
              case rel => exact ⟨j + 1 + 1, by omega, by rw [FN.out], by go_num, by rw [ST.out]; exact ((LL.out.drewN _).set 0 _).set 1 _, ((evo_drewN EE.out _).trans (evo_store _ LL.out.2)).trans (evo_store _ LL.out.2)⟩
              case measure => simp [intOf]; omega
            · rw [if_neg hle] at ST
              have hd : decide (e1.n ≤ x) = false := decide_eq_false hle
              rw [hd, Bool.or_false] at FN
              clear hd
              go_wp2_with fail
              go_quiet (fail)
              go_wp2
              go_roundw
              case rel => exact ⟨j + 1 + 1, by omega, by rw [FN.out], by go_num, by rw [ST.out]; exact LL.out.drewN _, evo_drewN EE.out _⟩
              case measure => simp [intOf]; omega
        · obtain rfl : k = m.length := by omega
          rw [List.take_length] at L
          rw [List.take_length]
          have H8 := hid (H7.out.frame hE (by omega))
          have M8 := hid (M7.out.frame hE (by omega))
          have L8 := hid L
          obtain ⟨q1, q2, -, -⟩ := L.1.two
          obtain ⟨q3, q4, -, -⟩ := M8.out.1.two
          have hfd := fnd_first hso.out x
          have hne := hid hso.out.1
          clear R7 M7 H7 N7 L hE
          obtain ⟨yv, ye⟩ := y
          have hcase : (x < 0 ∧ yv = Val.zero ∧ ye = 1) ∨ (0 ≤ x ∧ fnd m x = false ∧ yv = Val.zero ∧ ye = 12) ∨ (0 ≤ x ∧ fnd m x = true ∧ yv = lastLe m x ∧ ye = 0) := by
            have := Y.out
            unfold readC at this
            by_cases h0 : x < 0
            · rw [if_pos h0] at this
              simp only [Prod.mk.injEq] at this
              exact .inl ⟨h0, this.1.symm, this.2.symm⟩
            · rw [if_neg h0] at this
              by_cases h1 : x < firstN m
              · rw [if_pos h1] at this
                simp only [Prod.mk.injEq] at this
                exact .inr (.inl ⟨by omega, by rw [hfd]; exact decide_eq_false (by omega), this.1.symm, this.2.symm⟩)
              · rw [if_neg h1] at this
                simp only [Prod.mk.injEq] at this
                exact .inr (.inr ⟨by omega, by rw [hfd]; exact decide_eq_true (by omega), this.1.symm, this.2.symm⟩)
          clear hfd hso
          rcases hcase with ⟨hx, rfl, rfl⟩ | ⟨hx, hf, rfl, rfl⟩ | ⟨hx, hf, rfl, rfl⟩
          case' inr.inl => rw [hf]; clear hf
          case' inr.inr => rw [hf]; clear hf
          all_goals
            dsimp only at q3 q4
            go_wp2_with fail
            clear q1 q2 q3 q4
            go_loopw [16] (fun i ws => ∃ (j : Nat) (g2 : Nat → Nat) (m2 : List Ent), j ≤ l2.length ∧ i = .int .i64 j ∧ CB w2' g2 ws c m2 ∧ Hid (readC m2 x = readC m x) ∧ m2 ≠ [] ∧ m2.length ≤ 81 + j ∧
                LocC ws g2 0 w4.heap.size 24 [.bool (readC m x).1.there, .string (readC m x).1.bytes]) (fun i _ => l2.length - (intOf i).toNat)
            case atStart => exact ⟨0, _, _, Nat.zero_le _, rfl, H8.out, hid rfl, hne.out, by omega, by rw [Y.out]; exact M8.out⟩
            case round =>
              rename_i wr0 _
              obtain ⟨j, g2, m2, hj, rfl, hc2, hr2, hne2, hm2, hl2'⟩ := hrel
              have C2 := hid hc2
              have R2 := hid hr2
              have N2 := hid hne2
              have LL := hid hl2'
              clear hc2 hr2 hne2 hl2'
              have hm6 : m2.length ≤ 1000000 := by omega
              by_cases hlt2 : j < l2.length
              · obtain ⟨b, off, rfl, hb, hv⟩ := HA2.out.facts (by omega)
                obtain ⟨p1, p2, p3, p4, p5⟩ := hv j hlt2
                clear hv
                have keep : ∀ W', Below w2'.heap.size w2' W' → (Below w2'.heap.size w2' W' ∧ W'.cell? ⟨b, off + j * 4, none⟩ = some (.int .i64 l2[j].do_) ∧ W'.cell? ⟨b, off + j * 4 + 1, none⟩ = some (.int .i64 l2[j].at_) ∧
                    W'.cell? ⟨b, off + j * 4 + 2, none⟩ = some (.bool l2[j].v.there) ∧ W'.cell? ⟨b, off + j * 4 + 3, none⟩ = some (.string l2[j].v.bytes)) := by
                  intro W' hW
                  have hW' := B3.out.trans (hW.mono B3.out.size)
                  exact ⟨hW, (hW'.cell (p := ⟨b, _, none⟩) hb).trans p1, (hW'.cell (p := ⟨b, _, none⟩) hb).trans p2, (hW'.cell (p := ⟨b, _, none⟩) hb).trans p3, (hW'.cell (p := ⟨b, _, none⟩) hb).trans p4⟩
                have hnow := keep _ C2.out.base.below
                obtain ⟨-, n1, n2, n3, n4⟩ := hnow
                have KS := hid keep
                clear keep p1 p2 p3 p4
                generalize l2[j] = s at *
                by_cases hd : s.do_ = 0
                · have hN1 := hid n1
                  rw [hd] at n1
                  by_cases hgt : x < s.at_
                  · go_wp2_with fail
                    go_region_held3 (fun W' : World => Below w2'.heap.size w2' W' ∧ W'.cell? ⟨b, off + j * 4, none⟩ = some (.int .i64 s.do_) ∧ W'.cell? ⟨b, off + j * 4 + 1, none⟩ = some (.int .i64 s.at_) ∧ W'.cell? ⟨b, off + j * 4 + 2, none⟩ = some (.bool s.v.there) ∧ W'.cell? ⟨b, off + j * 4 + 3, none⟩ = some (.string s.v.bytes))
                      (first | assumption | exact KS.out _ C2.out.base.drew.below)
                      (first
                        | (go_at_call 29; refine (chain_Put _ _ _ _ _ s.at_ s.v.there s.v.bytes p5 hm6 C2.out.drew.chain).mono ?_; rintro e w3 ⟨rfl, g3, hC, hE⟩; have HH3 := hid (C2.out.drew.evo hE hC); have LL3 := hid ((show LocC (World.drew _) _ _ _ _ _ from LL.out).frame hE (by omega)); have hS' := KS.out _ HH3.out.base.below; clear hC hE))
                    go_wp2
                    go_roundw
                    case rel => exact ⟨j + 1, _, _, by omega, by go_num, HH3.out, hid ((put_read N2.out _ _ _ hgt).trans R2.out), put_ne N2.out _ _, by have := putC_length m2 s.at_ ⟨s.v.there, s.v.bytes⟩; omega, LL3.out⟩
                    case measure => simp [intOf]; omega
                  · have hgt' : s.at_ ≤ x := by omega
                    go_wp2
                    go_roundw
                    case rel => exact ⟨j + 1, _, _, by omega, by go_num, C2.out, R2, N2.out, by omega, LL.out⟩
                    case measure => simp [intOf]; omega
                · have hd0 : (s.do_ == 0) = false := by simpa using hd
                  clear hd
                  go_wp2
                  go_roundw
                  case rel => exact ⟨j + 1, _, _, by omega, by go_num, C2.out, R2, N2.out, by omega, LL.out⟩
                  case measure => simp [intOf]; omega
              · obtain rfl : j = l2.length := by omega
                go_wp2_with fail
                have P := chain_Read _ _ _ _ _ x hm6 C2.out.chain
                rw [R2.out] at P
                refine P.mono ?_
                clear P
                rintro e w9 ⟨rfl, hb⟩
                have C9 := hid (C2.out.below hb)
                have L9 := LL.out.below hb
                clear hb
                rw [Y.out] at L9
                rw [Y.out]
                obtain ⟨q1, q2, -, -⟩ := L9.1.two
                have q3 := L9.1.lt
                clear L9
                go_wp2
                go_ret
                exact ⟨rfl, B3.out.trans (C9.out.base.below.mono B3.out.size |>.alloc (by have := C9.out.base.size; have := B3.out.size; omega) _)⟩

end Go.Proofs.Ytoiobhcgpajogaa
