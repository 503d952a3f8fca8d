/- The walk of SerialSure. -/
import Derived.Test.YtoiobhcgpajogadSer4
import Derived.Test.YtoiobhcgpajogadHall6
namespace Go.Proofs.Ytoiobhcgpajogad
open Go.RowKit

theorem Try.infoRDone : (Try.prog.info? 34).map (fun i => (i.zero, i.size, i.bytes)) = some (some (.agg #[.int .i64 0, .int .i64 0, .int .i64 0, .slice none 0 0]), 4, 48) := by kernel_rfl

/-- What is told to the document: the deeds, with acts of its own. -/
structure LstR (w wr : World) (H : Nat) (g : Nat → Nat) (v : Value) (U : List Dnx) : Prop where
  evo : Evo 1 H (fun _ => 0) g w wr
  row : RowC wr g 1 34 4 v U.length (encDones U)
  acts : ∀ j (hj : j < U.length), FixC wr g (5 + j) U[j].ad (encActs U[j].acts)

theorem LstR.quiet {w wr wr' : World} {H : Nat} {g g' : Nat → Nat} {v : Value} {U : List Dnx} (h : LstR w wr H g v U) (e : Evo 0 0 g g' wr wr') : LstR w wr' H g' v U :=
  ⟨h.evo.trans (e.none (Nat.le_refl _)), h.row.frame e (by omega), fun j hj => (h.acts j hj).frame e (by omega)⟩

theorem LstR.snoc {w w8 w9 : World} {H : Nat} {g8 g9 : Nat → Nat} {v : Value} {U : List Dnx} {Y : Dnx} {a9 : Option Addr} {c9 : Nat} (h : LstR w w8 H g8 v U) (hH : 5 + U.length ≤ H) (hX : FixC w8 g8 (5 + U.length) Y.ad (encActs Y.acts))
    (hR : RowC w9 g9 1 34 4 (.slice a9 (U.length + 1) c9) (U.length + 1) (encDones U ++ encDnx Y)) (hE : Evo 1 (1 + 1) g8 g9 w8 w9) : LstR w w9 H g9 (.slice a9 (U ++ [Y]).length c9) (U ++ [Y]) := by
  refine ⟨h.evo.trans (hE.wide (Nat.le_refl _) (by omega)), ?_, fun j hj => ?_⟩
  · rw [encDones_append, List.length_append]
    simpa [encDones] using hR
  · by_cases hj2 : j < U.length
    · rw [List.getElem_append_left hj2]
      exact (h.acts j hj2).frame hE (by omega)
    · have hje : j = U.length := by simp at hj; omega
      subst hje
      rw [List.getElem_append_right (Nat.le_refl _)]
      simp only [Nat.sub_self, List.getElem_singleton]
      exact hX.frame hE (by omega)

set_option maxHeartbeats 4000000 in
set_option maxRecDepth 100000 in
theorem walk_SerialSure (a : Option Addr) (cap : Nat) (l : List St) (w : World) (hl : l.length ≤ 9223372036854775807) (hA : StepsAt w a l) :
    Calls Try.prog 3 #[.slice a l.length cap] w (TruePost w) := by
  have HA := hid hA
  clear hA
  obtain ⟨i0, hi, hz0, hz1, hz2⟩ := info_parts Try.infoRDone
  go_enter Try.func3, Try.ntmps3
  go_wp2_with fail
  (with_reducible refine (law_serialBegun w).mono ?_)
  rintro e w1 ⟨rfl, hb⟩
  have B1 := hid hb
  clear hb
  go_wp2_with fail
  (with_reducible refine (law_greatSteps a cap l w1 hl (HA.out.below B1.out)).mono ?_)
  rintro e w1' ⟨rfl, rfl⟩
  cases hg : greatS l with
  | true =>
    clear hg
    go_wp2
    go_ret
    exact ⟨rfl, B1.out⟩
  | false =>
  obtain ⟨h200, h100⟩ := greatS_false hg
  have SA := hid (HA.out.below B1.out)
  go_wp2_with fail
  refine (law_noted a cap l w1 (by omega) (fun x hx => by have := h100 x hx; unfold maxLen; omega) SA.out).mono ?_
  rintro e w5 ⟨ad, c, M, rfl, hD, hM, hb, hlen, hl8, -, hG⟩
  have B5 := hid (B1.out.trans (hb.mono B1.out.size))
  have HD := hid hD
  have HT := hid (show serialS (M.map Dnx.d) = true from by rw [hM]; exact serial_true hG.kept)
  have HN := hid (show ∀ y ∈ M, y.n ≤ 1000000 from fun y hy => by
    have hd := hG.kept.done _ (show y.d ∈ notedS l by rw [← hM]; exact List.mem_map_of_mem hy)
    have h40 := (full_ok (runN (Ht.new, Bk.new) l).1).2
    by_cases e : y.d.n = 0
    · have : y.n = 0 := e
      omega
    · have h1 : y.d.n ≤ (fullH (runN (Ht.new, Bk.new) l).1).last := (hd.some_ e).2.1
      have h2 : y.d.n = y.n := rfl
      omega)
  have HL8 := hid (show ∀ y ∈ M, y.acts.length ≤ 1000000 ∧ ∀ z ∈ y.acts, z.a.l.length ≤ 1000000 from fun y hy => ⟨by have := (hl8 y hy).1; omega, fun z hz => by have := (hl8 y hy).2 z hz; omega⟩)
  have hM63 : (M.length : Int) ≤ 9223372036854775807 := by omega
  have hM6 : M.length ≤ 1000000 := by omega
  clear hD hM hb hl8 hG SA hlen h100 h200 hg HA
  go_wp2
  go_loopw [4, 5] (fun o i wr => ∃ (k : Nat) (g : Nat → Nat) (U : List Dnx), k ≤ M.length ∧ i = .int .i64 k ∧ Hid (U.map Dnx.d = (M.take k).map Dnx.d) ∧ Hid (∀ y ∈ U, ∃ m ∈ M, y.acts = m.acts ∧ y.n = m.n) ∧ Hid (LstR w5 wr (5 + M.length) g o U)) (fun _ i _ => M.length - (intOf i).toNat)
  case atStart => exact ⟨0, fun _ => 0, [], Nat.zero_le _, rfl, hid rfl, hid nofun, hid ⟨Evo.refl _ _ _ _, ⟨World.ownsRow_nil _ 0 _ _, nofun⟩, nofun⟩⟩
  case round =>
    obtain ⟨k, g, U, hk, rfl, HU, HM, HI⟩ := hrel
    have hUL : U.length = k := by have := congrArg List.length HU.out; simp at this; omega
    have HUL := hid hUL
    obtain ⟨ao, co, rfl, -, -⟩ := ownsRow.sliceAt HI.out.row.1
    by_cases hlt : k < M.length
    · obtain ⟨sb, off, rfl, hsb, hf⟩ := HD.out.facts (by omega)
      obtain ⟨e0, e1, e2, e3, hAF⟩ := hf k hlt
      have HAF := hid hAF
      have HZ := hid (HL8.out M[k] (List.getElem_mem _))
      have HMK := hid (List.getElem_mem hlt)
      have HU2 := hid (show (M.take (k + 1)).map Dnx.d = U.map Dnx.d ++ [M[k].d] from by rw [List.take_succ_eq_append_getElem hlt, List.map_append, HU.out]; rfl)
      have hki : (k : Int) < (M.length : Int) := by omega
      have hk0 : (0 : Int) ≤ (k : Int) := by omega
      have KS := hid (fun W (h : Below w5.heap.size w5 W) => And.intro ((below_cell h hsb).trans e0) (And.intro ((below_cell h hsb).trans e1) (And.intro ((below_cell h hsb).trans e2) ((below_cell h hsb).trans e3))))
      have q1 : U.length + 1 ≤ maxLen := by unfold maxLen; omega
      have q2 : (U.length + 1) * 48 ≤ 140737488355328 := by omega
      have hH : 5 + U.length ≤ 5 + M.length := by omega
      clear hf hAF hUL e0 e1 e2 e3
      generalize M[k] = y at *
      go_upto_region 10 with (fail)
      have ID := hid (HI.out.quiet (Evo.drew 0 0 g wr))
      have hS0 := KS.out _ ID.out.evo.zeroed
      clear HI
      -- REGION 10
      refine wp_region_noPanic ?_
      refine wp_region_held_drew (S := (fun W : World => W.cell? ⟨sb, off + k * 4, none⟩ = some (.int .i64 y.n) ∧ W.cell? ⟨sb, off + k * 4 + 1, none⟩ = some (.int .i64 y.at_) ∧ W.cell? ⟨sb, off + k * 4 + 2, none⟩ = some (.int .i64 y.mode) ∧ W.cell? ⟨sb, off + k * 4 + 3, none⟩ = some (.slice y.ad y.acts.length y.cap))) (by kernel_rfl) ?_ (fun hH0 => ?_)
      · (try dsimp only); (first | assumption | exact hS0)
      refine wpAnyH_take (i := 0) (v := ?_) (by simp only [List.getElem?_toArray, List.getElem?_cons_zero]; rfl) (by kernel_rfl) (by kernel_rfl) (by kernel_rfl) (fun _ _ _ h => h) (Or.inl ⟨by rfl, ?_⟩) (by assumption) ?_
      rotate_left
      · intro w hSw; (try dsimp only at hSw); go_simp; (try with_reducible rfl)
      try simp only [Act.put, List.setIfInBounds_toArray, List.set_cons_zero, List.set_cons_succ]
      refine wpAnyH_take (i := 1) (v := ?_) (by simp only [List.getElem?_toArray, List.getElem?_cons_zero, List.getElem?_cons_succ]; rfl) (by kernel_rfl) (by kernel_rfl) (by kernel_rfl) (fun _ _ _ h => h) (Or.inl ⟨by rfl, ?_⟩) (by assumption) ?_
      rotate_left
      · intro w hSw; (try dsimp only at hSw); go_simp; (try with_reducible rfl)
      try simp only [Act.put, List.setIfInBounds_toArray, List.set_cons_zero, List.set_cons_succ]
      refine wpAnyH_take (i := 2) (v := ?_) (by simp only [List.getElem?_toArray, List.getElem?_cons_zero, List.getElem?_cons_succ]; rfl) (by kernel_rfl) (by kernel_rfl) (by kernel_rfl) (fun _ _ _ h => h) (Or.inl ⟨by rfl, ?_⟩) (by assumption) ?_
      rotate_left
      · intro w hSw; (try dsimp only at hSw); go_simp; (try with_reducible rfl)
      try simp only [Act.put, List.setIfInBounds_toArray, List.set_cons_zero, List.set_cons_succ]
      refine wpAnyH_take (i := 3) (v := ?_) (by simp only [List.getElem?_toArray, List.getElem?_cons_zero, List.getElem?_cons_succ]; rfl) (by kernel_rfl) (by kernel_rfl) (by kernel_rfl) (fun _ _ _ h => h) (Or.inl ⟨by rfl, ?_⟩) (by assumption) ?_
      rotate_left
      · intro w hSw; (try dsimp only at hSw); go_simp; (try with_reducible rfl)
      try simp only [Act.put, List.setIfInBounds_toArray, List.set_cons_zero, List.set_cons_succ]
      refine wpAnyH_take (i := 4) (v := ?_) (by simp only [List.getElem?_toArray, List.getElem?_cons_zero, List.getElem?_cons_succ]; rfl) (by kernel_rfl) (by kernel_rfl) (by kernel_rfl) (fun _ _ _ h => h) (Or.inl ⟨by rfl, ?_⟩) (by assumption) ?_
      rotate_left
      · intro w hSw; (try dsimp only at hSw); go_simp; (try with_reducible rfl)
      try simp only [Act.put, List.setIfInBounds_toArray, List.set_cons_zero, List.set_cons_succ]
      refine wpAnyH_take (i := 5) (v := ?_) (by simp only [List.getElem?_toArray, List.getElem?_cons_zero, List.getElem?_cons_succ]; rfl) (by kernel_rfl) (by kernel_rfl) (by kernel_rfl) (fun _ _ _ h => h) (Or.inl ⟨by rfl, ?_⟩) (by assumption) ?_
      rotate_left
      · intro w hSw; (try dsimp only at hSw); go_simp; (try with_reducible rfl)
      try simp only [Act.put, List.setIfInBounds_toArray, List.set_cons_zero, List.set_cons_succ]
      refine wpAnyH_take (i := 6) (v := ?_) (by simp only [List.getElem?_toArray, List.getElem?_cons_zero, List.getElem?_cons_succ]; rfl) (by kernel_rfl) (by kernel_rfl) (by kernel_rfl) (fun _ _ _ h => h) (Or.inl ⟨by rfl, ?_⟩) (by assumption) ?_
      rotate_left
      · intro w hSw; (try dsimp only at hSw); go_simp; (try with_reducible rfl)
      try simp only [Act.put, List.setIfInBounds_toArray, List.set_cons_zero, List.set_cons_succ]
      refine wpAnyH_take (i := 7) (v := ?_) (by simp only [List.getElem?_toArray, List.getElem?_cons_zero, List.getElem?_cons_succ]; rfl) (by kernel_rfl) (by kernel_rfl) (by kernel_rfl) (fun _ _ _ h => h) (Or.inl ⟨by rfl, ?_⟩) (by assumption) ?_
      rotate_left
      · intro w hSw; (try dsimp only at hSw); go_simp; (try with_reducible rfl)
      try simp only [Act.put, List.setIfInBounds_toArray, List.set_cons_zero, List.set_cons_succ]
      refine wpAnyH_take (i := 8) (v := ?_) (by simp only [List.getElem?_toArray, List.getElem?_cons_zero, List.getElem?_cons_succ]; rfl) (by kernel_rfl) (by kernel_rfl) (by kernel_rfl) (fun _ _ _ h => h) (Or.inl ⟨by rfl, ?_⟩) (by assumption) ?_
      rotate_left
      · intro w hSw; (try dsimp only at hSw); go_simp; (try with_reducible rfl)
      try simp only [Act.put, List.setIfInBounds_toArray, List.set_cons_zero, List.set_cons_succ]
      refine wpAnyH_take (i := 9) (v := ?_) (by simp only [List.getElem?_toArray, List.getElem?_cons_zero, List.getElem?_cons_succ]; rfl) (by kernel_rfl) (by kernel_rfl) (by kernel_rfl) (fun _ _ _ h => h) (Or.inl ⟨by rfl, ?_⟩) (by assumption) ?_
      rotate_left
      · intro w hSw; (try dsimp only at hSw); go_simp; (try with_reducible rfl)
      try simp only [Act.put, List.setIfInBounds_toArray, List.set_cons_zero, List.set_cons_succ]
      refine wpAnyH_take (i := 10) (v := ?_) (by simp only [List.getElem?_toArray, List.getElem?_cons_zero, List.getElem?_cons_succ]; rfl) (by kernel_rfl) (by kernel_rfl) (by kernel_rfl) (fun _ _ _ h => h) (Or.inl ⟨by rfl, ?_⟩) (by assumption) ?_
      rotate_left
      · intro w hSw; (try dsimp only at hSw); go_simp; (try with_reducible rfl)
      try simp only [Act.put, List.setIfInBounds_toArray, List.set_cons_zero, List.set_cons_succ]
      refine wpAnyH_take (i := 11) (v := ?_) (by simp only [List.getElem?_toArray, List.getElem?_cons_zero, List.getElem?_cons_succ]; rfl) (by kernel_rfl) (by kernel_rfl) (by kernel_rfl) (fun _ _ _ h => h) (Or.inl ⟨by rfl, ?_⟩) (by assumption) ?_
      rotate_left
      · intro w hSw; (try dsimp only at hSw); go_simp; (try with_reducible rfl)
      try simp only [Act.put, List.setIfInBounds_toArray, List.set_cons_zero, List.set_cons_succ]
      refine wpAnyH_take (i := 12) (v := ?_) (by simp only [List.getElem?_toArray, List.getElem?_cons_zero, List.getElem?_cons_succ]; rfl) (by kernel_rfl) (by kernel_rfl) (by kernel_rfl) (fun _ _ _ h => h) (Or.inl ⟨by rfl, ?_⟩) (by assumption) ?_
      rotate_left
      · intro w hSw; (try dsimp only at hSw); go_simp; (try with_reducible rfl)
      try simp only [Act.put, List.setIfInBounds_toArray, List.set_cons_zero, List.set_cons_succ]
      refine wpAnyH_take (i := 13) (v := ?_) (by simp only [List.getElem?_toArray, List.getElem?_cons_zero, List.getElem?_cons_succ]; rfl) (by kernel_rfl) (by kernel_rfl) (by kernel_rfl) (fun _ _ _ h => h) (Or.inl ⟨by rfl, ?_⟩) (by assumption) ?_
      rotate_left
      · intro w hSw; (try dsimp only at hSw); go_simp; (try with_reducible rfl)
      try simp only [Act.put, List.setIfInBounds_toArray, List.set_cons_zero, List.set_cons_succ]
      refine wpAnyH_take (i := 14) (v := ?_) (by simp only [List.getElem?_toArray, List.getElem?_cons_zero, List.getElem?_cons_succ]; rfl) (by kernel_rfl) (by kernel_rfl) (by kernel_rfl) (fun _ _ _ h => h) (Or.inl ⟨by rfl, ?_⟩) (by assumption) ?_
      rotate_left
      · intro w hSw; (try dsimp only at hSw); go_simp; (try with_reducible rfl)
      try simp only [Act.put, List.setIfInBounds_toArray, List.set_cons_zero, List.set_cons_succ]
      refine wpAnyH_take (i := 15) (v := ?_) (by simp only [List.getElem?_toArray, List.getElem?_cons_zero, List.getElem?_cons_succ]; rfl) (by kernel_rfl) (by kernel_rfl) (by kernel_rfl) (fun _ _ _ h => h) (Or.inl ⟨by rfl, ?_⟩) (by assumption) ?_
      rotate_left
      · intro w hSw; (try dsimp only at hSw); go_simp; (try with_reducible rfl)
      try simp only [Act.put, List.setIfInBounds_toArray, List.set_cons_zero, List.set_cons_succ]
      refine wpAnyH_take (i := 16) (v := ?_) (by simp only [List.getElem?_toArray, List.getElem?_cons_zero, List.getElem?_cons_succ]; rfl) (by kernel_rfl) (by kernel_rfl) (by kernel_rfl) (fun _ _ _ h => h) (Or.inl ⟨by rfl, ?_⟩) (by assumption) ?_
      rotate_left
      · intro w hSw; (try dsimp only at hSw); go_simp; (try with_reducible rfl)
      try simp only [Act.put, List.setIfInBounds_toArray, List.set_cons_zero, List.set_cons_succ]
      refine wpAnyH_take (i := 17) (v := ?_) (by simp only [List.getElem?_toArray, List.getElem?_cons_zero, List.getElem?_cons_succ]; rfl) (by kernel_rfl) (by kernel_rfl) (by kernel_rfl) (fun _ _ _ h => h) (Or.inl ⟨by rfl, ?_⟩) (by assumption) ?_
      rotate_left
      · intro w hSw; (try dsimp only at hSw); go_simp; (try with_reducible rfl)
      try simp only [Act.put, List.setIfInBounds_toArray, List.set_cons_zero, List.set_cons_succ]
      refine wpAnyH_take (i := 18) (v := ?_) (by simp only [List.getElem?_toArray, List.getElem?_cons_zero, List.getElem?_cons_succ]; rfl) (by kernel_rfl) (by kernel_rfl) (by kernel_rfl) (fun _ _ _ h => h) (Or.inl ⟨by rfl, ?_⟩) (by assumption) ?_
      rotate_left
      · intro w hSw; (try dsimp only at hSw); go_simp; (try with_reducible rfl)
      try simp only [Act.put, List.setIfInBounds_toArray, List.set_cons_zero, List.set_cons_succ]
      refine wpAnyH_take (i := 19) (v := ?_) (by simp only [List.getElem?_toArray, List.getElem?_cons_zero, List.getElem?_cons_succ]; rfl) (by kernel_rfl) (by kernel_rfl) (by kernel_rfl) (fun _ _ _ h => h) (Or.inl ⟨by rfl, ?_⟩) (by assumption) ?_
      rotate_left
      · intro w hSw; (try dsimp only at hSw); go_simp; (try with_reducible rfl)
      try simp only [Act.put, List.setIfInBounds_toArray, List.set_cons_zero, List.set_cons_succ]
      refine wpAnyH_take (i := 20) (v := ?_) (by simp only [List.getElem?_toArray, List.getElem?_cons_zero, List.getElem?_cons_succ]; rfl) (by kernel_rfl) (by kernel_rfl) (by kernel_rfl) (fun _ _ _ h => h) (Or.inl ⟨by rfl, ?_⟩) (by assumption) ?_
      rotate_left
      · intro w hSw; (try dsimp only at hSw); go_simp; (try with_reducible rfl)
      try simp only [Act.put, List.setIfInBounds_toArray, List.set_cons_zero, List.set_cons_succ]
      refine wpAnyH_ready (rs := [21]) (by kernel_rfl) (by simp) ?_
      refine AllReadyH.cons (by simp only [List.getElem?_toArray, List.getElem?_cons_zero, List.getElem?_cons_succ]; rfl) (fun K hK => ?_) AllReadyH.nil
      go_simp
      go_at_call 9
      refine (law_acts y.ad y.cap y.acts wr.drew HZ.out.1 (HAF.out.below ID.out.evo.zeroed)).mono ?_
      rintro e w7 ⟨ad7, c7, rfl, hA7, hb7, hn7⟩
      have E7 : Evo 0 0 g (extc g wr.drew (5 + U.length)) wr.drew w7 := Evo.of_below g (5 + U.length) hb7
      have I7 := hid (ID.out.quiet E7)
      have X7 : Hid (FixC w7 (extc g wr.drew (5 + U.length)) (5 + U.length) ad7 (encActs y.acts)) := hid (FixC.fresh hA7.1 hn7)
      have hS' := KS.out _ I7.out.evo.zeroed
      clear hA7 hb7 hn7 E7
      generalize extc g wr.drew (5 + U.length) = g7 at *
      try go_wp2_with fail
      refine hK.out _ _ ?_ (fun hH1 => ?_)
      · (try dsimp only); (first | assumption | exact hS0)
      clear hK K hH0
      try simp only [Act.put, List.setIfInBounds_toArray, List.set_cons_zero, List.set_cons_succ]
      refine wpAnyH_take (i := 22) (v := ?_) (by simp only [List.getElem?_toArray, List.getElem?_cons_zero, List.getElem?_cons_succ]; rfl) (by kernel_rfl) (by kernel_rfl) (by kernel_rfl) (fun _ _ _ h => h) (Or.inl ⟨by rfl, ?_⟩) (by assumption) ?_
      rotate_left
      · intro w hSw; (try dsimp only at hSw); go_simp; (try with_reducible rfl)
      try simp only [Act.put, List.setIfInBounds_toArray, List.set_cons_zero, List.set_cons_succ]
      refine wpAnyH_ready (rs := [23]) (by kernel_rfl) (by simp) ?_
      refine AllReadyH.cons (by simp only [List.getElem?_toArray, List.getElem?_cons_zero, List.getElem?_cons_succ]; rfl) (fun K hK => ?_) AllReadyH.nil
      go_simp
      have E8 := Evo.alloc g7 0 w7 (.cells #[.int .i64 y.n, .int .i64 y.at_, .int .i64 y.mode, .slice ad7 y.acts.length c7] 34)
      have I8 := hid (I7.out.quiet E8)
      have X8 := hid (X7.out.frame E8 (by omega))
      have C8 := hid (cells_new w7 (encDnx (⟨y.n, y.at_, y.mode, y.acts, ad7, c7, 0⟩ : Dnx)) 34)
      have hS' := KS.out _ I8.out.evo.zeroed
      clear E8
      generalize extc g7 w7 0 = g8 at *
      try go_wp2_with fail
      refine hK.out _ _ ?_ (fun hH2 => ?_)
      · (try dsimp only); (first | assumption | exact hS0)
      clear hK K hH1
      try simp only [Act.put, List.setIfInBounds_toArray, List.set_cons_zero, List.set_cons_succ]
      refine wpAnyH_ready (rs := [24]) (by kernel_rfl) (by simp) ?_
      refine AllReadyH.cons (by simp only [List.getElem?_toArray, List.getElem?_cons_zero, List.getElem?_cons_succ]; rfl) (fun K hK => ?_) AllReadyH.nil
      refine wp_append2 (.tmp 18) (.tmp 41) 27 rfl 34 i0 (.agg #[.int .i64 0, .int .i64 0, .int .i64 0, .slice none 0 0]) 4 48 Try.underlying27 hi hz0 hz1 hz2 rfl (by decide) (.slice ao U.length co) U.length (encDones U) rfl I8.out.row.1 ⟨w7.heap.size, 0, none⟩ 1 1 (encDnx (⟨y.n, y.at_, y.mode, y.acts, ad7, c7, 0⟩ : Dnx)) rfl rfl C8.out (encDnx_one _) q1 q2 ?_
      intro v9 w9 ho hg hf
      obtain ⟨a9, c9, rfl, -, -⟩ := ownsRow.sliceAt ho
      obtain ⟨g9, hR, hE⟩ : ∃ g9, RowC w9 g9 1 34 4 (.slice a9 (U.length + 1) c9) (U.length + 1) (encDones U ++ encDnx (⟨y.n, y.at_, y.mode, y.acts, ad7, c7, 0⟩ : Dnx)) ∧ Evo 1 (1 + 1) g8 g9 _ w9 := ⟨_, I8.out.row.grown ho hg hf⟩
      have J9 := hid (I8.out.snoc hH (Y := (⟨y.n, y.at_, y.mode, y.acts, ad7, c7, 0⟩ : Dnx)) X8.out hR hE)
      have hS' := KS.out _ J9.out.evo.zeroed
      clear ho hg hf hR hE
      refine hK.out _ _ ?_ (fun hH3 => ?_)
      · (try dsimp only); (first | assumption | exact hS0)
      clear hK K hH2
      try simp only [Act.put]
      refine wpAnyH_take (i := 25) (v := ?_) (by simp only [List.getElem?_toArray, List.getElem?_cons_zero, List.getElem?_cons_succ]; rfl) (by kernel_rfl) (by kernel_rfl) (by kernel_rfl) (fun _ _ _ h => h) (Or.inl ⟨by rfl, ?_⟩) (by assumption) ?_
      rotate_left
      · intro w hSw; (try dsimp only at hSw); go_simp; (try with_reducible rfl)
      try simp only [Act.put, List.setIfInBounds_toArray, List.set_cons_zero, List.set_cons_succ]
      refine wpAnyH_done (by kernel_rfl) ?_ _
      refine NoPanic.normal ?_
      rotate_left
      -- END 10
      go_wp2
      go_roundw
      case rel =>
        refine ⟨k + 1, g9, U ++ [(⟨y.n, y.at_, y.mode, y.acts, ad7, c7, 0⟩ : Dnx)], by omega, by go_num, hid (by rw [HU2.out, List.map_append]; rfl), hid (fun y' hy' => ?_), hid (by have := J9.out; rw [List.length_append] at this; exact this)⟩
        rcases List.mem_append.1 hy' with hy' | hy'
        · exact HM.out y' hy'
        · rw [List.mem_singleton] at hy'; subst hy'
          exact ⟨y, HMK.out, rfl, rfl⟩
      case measure => simp [intOf]; omega
    · obtain rfl : k = M.length := by omega
      have hBW := HI.out.evo.zeroed
      have BW := hid (B5.out.trans (hBW.mono B5.out.size))
      have HDU := hid (show DonesF wr ao U from by
        refine ⟨HI.out.row.fix.1, fun y hy => ⟨?_, fun z hz => ?_⟩⟩
        · obtain ⟨j, hj, rfl⟩ := List.mem_iff_getElem.1 hy
          exact (HI.out.acts j hj).1
        · obtain ⟨m, hm, e, -⟩ := HM.out y hy
          rw [e] at hz
          exact sliceAt_below ((HD.out.2 m hm).2 z hz) hBW)
      have HDM := hid (HD.out.below hBW)
      have HLU := hid (show ∀ y ∈ U, y.acts.length ≤ 1000000 ∧ ∀ z ∈ y.acts, z.a.l.length ≤ 1000000 from fun y hy => by
        obtain ⟨m, hm, e, -⟩ := HM.out y hy
        rw [e]; exact HL8.out m hm)
      have HNU := hid (show ∀ y ∈ U, y.n ≤ 1000000 from fun y hy => by
        obtain ⟨m, hm, -, e⟩ := HM.out y hy
        rw [e]; exact HN.out m hm)
      have HTU := hid (show serialS (U.map Dnx.d) = true from by rw [HU.out, List.take_length]; exact HT.out)
      have hU6 : U.length ≤ 1000000 := by omega
      have hge : (M.length : Int) ≤ (M.length : Int) := Int.le_refl _
      clear HI HM HU hBW hUL hlt hk
      go_wp2_with fail
      have P1 := serial_Serial ad c M wr hM6 HL8.out HN.out HDM.out
      rw [HT.out] at P1
      (with_reducible refine P1.mono ?_)
      clear P1
      rintro e w6 ⟨rfl, hb6⟩
      have B6 := hid (BW.out.trans (hb6.mono BW.out.size))
      have P2 := ref_Serial ao co U w6 hU6 HLU.out HNU.out (HDU.out.below hb6)
      rw [HTU.out] at P2
      have P2 := hid P2
      clear hb6
      go_wp2_with fail
      (with_reducible refine P2.out.mono ?_)
      rintro e w7 ⟨rfl, hb7⟩
      have B7 := hid (B6.out.trans (hb7.mono B6.out.size))
      clear hb7 P2
      go_wp2
      go_ret
      exact ⟨rfl, B7.out⟩

end Go.Proofs.Ytoiobhcgpajogad
