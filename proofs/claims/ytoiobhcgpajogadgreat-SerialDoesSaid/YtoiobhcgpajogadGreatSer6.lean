/- The walks of greatDone and sameAct. -/
import Derived.Test.YtoiobhcgpajogadGreatBook10
namespace Go.Proofs.YtoiobhcgpajogadGreat
open Go.RowKit

def greatY (y : Dnx) : Bool := greatA y.acts || (decide (1000 < y.n) || decide (1000 < y.at_))
def greatDl (l : List Dnx) : Bool := (l.take 100).any greatY || decide (60 < l.length)

theorem greatDl_false {l : List Dnx} (h : greatDl l = false) : l.length ≤ 60 ∧ ∀ y ∈ l, greatA y.acts = false ∧ y.n ≤ 1000 ∧ y.at_ ≤ 1000 := by
  unfold greatDl at h
  simp only [Bool.or_eq_false_iff, decide_eq_false_iff_not, List.any_eq_false] at h
  refine ⟨by omega, fun y hy => ?_⟩
  rw [List.take_of_length_le (by omega)] at h
  have := h.1 y hy
  unfold greatY at this
  simp only [Bool.or_eq_true, decide_eq_true_eq, not_or, Bool.not_eq_true] at this
  exact ⟨this.1, by omega, by omega⟩

set_option maxHeartbeats 2000000 in
set_option maxRecDepth 100000 in
theorem law_greatDone (a : Option Addr) (cap : Nat) (l : List Dnx) (w : World) (hn : l.length ≤ 9223372036854775807) (hA : DonesAt w a l) :
    Calls Tryz.prog 7 #[.slice a l.length cap] w (BoolPost (greatDl l) w) := by
  have fin : ∀ b, greatDl l = b → ∀ w', Below w.heap.size w w' → BoolPost (greatDl l) w (.returned (.bool b)) w' := fun b h w' hb => ⟨by rw [h], hb⟩
  have F := hid fin
  have HA := hid hA
  clear fin hA
  go_enter Tryz.func7, Tryz.ntmps7
  go_wp2
  go_loopw [3] (fun i wr => ∃ k : Nat, k ≤ l.length ∧ k ≤ 100 ∧ i = .int .i64 k ∧ Hid ((l.take k).any greatY = false) ∧ Below w.heap.size w wr) (fun i _ => 100 - (intOf i).toNat)
  case atStart => exact ⟨0, Nat.zero_le _, by omega, rfl, hid (by simp), Below.refl _ _⟩
  case round =>
    obtain ⟨k, hk, hk2, rfl, HH, hb⟩ := hrel
    by_cases hlt : k < l.length
    · by_cases hk3 : k < 100
      · obtain ⟨b, off, rfl, hbb, hv⟩ := HA.out.facts (by omega)
        obtain ⟨g0, g1, g2, g3, gA, gL⟩ := hv k hlt
        have hst : (l.take (k + 1)).any greatY = (false || greatY l[k]) := by
          rw [List.take_succ_eq_append_getElem hlt, List.any_append, HH.out]; simp
        have hmono : (l.take (k + 1)).any greatY = true → (l.take 100).any greatY = true := by
          intro h
          rw [List.any_eq_true] at h ⊢
          obtain ⟨x, hx, h⟩ := h
          exact ⟨x, (List.take_subset_take_left l (by omega)) hx, h⟩
        have HG := hid (law_greatActs l[k].ad l[k].cap l[k].acts wr (by unfold maxLen at gL; omega) (gA.below hb))
        have HB := hid hb
        have HST := hid hst
        have HM := hid hmono
        have HC := hid (fun W (h : Below w.heap.size w W) => And.intro ((below_cell h hbb).trans g0) ((below_cell h hbb).trans g1))
        have g3 := (below_cell hb hbb).trans g3
        have hki : (k : Int) < (l.length : Int) := by omega
        have hk0 : (0 : Int) ≤ (k : Int) := by omega
        have hk1 : (k : Int) < 100 := by omega
        clear hv hst hmono gA gL hb g0 g1 g2
        generalize l[k] = y at *
        have HE := hid (show greatY y = (greatA y.acts || (decide (1000 < y.n) || decide (1000 < y.at_))) from rfl)
        generalize greatA y.acts = ga at *
        go_wp2_with fail
        (with_reducible refine HG.out.mono ?_)
        rintro e w1 ⟨rfl, hb⟩
        have HB1 := hid (HB.out.trans (hb.mono HB.out.size))
        obtain ⟨n0, n1⟩ := HC.out _ HB1.out
        clear hb HG HC HB g3
        have yes : greatY y = true → greatDl l = true := fun h => by unfold greatDl; rw [HM.out (by rw [HST.out, h]; rfl)]; rfl
        have Y := hid yes
        clear yes
        cases ga with
        | true =>
          have G := hid (Y.out (by rw [HE.out]; rfl))
          clear Y HE HST HM
          go_wp2
          go_ret
          exact F.out _ G.out _ HB1.out
        | false =>
          by_cases h1 : 1000 < y.n
          · have G := hid (Y.out (by rw [HE.out, decide_eq_true h1]; rfl))
            clear Y HE HST HM
            go_wp2
            go_ret
            exact F.out _ G.out _ HB1.out
          · by_cases h2 : 1000 < y.at_
            · have G := hid (Y.out (by rw [HE.out, decide_eq_true h2, decide_eq_false h1]; rfl))
              clear Y HE HST HM
              go_wp2
              go_ret
              exact F.out _ G.out _ HB1.out
            · have NO := hid (show greatY y = false from by rw [HE.out, decide_eq_false h1, decide_eq_false h2]; rfl)
              clear Y HE HM
              go_wp2
              go_roundw
              case rel => exact ⟨k + 1, by omega, by omega, by go_num, hid (by rw [HST.out, NO.out]; rfl), HB1.out⟩
              case measure => simp [intOf]; omega
      · obtain rfl : k = 100 := by omega
        have G := hid (show greatDl l = true by unfold greatDl; simp; right; omega)
        have HB := hid hb
        have hki : (100 : Int) < (l.length : Int) := by omega
        clear hb
        go_wp2
        go_ret
        exact F.out _ (by rw [G.out]; simp; omega) _ HB.out
    · obtain rfl : k = l.length := by omega
      have G := hid (show greatDl l = decide (60 < l.length) by unfold greatDl; rw [List.take_of_length_le hk2, ← List.take_length (l := l), HH.out]; simp)
      have HB := hid hb
      clear hb
      go_wp2
      go_ret
      exact F.out (decide ((60 : Int) < (l.length : Int))) (by rw [G.out]; exact decide_eq_decide.2 (by omega)) _ HB.out

set_option maxHeartbeats 2000000 in
set_option maxRecDepth 100000 in
theorem law_sameAct (z : Ac) (a1 a2 : Option Addr) (c1 c2 : Nat) (w : World) (hz : z.l.length ≤ 1000000) (h1 : SliceAt w a1 (encEnts z.l)) (h2 : SliceAt w a2 (encEnts z.l)) :
    Calls Tryz.prog 10 #[.agg #[.int .i64 z.kind, .int .i64 z.key, .int .i64 z.to_, .bool z.v.there, .string z.v.bytes, .slice a1 z.l.length c1], .agg #[.int .i64 z.kind, .int .i64 z.key, .int .i64 z.to_, .bool z.v.there, .string z.v.bytes, .slice a2 z.l.length c2]] w (TruePost w) := by
  have H1 := hid h1
  have H2 := hid h2
  clear h1 h2
  have e1 : (z.kind == z.kind) = true := by simp
  have e2 : (z.key == z.key) = true := by simp
  have e3 : (z.to_ == z.to_) = true := by simp
  have e4 : (z.v.there == z.v.there) = true := by simp
  go_enter Tryz.func10, Tryz.ntmps10
  go_wp2_with fail
  have hb0 := ((Below.refl w.heap.size w).alloc (Nat.le_refl _) (.cells #[.int .i64 z.kind, .int .i64 z.key, .int .i64 z.to_, .bool z.v.there, .string z.v.bytes, .slice a1 z.l.length c1] 43)).alloc (by simp) (.cells #[.int .i64 z.kind, .int .i64 z.key, .int .i64 z.to_, .bool z.v.there, .string z.v.bytes, .slice a2 z.l.length c2] 44)
  refine (ref_SamePairs a1 a2 c1 c2 z.l z.l _ hz hz (sliceAt_below H1.out hb0) (sliceAt_below H2.out hb0)).mono ?_
  rintro e w1 ⟨b, rfl, hb, hbl⟩
  obtain rfl : b = true := hb.2 rfl
  have HB := hid (hb0.trans (hbl.mono hb0.size))
  clear hb hbl hb0
  go_wp2
  go_ret
  exact ⟨rfl, HB.out⟩

end Go.Proofs.YtoiobhcgpajogadGreat
