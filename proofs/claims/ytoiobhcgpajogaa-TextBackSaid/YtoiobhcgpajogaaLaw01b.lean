/- The walks of greatChain and chains: a chain and a line behind the same steps. -/
import Derived.Test.YtoiobhcgpajogaaLaw01a
namespace Go.Proofs.Ytoiobhcgpajogaa
open Go.RowKit

/-- A step: 0 Put of v at at_, 1 Clear of at_. -/
structure CStep where
  do_ : Int
  at_ : Int
  v : Val

def encCStep (x : CStep) : List Value := [.int .i64 x.do_, .int .i64 x.at_, .bool x.v.there, .string x.v.bytes]
def encCSteps : List CStep → List Value
  | [] => []
  | x :: l => encCStep x ++ encCSteps l

theorem encCSteps_length (l : List CStep) : (encCSteps l).length = l.length * 4 := by
  induction l with
  | nil => rfl
  | cons e l ih => simp [encCSteps, encCStep, ih]; omega

theorem encCSteps_get (l : List CStep) (i : Nat) (h : i < l.length) :
    (encCSteps l)[i * 4]? = some (.int .i64 l[i].do_) ∧ (encCSteps l)[i * 4 + 1]? = some (.int .i64 l[i].at_) ∧ (encCSteps l)[i * 4 + 2]? = some (.bool l[i].v.there) ∧ (encCSteps l)[i * 4 + 3]? = some (.string l[i].v.bytes) := by
  induction l generalizing i with
  | nil => simp at h
  | cons e l ih =>
    cases i with
    | zero => simp [encCSteps, encCStep]
    | succ i =>
      have := ih i (by simpa using h)
      have e1 : (i + 1) * 4 = i * 4 + 4 := by omega
      simpa [encCSteps, encCStep, e1] using this

/-- The argument: a slice of steps, its cells at b, off. -/
def CStepsAt (w : World) (a : Option Addr) (l : List CStep) : Prop := SliceAt w a (encCSteps l) ∧ ∀ x ∈ l, x.v.bytes.size ≤ maxLen

theorem CStepsAt.facts {w : World} {a : Option Addr} {l : List CStep} (h : CStepsAt w a l) (h0 : 0 < l.length) :
    ∃ b off, a = some ⟨b, off, none⟩ ∧ b < w.heap.size ∧ ∀ i (hi : i < l.length), w.cell? ⟨b, off + i * 4, none⟩ = some (.int .i64 l[i].do_) ∧ w.cell? ⟨b, off + i * 4 + 1, none⟩ = some (.int .i64 l[i].at_) ∧
      w.cell? ⟨b, off + i * 4 + 2, none⟩ = some (.bool l[i].v.there) ∧ w.cell? ⟨b, off + i * 4 + 3, none⟩ = some (.string l[i].v.bytes) ∧ l[i].v.bytes.size ≤ maxLen := by
  rcases h.1 with k | ⟨b, off, rfl, k⟩
  · have := congrArg List.length k; rw [encCSteps_length] at this; simp at this; omega
  · refine ⟨b, off, rfl, ?_, fun i hi => ?_⟩
    · have g := encCSteps_get l 0 h0
      exact World.block_lt_of_cell? w _ (k _ _ g.1)
    · have g := encCSteps_get l i hi
      exact ⟨k _ _ g.1, k _ _ g.2.1, k _ _ g.2.2.1, k _ _ g.2.2.2, h.2 _ (List.getElem_mem hi)⟩

theorem CStepsAt.below {B : Nat} {w w' : World} {a : Option Addr} {l : List CStep} (h : CStepsAt w a l) (k : Below w.heap.size w w') (_hB : B ≤ w.heap.size) : CStepsAt w' a l := by
  refine ⟨?_, h.2⟩
  rcases h.1 with e | ⟨b, off, rfl, e⟩
  · exact .inl e
  · refine .inr ⟨b, off, rfl, fun j u hu => ?_⟩
    have := e j u hu
    exact (k.cell (p := ⟨b, off + j, none⟩) (World.block_lt_of_cell? w _ this)).trans this

def greatC (l : List CStep) : Bool := (l.take 100).any (fun x => decide (100 < x.v.bytes.size)) || decide (80 < l.length)

def BoolPost (b : Bool) (w : World) (e : Ending) (w' : World) : Prop := e = .returned (.bool b) ∧ Below w.heap.size w w'

set_option maxHeartbeats 1000000 in
set_option maxRecDepth 100000 in
theorem law_greatChain (a : Option Addr) (cap : Nat) (l : List CStep) (w : World) (hn : l.length ≤ 9223372036854775807) (hA : CStepsAt w a l) :
    Calls Try.prog 15 #[.slice a l.length cap] w (BoolPost (greatC l) w) := by
  have fin : ∀ b, greatC l = b → BoolPost (greatC l) w (.returned (.bool b)) w := fun b h => ⟨by rw [h], Below.refl _ _⟩
  have F := hid fin
  clear fin
  go_enter Try.func15, Try.ntmps15
  go_wp2
  go_loop [3] (fun i => ∃ k : Nat, k ≤ l.length ∧ k ≤ 100 ∧ i = .int .i64 k ∧ Hid ((l.take k).any (fun x => decide (100 < x.v.bytes.size)) = false)) (fun i => 100 - (intOf i).toNat)
  case atStart => exact ⟨0, Nat.zero_le _, by omega, rfl, hid (by simp)⟩
  case round =>
    obtain ⟨k, hk, hk2, rfl, HH⟩ := hrel
    by_cases hlt : k < l.length
    · by_cases hk3 : k < 100
      · obtain ⟨b, off, rfl, hb, hv⟩ := hA.facts (by omega)
        obtain ⟨-, -, -, g4, g5⟩ := hv k hlt
        clear hv
        have hst : (l.take (k + 1)).any (fun x => decide (100 < x.v.bytes.size)) = (false || decide (100 < l[k].v.bytes.size)) := by
          rw [List.take_succ_eq_append_getElem hlt, List.any_append, HH.out]; simp
        have hmono : (l.take (k + 1)).any (fun x => decide (100 < x.v.bytes.size)) = true → (l.take 100).any (fun x => decide (100 < x.v.bytes.size)) = true := by
          intro h
          rw [List.any_eq_true] at h ⊢
          obtain ⟨x, hx, h⟩ := h
          exact ⟨x, (List.take_subset_take_left l (by omega)) hx, h⟩
        by_cases hgt : 100 < l[k].v.bytes.size
        · have G := hid (show greatC l = true by unfold greatC; rw [hmono (by rw [hst]; simp [hgt])]; rfl)
          clear hst hmono hA
          go_wp2
          go_ret
          exact F.out _ G.out
        · have G := hid (show (l.take (k + 1)).any (fun x => decide (100 < x.v.bytes.size)) = false by rw [hst]; simp; omega)
          clear hst hmono hA
          go_wp2
          go_round
          case rel => exact ⟨k + 1, by omega, by omega, by go_num, G⟩
          case measure => simp [intOf]; omega
      · obtain rfl : k = 100 := by omega
        have G := hid (show greatC l = true by unfold greatC; simp; right; omega)
        clear hA
        go_wp2
        go_ret
        exact F.out _ (by rw [G.out]; simp; omega)
    · obtain rfl : k = l.length := by omega
      have G := hid (show greatC l = decide (80 < l.length) by unfold greatC; rw [List.take_of_length_le hk2, ← List.take_length (l := l), HH.out]; simp)
      clear hA
      go_wp2
      go_ret
      exact F.out (decide ((80 : Int) < (l.length : Int))) (by rw [G.out]; exact decide_eq_decide.2 (by omega))

end Go.Proofs.Ytoiobhcgpajogaa
