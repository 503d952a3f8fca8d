/- The walk of greatPairs. -/
import Derived.Test.YtoiobhcgpajogabCodec3
namespace Go.Proofs.Ytoiobhcgpajogab
open Go.RowKit

def greatP (l : List Ent) : Bool := (l.take 100).any (fun x => decide (300 < x.v.bytes.size)) || decide (50 < l.length)

set_option maxHeartbeats 1000000 in
set_option maxRecDepth 100000 in
theorem law_greatPairs (a : Option Addr) (cap : Nat) (l : List Ent) (w : World) (hn : l.length ≤ 9223372036854775807) (hA : SliceAt w a (encEnts l)) :
    Calls Try.prog 16 #[.slice a l.length cap] w (BoolPost (greatP l) w) := by
  have fin : ∀ b, greatP l = b → BoolPost (greatP l) w (.returned (.bool b)) w := fun b h => ⟨by rw [h], Below.refl _ _⟩
  have F := hid fin
  clear fin
  go_enter Try.func16, Try.ntmps16
  go_wp2
  go_loop [3] (fun i => ∃ k : Nat, k ≤ l.length ∧ k ≤ 100 ∧ i = .int .i64 k ∧ Hid ((l.take k).any (fun x => decide (300 < x.v.bytes.size)) = false)) (fun i => 100 - (intOf i).toNat)
  case atStart => exact ⟨0, Nat.zero_le _, by omega, rfl, hid (by simp)⟩
  case round =>
    obtain ⟨k, hk, hk2, rfl, HH⟩ := hrel
    by_cases hlt : k < l.length
    · by_cases hk3 : k < 100
      · obtain ⟨b, off, rfl, hv⟩ := hA.ents (by omega)
        obtain ⟨-, -, g4⟩ := hv k hlt
        clear hv
        have hst : (l.take (k + 1)).any (fun x => decide (300 < x.v.bytes.size)) = (false || decide (300 < l[k].v.bytes.size)) := by
          rw [List.take_succ_eq_append_getElem hlt, List.any_append, HH.out]; simp
        have hmono : (l.take (k + 1)).any (fun x => decide (300 < x.v.bytes.size)) = true → (l.take 100).any (fun x => decide (300 < x.v.bytes.size)) = true := by
          intro h
          rw [List.any_eq_true] at h ⊢
          obtain ⟨x, hx, h⟩ := h
          exact ⟨x, (List.take_subset_take_left l (by omega)) hx, h⟩
        by_cases hgt : 300 < l[k].v.bytes.size
        · have G := hid (show greatP l = true by unfold greatP; rw [hmono (by rw [hst]; simp [hgt])]; rfl)
          clear hst hmono hA
          go_wp2
          go_ret
          exact F.out _ G.out
        · have G := hid (show (l.take (k + 1)).any (fun x => decide (300 < x.v.bytes.size)) = false by rw [hst]; simp; omega)
          clear hst hmono hA
          go_wp2
          go_round
          case rel => exact ⟨k + 1, by omega, by omega, by go_num, G⟩
          case measure => simp [intOf]; omega
      · obtain rfl : k = 100 := by omega
        have G := hid (show greatP l = true by unfold greatP; simp; right; omega)
        clear hA
        go_wp2
        go_ret
        exact F.out _ (by rw [G.out]; simp; omega)
    · obtain rfl : k = l.length := by omega
      have G := hid (show greatP l = decide (50 < l.length) by unfold greatP; rw [List.take_of_length_le hk2, ← List.take_length (l := l), HH.out]; simp)
      clear hA
      go_wp2
      go_ret
      exact F.out (decide ((50 : Int) < (l.length : Int))) (by rw [G.out]; exact decide_eq_decide.2 (by omega))

theorem greatP_false {l : List Ent} (h : greatP l = false) : l.length ≤ 50 ∧ ∀ x ∈ l, x.v.bytes.size ≤ 300 := by
  unfold greatP at h
  simp only [Bool.or_eq_false_iff, decide_eq_false_iff_not, List.any_eq_false, decide_eq_true_eq] at h
  refine ⟨by omega, fun x hx => ?_⟩
  rw [List.take_of_length_le (by omega)] at h
  have := h.1 x hx
  omega

end Go.Proofs.Ytoiobhcgpajogab
