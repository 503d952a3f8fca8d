/- Steps of a hall; the walks of greatSteps and hallBegun. -/
import Derived.Test.YtoiobhcgpajogadGreatHall5
import Derived.Test.YtoiobhcgpajogadGreatLaw03a
import Derived.Test.YtoiobhcgpajogadGreatTStep
namespace Go.Proofs.YtoiobhcgpajogadGreat
open Go.RowKit

def encSts (l : List St) : List Value := l.flatMap stL
def StepsAt (w : World) (a : Option Addr) (l : List St) : Prop := SliceAt w a (encSts l) ∧ ∀ x ∈ l, x.bytes.size ≤ maxLen

theorem StepsAt.below {w w' : World} {a : Option Addr} {l : List St} (h : StepsAt w a l) (k : Below w.heap.size w w') : StepsAt w' a l := ⟨sliceAt_below h.1 k, h.2⟩

theorem StepsAt.facts {w : World} {a : Option Addr} {l : List St} (h : StepsAt w a l) (h0 : 0 < l.length) :
    ∃ b off, a = some ⟨b, off, none⟩ ∧ b < w.heap.size ∧ ∀ i (hi : i < l.length), w.cell? ⟨b, off + i * 8, none⟩ = some (.int .i64 l[i].kind) ∧ w.cell? ⟨b, off + i * 8 + 1, none⟩ = some (.int .i64 l[i].s) ∧ w.cell? ⟨b, off + i * 8 + 2, none⟩ = some (.int .i64 l[i].mode) ∧
      w.cell? ⟨b, off + i * 8 + 3, none⟩ = some (.int .i64 l[i].at_) ∧ w.cell? ⟨b, off + i * 8 + 4, none⟩ = some (.int .i64 l[i].key) ∧ w.cell? ⟨b, off + i * 8 + 5, none⟩ = some (.int .i64 l[i].to_) ∧ w.cell? ⟨b, off + i * 8 + 6, none⟩ = some (.int .i64 l[i].keep) ∧
      w.cell? ⟨b, off + i * 8 + 7, none⟩ = some (.string l[i].bytes) ∧ l[i].bytes.size ≤ maxLen := by
  have hne : encSts l ≠ [] := by
    cases l with
    | nil => cases h0
    | cons x l => simp [encSts, stL]
  obtain ⟨b, off, rfl, hb⟩ := h.1.lt hne
  rcases h.1 with h1 | ⟨b', off', e, hc⟩
  · exact absurd h1 hne
  · cases e
    refine ⟨b, off, rfl, hb, fun i hi => ?_⟩
    have q := fun j hj => flat_get stL 8 (fun _ => rfl) l i j hi hj
    have p0 := hc (i * 8 + 0) _ (q 0 (by omega))
    have p1 := hc (i * 8 + 1) _ (q 1 (by omega))
    have p2 := hc (i * 8 + 2) _ (q 2 (by omega))
    have p3 := hc (i * 8 + 3) _ (q 3 (by omega))
    have p4 := hc (i * 8 + 4) _ (q 4 (by omega))
    have p5 := hc (i * 8 + 5) _ (q 5 (by omega))
    have p6 := hc (i * 8 + 6) _ (q 6 (by omega))
    have p7 := hc (i * 8 + 7) _ (q 7 (by omega))
    exact ⟨p0, p1, p2, p3, p4, p5, p6, p7, h.2 _ (List.getElem_mem _)⟩

def greatS (l : List St) : Bool := (l.take 300).any (fun x => decide (100 < x.bytes.size)) || decide (200 < l.length)

theorem greatS_false {l : List St} (h : greatS l = false) : l.length ≤ 200 ∧ ∀ x ∈ l, x.bytes.size ≤ 100 := by
  unfold greatS at h
  rw [Bool.or_eq_false_iff] at h
  have hl : l.length ≤ 200 := by have := h.2; simp only [decide_eq_false_iff_not] at this; omega
  refine ⟨hl, fun x hx => ?_⟩
  have h1 := h.1
  rw [List.take_of_length_le (by omega), Bool.eq_false_iff, ne_eq, List.any_eq_true] at h1
  by_cases hb : 100 < x.bytes.size
  · exact absurd ⟨x, hx, by simpa using hb⟩ h1
  · omega

set_option maxHeartbeats 1000000 in
set_option maxRecDepth 100000 in
theorem law_greatSteps (a : Option Addr) (cap : Nat) (l : List St) (w : World) (hn : l.length ≤ 9223372036854775807) (hA : StepsAt w a l) :
    Calls Tryz.prog 5 #[.slice a l.length cap] w (fun e w' => e = .returned (.bool (greatS l)) ∧ w = w') := by
  have HA := hid hA
  have HG := hid (show greatS l = ((l.take 300).any (fun x => decide (100 < x.bytes.size)) || decide (200 < l.length)) from rfl)
  have hmono := hid (fun (k : Nat) (hk : k ≤ 300) (h : (l.take k).any (fun x => decide (100 < x.bytes.size)) = true) => (show greatS l = true by
    rw [HG.out, Bool.or_eq_true]; left
    rw [List.any_eq_true] at h ⊢
    obtain ⟨x, hx, h⟩ := h
    exact ⟨x, (List.take_subset_take_left l hk) hx, h⟩))
  clear hA
  generalize greatS l = gs at *
  go_enter Tryz.func5, Tryz.ntmps5
  go_wp2
  go_loop [3] (fun i => ∃ k : Nat, k ≤ l.length ∧ k ≤ 300 ∧ i = .int .i64 k ∧ Hid ((l.take k).any (fun x => decide (100 < x.bytes.size)) = false)) (fun i => 300 - (intOf i).toNat)
  case atStart => exact ⟨0, Nat.zero_le _, by omega, rfl, hid (by simp)⟩
  case round =>
    obtain ⟨k, hk, hk2, rfl, HH⟩ := hrel
    by_cases hlt : k < l.length
    · by_cases hk3 : k < 300
      · obtain ⟨b, off, rfl, hbb, hv⟩ := HA.out.facts (by omega)
        obtain ⟨-, -, -, -, -, -, -, g7, g8⟩ := hv k hlt
        have hst := hid (show (l.take (k + 1)).any (fun x => decide (100 < x.bytes.size)) = decide (100 < l[k].bytes.size) by
          rw [List.take_succ_eq_append_getElem hlt, List.any_append, HH.out]; simp)
        have hki : (k : Int) < (l.length : Int) := by omega
        have hk0 : (0 : Int) ≤ (k : Int) := by omega
        have hk1 : (k : Int) < 300 := by omega
        have g8' : l[k].bytes.size ≤ 9223372036854775807 := by unfold maxLen at g8; omega
        clear hv g8
        generalize l[k] = x at *
        by_cases hx : 100 < x.bytes.size
        · have hx' : (100 : Int) < (x.bytes.size : Int) := by omega
          have hE := hid (hmono.out (k + 1) (by omega) (by rw [hst.out]; simpa using hx))
          go_wp2
          go_ret
          exact ⟨by rw [hE.out]; rfl, rfl⟩
        · have hx' : (x.bytes.size : Int) ≤ 100 := by omega
          have hE := hid (show (l.take (k + 1)).any (fun x => decide (100 < x.bytes.size)) = false by rw [hst.out]; simpa using hx)
          go_wp2
          go_round
          case rel => exact ⟨k + 1, by omega, by omega, by go_num, hE⟩
          case measure => simp [intOf]; omega
      · obtain rfl : k = 300 := by omega
        have hlt' : (300 : Int) < (l.length : Int) := by omega
        have hl2 : (200 : Int) < (l.length : Int) := by omega
        have hE := hid (show gs = true by rw [HG.out, Bool.or_eq_true]; right; simp; omega)
        go_wp2
        go_ret
        exact ⟨by rw [hE.out]; rfl, rfl⟩
    · obtain rfl : k = l.length := by omega
      have hE := hid (show gs = decide (200 < l.length) by
        rw [HG.out, List.take_of_length_le (by omega)]
        have := HH.out
        rw [List.take_of_length_le (Nat.le_refl _)] at this
        rw [this]; rfl)
      clear HG
      by_cases h2 : 200 < l.length
      · have h2' : (200 : Int) < (l.length : Int) := by omega
        have hE2 := hid (show gs = true by rw [hE.out]; simpa using h2)
        have hd := hid (show decide ((200 : Int) < (l.length : Int)) = true by rw [decide_eq_true_iff]; omega)
        go_wp2
        go_ret
        exact ⟨by rw [hE2.out, ← hd.out]; rfl, rfl⟩
      · have h2' : (l.length : Int) ≤ 200 := by omega
        have hE2 := hid (show gs = false by rw [hE.out]; simpa using h2)
        have hd := hid (show decide ((200 : Int) < (l.length : Int)) = false by rw [decide_eq_false_iff_not]; omega)
        go_wp2
        go_ret
        exact ⟨by rw [hE2.out, ← hd.out]; rfl, rfl⟩

end Go.Proofs.YtoiobhcgpajogadGreat
