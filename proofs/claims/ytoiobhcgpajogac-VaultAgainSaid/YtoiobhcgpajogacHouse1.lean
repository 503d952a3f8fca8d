/- Steps of a vault's law; the walk of greatVault. -/
import Derived.Test.YtoiobhcgpajogacHall5
import Derived.Test.YtoiobhcgpajogacLaw03a
import Derived.Test.YtoiobhcgpajogacTStep
namespace Go.Proofs.Ytoiobhcgpajogac
open Go.RowKit

structure Vst where
  op : Int
  k : Int
  mode : Int
  at_ : Int
  key : Int
  keep : Int
  v : Val

instance : Inhabited Vst := ⟨⟨0, 0, 0, 0, 0, 0, Val.zero⟩⟩

def vsL (x : Vst) : List Value := [.int .i64 x.op, .int .i64 x.k, .int .i64 x.mode, .int .i64 x.at_, .int .i64 x.key, .int .i64 x.keep, .bool x.v.there, .string x.v.bytes]
def encVsts (l : List Vst) : List Value := l.flatMap vsL
def VstepsAt (w : World) (a : Option Addr) (l : List Vst) : Prop := SliceAt w a (encVsts l) ∧ ∀ x ∈ l, x.v.bytes.size ≤ maxLen

theorem VstepsAt.below {w w' : World} {a : Option Addr} {l : List Vst} (h : VstepsAt w a l) (k : Below w.heap.size w w') : VstepsAt w' a l := ⟨sliceAt_below h.1 k, h.2⟩

theorem VstepsAt.facts {w : World} {a : Option Addr} {l : List Vst} (h : VstepsAt w a l) (h0 : 0 < l.length) :
    ∃ b off, a = some ⟨b, off, none⟩ ∧ b < w.heap.size ∧ ∀ i (hi : i < l.length), w.cell? ⟨b, off + i * 8, none⟩ = some (.int .i64 l[i].op) ∧ w.cell? ⟨b, off + i * 8 + 1, none⟩ = some (.int .i64 l[i].k) ∧ w.cell? ⟨b, off + i * 8 + 2, none⟩ = some (.int .i64 l[i].mode) ∧
      w.cell? ⟨b, off + i * 8 + 3, none⟩ = some (.int .i64 l[i].at_) ∧ w.cell? ⟨b, off + i * 8 + 4, none⟩ = some (.int .i64 l[i].key) ∧ w.cell? ⟨b, off + i * 8 + 5, none⟩ = some (.int .i64 l[i].keep) ∧ w.cell? ⟨b, off + i * 8 + 6, none⟩ = some (.bool l[i].v.there) ∧
      w.cell? ⟨b, off + i * 8 + 7, none⟩ = some (.string l[i].v.bytes) ∧ l[i].v.bytes.size ≤ maxLen := by
  have hne : encVsts l ≠ [] := by
    cases l with
    | nil => cases h0
    | cons x l => simp [encVsts, vsL]
  obtain ⟨b, off, rfl, hb⟩ := h.1.lt hne
  rcases h.1 with h1 | ⟨b', off', e, hc⟩
  · exact absurd h1 hne
  · cases e
    refine ⟨b, off, rfl, hb, fun i hi => ?_⟩
    have q := fun j hj => flat_get vsL 8 (fun _ => rfl) l i j hi hj
    have p0 := hc (i * 8 + 0) _ (q 0 (by omega))
    have p1 := hc (i * 8 + 1) _ (q 1 (by omega))
    have p2 := hc (i * 8 + 2) _ (q 2 (by omega))
    have p3 := hc (i * 8 + 3) _ (q 3 (by omega))
    have p4 := hc (i * 8 + 4) _ (q 4 (by omega))
    have p5 := hc (i * 8 + 5) _ (q 5 (by omega))
    have p6 := hc (i * 8 + 6) _ (q 6 (by omega))
    have p7 := hc (i * 8 + 7) _ (q 7 (by omega))
    exact ⟨p0, p1, p2, p3, p4, p5, p6, p7, h.2 _ (List.getElem_mem _)⟩

def greatV (l : List Vst) : Bool := (l.take 200).any (fun x => decide (100 < x.v.bytes.size)) || decide (150 < l.length)

theorem greatV_false {l : List Vst} (h : greatV l = false) : l.length ≤ 150 ∧ ∀ x ∈ l, x.v.bytes.size ≤ 100 := by
  unfold greatV at h
  rw [Bool.or_eq_false_iff] at h
  have hl : l.length ≤ 150 := by have := h.2; simp only [decide_eq_false_iff_not] at this; omega
  refine ⟨hl, fun x hx => ?_⟩
  have h1 := h.1
  rw [List.take_of_length_le (by omega), Bool.eq_false_iff, ne_eq, List.any_eq_true] at h1
  by_cases hb : 100 < x.v.bytes.size
  · exact absurd ⟨x, hx, by simpa using hb⟩ h1
  · omega

set_option maxHeartbeats 1000000 in
set_option maxRecDepth 100000 in
theorem law_greatVault (a : Option Addr) (cap : Nat) (l : List Vst) (w : World) (hn : l.length ≤ 9223372036854775807) (hA : VstepsAt w a l) :
    Calls Try.prog 41 #[.slice a l.length cap] w (fun e w' => e = .returned (.bool (greatV l)) ∧ w = w') := by
  have HA := hid hA
  have HG := hid (show greatV l = ((l.take 200).any (fun x => decide (100 < x.v.bytes.size)) || decide (150 < l.length)) from rfl)
  have hmono := hid (fun (k : Nat) (hk : k ≤ 200) (h : (l.take k).any (fun x => decide (100 < x.v.bytes.size)) = true) => (show greatV l = true by
    rw [HG.out, Bool.or_eq_true]; left
    rw [List.any_eq_true] at h ⊢
    obtain ⟨x, hx, h⟩ := h
    exact ⟨x, (List.take_subset_take_left l hk) hx, h⟩))
  clear hA
  generalize greatV l = gs at *
  go_enter Try.func41, Try.ntmps41
  go_wp2
  go_loop [3] (fun i => ∃ k : Nat, k ≤ l.length ∧ k ≤ 200 ∧ i = .int .i64 k ∧ Hid ((l.take k).any (fun x => decide (100 < x.v.bytes.size)) = false)) (fun i => 200 - (intOf i).toNat)
  case atStart => exact ⟨0, Nat.zero_le _, by omega, rfl, hid (by simp)⟩
  case round =>
    obtain ⟨k, hk, hk2, rfl, HH⟩ := hrel
    by_cases hlt : k < l.length
    · by_cases hk3 : k < 200
      · obtain ⟨b, off, rfl, hbb, hv⟩ := HA.out.facts (by omega)
        obtain ⟨-, -, -, -, -, -, -, g7, g8⟩ := hv k hlt
        have hst := hid (show (l.take (k + 1)).any (fun x => decide (100 < x.v.bytes.size)) = decide (100 < l[k].v.bytes.size) by
          rw [List.take_succ_eq_append_getElem hlt, List.any_append, HH.out]; simp)
        have hki : (k : Int) < (l.length : Int) := by omega
        have hk0 : (0 : Int) ≤ (k : Int) := by omega
        have hk1 : (k : Int) < 200 := by omega
        have g8' : l[k].v.bytes.size ≤ 9223372036854775807 := by unfold maxLen at g8; omega
        clear hv g8
        generalize l[k] = x at *
        by_cases hx : 100 < x.v.bytes.size
        · have hx' : (100 : Int) < (x.v.bytes.size : Int) := by omega
          have hE := hid (hmono.out (k + 1) (by omega) (by rw [hst.out]; simpa using hx))
          go_wp2
          go_ret
          exact ⟨by rw [hE.out]; rfl, rfl⟩
        · have hx' : (x.v.bytes.size : Int) ≤ 100 := by omega
          have hE := hid (show (l.take (k + 1)).any (fun x => decide (100 < x.v.bytes.size)) = false by rw [hst.out]; simpa using hx)
          go_wp2
          go_round
          case rel => exact ⟨k + 1, by omega, by omega, by go_num, hE⟩
          case measure => simp [intOf]; omega
      · obtain rfl : k = 200 := by omega
        have hlt' : (200 : Int) < (l.length : Int) := by omega
        have hl2 : (150 : Int) < (l.length : Int) := by omega
        have hE := hid (show gs = true by rw [HG.out, Bool.or_eq_true]; right; simp; omega)
        go_wp2
        go_ret
        exact ⟨by rw [hE.out]; rfl, rfl⟩
    · obtain rfl : k = l.length := by omega
      have hE := hid (show gs = decide (150 < l.length) by
        rw [HG.out, List.take_of_length_le (by omega)]
        have := HH.out
        rw [List.take_of_length_le (Nat.le_refl _)] at this
        rw [this]; rfl)
      clear HG
      by_cases h2 : 150 < l.length
      · have h2' : (150 : Int) < (l.length : Int) := by omega
        have hE2 := hid (show gs = true by rw [hE.out]; simpa using h2)
        have hd := hid (show decide ((150 : Int) < (l.length : Int)) = true by rw [decide_eq_true_iff]; omega)
        go_wp2
        go_ret
        exact ⟨by rw [hE2.out, ← hd.out]; rfl, rfl⟩
      · have h2' : (l.length : Int) ≤ 150 := by omega
        have hE2 := hid (show gs = false by rw [hE.out]; simpa using h2)
        have hd := hid (show decide ((150 : Int) < (l.length : Int)) = false by rw [decide_eq_false_iff_not]; omega)
        go_wp2
        go_ret
        exact ⟨by rw [hE2.out, ← hd.out]; rfl, rfl⟩

end Go.Proofs.Ytoiobhcgpajogac
