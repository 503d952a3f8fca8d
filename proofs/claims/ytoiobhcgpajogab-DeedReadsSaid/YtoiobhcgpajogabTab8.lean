/- The walk of NewSheet. -/
import Derived.Test.YtoiobhcgpajogabTab7
namespace Go.Proofs.Ytoiobhcgpajogab
open Go.RowKit

def zeroC (z : Value) (v : Nat → Value) (n : Nat) : Nat → Value := fun k => if k < n then v k else z

theorem zeroC_set (z y : Value) (v : Nat → Value) (n : Nat) : upd (zeroC z v n) n y = zeroC z (upd v n y) (n + 1) := by
  funext k
  unfold zeroC upd
  by_cases e : k = n
  · subst e; simp
  · by_cases h : k < n
    · simp [e, h, show k < n + 1 by omega]
    · simp [e, h, show ¬ k < n + 1 by omega]

theorem zeroC_all (z : Value) (v : Nat → Value) (x : Value) : (List.range 8).map (zeroC z v 8) ++ [x] = (List.range 8).map v ++ [x] := rfl

structure NewS (g0 : Nat → Nat) (w0 : World) (g : Nat → Nat) (w : World) (p s : Nat) (v : Nat → Value) (n : Nat) : Prop where
  evo : Evo 0 0 g0 g w0 w
  new : w0.heap.size ≤ s
  loc : LocC w g p s 93 ((List.range 8).map (zeroC (.slice none 0 0) v n) ++ [.int .i64 0])
  ch : ∀ k, k < n → LineAt w g (p + 1) (v k) [⟨0, Val.zero⟩]

theorem NewS.step {g0 g : Nat → Nat} {w0 w w1 : World} {p s n : Nat} {v : Nat → Value} {u : Value} (h : NewS g0 w0 g w p s v n) (hn : n < 8) (hb : Below w.heap.size w w1) (hL : LineAt w1 (extc g w (p + 1)) (p + 1) u [⟨0, Val.zero⟩]) :
    NewS g0 w0 (extc g w (p + 1)) (w1.setCell ⟨s, n, none⟩ u) p s (upd v n u) (n + 1) := by
  have hE : Evo 0 0 g (extc g w (p + 1)) w w1 := Evo.of_below g _ hb
  have L := h.loc.frame hE (by omega)
  have hS := evo_store (g := extc g w (p + 1)) (w := w1) (b := s) (i := n) (q := p) u L.2
  refine ⟨?_, h.new, ?_, fun k hk => ?_⟩
  · have h1 := h.evo.trans hE
    refine ⟨h1.os, h1.tape, h1.output, by simpa using h1.size, h1.col, fun k hk hn => ?_⟩
    rw [Below.heap_setCell _ _ _ _ (by have := h.new; simp; omega)]
    exact h1.same k hk hn
  · have := L.set n u
    rwa [map8_set _ _ _ _ hn, zeroC_set] at this
  · by_cases e : k = n
    · subst e
      rw [upd_same]
      exact hL.frame hS (by omega)
    · rw [upd_other _ _ e]
      exact ((h.ch k (by omega)).frame hE (by omega)).frame hS (by omega)

def NewSPost (g : Nat → Nat) (p : Nat) (w : World) (e : Ending) (w' : World) : Prop :=
  ∃ s g', e = .returned (.pointer (some ⟨s, 0, none⟩)) ∧ Evo 0 0 g g' w w' ∧ w.heap.size ≤ s ∧ SheetAt w' g' p s Tab.new

set_option maxHeartbeats 1000000 in
set_option maxRecDepth 100000 in
theorem sheet_New (g : Nat → Nat) (p : Nat) (w : World) : Calls Try.prog 49 #[] w (NewSPost g p w) := by
  go_enter Try.func49, Try.ntmps49
  go_wp2
  have H0 : NewS g w (extc g w p) (w.alloc (.cells ((List.range 8).map (zeroC (.slice none 0 0) (fun _ => .slice none 0 0) 0) ++ [Value.int .i64 0]).toArray 93)) p w.heap.size (fun _ => .slice none 0 0) 0 :=
    ⟨Evo.alloc g p w _, Nat.le_refl _, LocC.new _ _ _ _ _, fun k hk => by omega⟩
  have H := hid H0
  clear H0
  go_loopw [2] (fun i wr => ∃ (k : Nat) (g' : Nat → Nat) (v : Nat → Value), k ≤ 8 ∧ i = .int .i64 k ∧ NewS g w g' wr p w.heap.size v k) (fun i _ => 8 - (intOf i).toNat)
  case atStart => exact ⟨0, _, _, by omega, rfl, H.out⟩
  case round =>
    obtain ⟨k, g', v, hk, rfl, hN⟩ := hrel
    clear H
    by_cases hlt : k < 8
    · have hki : (k : Int) < 8 := by omega
      have hk0 : (0 : Int) ≤ (k : Int) := by omega
      have c0 : ∀ W', Below wr.heap.size wr W' → Below wr.heap.size wr W' ∧ W'.cell? ⟨w.heap.size, k, none⟩ = some (.slice none 0 0) ∧ W'.frozen? ⟨w.heap.size, k, none⟩ = false := by
        intro W' hb
        have L := hN.loc.1.keep hb
        have := get8 (zeroC (.slice none 0 0) v k) (.int .i64 0) k hlt
        rw [show zeroC (.slice none 0 0) v k k = .slice none 0 0 by simp [zeroC]] at this
        exact ⟨hb, (L.cell k).trans this, L.free k⟩
      have KS := hid c0
      have HN := hid hN
      clear c0 hN
      go_wp2_with fail
      go_region_law (first
        | (go_simp; go_at_call 76; refine (line_New g' (p + 1) _).mono ?_; rintro e w1 ⟨u, rfl, hb, hL⟩; have hL0 := hL; obtain ⟨b0, o0, cp0, hu, -⟩ := hL0; subst hu; have HL := hid hL; have HB := hid hb; obtain ⟨-, q1, q2⟩ := KS.out _ ((Below.refl _ _).drew.trans (hb.mono (Nat.le_refl _))); clear hb hL))
      all_goals
        go_wp2
        go_roundw
        case rel => exact ⟨k + 1, _, _, by omega, by go_num, HN.out.step hlt ((Below.refl _ _).drew.trans (HB.out.mono (Nat.le_refl _))) HL.out⟩
        case measure => simp [intOf]; omega
    · obtain rfl : k = 8 := by omega
      have HN := hid hN
      clear hN
      go_wp2
      go_ret
      refine ⟨_, g', rfl, HN.out.evo, HN.out.new, Tab.new_ok, v, HN.out.loc, HN.out.ch⟩

end Go.Proofs.Ytoiobhcgpajogab
