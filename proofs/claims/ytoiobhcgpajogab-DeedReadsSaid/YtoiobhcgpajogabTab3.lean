/- The walks of a table that make or turn it: New, Write, Clear. -/
import Derived.Test.YtoiobhcgpajogabTab2
namespace Go.Proofs.Ytoiobhcgpajogab
open Go.RowKit

/-- A slice whose cells no one of the colours from lo on, below hi, turns. -/
def SliceC (w : World) (g : Nat → Nat) (lo hi : Nat) (a : Option Addr) (cells : List Value) : Prop :=
  cells = [] ∨ ∃ b off, a = some ⟨b, off, none⟩ ∧ b < w.heap.size ∧ (g b < lo ∨ hi ≤ g b) ∧ ∀ j u, cells[j]? = some u → w.cell? ⟨b, off + j, none⟩ = some u

theorem SliceC.at {w : World} {g : Nat → Nat} {lo hi : Nat} {a : Option Addr} {cells : List Value} (h : SliceC w g lo hi a cells) : SliceAt w a cells := by
  rcases h with h | ⟨b, off, h1, -, -, h2⟩
  · exact .inl h
  · exact .inr ⟨b, off, h1, h2⟩

theorem SliceC.frame {w w' : World} {g g' : Nat → Nat} {lo hi : Nat} {a : Option Addr} {cells : List Value} (h : SliceC w g lo hi a cells) (k : Evo lo hi g g' w w') : SliceC w' g' lo hi a cells := by
  rcases h with h | ⟨b, off, h1, h2, h3, h4⟩
  · exact .inl h
  · refine .inr ⟨b, off, h1, Nat.lt_of_lt_of_le h2 k.size, by rw [k.col b h2]; exact h3, fun j u hu => ?_⟩
    exact (World.cell?_of_block (w := w) (a := ⟨b, off + j, none⟩) (k.same b h2 (by omega))).trans (h4 j u hu)

theorem SliceC.of_base {B : Nat} {w0 w : World} {g : Nat → Nat} {lo hi : Nat} {a : Option Addr} {cells : List Value} (h : SliceAt w0 a cells) (hB : B = w0.heap.size) (k : Base B w0 g w) (hl : 1 ≤ lo) : SliceC w g lo hi a cells := by
  by_cases hne : cells = []
  · exact .inl hne
  · obtain ⟨b, off, rfl, hb⟩ := h.lt hne
    rcases h with h | ⟨b', off', e, h⟩
    · exact absurd h hne
    · cases e
      subst hB
      refine .inr ⟨b, off, rfl, Nat.lt_of_lt_of_le hb k.size, by rw [k.zero b hb]; omega, fun j u hu => ?_⟩
      exact (k.cell (p := ⟨b, off + j, none⟩) hb).trans (h j u hu)

/-- New blocks alone: old ones stay, and their colours. -/
theorem Evo.fresh_trans {g g1 g2 : Nat → Nat} {w w1 w2 : World} (h : Evo 0 0 g g1 w w1) (k : Evo 0 0 g1 g2 w1 w2) : Evo 0 0 g g2 w w2 := h.trans k

def zeroPtrs (c : Nat → Nat) (n : Nat) : List Value := (List.range 8).map (fun k => if k < n then Value.pointer (some ⟨c k, 0, none⟩) else .pointer none)

theorem zeroPtrs_get (c : Nat → Nat) (n k : Nat) (x : Value) (hk : k < 8) (hn : n ≤ k) : (zeroPtrs c n ++ [x])[k]? = some (.pointer none) := by
  have := get8 (fun k => if k < n then Value.pointer (some ⟨c k, 0, none⟩) else .pointer none) x k hk
  rw [if_neg (by omega)] at this
  exact this

theorem zeroPtrs_set (c : Nat → Nat) (n b : Nat) (x : Value) (hn : n < 8) : (zeroPtrs c n ++ [x]).set n (.pointer (some ⟨b, 0, none⟩)) = zeroPtrs (upd c n b) (n + 1) ++ [x] := by
  rw [List.set_append_left _ _ (by simp [zeroPtrs]; omega)]
  congr 1
  apply List.ext_getElem?
  intro i
  unfold zeroPtrs
  rw [List.getElem?_set]
  by_cases hi : i < 8
  · by_cases e : n = i
    · subst e
      rw [if_pos rfl, if_pos (by simpa using hi)]
      simp [hi, upd]
    · rw [if_neg e]
      simp only [List.getElem?_map, List.getElem?_range hi, Option.map_some]
      rw [upd_other _ _ (Ne.symm e)]
      by_cases h1 : i < n
      · rw [if_pos h1, if_pos (by omega)]
      · rw [if_neg h1, if_neg (by omega)]
  · have h8 : (List.range 8).length ≤ i := by simp; omega
    rw [List.getElem?_map, List.getElem?_map, List.getElem?_eq_none h8]
    split
    · rw [if_neg (by simp; omega)]; rfl
    · rfl

theorem zeroPtrs_all (c : Nat → Nat) : zeroPtrs c 8 = ptrs c := by
  unfold zeroPtrs ptrs
  refine List.map_congr_left fun k hk => ?_
  rw [if_pos (by simpa using hk)]

structure NewT (g0 : Nat → Nat) (w0 : World) (g : Nat → Nat) (w : World) (p t : Nat) (c : Nat → Nat) (n : Nat) : Prop where
  evo : Evo 0 0 g0 g w0 w
  new : w0.heap.size ≤ t
  loc : LocC w g p t 103 (zeroPtrs c n ++ [Value.int .i64 0])
  ch : ∀ k, k < n → ChainAt w g (p + 1 + k) (c k) [⟨0, Val.zero⟩]

theorem NewT.step {g0 g : Nat → Nat} {w0 w w1 : World} {p t b n : Nat} {c : Nat → Nat} (h : NewT g0 w0 g w p t c n) (hn : n < 8) (hb : Below w.heap.size w w1) (hC : ChainAt w1 (extc g w (p + 1 + n)) (p + 1 + n) b [⟨0, Val.zero⟩]) :
    NewT g0 w0 (extc g w (p + 1 + n)) (w1.setCell ⟨t, n, none⟩ (.pointer (some ⟨b, 0, none⟩))) p t (upd c n b) (n + 1) := by
  have hE : Evo 0 0 g (extc g w (p + 1 + n)) w w1 := Evo.of_below g _ hb
  have L := h.loc.frame hE (by omega)
  have hS := evo_store (g := extc g w (p + 1 + n)) (w := w1) (b := t) (i := n) (q := p) (.pointer (some ⟨b, 0, none⟩)) L.2
  refine ⟨?_, h.new, ?_, fun k hk => ?_⟩
  · have h1 := h.evo.trans hE
    refine ⟨h1.os, h1.tape, h1.output, by simpa using h1.size, h1.col, fun k hk hn => ?_⟩
    rw [Below.heap_setCell _ _ _ _ (by have := h.new; simp; omega)]
    exact h1.same k hk hn
  · have := L.set n (.pointer (some ⟨b, 0, none⟩))
    rwa [zeroPtrs_set _ _ _ _ hn] at this
  · by_cases e : k = n
    · subst e
      rw [upd_same]
      exact hC.frame hS (by omega)
    · rw [upd_other _ _ e]
      exact ((h.ch k (by omega)).frame hE (by omega)).frame hS (by omega)

def NewTPost (g : Nat → Nat) (p : Nat) (w : World) (e : Ending) (w' : World) : Prop :=
  ∃ t g', e = .returned (.pointer (some ⟨t, 0, none⟩)) ∧ Evo 0 0 g g' w w' ∧ w.heap.size ≤ t ∧ TableAt w' g' p t Tab.new

set_option maxHeartbeats 1000000 in
set_option maxRecDepth 100000 in
theorem table_New (g : Nat → Nat) (p : Nat) (w : World) : Calls Try.prog 25 #[] w (NewTPost g p w) := by
  go_enter Try.func25, Try.ntmps25
  go_wp2
  have H0 : NewT g w (extc g w p) (w.alloc (.cells (zeroPtrs (fun _ => 0) 0 ++ [Value.int .i64 0]).toArray 103)) p w.heap.size (fun _ => 0) 0 :=
    ⟨Evo.alloc g p w _, Nat.le_refl _, LocC.new _ _ _ _ _, fun k hk => by omega⟩
  have H := hid H0
  clear H0
  go_loopw [2, 5] (fun _ i wr => ∃ (k : Nat) (g' : Nat → Nat) (c : Nat → Nat), k ≤ 8 ∧ i = .int .i64 k ∧ NewT g w g' wr p w.heap.size c k) (fun _ i _ => 8 - (intOf i).toNat)
  case atStart => exact ⟨0, _, _, by omega, rfl, H.out⟩
  case round =>
    obtain ⟨k, g', c, hk, rfl, hN⟩ := hrel
    clear H
    by_cases hlt : k < 8
    · have hki : (k : Int) < 8 := by omega
      have hk0 : (0 : Int) ≤ (k : Int) := by omega
      have c0 : ∀ W', Below wr.heap.size wr W' → Below wr.heap.size wr W' ∧ W'.cell? ⟨w.heap.size, k, none⟩ = some (.pointer none) ∧ W'.frozen? ⟨w.heap.size, k, none⟩ = false := by
        intro W' hb
        have L := hN.loc.1.keep hb
        exact ⟨hb, (L.cell k).trans (zeroPtrs_get c k k _ hlt (Nat.le_refl _)), L.free k⟩
      have KS := hid c0
      have HN := hid hN
      clear c0 hN
      go_wp2_with fail
      go_region_law (first
        | (go_simp; go_at_call 60; refine (chain_New g' (p + 1 + k) _).mono ?_; rintro e w1 ⟨b, rfl, hb, -, -, hC⟩; have HC := hid hC; have HB := hid hb; obtain ⟨-, q1, q2⟩ := KS.out _ ((Below.refl _ _).drew.trans (hb.mono (Nat.le_refl _))); clear hb hC))
      all_goals
        go_wp2
        go_roundw
        case rel => exact ⟨k + 1, _, _, by omega, by go_num, HN.out.step hlt ((Below.refl _ _).drew.trans (HB.out.mono (Nat.le_refl _))) HC.out⟩
        case measure => simp [intOf]; omega
    · obtain rfl : k = 8 := by omega
      have HN := hid hN
      clear hN
      go_wp2
      go_ret
      refine ⟨_, g', rfl, HN.out.evo, HN.out.new, Tab.new_ok, c, ?_, HN.out.ch⟩
      rw [← zeroPtrs_all]
      exact HN.out.loc

end Go.Proofs.Ytoiobhcgpajogab
