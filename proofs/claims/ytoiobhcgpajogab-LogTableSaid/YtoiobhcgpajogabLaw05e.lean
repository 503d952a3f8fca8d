/- The walk of LogDoes. -/
import Derived.Test.YtoiobhcgpajogabLaw05b
import Derived.Test.YtoiobhcgpajogabLaw05a
import Derived.Test.YtoiobhcgpajogabSheetOf
import Derived.Test.YtoiobhcgpajogabVals
namespace Go.Proofs.Ytoiobhcgpajogab
open Go.RowKit

theorem log_TableA (a : Option Addr) (cap : Nat) (l : List UInt8) (w : World) (hn : l.length ≤ 1000000) (h : BytesIn w a cap l) :
    Calls Try.prog 45 #[.slice a l.length cap] w (LTabPost (tabOf l) w) := by
  cases a with
  | none =>
    rcases h.2 with h' | ⟨b, off, e, -⟩
    · obtain rfl : l = [] := by simpa [Lib.byteCells] using h'
      exact log_Table_none cap w
    · cases e
  | some ad =>
    rcases h.2 with h' | ⟨b, off, e, -⟩
    · obtain rfl : l = [] := by simpa [Lib.byteCells] using h'
      exact log_Table_empty ad cap w
    · cases e
      exact log_Table0 b off cap l w hn h

theorem table_LastQ (g : Nat → Nat) (p t : Nat) (T : Tab) (w : World) (n : Nat) (hT : TableAt w g p t T) :
    Calls Try.prog 19 #[.pointer (some ⟨t, 0, none⟩)] (w.drewN n) fun e w' => e = .returned (.int .i64 T.last) ∧ ∃ m, w' = w.drewN m :=
  (table_Last g p t T (w.drewN n) (hT.below (below_drewN _ _))).mono (fun _ _ h => ⟨h.1, n, h.2.symm⟩)

theorem below_dNl {B : Nat} {w w' : World} (h : Below B w w') (n : Nat) : Below B w (w'.drewN n) := ⟨h.os, h.tape, h.output, h.size, h.block⟩

theorem sheet_OfA (a : Option Addr) (cap : Nat) (l : List UInt8) (w : World) (hn : l.length ≤ 1000000) (h : BytesIn w a cap l) (h0 : a = none → cap = 0) :
    Calls Try.prog 46 #[.slice a l.length cap] w (SOfPost (tabOf l) w) := by
  cases a with
  | none =>
    obtain rfl := h0 rfl
    obtain rfl : l = [] := List.eq_nil_of_length_eq_zero (by have := h.1; omega)
    exact sheet_Of_nil w
  | some ad =>
    rcases h.2 with h' | ⟨b, off, e, -⟩
    · obtain rfl : l = [] := by simpa [Lib.byteCells] using h'
      exact sheet_Of_empty ad cap w
    · cases e
      exact sheet_Of b off cap l w hn h

set_option maxHeartbeats 8000000 in
set_option maxRecDepth 100000 in
theorem walk_LogDoes (a : Option Addr) (cap : Nat) (l : List TStep) (a2 : Option Addr) (cap2 : Nat) (q : List UInt8) (k at_ : Int) (w : World) (hl : l.length ≤ 9223372036854775807) (hA : TStepsAt w a l) (hl2 : q.length ≤ 9223372036854775807) (hA2 : BytesIn w a2 cap2 q ∧ (a2 = none → cap2 = 0)) (_ : (Lit.int .i64 k).wf = true) (_ : (Lit.int .i64 at_).wf = true) :
    Calls Try.prog 12 #[.slice a l.length cap, .slice a2 q.length cap2, .int .i64 k, .int .i64 at_] w (TruePost w) := by
  have HA := hid hA
  have HA2 := hid hA2
  clear hA hA2
  go_enter Try.func12, Try.ntmps12
  go_wp2_with fail
  (with_reducible refine (law_logBegun w).mono ?_)
  rintro e w1 ⟨rfl, hb⟩
  have B1 := hid hb
  clear hb
  go_wp2_with fail
  (with_reducible refine (law_greatLog a cap l w1 hl (HA.out.below B1.out)).mono ?_)
  rintro e w2 ⟨rfl, hb⟩
  have B2 := hid (B1.out.trans (hb.mono B1.out.size))
  clear hb
  cases hg : greatT l with
  | true =>
    clear hg
    go_wp2
    go_ret
    exact ⟨rfl, B2.out⟩
  | false =>
  obtain ⟨h80, h50⟩ := greatT_false hg
  have H50 := hid h50
  clear hg h50
  by_cases hq5 : 5000 < q.length
  · have hq5' : (5000 : Int) < (q.length : Int) := by omega
    go_wp2
    go_ret
    exact ⟨rfl, B2.out⟩
  have hq5' : (q.length : Int) ≤ 5000 := by omega
  have hq6 : q.length ≤ 1000000 := by omega
  have QA := hid (HA2.out.1.below B2.out)
  have QN := hid HA2.out.2
  clear hq5
  go_wp2_with fail
  (with_reducible refine (law_logs a cap l w2 h80 H50.out (HA.out.below B2.out)).mono ?_)
  rintro e w3 ⟨g, b, r, rfl, h3, hok, ht⟩
  have H3 := hid h3
  generalize runG l = G at *
  have hlen := hok.2.2.1
  have hn40 := hok.2.1
  have HOK := hid hok
  obtain ⟨vl3, -, -, la3, lc3, -, hvl3, f30, -, -, -, -⟩ := h3.roll.facts
  subst hvl3
  have hlt3 : r < w3.heap.size := by
    obtain ⟨_, _, _, _, hL, -⟩ := h3.roll
    exact hL.1.lt
  have KS := hid (fun W' (h : Below w3.heap.size w3 W') => (⟨h, (h.cell (p := ⟨r, 0, none⟩) hlt3).trans f30⟩ : Below w3.heap.size w3 W' ∧ W'.cell? ⟨r, 0, none⟩ = some (.slice la3 G.l.length lc3)))
  clear h3 hok ht f30
  go_wp2_with fail
  -- REGION 6
  refine wp_region_noPanic ?_
  refine wp_region_held_drew (S := (fun W' : World => Below w3.heap.size w3 W' ∧ W'.cell? ⟨r, 0, none⟩ = some (.slice la3 G.l.length lc3))) (by kernel_rfl) ?_ (fun hH0 => ?_)
  · (try dsimp only); (first | assumption | exact KS.out _ (Below.refl w3.heap.size w3).drew)
  refine wpAnyH_take (i := 0) (v := ?_) (by simp only [List.getElem?_toArray, List.getElem?_cons_zero]; rfl) (by kernel_rfl) (by kernel_rfl) (by kernel_rfl) (fun _ _ _ h => h) (Or.inl ⟨by rfl, ?_⟩) (by assumption) ?_
  rotate_left
  · intro w hSw; (try dsimp only at hSw); go_simp; (try with_reducible rfl)
  try simp only [Act.put, List.setIfInBounds_toArray, List.set_cons_zero, List.set_cons_succ]
  refine wpAnyH_take (i := 1) (v := ?_) (by simp only [List.getElem?_toArray, List.getElem?_cons_zero, List.getElem?_cons_succ]; rfl) (by kernel_rfl) (by kernel_rfl) (by kernel_rfl) (fun _ _ _ h => h) (Or.inl ⟨by rfl, ?_⟩) (by assumption) ?_
  rotate_left
  · intro w hSw; (try dsimp only at hSw); go_simp; (try with_reducible rfl)
  try simp only [Act.put, List.setIfInBounds_toArray, List.set_cons_zero, List.set_cons_succ]
  refine wpAnyH_take (i := 2) (v := ?_) (by simp only [List.getElem?_toArray, List.getElem?_cons_zero, List.getElem?_cons_succ]; rfl) (by kernel_rfl) (by kernel_rfl) (by kernel_rfl) (fun _ _ _ h => h) (Or.inl ⟨by rfl, ?_⟩) (by assumption) ?_
  rotate_left
  · intro w hSw; (try dsimp only at hSw); go_simp; (try with_reducible rfl)
  try simp only [Act.put, List.setIfInBounds_toArray, List.set_cons_zero, List.set_cons_succ]
  refine wpAnyH_take (i := 3) (v := ?_) (by simp only [List.getElem?_toArray, List.getElem?_cons_zero, List.getElem?_cons_succ]; rfl) (by kernel_rfl) (by kernel_rfl) (by kernel_rfl) (fun _ _ _ h => h) (Or.inl ⟨by rfl, ?_⟩) (by assumption) ?_
  rotate_left
  · intro w hSw; (try dsimp only at hSw); go_simp; (try with_reducible rfl)
  try simp only [Act.put, List.setIfInBounds_toArray, List.set_cons_zero, List.set_cons_succ]
  refine wpAnyH_take (i := 5) (v := ?_) (by simp only [List.getElem?_toArray, List.getElem?_cons_zero, List.getElem?_cons_succ]; rfl) (by kernel_rfl) (by kernel_rfl) (by kernel_rfl) (fun _ _ _ h => h) (Or.inl ⟨by rfl, ?_⟩) (by assumption) ?_
  rotate_left
  · intro w hSw; (try dsimp only at hSw); go_simp; (try with_reducible rfl)
  try simp only [Act.put, List.setIfInBounds_toArray, List.set_cons_zero, List.set_cons_succ]
  refine wpAnyH_take (i := 6) (v := ?_) (by simp only [List.getElem?_toArray, List.getElem?_cons_zero, List.getElem?_cons_succ]; rfl) (by kernel_rfl) (by kernel_rfl) (by kernel_rfl) (fun _ _ _ h => h) (Or.inl ⟨by rfl, ?_⟩) (by assumption) ?_
  rotate_left
  · intro w hSw; (try dsimp only at hSw); go_simp; (try with_reducible rfl)
  try simp only [Act.put, List.setIfInBounds_toArray, List.set_cons_zero, List.set_cons_succ]
  refine wpAnyH_take (i := 7) (v := ?_) (by simp only [List.getElem?_toArray, List.getElem?_cons_zero, List.getElem?_cons_succ]; rfl) (by kernel_rfl) (by kernel_rfl) (by kernel_rfl) (fun _ _ _ h => h) (Or.inl ⟨by rfl, ?_⟩) (by assumption) ?_
  rotate_left
  · intro w hSw; (try dsimp only at hSw); go_simp; (try with_reducible rfl)
  try simp only [Act.put, List.setIfInBounds_toArray, List.set_cons_zero, List.set_cons_succ]
  refine wpAnyH_take (i := 8) (v := ?_) (by simp only [List.getElem?_toArray, List.getElem?_cons_zero, List.getElem?_cons_succ]; rfl) (by kernel_rfl) (by kernel_rfl) (by kernel_rfl) (fun _ _ _ h => h) (Or.inl ⟨by rfl, ?_⟩) (by assumption) ?_
  rotate_left
  · intro w hSw; (try dsimp only at hSw); go_simp; (try with_reducible rfl)
  try simp only [Act.put, List.setIfInBounds_toArray, List.set_cons_zero, List.set_cons_succ]
  refine wpAnyH_take (i := 9) (v := ?_) (by simp only [List.getElem?_toArray, List.getElem?_cons_zero, List.getElem?_cons_succ]; rfl) (by kernel_rfl) (by kernel_rfl) (by kernel_rfl) (fun _ _ _ h => h) (Or.inl ⟨by rfl, ?_⟩) (by assumption) ?_
  rotate_left
  · intro w hSw; (try dsimp only at hSw); go_simp; (try with_reducible rfl)
  try simp only [Act.put, List.setIfInBounds_toArray, List.set_cons_zero, List.set_cons_succ]
  refine wpAnyH_ready (rs := [4]) (by kernel_rfl) (by simp) ?_
  refine AllReadyH.cons (by simp only [List.getElem?_toArray, List.getElem?_cons_zero, List.getElem?_cons_succ]; rfl) (fun K hK => ?_) AllReadyH.nil
  go_simp
  go_at_call 31
  have hS := (‹Below w3.heap.size w3 _ ∧ _›).1
  (with_reducible refine (log_Len g 1 b G _ (H3.out.below hS).log).mono ?_)
  rintro e w' ⟨rfl, rfl⟩
  try go_wp2_with fail
  refine hK.out _ _ ?_ (fun hH1 => ?_)
  · (try dsimp only); (first | assumption | exact KS.out _ (Below.refl w3.heap.size w3).drew)
  clear hK K hH0
  try simp only [Act.put, List.setIfInBounds_toArray, List.set_cons_zero, List.set_cons_succ]
  refine wpAnyH_take (i := 10) (v := ?_) (by simp only [List.getElem?_toArray, List.getElem?_cons_zero, List.getElem?_cons_succ]; rfl) (by kernel_rfl) (by kernel_rfl) (by kernel_rfl) (fun _ _ _ h => h) (Or.inl ⟨by rfl, ?_⟩) (by assumption) ?_
  rotate_left
  · intro w hSw; (try dsimp only at hSw); go_simp; (try with_reducible rfl)
  try simp only [Act.put, List.setIfInBounds_toArray, List.set_cons_zero, List.set_cons_succ]
  refine wpAnyH_take (i := 11) (v := ?_) (by simp only [List.getElem?_toArray, List.getElem?_cons_zero, List.getElem?_cons_succ]; rfl) (by kernel_rfl) (by kernel_rfl) (by kernel_rfl) (fun _ _ _ h => h) (Or.inl ⟨by rfl, ?_⟩) (by assumption) ?_
  rotate_left
  · intro w hSw; (try dsimp only at hSw); go_simp; (try with_reducible rfl)
  try simp only [Act.put, List.setIfInBounds_toArray, List.set_cons_zero, List.set_cons_succ]
  refine wpAnyH_take (i := 12) (v := ?_) (by simp only [List.getElem?_toArray, List.getElem?_cons_zero, List.getElem?_cons_succ]; rfl) (by kernel_rfl) (by kernel_rfl) (by kernel_rfl) (fun _ _ _ h => h) (Or.inl ⟨by rfl, ?_⟩) (by assumption) ?_
  rotate_left
  · intro w hSw; (try dsimp only at hSw); go_simp; (try with_reducible rfl)
  try simp only [Act.put, List.setIfInBounds_toArray, List.set_cons_zero, List.set_cons_succ]
  refine wpAnyH_take (i := 13) (v := ?_) (by simp only [List.getElem?_toArray, List.getElem?_cons_zero, List.getElem?_cons_succ]; rfl) (by kernel_rfl) (by kernel_rfl) (by kernel_rfl) (fun _ _ _ h => h) (Or.inl ⟨by rfl, ?_⟩) (by assumption) ?_
  rotate_left
  · intro w hSw; (try dsimp only at hSw); go_simp; (try with_reducible rfl)
  try simp only [Act.put, List.setIfInBounds_toArray, List.set_cons_zero, List.set_cons_succ]
  refine wpAnyH_take (i := 16) (v := ?_) (by simp only [List.getElem?_toArray, List.getElem?_cons_zero, List.getElem?_cons_succ]; rfl) (by kernel_rfl) (by kernel_rfl) (by kernel_rfl) (fun _ _ _ h => h) (Or.inl ⟨by rfl, ?_⟩) (by assumption) ?_
  rotate_left
  · intro w hSw; (try dsimp only at hSw); go_simp; (try with_reducible rfl)
  try simp only [Act.put, List.setIfInBounds_toArray, List.set_cons_zero, List.set_cons_succ]
  refine wpAnyH_ready (rs := [14]) (by kernel_rfl) (by simp) ?_
  refine AllReadyH.cons (by simp only [List.getElem?_toArray, List.getElem?_cons_zero, List.getElem?_cons_succ]; rfl) (fun K hK => ?_) AllReadyH.nil
  go_simp
  go_at_call 30
  have hS := (‹Below w3.heap.size w3 _ ∧ _›).1
  (with_reducible refine (log_Bytes g 1 b G _ (H3.out.below hS).log (by omega)).mono ?_)
  rintro e w7 ⟨a7, c7, rfl, hx7, hb7, -⟩
  have HX7 := hid hx7
  have hc7 := conv_sliceAt w7 a7 c7 _ hx7.2
  have hS' := KS.out _ (hS.trans (hb7.mono hS.size))
  clear hx7 hb7 hS
  try go_wp2_with fail
  refine hK.out _ _ ?_ (fun hH2 => ?_)
  · (try dsimp only); (first | assumption | exact KS.out _ (Below.refl w3.heap.size w3).drew)
  clear hK K hH1
  try simp only [Act.put, List.setIfInBounds_toArray, List.set_cons_zero, List.set_cons_succ]
  refine wpAnyH_ready (rs := [15, 17]) (by kernel_rfl) (by simp) ?_
  refine AllReadyH.cons (by simp only [List.getElem?_toArray, List.getElem?_cons_zero, List.getElem?_cons_succ]; rfl) (fun K hK => ?_) ?_
  go_simp
  refine hK.out _ _ ?_ (fun hH3 => ?_)
  · (try dsimp only); (first | assumption | exact KS.out _ (Below.refl w3.heap.size w3).drew)
  clear hK K hH2
  try simp only [Act.put, List.setIfInBounds_toArray, List.set_cons_zero, List.set_cons_succ]
  refine wpAnyH_ready (rs := [17]) (by kernel_rfl) (by simp) ?_
  refine AllReadyH.cons (by simp only [List.getElem?_toArray, List.getElem?_cons_zero, List.getElem?_cons_succ]; rfl) (fun K hK => ?_) AllReadyH.nil
  go_simp
  go_at_call 44
  have hS := (‹Below w3.heap.size w3 _ ∧ _›).1
  refine (roll_Bytes g 2 r G _ HOK.out.1 (by omega) (by omega) (H3.out.below hS).roll).mono ?_
  rintro e w8 ⟨v8, n8, rfl, ho8, hb8⟩
  have hc8 := conv_row w8 _ _ _ _ ho8
  have hc7' := conv_sliceAt w8 a7 c7 _ (HX7.out.below hb8).2
  have hS' := KS.out _ (hS.trans (hb8.mono hS.size))
  clear ho8 hb8 hS
  try go_wp2_with fail
  refine hK.out _ _ ?_ (fun hH4 => ?_)
  · (try dsimp only); (first | assumption | exact KS.out _ (Below.refl w3.heap.size w3).drew)
  clear hK K hH3
  try simp only [Act.put, List.setIfInBounds_toArray, List.set_cons_zero, List.set_cons_succ]
  refine wpAnyH_ready (rs := [18]) (by kernel_rfl) (by simp) ?_
  refine AllReadyH.cons (by simp only [List.getElem?_toArray, List.getElem?_cons_zero, List.getElem?_cons_succ]; rfl) (fun K hK => ?_) AllReadyH.nil
  go_simp
  refine hK.out _ _ ?_ (fun hH5 => ?_)
  · (try dsimp only); (first | assumption | exact KS.out _ (Below.refl w3.heap.size w3).drew)
  clear hK K hH4
  try simp only [Act.put, List.setIfInBounds_toArray, List.set_cons_zero, List.set_cons_succ]
  refine wpAnyH_take (i := 19) (v := ?_) (by simp only [List.getElem?_toArray, List.getElem?_cons_zero, List.getElem?_cons_succ]; rfl) (by kernel_rfl) (by kernel_rfl) (by kernel_rfl) (fun _ _ _ h => h) (Or.inl ⟨by rfl, ?_⟩) (by assumption) ?_
  rotate_left
  · intro w hSw; (try dsimp only at hSw); go_simp; (try with_reducible rfl)
  try simp only [Act.put, List.setIfInBounds_toArray, List.set_cons_zero, List.set_cons_succ]
  refine wpAnyH_take (i := 20) (v := ?_) (by simp only [List.getElem?_toArray, List.getElem?_cons_zero, List.getElem?_cons_succ]; rfl) (by kernel_rfl) (by kernel_rfl) (by kernel_rfl) (fun _ _ _ h => h) (Or.inl ⟨by rfl, ?_⟩) (by assumption) ?_
  rotate_left
  · intro w hSw; (try dsimp only at hSw); go_simp; (try with_reducible rfl)
  try simp only [Act.put, List.setIfInBounds_toArray, List.set_cons_zero, List.set_cons_succ]
  refine wpAnyH_done (by kernel_rfl) ?_ _
  refine NoPanic.normal ?_
  rotate_left
  refine AllReadyH.cons (by simp only [List.getElem?_toArray, List.getElem?_cons_zero, List.getElem?_cons_succ]; rfl) (fun K hK => ?_) AllReadyH.nil
  go_simp
  go_at_call 44
  have hS := (‹Below w3.heap.size w3 _ ∧ _›).1
  refine (roll_Bytes g 2 r G _ HOK.out.1 (by omega) (by omega) (H3.out.below hS).roll).mono ?_
  rintro e w8 ⟨v8, n8, rfl, ho8, hb8⟩
  have hc8 := conv_row w8 _ _ _ _ ho8
  have hc7' := conv_sliceAt w8 a7 c7 _ (HX7.out.below hb8).2
  have hS' := KS.out _ (hS.trans (hb8.mono hS.size))
  clear ho8 hb8 hS
  try go_wp2_with fail
  refine hK.out _ _ ?_ (fun hH6 => ?_)
  · (try dsimp only); (first | assumption | exact KS.out _ (Below.refl w3.heap.size w3).drew)
  clear hK K hH2
  try simp only [Act.put, List.setIfInBounds_toArray, List.set_cons_zero, List.set_cons_succ]
  refine wpAnyH_ready (rs := [15, 18]) (by kernel_rfl) (by simp) ?_
  refine AllReadyH.cons (by simp only [List.getElem?_toArray, List.getElem?_cons_zero, List.getElem?_cons_succ]; rfl) (fun K hK => ?_) ?_
  go_simp
  refine hK.out _ _ ?_ (fun hH7 => ?_)
  · (try dsimp only); (first | assumption | exact KS.out _ (Below.refl w3.heap.size w3).drew)
  clear hK K hH6
  try simp only [Act.put, List.setIfInBounds_toArray, List.set_cons_zero, List.set_cons_succ]
  refine wpAnyH_ready (rs := [18]) (by kernel_rfl) (by simp) ?_
  refine AllReadyH.cons (by simp only [List.getElem?_toArray, List.getElem?_cons_zero, List.getElem?_cons_succ]; rfl) (fun K hK => ?_) AllReadyH.nil
  go_simp
  refine hK.out _ _ ?_ (fun hH8 => ?_)
  · (try dsimp only); (first | assumption | exact KS.out _ (Below.refl w3.heap.size w3).drew)
  clear hK K hH7
  try simp only [Act.put, List.setIfInBounds_toArray, List.set_cons_zero, List.set_cons_succ]
  refine wpAnyH_take (i := 19) (v := ?_) (by simp only [List.getElem?_toArray, List.getElem?_cons_zero, List.getElem?_cons_succ]; rfl) (by kernel_rfl) (by kernel_rfl) (by kernel_rfl) (fun _ _ _ h => h) (Or.inl ⟨by rfl, ?_⟩) (by assumption) ?_
  rotate_left
  · intro w hSw; (try dsimp only at hSw); go_simp; (try with_reducible rfl)
  try simp only [Act.put, List.setIfInBounds_toArray, List.set_cons_zero, List.set_cons_succ]
  refine wpAnyH_take (i := 20) (v := ?_) (by simp only [List.getElem?_toArray, List.getElem?_cons_zero, List.getElem?_cons_succ]; rfl) (by kernel_rfl) (by kernel_rfl) (by kernel_rfl) (fun _ _ _ h => h) (Or.inl ⟨by rfl, ?_⟩) (by assumption) ?_
  rotate_left
  · intro w hSw; (try dsimp only at hSw); go_simp; (try with_reducible rfl)
  try simp only [Act.put, List.setIfInBounds_toArray, List.set_cons_zero, List.set_cons_succ]
  refine wpAnyH_done (by kernel_rfl) ?_ _
  refine NoPanic.normal ?_
  rotate_left
  refine AllReadyH.cons (by simp only [List.getElem?_toArray, List.getElem?_cons_zero, List.getElem?_cons_succ]; rfl) (fun K hK => ?_) AllReadyH.nil
  go_simp
  refine hK.out _ _ ?_ (fun hH9 => ?_)
  · (try dsimp only); (first | assumption | exact KS.out _ (Below.refl w3.heap.size w3).drew)
  clear hK K hH6
  try simp only [Act.put, List.setIfInBounds_toArray, List.set_cons_zero, List.set_cons_succ]
  refine wpAnyH_ready (rs := [15]) (by kernel_rfl) (by simp) ?_
  refine AllReadyH.cons (by simp only [List.getElem?_toArray, List.getElem?_cons_zero, List.getElem?_cons_succ]; rfl) (fun K hK => ?_) AllReadyH.nil
  go_simp
  refine hK.out _ _ ?_ (fun hH10 => ?_)
  · (try dsimp only); (first | assumption | exact KS.out _ (Below.refl w3.heap.size w3).drew)
  clear hK K hH9
  try simp only [Act.put, List.setIfInBounds_toArray, List.set_cons_zero, List.set_cons_succ]
  refine wpAnyH_take (i := 19) (v := ?_) (by simp only [List.getElem?_toArray, List.getElem?_cons_zero, List.getElem?_cons_succ]; rfl) (by kernel_rfl) (by kernel_rfl) (by kernel_rfl) (fun _ _ _ h => h) (Or.inl ⟨by rfl, ?_⟩) (by assumption) ?_
  rotate_left
  · intro w hSw; (try dsimp only at hSw); go_simp; (try with_reducible rfl)
  try simp only [Act.put, List.setIfInBounds_toArray, List.set_cons_zero, List.set_cons_succ]
  refine wpAnyH_take (i := 20) (v := ?_) (by simp only [List.getElem?_toArray, List.getElem?_cons_zero, List.getElem?_cons_succ]; rfl) (by kernel_rfl) (by kernel_rfl) (by kernel_rfl) (fun _ _ _ h => h) (Or.inl ⟨by rfl, ?_⟩) (by assumption) ?_
  rotate_left
  · intro w hSw; (try dsimp only at hSw); go_simp; (try with_reducible rfl)
  try simp only [Act.put, List.setIfInBounds_toArray, List.set_cons_zero, List.set_cons_succ]
  refine wpAnyH_done (by kernel_rfl) ?_ _
  refine NoPanic.normal ?_
  rotate_left
  -- END 6
  all_goals
    have hS := (‹Below w3.heap.size w3 _ ∧ _›).1
    have H6 := hid (H3.out.below hS)
    have B6 := hid (B2.out.trans (H6.out.base.below.mono B2.out.size))
    clear hc7 hc8 hc7' H3 KS HX7
    have QA6 := hid (HA2.out.1.below B6.out)
    go_wp2_with fail
    (with_reducible refine (log_TableA a2 cap2 q w8 hq6 QA6.out).mono ?_)
    rintro e w9 ⟨t, g9, rfl, hb, -, hT⟩
    have B9 := hid (B6.out.trans (hb.mono B6.out.size))
    have QA9 := hid (QA6.out.below hb)
    have T9 := hid hT
    clear hb hT QA6
    go_wp2_with fail
    (with_reducible refine (sheet_OfA a2 cap2 q w9 hq6 QA9.out QN.out).mono ?_)
    rintro e w10 ⟨s, g10, rfl, hb, -, hSh⟩
    have B10 := hid (B9.out.trans (hb.mono B9.out.size))
    have T10 := hid (T9.out.below hb)
    have S10 := hid hSh
    clear hb hSh QA9 T9
    generalize tabOf q = X at *
    obtain ⟨T, n⟩ := X
    simp only at T10 S10
    obtain ⟨vs, hSC⟩ := S10.out.c
    obtain ⟨-, s8, -, -, -⟩ := hSC.cells (k := 0) (by omega)
    have HQ := hid (fun m => table_LastQ g9 1 t T w10 m T10.out)
    clear hSC
    go_wp2_with fail
    go_quiet ((go_at_call 19; exact HQ.out _))
    have B11 := hid (below_dNl B10.out nq)
    have T11 := hid (T10.out.below (below_drewN w10 nq))
    have S11 := hid (S10.out.below (below_drewN w10 nq))
    generalize w10.drewN nq = w11 at *
    clear s8 HQ T10 S10 B10
    go_wp2_with fail
    (with_reducible refine (table_Read g9 1 t T w11 k at_ T11.out).mono ?_)
    rintro e w12 ⟨rfl, hb⟩
    have B12 := hid (B11.out.trans (hb.mono B11.out.size))
    have S12 := hid (S11.out.below hb)
    have hy2 := hid (fun w' (h : SheetAt w' g10 1 s T) => sheet_Read g10 1 s T w' k at_ h)
    generalize readT T k at_ = y at *
    clear hb S11 T11
    go_wp2_with fail
    have M5 := hid (Loc.new w12 32 [.bool y.1.there, .string y.1.bytes])
    have B5 := hid (B12.out.alloc B12.out.size (.cells #[.bool y.1.there, .string y.1.bytes] 32))
    have S13 := hid (S12.out.below ((Below.refl w12.heap.size w12).alloc (Nat.le_refl _) (.cells #[.bool y.1.there, .string y.1.bytes] 32)))
    generalize w12.alloc (.cells #[.bool y.1.there, .string y.1.bytes] 32) = w13 at *
    generalize w12.heap.size = m12 at *
    (with_reducible refine (hy2.out w13 S13.out).mono ?_)
    rintro e w14 ⟨rfl, hb⟩
    have B14 := hid (B5.out.trans (hb.mono B5.out.size))
    have M14 := hid (M5.out.keep hb)
    clear hb hy2 M5
    have hlt14 := M14.out.lt
    obtain ⟨l1, l2, -⟩ := M14.out.two
    have hne : m12 ≠ w14.heap.size := by omega
    go_wp2
    go_ret
    exact ⟨rfl, B14.out.alloc B14.out.size _⟩

end Go.Proofs.Ytoiobhcgpajogab
