/- The walks of Put and Clear of the document's line, and of SameVersions. -/
import Derived.Test.YtoiobhcgpajogabLine
namespace Go.Proofs.Ytoiobhcgpajogab
open Go.RowKit

/-- Behind the call the old memory is as it was, but that at the address a there is v'. -/
structure Stored (a : Addr) (v' : Value) (w w' : World) : Prop where
  os : w'.os = w.os
  tape : w'.tape = w.tape
  output : w'.output = w.output
  size : w.heap.size ≤ w'.heap.size
  block : ∀ k, k < w.heap.size → w'.heap[k]? = (w.setCell a v').heap[k]?

/-- A line whose slice lies at the address a; what it leads to has the colour p, the cell's own block another. -/
def LinePost (g : Nat → Nat) (p : Nat) (a : Addr) (x : Int × List Ent) (w : World) (e : Ending) (w' : World) : Prop :=
  e = .returned (.int .i64 x.1) ∧ ∃ v' g', LineAt w' g' p v' x.2 ∧ Stored a v' w w' ∧ ∀ b, b < w.heap.size → g' b = g b

theorem setCell_self {w : World} {a : Addr} {v : Value} (h : w.cell? a = some v) : ∀ k : Nat, (w.setCell a v).heap[k]? = w.heap[k]? := by
  intro k
  by_cases hk : k = a.block
  · subst hk
    unfold World.cell? at h
    split at h
    · rename_i cs e f hb
      split at h
      · cases h
      · rename_i hs
        have hs' : a.spot.isSome = false := by simpa using hs
        simp only [World.setCell, Array.getElem?_modify, if_true, hb, hs']
        simp only [Option.map_some, Bool.false_eq_true, if_false]
        congr 2
        have hlt := (Array.getElem?_eq_some_iff.1 h).1
        have hv := (Array.getElem?_eq_some_iff.1 h).2
        rw [← hv]
        apply Array.ext_getElem?
        intro i
        rw [Array.getElem?_setIfInBounds]
        split
        · rename_i e
          subst e
          exact (Array.getElem?_eq_getElem hlt).symm
        · rfl
    · cases h
  · exact Below.heap_setCell _ _ _ _ hk

theorem line_same {g : Nat → Nat} {p : Nat} {a : Addr} {v : Value} {x : Int × List Ent} {w w' : World} (hL : LineAt w g p v x.2) (hc : w.cell? a = some v) (hb : Below w.heap.size w w') :
    LinePost g p a x w (.returned (.int .i64 x.1)) w' :=
  ⟨rfl, v, g, hL.below hb, ⟨hb.os, hb.tape, hb.output, hb.size, fun k hk => by rw [setCell_self hc, hb.block k hk]⟩, fun _ _ => rfl⟩

theorem line_more {g : Nat → Nat} {p r cap : Nat} {a : Addr} {l : List Ent} {e : Ent} {w w4 : World} (ha : a.block < w.heap.size)
    (hb : Below w.heap.size w w4) (hr : w.heap.size ≤ r) (ho : w4.ownsRow 0 126 3 (.slice (some ⟨r, 0, none⟩) (l.length + 1) cap) (l.length + 1) (encEnts l ++ encEnt e)) :
    LinePost g p a (0, l ++ [e]) w (.returned (.int .i64 0)) (w4.setCell a (.slice (some ⟨r, 0, none⟩) (l.length + 1) cap)) := by
  have hcap : l.length + 1 ≤ cap := by
    rcases ho.2 with ⟨h, _⟩ | ⟨g', cap', cur, h, _, hg, hn, _⟩
    · cases h
    · cases h; exact hn
  have hr4 := (ho.lt r rfl).2
  refine ⟨rfl, .slice (some ⟨r, 0, none⟩) (l.length + 1) cap, extc g w p, ⟨r, 0, cap, by simp, by simpa using hcap, ?_, extc_new hr, by simpa using hr4, by simp⟩, ⟨hb.os, hb.tape, hb.output, by simpa using hb.size, fun k hk => ?_⟩, fun b hb => extc_old hb⟩
  · intro j u hu
    rw [encEnts_append] at hu
    have hne : a ≠ ⟨r, 0 + j, none⟩ := by rintro rfl; simp only at ha; omega
    rw [World.cell?_setCell_other _ _ _ _ hne, Nat.zero_add]
    have hj := (List.getElem?_eq_some_iff.1 hu).1
    rw [ho.cellAt j (by simp [encEnts_length, encEnts, encEnt] at hj; omega)]
    simpa [encEnts] using hu
  · by_cases e : k = a.block
    · subst e
      simp only [World.setCell, Array.getElem?_modify, if_true]
      rw [hb.block _ hk]
    · rw [Below.heap_setCell _ _ _ _ e, Below.heap_setCell _ _ _ _ e, hb.block k hk]

set_option maxHeartbeats 2000000 in
set_option maxRecDepth 100000 in
theorem line_Put (g : Nat → Nat) (p ab ao : Nat) (v : Value) (l : List Ent) (w : World) (x : Int) (t : Bool) (s : ByteArray) (hs : s.size ≤ maxLen) (hn : l.length ≤ 1000000) (hL : LineAt w g p v l)
    (hc : w.cell? ⟨ab, ao, none⟩ = some v) (hf : w.frozen? ⟨ab, ao, none⟩ = false) :
    Calls Try.prog 78 #[.pointer (some ⟨ab, ao, none⟩), .int .i64 x, .agg #[.bool t, .string s]] w (LinePost g p ⟨ab, ao, none⟩ (putC l x ⟨t, s⟩) w) := by
  have K := ref_ValueFault t s (w.alloc (.cells #[.bool t, .string s] 32)) hs
  have hab := World.block_lt_of_cell? w _ hc
  simp only at hab
  by_cases h1 : ckV ⟨t, s⟩ = 0
  case neg =>
    have e1 : putC l x ⟨t, s⟩ = (ckV ⟨t, s⟩, l) := by simp [putC, h1]
    rw [e1]
    have h1' : ((ckV ⟨t, s⟩ : Int) == 0) = false := by simpa using h1
    generalize ckV ⟨t, s⟩ = z at *
    have K' := hid K
    have HC := hid hc
    clear K h1
    go_enter Try.func78, Try.ntmps78
    go_wp2_with fail
    refine K'.out.mono ?_
    rintro e w1 ⟨rfl, hb1⟩
    go_wp2_with fail
    go_ret
    exact line_same hL HC.out (((Below.refl _ _).alloc (Nat.le_refl _) _).trans (hb1.mono (by simp)))
  case pos =>
    rw [h1] at K
    have K' := hid K
    clear K
    by_cases h2 : x ≤ lastN l
    · have e1 : putC l x ⟨t, s⟩ = (5, l) := by simp [putC, h1, h2]
      rw [e1]
      clear h1
      go_enter Try.func78, Try.ntmps78
      go_wp2_with fail
      refine K'.out.mono ?_
      rintro e w1 ⟨rfl, hb1⟩
      have hb : Below w.heap.size w w1 := ((Below.refl _ _).alloc (Nat.le_refl _) _).trans (hb1.mono (by simp))
      have m1 := (hb.cell (p := ⟨ab, ao, none⟩) hab).trans hc
      have HB := hid hb
      clear hb hb1
      go_wp2_with fail
      refine (line_Last g p v l _ hn (hL.below HB.out)).mono ?_
      rintro e w2 ⟨rfl, rfl⟩
      go_wp2_with fail
      go_ret
      exact line_same hL hc HB.out
    · have e1 : putC l x ⟨t, s⟩ = (0, l ++ [⟨x, ⟨t, s⟩⟩]) := by simp [putC, h1, h2]
      rw [e1]
      clear h1
      obtain ⟨i0, hi, hz0, hz1, hz2⟩ := info_parts Try.infoVer
      go_enter Try.func78, Try.ntmps78
      go_wp2_with fail
      refine K'.out.mono ?_
      rintro e w1 ⟨rfl, hb⟩
      clear K'
      simp only [World.size_alloc] at hb
      have hsz := hb.size
      simp only [World.size_alloc] at hsz
      have b0 := (hb.cell (p := ⟨w.heap.size, 0, none⟩) (by simp)).trans (World.cell?_alloc_new w _ _ 0)
      have b1 := (hb.cell (p := ⟨w.heap.size, 1, none⟩) (by simp)).trans (World.cell?_alloc_new w _ _ 1)
      simp at b0 b1
      have hb' : Below w.heap.size w w1 := ((Below.refl _ _).alloc (Nat.le_refl _) _).trans (hb.mono (by omega))
      have m1 := (hb'.cell (p := ⟨ab, ao, none⟩) hab).trans hc
      have m2 := (hb'.frozen (p := ⟨ab, ao, none⟩) hab).trans hf
      have HB := hid hb'
      clear hb hb'
      go_wp2_with fail
      refine (line_Last g p v l _ hn (hL.below HB.out)).mono ?_
      rintro e w2 ⟨rfl, rfl⟩
      obtain ⟨b, off, cap, rfl, h3, h4, hl, -, hcells, hgb⟩ := (hL.below HB.out).facts
      -- whatever world comes behind w1 without a turn in what was there
      have keep : ∀ W, Below w1.heap.size w1 W → W.cell? ⟨ab, ao, none⟩ = some (.slice (some ⟨b, off, none⟩) l.length cap) ∧ W.frozen? ⟨ab, ao, none⟩ = false ∧ W.cell? ⟨w.heap.size, 0, none⟩ = some (.bool t) ∧ W.cell? ⟨w.heap.size, 1, none⟩ = some (.string s) :=
        fun W hW => ⟨(hW.cell (p := ⟨ab, ao, none⟩) (by simp; omega)).trans m1, (hW.frozen (p := ⟨ab, ao, none⟩) (by simp; omega)).trans m2, (hW.cell (p := ⟨w.heap.size, 0, none⟩) (by simp; omega)).trans b0, (hW.cell (p := ⟨w.heap.size, 1, none⟩) (by simp; omega)).trans b1⟩
      have cells : ∀ W, Below w1.heap.size w1 W → ∀ j u, (encEnts l)[j]? = some u → W.cell? ((⟨b, off, none⟩ : Addr).add j) = some u := by
        intro W hW j u hu
        have e : (⟨b, off, none⟩ : Addr).add j = ⟨b, off + j, none⟩ := by unfold Addr.add; split <;> simp_all
        rw [e, hW.cell (p := ⟨b, off + j, none⟩) h4]
        exact hcells j u hu
      have KK := hid keep
      have CC := hid cells
      clear keep cells hcells hL hc hf
      have hab1 : ab < w1.heap.size := by omega
      have l1 : 0 + l.length ≤ maxLen := by unfold maxLen; omega
      have l2 : (0 + l.length) * 32 ≤ 140737488355328 := by omega
      have l3 : l.length + 1 ≤ maxLen := by unfold maxLen; omega
      have l4 : (l.length + 1) * 32 ≤ 140737488355328 := by omega
      have B0 : Below w1.heap.size w1 w1.drew := (Below.refl _ _).drew
      have B1 := fun o => B0.alloc (Nat.le_refl _) o
      have HB0 := hid B0
      have HB1 := hid B1
      clear B0 B1
      go_wp2_with fail
      go_region_law (first
        | (refine step_append2 rfl (.tmp 21) (.tmp 24) 90 rfl 126 i0 _ 3 32 Try.underlying90 hi hz0 hz1 hz2 rfl (by decide) (.slice none 0 0) 0 [] rfl (World.ownsRow_nil w1.drew _ _ _) ⟨b, off, none⟩ l.length cap (encEnts l) rfl (encEnts_length l) (CC.out _ HB0.out) (encEnts_one l) l1 l2 ?_; intro v1 w3 ho1 hg1 hf1; rw [Nat.zero_add, List.nil_append] at ho1; obtain ⟨r1, cap1, rfl, hc1, -⟩ := ownsRow.some ho1 hl; have hr1 : w1.heap.size ≤ r1 := (hf1.resolve_left (by simp [Value.ownBlock])) r1 rfl; have B3 : Below w1.heap.size w1 w3 := HB0.out.grown hg1 (Nat.le_refl _) (by intro k hk; cases hk); obtain ⟨q1, q2, q3, q4⟩ := KK.out w3 B3; have HB3 := hid B3; have HO1 := hid ho1; clear B3 ho1 hg1 hf1)
        | (refine step_append2 rfl (.tmp 21) (.tmp 24) 90 rfl 126 i0 _ 3 32 Try.underlying90 hi hz0 hz1 hz2 rfl (by decide) (.slice none 0 0) 0 [] rfl (World.ownsRow_nil (w1.alloc (.cells (encEnt ⟨x, ⟨t, s⟩⟩).toArray 126)).drew _ _ _) ⟨b, off, none⟩ l.length cap (encEnts l) rfl (encEnts_length l) (CC.out _ (HB1.out _)) (encEnts_one l) l1 l2 ?_; intro v1 w3 ho1 hg1 hf1; rw [Nat.zero_add, List.nil_append] at ho1; obtain ⟨r1, cap1, rfl, hc1, -⟩ := ownsRow.some ho1 hl; have hr1 : w1.heap.size ≤ r1 := Nat.le_of_succ_le (by simpa using (hf1.resolve_left (by simp [Value.ownBlock])) r1 rfl); have B3 : Below w1.heap.size w1 w3 := (HB1.out _).grown hg1 (by simp) (by intro k hk; cases hk); obtain ⟨q1, q2, q3, q4⟩ := KK.out w3 B3; have HN3 := hid (cells_kept (w := w1.drew) (cs := encEnt ⟨x, ⟨t, s⟩⟩) (T := 126) hg1 (by simp [Value.ownBlock])); have HB3 := hid B3; have HO1 := hid ho1; clear B3 ho1 hg1 hf1)
        | (refine step_append2 rfl (.tmp 25) (.tmp 29) 90 rfl 126 i0 _ 3 32 Try.underlying90 hi hz0 hz1 hz2 rfl (by decide) (.slice (some ⟨r1, 0, none⟩) l.length cap1) l.length (encEnts l) rfl (HO1.out.alloc _) ⟨w3.heap.size, 0, none⟩ 1 1 (encEnt ⟨x, ⟨t, s⟩⟩) rfl rfl (cells_new w3 _ _) (encEnt_one _) l3 l4 ?_; intro v2 w4 ho2 hg2 hf2; obtain ⟨r2, cap2, rfl, -, -⟩ := ownsRow.some ho2 (Nat.succ_pos _); have B4 : Below w1.heap.size w1 w4 := (HB3.out.alloc HB3.out.size _).grown hg2 (by have := HB3.out.size; simp; omega) (by intro k hk; cases hk; exact hr1); obtain ⟨q1', q2', -, -⟩ := KK.out w4 B4; have hr2 : w1.heap.size ≤ r2 := (by rcases hf2 with h | h; (simp [Value.ownBlock] at h; omega); (have := h r2 rfl; have := HB3.out.size; simp at *; omega)); have HB4 := hid B4; have HO2 := hid ho2; clear B4 ho2 hg2 hf2)
        | (refine step_append2 rfl (.tmp 25) (.tmp 29) 90 rfl 126 i0 _ 3 32 Try.underlying90 hi hz0 hz1 hz2 rfl (by decide) (.slice (some ⟨r1, 0, none⟩) l.length cap1) l.length (encEnts l) rfl HO1.out ⟨w1.heap.size, 0, none⟩ 1 1 (encEnt ⟨x, ⟨t, s⟩⟩) rfl rfl HN3.out (encEnt_one _) l3 l4 ?_; intro v2 w4 ho2 hg2 hf2; obtain ⟨r2, cap2, rfl, -, -⟩ := ownsRow.some ho2 (Nat.succ_pos _); have B4 : Below w1.heap.size w1 w4 := HB3.out.grown hg2 HB3.out.size (by intro k hk; cases hk; exact hr1); obtain ⟨q1', q2', -, -⟩ := KK.out w4 B4; have hr2 : w1.heap.size ≤ r2 := (by rcases hf2 with h | h; (simp [Value.ownBlock] at h; omega); (have := h r2 rfl; have := HB3.out.size; omega)); have HB4 := hid B4; have HO2 := hid ho2; clear B4 ho2 hg2 hf2))
      all_goals
        go_wp2
        go_ret
        exact line_more hab (HB.out.trans (HB4.out.mono (by omega))) (by omega) HO2.out

end Go.Proofs.Ytoiobhcgpajogab
