/- The walk of ChainDoes. -/
import Derived.Test.YtoiobhcgpajogaaPlain01
import Derived.Test.YtoiobhcgpajogaaSame
namespace Go.Proofs.Ytoiobhcgpajogaa
open Go.RowKit

theorem lineSlice {w : World} {g : Nat → Nat} {p : Nat} {v : Value} {l : List Ent} (h : LineAt w g p v l) : ∃ a cap, v = .slice a l.length cap ∧ SliceAt w a (encEnts l) := by
  obtain ⟨b, off, cap, rfl, -, -, -, -, hc, -⟩ := h.facts
  exact ⟨_, _, rfl, .inr ⟨b, off, rfl, hc⟩⟩

theorem key_eq (k : Int) : ((decide (0 ≤ k) && decide (k < 8)) == (decide (0 ≤ k) && decide (k < 8))) = true := by simp

set_option maxHeartbeats 8000000 in
set_option maxRecDepth 100000 in
theorem walk_ChainDoes (a : Option Addr) (cap : Nat) (l : List CStep) (t : Bool) (s : ByteArray) (k x : Int) (w : World) (hl : l.length ≤ 9223372036854775807) (hs : s.size ≤ maxLen) (hA : CStepsAt w a l) :
    Calls Try.prog 3 #[.slice a l.length cap, .agg #[.bool t, .string s], .int .i64 k, .int .i64 x] w (TruePost w) := by
  have hs' := hs
  unfold maxLen at hs'
  have B0 := LocC.new (fun _ => 0) 0 w 24 [.bool t, .string s]
  have hbegun := law_chainBegun (w.alloc (.cells #[.bool t, .string s] 24))
  have hgreat := fun w1 (h : CStepsAt w1 a l) => law_greatChain a cap l w1 hl h
  have hbox : Below w.heap.size w (w.alloc (.cells #[.bool t, .string s] 24)) := (Below.refl _ _).alloc (Nat.le_refl _) _
  cases hg : greatC l
  case true =>
    rw [hg] at hgreat
    have HG := hid hgreat
    have HB := hid hbegun
    clear hg hgreat hbegun B0
    go_enter Try.func3, Try.ntmps3
    go_wp2_with fail
    refine HB.out.mono ?_
    rintro e w1 ⟨rfl, hb⟩
    have hb1 := hbox.trans (hb.mono (by simp))
    clear hb
    go_wp2_with fail
    refine (HG.out _ (hA.below hb1 (Nat.le_refl _))).mono ?_
    rintro e w2 ⟨rfl, hb⟩
    go_wp2_with fail
    go_ret
    exact ⟨rfl, hb1.trans (hb.mono hb1.size)⟩
  case false =>
    rw [hg] at hgreat
    have h80 : l.length ≤ 80 := by
      unfold greatC at hg
      simp at hg
      exact hg.2
    have HG := hid hgreat
    have HB := hid hbegun
    clear hg hgreat hbegun
    by_cases h100 : 100 < s.size
    · clear B0
      go_enter Try.func3, Try.ntmps3
      go_wp2_with fail
      refine HB.out.mono ?_
      rintro e w1 ⟨rfl, hb⟩
      have hb1 := hbox.trans (hb.mono (by simp))
      have c1 := (hb.cell (p := ⟨w.heap.size, 1, none⟩) (by simp)).trans (World.cell?_alloc_new w _ _ 1)
      simp at c1
      clear hb
      go_wp2_with fail
      refine (HG.out _ (hA.below hb1 (Nat.le_refl _))).mono ?_
      rintro e w2 ⟨rfl, hb⟩
      have c2 := (hb.cell (p := ⟨w.heap.size, 1, none⟩) (by have := hb1.size; have := World.block_lt_of_cell? _ _ c1; simpa using this)).trans c1
      go_wp2_with fail
      go_ret
      exact ⟨rfl, hb1.trans (hb.mono hb1.size)⟩
    · have h100' : s.size ≤ 100 := by omega
      go_enter Try.func3, Try.ntmps3
      go_wp2_with fail
      refine HB.out.mono ?_
      rintro e w1 ⟨rfl, hb⟩
      have hb1 := hbox.trans (hb.mono (by simp))
      have L1 := B0.1.keep hb
      clear hb B0
      go_wp2_with fail
      refine (HG.out _ (hA.below hb1 (Nat.le_refl _))).mono ?_
      rintro e w2 ⟨rfl, hb⟩
      have L2 := L1.keep hb
      have hb2 := hb1.trans (hb.mono hb1.size)
      obtain ⟨b1, b2, b3, b4⟩ := L2.two
      clear hb L1 hb1
      go_wp2_with fail
      refine (law_chains a cap l w2 h80 (hA.below hb2 (Nat.le_refl _))).mono ?_
      rintro e w3 ⟨g, c, ab, v, rfl, H3⟩
      have L3 := L2.below H3.base.below L2.lt
      have hb3 := hb2.trans (H3.base.below.mono hb2.size)
      have hlen : (runC l).length ≤ 1000000 := by have := runC_length l; omega
      have hso := runC_sorted l
      have hrd := read_same hso x
      generalize runC l = m at *
      clear L2 b1 b2 b3 b4 hb2 hso
      have hA3 := hid hA
      clear hA
      have H3' := hid H3
      clear H3
      go_wp2_with fail
      refine (chain_Read _ _ _ _ w3 x hlen H3'.out.chain).mono ?_
      rintro e w4 ⟨rfl, hb⟩
      have H4 := H3'.out.below hb
      have L4 := L3.keep hb
      have hb4 := hb3.trans (hb.mono hb3.size)
      clear hb L3 hb3 H3'
      have hrd' := hid hrd
      clear hrd
      generalize hy : readC m x = y at *
      have hyy := hid hy
      clear hy
      go_wp2_with fail
      have L5 := L4.alloc (.cells #[.bool y.1.there, .string y.1.bytes] 24)
      have M5 := Loc.new w4 24 [.bool y.1.there, .string y.1.bytes]
      have H5 := H4.alloc (.cells #[.bool y.1.there, .string y.1.bytes] 24)
      have hb5 := hb4.alloc hb4.size (.cells #[.bool y.1.there, .string y.1.bytes] 24)
      have P := line_Read _ _ _ _ _ x hlen H5.line
      rw [hrd'.out] at P
      refine P.mono ?_
      clear P
      rintro e w6 ⟨rfl, hb⟩
      have H6 := H5.below hb
      have L6 := L5.keep hb
      have M6 := M5.keep hb
      have hb6 := hb5.trans (hb.mono hb5.size)
      clear hb L5 M5 H5 hb5 H4 L4 hb4
      go_wp2_with fail
      have L7 := L6.alloc (.cells #[.bool y.1.there, .string y.1.bytes] 24)
      have M7 := M6.alloc (.cells #[.bool y.1.there, .string y.1.bytes] 24)
      have N7 := Loc.new w6 24 [.bool y.1.there, .string y.1.bytes]
      have H7 := H6.alloc (.cells #[.bool y.1.there, .string y.1.bytes] 24)
      have hb7 := hb6.alloc hb6.size (.cells #[.bool y.1.there, .string y.1.bytes] 24)
      clear H6 L6 M6 hb6
      generalize w6.alloc (.cells #[.bool y.1.there, .string y.1.bytes] 24) = W at *
      have keep : ∀ W', Below W.heap.size W W' → (Below W.heap.size W W' ∧ W'.cell? ⟨w.heap.size, 0, none⟩ = some (.bool t) ∧ W'.cell? ⟨w.heap.size, 1, none⟩ = some (.string s) ∧ W'.cell? ⟨w4.heap.size, 0, none⟩ = some (.bool y.1.there) ∧ W'.cell? ⟨w4.heap.size, 1, none⟩ = some (.string y.1.bytes) ∧
          W'.cell? ⟨w6.heap.size, 0, none⟩ = some (.bool y.1.there) ∧ W'.cell? ⟨w6.heap.size, 1, none⟩ = some (.string y.1.bytes)) := by
        intro W' hW
        obtain ⟨a1, a2, -⟩ := (L7.keep hW).two
        obtain ⟨b1, b2, -⟩ := (M7.keep hW).two
        obtain ⟨c1, c2, -⟩ := (N7.keep hW).two
        exact ⟨hW, a1, a2, b1, b2, c1, c2⟩
      have KS := hid keep
      have HH := hid H7
      have HB7 := hid hb7
      clear keep H7 L7 M7 N7 hb7
      have kk := key_eq k
      have HS := hid hs
      go_region_held3 (fun W' : World => Below W.heap.size W W' ∧ W'.cell? ⟨w.heap.size, 0, none⟩ = some (.bool t) ∧ W'.cell? ⟨w.heap.size, 1, none⟩ = some (.string s) ∧ W'.cell? ⟨w4.heap.size, 0, none⟩ = some (.bool y.1.there) ∧ W'.cell? ⟨w4.heap.size, 1, none⟩ = some (.string y.1.bytes) ∧
          W'.cell? ⟨w6.heap.size, 0, none⟩ = some (.bool y.1.there) ∧ W'.cell? ⟨w6.heap.size, 1, none⟩ = some (.string y.1.bytes))
        (first | assumption | exact KS.out _ (Below.refl _ _).drew)
        (first
          | (go_at_call 19; refine (chain_Key _ _).mono ?_; rintro e w' ⟨rfl, rfl⟩)
          | (go_at_call 20; refine (ref_IsKey _ _).mono ?_; rintro e w' ⟨rfl, rfl⟩)
          | (go_at_call 21; have hS := ‹Below W.heap.size W _ ∧ _›.1; refine (chain_Check t s _ HS.out).mono ?_; rintro e w' ⟨rfl, hb⟩; have hS' := KS.out _ (hS.trans (hb.mono hS.size)); clear hb hS)
          | (go_at_call 22; have hS := ‹Below W.heap.size W _ ∧ _›.1; refine (ref_ValueFault t s _ HS.out).mono ?_; rintro e w' ⟨rfl, hb⟩; have hS' := KS.out _ (hS.trans (hb.mono hS.size)); clear hb hS)
          | (go_at_call 25; have hS := ‹Below W.heap.size W _ ∧ _›.1; refine (chain_First _ _ _ _ _ (HH.out.below hS).chain).mono ?_; rintro e w' ⟨rfl, rfl⟩; clear hS)
          | (go_at_call 26; have hS := ‹Below W.heap.size W _ ∧ _›.1; refine (line_First _ _ _ _ _ (HH.out.below hS).line).mono ?_; rintro e w' ⟨rfl, rfl⟩; clear hS)
          | (go_at_call 23; have hS := ‹Below W.heap.size W _ ∧ _›.1; refine (chain_Last _ _ _ _ _ (HH.out.below hS).chain hlen).mono ?_; rintro e w' ⟨rfl, hb⟩; have hS' := KS.out _ (hS.trans (hb.mono hS.size)); clear hb hS)
          | (go_at_call 24; have hS := ‹Below W.heap.size W _ ∧ _›.1; refine (line_Last _ _ _ _ _ hlen (HH.out.below hS).line).mono ?_; rintro e w' ⟨rfl, rfl⟩; clear hS)
          | (go_at_call 28; have hS := ‹Below W.heap.size W _ ∧ _›.1; refine (chain_List _ _ _ _ _ hlen (HH.out.below hS).chain).mono ?_; rintro e w' ⟨v', rfl, hb, ho, -⟩; obtain ⟨a', cap', rfl, hsl, -⟩ := ownsRow.sliceAt ho; have HSL := hid hsl; have hS' := KS.out _ (hS.trans (hb.mono hS.size)); clear hb hS ho hsl)
          | (go_at_call 27; have hS := ‹Below W.heap.size W _ ∧ _›.1; obtain ⟨a2, cap2, e2, hs2⟩ := lineSlice (HH.out.below hS).line; subst e2; refine (ref_SameVersions _ _ _ _ m _ hlen HSL.out hs2).mono ?_; rintro e w' ⟨rfl, hb⟩; have hS' := KS.out _ (hS.trans (hb.mono hS.size)); clear hb hS hs2))
      have hS := ‹Below W.heap.size W _ ∧ _›.1
      go_wp2
      go_ret
      exact ⟨rfl, HB7.out.trans (hS.mono HB7.out.size)⟩

end Go.Proofs.Ytoiobhcgpajogaa
