/- The walk of Put of a chain. -/
import Derived.Test.YtoiobhcgpajogabChain
namespace Go.Proofs.Ytoiobhcgpajogab
open Go.RowKit

set_option maxHeartbeats 1000000 in
set_option maxRecDepth 100000 in
theorem chain_Put (g : Nat → Nat) (p c : Nat) (l : List Ent) (w : World) (a : Int) (t : Bool) (s : ByteArray) (hs : s.size ≤ maxLen) (hn : l.length ≤ 1000000) (hC : ChainAt w g p c l) :
    Calls Try.prog 56 #[.pointer (some ⟨c, 0, none⟩), .int .i64 a, .agg #[.bool t, .string s]] w (PutPost g p c (putC l a ⟨t, s⟩) w) := by
  have K := chain_Check t s (w.alloc (.cells #[.bool t, .string s] 32)) hs
  by_cases h1 : ckV ⟨t, s⟩ = 0
  case neg =>
    have e1 : putC l a ⟨t, s⟩ = (ckV ⟨t, s⟩, l) := by simp [putC, h1]
    rw [e1]
    have h1' : ((ckV ⟨t, s⟩ : Int) == 0) = false := by simpa using h1
    generalize ckV ⟨t, s⟩ = z at *
    have K' := hid K
    clear K h1
    go_enter Try.func56, Try.ntmps56
    go_wp2_with fail
    refine K'.out.mono ?_
    rintro e w1 ⟨rfl, hb1⟩
    go_wp2_with fail
    go_ret
    exact put_same hC (((Below.refl _ _).alloc (Nat.le_refl _) _).trans (hb1.mono (by simp)))
  case pos =>
    rw [h1] at K
    have K' := hid K
    clear K
    by_cases h2 : a ≤ lastN l
    · have e1 : putC l a ⟨t, s⟩ = (5, l) := by simp [putC, h1, h2]
      rw [e1]
      clear h1
      go_enter Try.func56, Try.ntmps56
      go_wp2_with fail
      refine K'.out.mono ?_
      rintro e w1 ⟨rfl, hb1⟩
      go_wp2_with fail
      refine (chain_Last g p c l _ ((hC.alloc _).below hb1) hn).mono ?_
      rintro e w2 ⟨rfl, hb2⟩
      go_wp2_with fail
      go_ret
      exact put_same hC ((((Below.refl _ _).alloc (Nat.le_refl _) _).trans (hb1.mono (by simp))).trans (hb2.mono (by have := hb1.size; simp at this; omega)))
    · have e1 : putC l a ⟨t, s⟩ = (0, l ++ [⟨a, ⟨t, s⟩⟩]) := by simp [putC, h1, h2]
      rw [e1]
      clear h1
      have c0 : w.alloc (.cells #[.bool t, .string s] 32) = w.alloc (.cells #[.bool t, .string s] 32) := rfl
      obtain ⟨i0, hi, hz0, hz1, hz2⟩ := info_parts Try.infoVer
      go_enter Try.func56, Try.ntmps56
      go_wp2_with fail
      refine K'.out.mono ?_
      rintro e w1 ⟨rfl, hb1⟩
      go_wp2_with fail
      refine (chain_Last g p c l _ ((hC.alloc _).below hb1) hn).mono ?_
      rintro e w2 ⟨rfl, hb2⟩
      clear K'
      have hb : Below (w.heap.size + 1) (w.alloc (.cells #[.bool t, .string s] 32)) w2 := (hb1.mono (by simp)).trans (hb2.mono (by have := hb1.size; simp at this; omega))
      clear hb1 hb2
      have hsz := hb.size
      simp only [World.size_alloc] at hsz
      have b0 := (hb.cell (p := ⟨w.heap.size, 0, none⟩) (by simp)).trans (World.cell?_alloc_new w _ _ 0)
      have b1 := (hb.cell (p := ⟨w.heap.size, 1, none⟩) (by simp)).trans (World.cell?_alloc_new w _ _ 1)
      simp at b0 b1
      have hb' : Below w.heap.size w w2 := ((Below.refl _ _).alloc (Nat.le_refl _) _).trans (hb.mono (by omega))
      clear hb
      obtain ⟨r, cap, f1, f2, f3, f4, f5, f6, f7, -, f8, f9, f10, f11⟩ := hC.facts
      have m1 := (hb'.cell (p := ⟨c, 0, none⟩) f3).trans f1
      have m2 := (hb'.frozen (p := ⟨c, 0, none⟩) f3).trans f2
      have m3 : c < w2.heap.size := by omega
      have F9 := hid (ownsRow.lift f9 (w' := w2) (fun x hx => by cases hx; exact hb'.block _ f4))
      have F8' := hid f8
      have F9' := hid f9
      have G1 := hid f10
      have G2 := hid f11
      have HB := hid hb'
      clear f1 f2 f8 f9 f10 f11 hC hb'
      have l1 : l.length + 1 ≤ maxLen := by unfold maxLen; omega
      have l2 : (l.length + 1) * 32 ≤ 140737488355328 := by omega
      go_wp2_with fail
      go_region_law ((refine step_append2 rfl (.tmp 21) (.tmp 25) 89 rfl 126 i0 _ 3 32 Try.underlying89 hi hz0 hz1 hz2 rfl (by decide) (.slice (some ⟨r, 0, none⟩) l.length cap) l.length (encEnts l) rfl (F9.out.drew.alloc _) ⟨w2.heap.size, 0, none⟩ 1 1 (encEnt ⟨a, ⟨t, s⟩⟩) rfl rfl (cells_new _ _ _) (encEnt_one _) l1 l2 ?_; intro v' w4 ho hg hf; obtain ⟨b', cap2, rfl, -, -⟩ := ownsRow.some ho (Nat.succ_pos _); have kk := grownBy.keep hg (c := c) (by simpa [Value.ownBlock] using f5.symm) (by simp; omega); have n1 := (kk.1 0).trans ((World.cell?_alloc_past _ _ _ m3).trans m1); have n2 := (kk.2 0).trans ((World.frozen?_alloc_past _ _ _ m3).trans m2); clear kk))
      all_goals
        go_wp2
        go_ret
        exact ⟨rfl, put_more F8'.out F9'.out G1.out G2.out f5 (HB.out.drew.alloc (by simp; omega) _) ho hg (by rcases hf with hf | hf; exact .inl (by simpa [Value.ownBlock] using hf); exact .inr (hf _ rfl))⟩

end Go.Proofs.Ytoiobhcgpajogab
