/- The walk of Clear of a chain. -/
import Derived.Test.YtoiobhcgpajogabChain4
namespace Go.Proofs.Ytoiobhcgpajogab
open Go.RowKit

theorem clear_end {g : Nat → Nat} {p c r cap n : Nat} {l : List Ent} {w w4 : World} (hc : w.heap[c]? = some (.cells #[.slice (some ⟨r, 0, none⟩) l.length cap] 124 (0, 0)))
    (gc : g c = p) (gr : g r = p) (hrc : r ≠ c) (hnl : n < l.length)
    (hown' : w4.ownsRow 0 126 3 (.slice (some ⟨r, 0, none⟩) (l.length - n) cap) (l.length - n) (encEnts (l.drop n))) (hsz : w.heap.size = w4.heap.size) (hg : w.grownBy w4 (some r)) :
    ∃ g', ChainAt (w4.setCell ⟨c, 0, none⟩ (.slice (some ⟨r, 0, none⟩) (l.length - n) cap)) g' p c (l.drop n) ∧ Evo p (p + 1) g g' w (w4.setCell ⟨c, 0, none⟩ (.slice (some ⟨r, 0, none⟩) (l.length - n) cap)) := by
  have hcs := lt_of_block hc
  have hc4 : w4.heap[c]? = some (.cells #[.slice (some ⟨r, 0, none⟩) l.length cap] 124 (0, 0)) := by
    rw [hg.block c hcs (by simpa using fun e => hrc e.symm)]; exact hc
  refine ⟨g, ⟨r, cap, ?_, ?_, gc, gr, ?_⟩, ⟨hg.os, hg.tape, hg.output, ?_, fun _ _ => rfl, ?_⟩⟩
  · rw [one_setCell hc4]; simp
  · have := ownsRow_setCell_other hown' (a := ⟨c, 0, none⟩) (by simpa [Value.ownBlock] using hrc) (.slice (some ⟨r, 0, none⟩) (l.length - n) cap)
    simpa using this
  · intro h; have := congrArg List.length h; simp at this; omega
  · simp [hsz]
  · intro b hbs hn
    rw [Below.heap_setCell _ _ _ _ (by rintro rfl; exact hn ⟨by simp [gc], by simp [gc]⟩), hg.block b hbs (by rintro ⟨rfl⟩; omega)]

set_option maxHeartbeats 1000000 in
set_option maxRecDepth 100000 in
theorem chain_Clear (g : Nat → Nat) (p c : Nat) (l : List Ent) (w : World) (least : Int) (hn : l.length ≤ 1000000) (hC : ChainAt w g p c l) :
    Calls Try.prog 57 #[.pointer (some ⟨c, 0, none⟩), .int .i64 least] w (PutPost g p c ((clearK least l : Nat), l.drop (clearK least l)) w) := by
  obtain ⟨r, cap, f1, f2, f3, f4, f5, f6, f7, f8, f9, f10, f11, f12⟩ := hC.facts
  have hne : l ≠ [] := by intro h; subst h; simp at f6
  have hk := clearK_lt least l hne
  have F8 := hid f8
  have F9 := hid f9
  have F10 := hid f10
  have G1 := hid f11
  have G2 := hid f12
  clear f8 f9 f10 f11 f12 hC hne
  have HK := hid (clearK_step least l)
  generalize hkk : clearK least l = K at *
  clear hkk
  go_enter Try.func57, Try.ntmps57
  go_wp2
  go_loop [5] (fun i => ∃ k : Nat, k ≤ K ∧ i = .int .i64 k) (fun i => K - (intOf i).toNat)
  case atStart => exact ⟨0, Nat.zero_le _, rfl⟩
  case round =>
    obtain ⟨k, hkk, rfl⟩ := hrel
    have hst := HK.out k hkk
    by_cases hlt : k + 1 < l.length
    · have g1 := (F8.out (k + 1) hlt).1
      by_cases hle : l[k + 1].n ≤ least
      · have hkK := hst.2 ⟨hlt, hle⟩
        clear hst
        generalize l[k + 1] = e at *
        go_wp2
        go_round
        case rel => exact ⟨k + 1, by omega, by go_num⟩
        case measure => simp [intOf]; omega
      · have hkK : ¬ k < K := fun h => by obtain ⟨_, h2⟩ := hst.1 h; exact hle h2
        clear hst
        obtain rfl : k = K := by omega
        generalize l[k + 1] = e at *
        go_wp2_with fail
        refine (delete_Version r cap k l _ hn hk F10.out).mono ?_
        rintro e' w1 ⟨rfl, h1, h2, h3⟩
        have kk := grownBy.keep h3 (c := c) (by simpa using f5.symm) f3
        have n1 := (kk.1 0).trans f1
        have n2 := (kk.2 0).trans f2
        clear kk
        go_wp2
        go_ret
        exact ⟨rfl, clear_end F9.out G1.out G2.out f5 hk h1 h2 h3⟩
    · have hkK : ¬ k < K := fun h => by obtain ⟨h1, _⟩ := hst.1 h; exact hlt h1
      clear hst
      obtain rfl : k = K := by omega
      go_wp2_with fail
      refine (delete_Version r cap k l _ hn hk F10.out).mono ?_
      rintro e' w1 ⟨rfl, h1, h2, h3⟩
      have kk := grownBy.keep h3 (c := c) (by simpa using f5.symm) f3
      have n1 := (kk.1 0).trans f1
      have n2 := (kk.2 0).trans f2
      clear kk
      go_wp2
      go_ret
      exact ⟨rfl, clear_end F9.out G1.out G2.out f5 hk h1 h2 h3⟩

end Go.Proofs.Ytoiobhcgpajogab
