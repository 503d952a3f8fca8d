/- The walks of Clear of the document's line, and of SameVersions. -/
import Derived.Test.YtoiobhcgpajogabLine2
import Derived.Test.YtoiobhcgpajogabChain5
namespace Go.Proofs.Ytoiobhcgpajogab
open Go.RowKit

theorem Stored.refl {a : Addr} {v : Value} {w : World} (h : w.cell? a = some v) : Stored a v w w := ⟨rfl, rfl, rfl, Nat.le_refl _, fun k _ => (setCell_self h k).symm⟩

theorem setCell_setCell (w : World) (a : Addr) (u v : Value) : ∀ k : Nat, ((w.setCell a u).setCell a v).heap[k]? = (w.setCell a v).heap[k]? := by
  intro k
  simp only [World.setCell, Array.getElem?_modify]
  split
  · cases h : w.heap[k]? with
    | none => rfl
    | some o =>
      cases o <;> simp
      split <;> simp
  · rfl

theorem Stored.again {a : Addr} {u v : Value} {w w' : World} (h : Stored a u w w') (_ha : a.block < w.heap.size) : Stored a v w (w'.setCell a v) :=
  ⟨h.os, h.tape, h.output, by simpa using h.size, fun k hk => by
    rw [← setCell_setCell w a u v k]
    by_cases e : k = a.block
    · subst e
      simp only [World.setCell, Array.getElem?_modify, if_true]
      have := h.block _ hk
      simp only [World.setCell, Array.getElem?_modify, if_true] at this
      rw [this]
    · rw [Below.heap_setCell _ _ _ _ e, Below.heap_setCell _ _ _ _ e]; exact h.block k hk⟩

theorem Stored.there {a : Addr} {u x : Value} {w w' : World} (h : Stored a u w w') (hx : w.cell? a = some x) : w'.cell? a = some u :=
  (World.cell?_of_block (w := w.setCell a u) (h.block _ (World.block_lt_of_cell? w _ hx))).trans (World.cell?_setCell_same w a u hx)

theorem Stored.free {a : Addr} {u : Value} {w w' : World} (h : Stored a u w w') (hx : a.block < w.heap.size) (hf : w.frozen? a = false) : w'.frozen? a = false :=
  (World.frozen?_of_block (w := w.setCell a u) (h.block _ hx)).trans (by rw [World.frozen?_setCell]; exact hf)

theorem Stored.old {a : Addr} {u : Value} {w w' : World} (h : Stored a u w w') {k : Nat} (hk : k < w.heap.size) (hne : k ≠ a.block) : w'.heap[k]? = w.heap[k]? :=
  (h.block k hk).trans (Below.heap_setCell _ _ _ _ hne)

set_option maxHeartbeats 2000000 in
set_option maxRecDepth 100000 in
theorem line_Clear (g : Nat → Nat) (p ab ao : Nat) (v : Value) (l : List Ent) (w : World) (least : Int) (hn : l.length ≤ 1000000) (hL : LineAt w g p v l)
    (hc : w.cell? ⟨ab, ao, none⟩ = some v) (hf : w.frozen? ⟨ab, ao, none⟩ = false) (hg : g ab ≠ p) :
    Calls Try.prog 80 #[.pointer (some ⟨ab, ao, none⟩), .int .i64 least] w (LinePost g p ⟨ab, ao, none⟩ ((clearK least l : Nat), l.drop (clearK least l)) w) := by
  have hab := World.block_lt_of_cell? w _ hc
  simp only at hab
  obtain ⟨b, off, cap, rfl, h3, h4, hl, hv, hcells, hgb⟩ := hL.facts
  have hba : b ≠ ab := by rintro rfl; exact hg hgb
  have hne : l ≠ [] := by intro h; subst h; simp at hl
  have hk := clearK_lt least l hne
  have HK := hid (clearK_step least l)
  have HV := hid hv
  have HC := hid hc
  have HF := hid hf
  have HG := hid hgb
  have HX := hid hcells
  clear hv hc hf hgb hcells hL hg hne
  generalize hkk : clearK least l = K at *
  clear hkk
  go_enter Try.func80, Try.ntmps80
  go_wp2
  go_loopw [5] (fun i wr => ∃ k o m c : Nat, k ≤ K ∧ i = .int .i64 k ∧ Hid (o = off + k * 3) ∧ m + k ≤ l.length ∧ l.length ≤ m + k ∧ Hid (c + k = cap) ∧ Stored ⟨ab, ao, none⟩ (.slice (some ⟨b, o, none⟩) m c) w wr) (fun i _ => K - (intOf i).toNat)
  case atStart => exact ⟨0, off, l.length, cap, Nat.zero_le _, rfl, hid (by omega), by omega, by omega, hid rfl, Stored.refl HC.out⟩
  case round =>
    obtain ⟨k, o, m, c, hkk, rfl, Ho, hm1, hm2, Hc, hS⟩ := hrel
    have n1 := hS.there HC.out
    have n2 := hS.free hab HF.out
    have hst := HK.out k hkk
    have hcm : m ≤ c := by have := Hc.out; omega
    have HS := hid hS
    by_cases hlt : k + 1 < l.length
    · have g1 := (World.cell?_of_block (w := w) (w' := wr) (a := ⟨b, off + (k + 1) * 3, none⟩) (hS.old h4 hba)).trans (HV.out (k + 1) hlt).1
      have e3 : off + (k + 1) * 3 = o + 3 := by rw [Ho.out]; omega
      rw [e3] at g1
      clear e3
      have hc1 : ¬ c = 1 := by omega
      by_cases hle : l[k + 1].n ≤ least
      · have hkK := hst.2 ⟨hlt, hle⟩
        clear hst hS
        generalize l[k + 1] = e at *
        go_wp2
        go_roundw
        case rel => exact ⟨k + 1, o + 3, m - 1, c - 1, by omega, by go_num, hid (by rw [Ho.out]; omega), by omega, by omega, hid (by have := Hc.out; omega), HS.out.again hab⟩
        case measure => simp [intOf]; omega
      · have hkK : ¬ k < K := fun h => by obtain ⟨_, h2⟩ := hst.1 h; exact hle h2
        clear hst hS
        obtain rfl : k = K := by omega
        generalize l[k + 1] = e at *
        go_wp2
        go_ret
        refine ⟨rfl, .slice (some ⟨b, o, none⟩) m c, g, ⟨b, o, c, ?_, ?_, ?_, HG.out, Nat.lt_of_lt_of_le h4 HS.out.size, ?_⟩, HS.out, fun _ _ => rfl⟩
        · rw [List.length_drop]; congr 1; omega
        · simp; omega
        · intro j u hu
          rw [← encEnts_drop, List.getElem?_drop] at hu
          rw [Ho.out, Nat.add_assoc]
          exact (World.cell?_of_block (w := w) (a := ⟨b, off + (k * 3 + j), none⟩) (HS.out.old h4 hba)).trans (HX.out _ _ hu)
        · intro h; have := congrArg List.length h; simp at this; omega
    · have hkK : ¬ k < K := fun h => by obtain ⟨h1, _⟩ := hst.1 h; exact hlt h1
      clear hst hS
      obtain rfl : k = K := by omega
      go_wp2
      go_ret
      refine ⟨rfl, .slice (some ⟨b, o, none⟩) m c, g, ⟨b, o, c, ?_, ?_, ?_, HG.out, Nat.lt_of_lt_of_le h4 HS.out.size, ?_⟩, HS.out, fun _ _ => rfl⟩
      · rw [List.length_drop]; congr 1; omega
      · simp; omega
      · intro j u hu
        rw [← encEnts_drop, List.getElem?_drop] at hu
        rw [Ho.out, Nat.add_assoc]
        exact (World.cell?_of_block (w := w) (a := ⟨b, off + (k * 3 + j), none⟩) (HS.out.old h4 hba)).trans (HX.out _ _ hu)
      · intro h; have := congrArg List.length h; simp at this; omega

end Go.Proofs.Ytoiobhcgpajogab
