/- Plain laws of versions: no program. -/
import Derived.Test.YtoiobhcgpajogabKit
namespace Go.Proofs.Ytoiobhcgpajogab
open Go.RowKit

def Sorted (m : List Ent) : Prop := m ≠ [] ∧ m.Pairwise (fun x y => x.n < y.n) ∧ 0 ≤ firstN m

theorem Sorted.start : Sorted [⟨0, Val.zero⟩] := ⟨by simp, by simp, by simp [firstN]⟩

theorem lastN_ge {m : List Ent} (h : m.Pairwise (fun x y => x.n < y.n)) : ∀ e ∈ m, e.n ≤ lastN m := by
  induction m with
  | nil => intro e he; cases he
  | cons a l ih =>
    intro e he
    rw [List.pairwise_cons] at h
    cases l with
    | nil =>
      rw [List.mem_singleton] at he
      subst he
      simp [lastN]
    | cons b l =>
      have hl : lastN (a :: b :: l) = lastN (b :: l) := by simp [lastN, List.getLast?_cons_cons]
      rw [hl]
      rcases List.mem_cons.1 he with rfl | he
      · have h1 := h.1 b (by simp)
        have h2 := ih h.2 b (by simp)
        omega
      · exact ih h.2 e he

theorem Sorted.put {m : List Ent} (h : Sorted m) (a : Int) (v : Val) : Sorted (putC m a v).2 := by
  unfold putC
  split
  · exact h
  · split
    · exact h
    · rename_i hlt
      refine ⟨by simp, ?_, ?_⟩
      · rw [List.pairwise_append]
        refine ⟨h.2.1, by simp, fun x hx y hy => ?_⟩
        rw [List.mem_singleton] at hy
        subst hy
        have := lastN_ge h.2.1 x hx
        show x.n < a
        omega
      · have h3 := h.2.2
        have h1 := h.1
        cases m with
        | nil => exact absurd rfl h1
        | cons e l => simpa [firstN] using h3

theorem Sorted.drop {m : List Ent} (h : Sorted m) (k : Nat) (hk : k < m.length) : Sorted (m.drop k) := by
  refine ⟨by intro e; have := congrArg List.length e; simp at this; omega, h.2.1.sublist (List.drop_sublist k m), ?_⟩
  have hmem : (m.drop k).headD default ∈ m := by
    cases hd : m.drop k with
    | nil => have := congrArg List.length hd; simp at this; omega
    | cons e l => exact (List.drop_sublist k m).subset (by rw [hd]; simp)
  obtain ⟨h1, h2, h3⟩ := h
  cases m with
  | nil => exact absurd rfl h1
  | cons e l =>
    have h0 : 0 ≤ e.n := h3
    show 0 ≤ ((e :: l).drop k |>.headD default).n
    rcases List.mem_cons.1 hmem with he | he
    · rw [he]; exact h0
    · have := (List.pairwise_cons.1 h2).1 _ he
      omega

theorem lastLe_find (l : List Ent) (a : Int) : lastLe l a = match l.reverse.find? (fun e => decide (e.n ≤ a)) with | some e => e.v | none => Val.zero := by
  have h : ∀ r : List Ent, lastLe r.reverse a = match r.find? (fun e => decide (e.n ≤ a)) with | some e => e.v | none => Val.zero := by
    intro r
    induction r with
    | nil => rfl
    | cons e r ih =>
      rw [List.reverse_cons, lastLe_snoc, List.find?_cons]
      by_cases h : e.n ≤ a
      · simp [h]
      · simp [h, ih]
  have := h l.reverse
  rwa [List.reverse_reverse] at this

theorem find_first {m : List Ent} (h : Sorted m) (a : Int) : (m.reverse.find? (fun e => decide (e.n ≤ a)) = none) ↔ a < firstN m := by
  rw [List.find?_eq_none]
  obtain ⟨h1, h2, h3⟩ := h
  cases m with
  | nil => exact absurd rfl h1
  | cons e l =>
    constructor
    · intro h
      have := h e (by simp)
      simpa [firstN] using this
    · intro h x hx
      rw [List.mem_reverse] at hx
      have he : a < e.n := h
      rcases List.mem_cons.1 hx with rfl | hx
      · simpa using he
      · have := (List.pairwise_cons.1 h2).1 x hx
        simp; omega

theorem read_same {m : List Ent} (h : Sorted m) (a : Int) : readR m a = readC m a := by
  unfold readR readC
  by_cases h0 : a < 0
  · simp [h0]
  · simp only [h0, if_false]
    by_cases h1 : a < firstN m
    · rw [if_pos h1, (find_first h a).2 h1]
    · rw [if_neg h1, lastLe_find]
      cases hf : m.reverse.find? (fun e => decide (e.n ≤ a)) with
      | none => exact absurd ((find_first h a).1 hf) h1
      | some e => rfl

theorem clear_read {m : List Ent} (h : Sorted m) (least a : Int) (ha : least ≤ a) : readC (m.drop (clearK least m)) a = readC m a := by
  have hs := h.drop _ (clearK_lt least m h.1)
  by_cases hk : clearK least m = 0
  · rw [hk]; rfl
  · rw [← read_same hs, ← read_same h]
    unfold readR
    by_cases h0 : a < 0
    · simp [h0]
    · simp only [h0, if_false]
      have hf : (m.drop (clearK least m)).reverse.find? (fun e => decide (e.n ≤ a)) ≠ none := by
        intro hn
        have h1 := (find_first hs a).1 hn
        have h2 := (clearK_step least m (clearK least m - 1) (by omega)).1 (by omega)
        obtain ⟨h3, h4⟩ := h2
        have e : clearK least m - 1 + 1 = clearK least m := by omega
        have h5 : firstN (m.drop (clearK least m)) = m[clearK least m - 1 + 1].n := by
          rw [← firstN_get _ (by simp; omega)]
          simp [e]
        omega
      have e : m.reverse = (m.drop (clearK least m)).reverse ++ (m.take (clearK least m)).reverse := by rw [← List.reverse_append, List.take_append_drop]
      rw [e, List.find?_append]
      cases hc : (m.drop (clearK least m)).reverse.find? (fun e => decide (e.n ≤ a)) with
      | none => exact absurd hc hf
      | some x => rfl

theorem clear_last {m : List Ent} (k : Nat) (hk : k < m.length) : lastN (m.drop k) = lastN m := by
  unfold lastN
  rw [List.getLastD_eq_getLast?, List.getLastD_eq_getLast?, List.getLast?_drop, if_neg (by omega)]

theorem clear_first {m : List Ent} (_h : m ≠ []) (least : Int) : firstN (m.drop (clearK least m)) = firstN m ∨ firstN (m.drop (clearK least m)) ≤ least := by
  by_cases hk : clearK least m = 0
  · left; rw [hk]; rfl
  · right
    obtain ⟨h3, h4⟩ := (clearK_step least m (clearK least m - 1) (by omega)).1 (by omega)
    have e : clearK least m - 1 + 1 = clearK least m := by omega
    have h5 : firstN (m.drop (clearK least m)) = m[clearK least m - 1 + 1].n := by
      rw [← firstN_get _ (by simp; omega)]
      simp [e]
    omega

theorem clear_again (least : Int) : ∀ m : List Ent, clearK least (m.drop (clearK least m)) = 0
  | [] => rfl
  | [_] => rfl
  | a :: e :: l => by
    have ih := clear_again least (e :: l)
    by_cases he : e.n ≤ least
    · have e1 : clearK least (a :: e :: l) = clearK least (e :: l) + 1 := by simp [clearK, he]
      rw [e1, List.drop_succ_cons]
      exact ih
    · have e1 : clearK least (a :: e :: l) = 0 := by simp [clearK, he]
      rw [e1]
      exact e1

theorem putC_length (m : List Ent) (a : Int) (v : Val) : (putC m a v).2.length ≤ m.length + 1 := by
  unfold putC
  split
  · simp
  · split <;> simp

theorem put_read {m : List Ent} (h : m ≠ []) (a x : Int) (v : Val) (hax : x < a) : readC (putC m a v).2 x = readC m x := by
  unfold putC
  split
  · rfl
  · split
    · rfl
    · have hf : firstN (m ++ [⟨a, v⟩]) = firstN m := by
        cases m with
        | nil => exact absurd rfl h
        | cons e l => rfl
      unfold readC
      simp only [hf, lastLe_snoc]
      rw [if_neg (show ¬ a ≤ x by omega)]

theorem put_ne {m : List Ent} (h : m ≠ []) (a : Int) (v : Val) : (putC m a v).2 ≠ [] := by
  unfold putC
  split
  · exact h
  · split
    · exact h
    · simp

end Go.Proofs.Ytoiobhcgpajogab
