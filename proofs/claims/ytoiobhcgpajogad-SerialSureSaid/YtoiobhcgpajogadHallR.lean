/- Two halls, one of which forgets: plain laws. -/
import Derived.Test.YtoiobhcgpajogadHallP
namespace Go.Proofs.Ytoiobhcgpajogad
open Go.RowKit

theorem lastLe_drop {l : List Ent} {n : Nat} {a : Int} (hn : n < l.length) (h : firstN (l.drop n) ≤ a) : lastLe l a = lastLe (l.drop n) a := by
  conv => lhs; rw [← List.take_append_drop n l]
  unfold lastLe
  rw [List.foldl_append]
  cases hd : l.drop n with
  | nil => have := congrArg List.length hd; simp at this; omega
  | cons x r =>
    rw [hd] at h
    have hx : x.n ≤ a := h
    simp only [List.foldl_cons, if_pos hx]

theorem first_drop {l : List Ent} (h : Sorted l) {n : Nat} (hn : n < l.length) : firstN l ≤ firstN (l.drop n) := by
  cases n with
  | zero => simp
  | succ n =>
    cases l with
    | nil => simp at hn
    | cons x r =>
      have hp := h.2.1
      rw [List.pairwise_cons] at hp
      show x.n ≤ firstN (r.drop n)
      cases hd : r.drop n with
      | nil => have := congrArg List.length hd; simp at this; simp at hn; omega
      | cons y s =>
        have : y ∈ r := List.mem_of_mem_drop (by rw [hd]; exact List.mem_cons_self ..)
        have := hp.1 y this
        show x.n ≤ y.n
        omega

theorem readC_drop {l : List Ent} (h : Sorted l) {n : Nat} {a : Int} (hn : n < l.length) (ha : firstN (l.drop n) ≤ a) : readC (l.drop n) a = readC l a := by
  have h1 := first_drop h hn
  have h2 := h.2.2
  unfold readC
  rw [if_neg (by omega), if_neg (by omega), if_neg (by omega), if_neg (by omega), lastLe_drop hn ha]

theorem Suf.read {T F : Tab} (h : Suf T F) (hF : F.Ok) {k a : Int} (ha : ∀ j : Nat, j < 8 → firstN (T.l j) ≤ a) : readT T k a = readT F k a := by
  unfold readT
  rw [h.1]
  split
  · rfl
  · rename_i hk
    obtain ⟨n, hn, e⟩ := h.2 k.toNat
    have := ha k.toNat (by omega)
    rw [e] at this ⊢
    exact readC_drop (hF.1 _).1 hn this

theorem read_no12 {T : Tab} {k a : Int} (ha : ∀ j : Nat, j < 8 → firstN (T.l j) ≤ a) : (readT T k a).2 ≠ 12 := by
  unfold readT
  split
  · simp
  · rename_i hk
    have := ha k.toNat (by omega)
    unfold readC
    split
    · simp
    · rw [if_neg (by omega)]; simp

theorem Suf.since {T F : Tab} (h : Suf T F) (k : Int) : sinceT T k = sinceT F k := by
  unfold sinceT
  split
  · rfl
  · exact h.lastN _

theorem Suf.first {T F : Tab} (h : Suf T F) (hF : F.Ok) : firstT F ≤ firstT T := by
  have hk : ∀ k, firstN (F.l k) ≤ firstN (T.l k) := fun k => by
    obtain ⟨n, hn, e⟩ := h.2 k
    rw [e]; exact first_drop (hF.1 k).1 hn
  have : ∀ k, firstGo F k ≤ firstGo T k := by
    intro k
    induction k with
    | zero => exact Int.le_refl _
    | succ k ih =>
      have e1 : ∀ T : Tab, firstGo T (k + 1) = if firstGo T k < firstN (T.l k) then firstN (T.l k) else firstGo T k := fun _ => rfl
      rw [e1, e1]
      have := hk k
      split <;> split <;> omega
  exact this 8

theorem firstT_ge {T : Tab} {j : Nat} (hj : j < 8) : firstN (T.l j) ≤ firstT T := by
  have mono : ∀ k, firstGo T k ≤ firstGo T (k + 1) := by
    intro k
    have e1 : firstGo T (k + 1) = if firstGo T k < firstN (T.l k) then firstN (T.l k) else firstGo T k := rfl
    rw [e1]; split <;> omega
  have up : ∀ d k, firstGo T k ≤ firstGo T (k + d) := by
    intro d
    induction d with
    | zero => intro k; exact Int.le_refl _
    | succ d ih => intro k; exact Int.le_trans (ih k) (mono (k + d))
  have h1 : firstN (T.l j) ≤ firstGo T (j + 1) := by
    have e1 : firstGo T (j + 1) = if firstGo T j < firstN (T.l j) then firstN (T.l j) else firstGo T j := rfl
    rw [e1]; split <;> omega
  have := up (8 - (j + 1)) (j + 1)
  rw [show j + 1 + (8 - (j + 1)) = 8 by omega] at this
  exact Int.le_trans h1 this

theorem clearK_first {least a : Int} (hla : least ≤ a) : ∀ l : List Ent, firstN l ≤ a → firstN (l.drop (clearK least l)) ≤ a
  | [], h => h
  | [x], h => h
  | x :: e :: l, h => by
    rw [clearK]
    split
    · rename_i he
      exact clearK_first hla (e :: l) (by show e.n ≤ a; omega)
    · exact h

theorem puts_first {n : Int} {w : List Ent} (h : ∀ x ∈ w, 0 ≤ x.n ∧ ckV x.v = 0) (hp : w.Pairwise (fun x y => x.n < y.n)) : ∀ (l : Nat → List Ent), (∀ k, l k ≠ []) → (∀ x ∈ w, Go.Proofs.Ytoiobhcgpajogad.lastN (l x.n.toNat) < n) → ∀ k, firstN (putsT n l w k) = firstN (l k) := by
  induction w with
  | nil => intro l _ _ k; rfl
  | cons x w ih =>
    intro l hs hl k
    rw [List.pairwise_cons] at hp
    have hx := h x (List.mem_cons_self ..)
    have e1 : putsT n l (x :: w) = putsT n (upd l x.n.toNat (putC (l x.n.toNat) n x.v).2) w := rfl
    rw [e1, putC_new hx.2 (hl x (List.mem_cons_self ..))]
    rw [ih (fun y hy => h y (List.mem_cons_of_mem _ hy)) hp.2 _ (fun j => ?_) (fun y hy => ?_) k]
    · by_cases e : k = x.n.toNat
      · subst e
        rw [upd_same]
        have := hs x.n.toNat
        cases hq : l x.n.toNat with
        | nil => exact absurd hq this
        | cons y r => rfl
      · rw [upd_other _ _ e]
    · by_cases e : j = x.n.toNat
      · subst e; rw [upd_same]; simp
      · rw [upd_other _ _ e]; exact hs j
    · have hxy := hp.1 y hy
      have hy0 := h y (List.mem_cons_of_mem _ hy)
      rw [upd_other _ _ (by omega)]
      exact hl y (List.mem_cons_of_mem _ hy)

theorem write_first {T : Tab} (hT : T.Ok) (w : List Ent) (k : Nat) : firstN ((writeT T w).2.l k) = firstN (T.l k) := by
  by_cases hc : (writeT T w).1.2 = 0
  · obtain ⟨g1, g2, g3⟩ := write_good hc
    rw [g3]
    have hr := ckPs_rise g1
    exact puts_first (fun x hx => ⟨(hr.1 x hx).1, (hr.1 x hx).2.2.2⟩) hr.2 _ (fun k => (hT.1 k).1.1) (fun x _ => by have := (hT.1 x.n.toNat).2; omega) k
  · rw [(write_bad hc).1]

/-- H forgets, G does not. -/
structure Rel (H G : Ht) : Prop where
  log : G.v.log = H.v.log
  suf : Suf H.v.tab G.v.tab
  seats : G.seats = H.seats
  beg : ∀ s, s < 5 → ∀ D, H.seats s = some D → (∀ j : Nat, j < 8 → firstN (H.v.tab.l j) ≤ D.beg) ∧ D.beg ≤ (H.v.tab.last : Int)

theorem Rel.start : Rel Ht.new Ht.new := ⟨rfl, Suf.refl Tab.new_ok, rfl, fun s _ D hD => by cases hD⟩

theorem leastGo_le {T : Tab} {S : Nat → Option Ded} : ∀ (n s : Nat) (D : Ded), s < n → S s = some D → leastGo T S n ≤ D.beg
  | 0, s, D, hs, _ => by omega
  | n + 1, s, D, hs, hD => by
    rw [leastGo]
    by_cases e : s = n
    · subst e; rw [hD]; exact Int.min_le_right _ _
    · have ih := leastGo_le (T := T) (S := S) n s D (by omega) hD
      cases S n with
      | none => exact ih
      | some E => exact Int.le_trans (Int.min_le_left _ _) ih

theorem Rel.clear {H G : Ht} (h : Rel H G) (hT : H.v.tab.Ok) : Rel ⟨⟨(clearT H.v.tab (leastH H)).2, H.v.log⟩, H.seats⟩ G := by
  refine ⟨h.log, h.suf.clear hT _, h.seats, fun s hs D hD => ⟨fun j hj => ?_, ?_⟩⟩
  · show firstN ((clearT H.v.tab (leastH H)).2.l j) ≤ D.beg
    rw [clearT_l _ _ hj]
    exact clearK_first (leastGo_le 5 s D hs hD) _ ((h.beg s hs D hD).1 j hj)
  · show D.beg ≤ ((clearT H.v.tab (leastH H)).2.last : Int)
    rw [clearT_last]; exact (h.beg s hs D hD).2

theorem getD_suf {T F : Tab} (h : Suf T F) (hF : F.Ok) {D : Ded} (ha : ∀ j : Nat, j < 8 → firstN (T.l j) ≤ D.beg) (k : Int) : getD D F k = getD D T k := by
  unfold getD
  rw [h.read hF (k := k) ha]

theorem getD_no12 {T : Tab} {D : Ded} (ha : ∀ j : Nat, j < 8 → firstN (T.l j) ≤ D.beg) (k : Int) : (getD D T k).1.2 ≠ 12 := by
  unfold getD
  split
  · simp
  · split
    · simp
    · exact read_no12 ha

theorem listDGo_suf {T F : Tab} (h : Suf T F) (hF : F.Ok) : ∀ (ks : List Nat) (D : Ded) (out : List Ent), (∀ j : Nat, j < 8 → firstN (T.l j) ≤ D.beg) → listDGo F ks D out = listDGo T ks D out ∧ (listDGo T ks D out).1.2 ≠ 12 ∧ (listDGo T ks D out).2.beg = D.beg
  | [], D, out, _ => ⟨rfl, by simp [listDGo], rfl⟩
  | k :: ks, D, out, ha => by
    have hb := (getD_same D T k).2.1
    rw [listDGo, listDGo, getD_suf h hF ha k]
    split
    · exact ⟨rfl, getD_no12 ha k, hb⟩
    · obtain ⟨i1, i2, i3⟩ := listDGo_suf h hF ks (getD D T k).2 (if (getD D T k).1.1.there then out ++ [⟨k, (getD D T k).1.1⟩] else out) (by rw [hb]; exact ha)
      exact ⟨i1, i2, i3.trans hb⟩

theorem listD_suf {T F : Tab} (h : Suf T F) (hF : F.Ok) {D : Ded} (ha : ∀ j : Nat, j < 8 → firstN (T.l j) ≤ D.beg) (f u : Int) : listD D F f u = listD D T f u ∧ (listD D T f u).1.2 ≠ 12 ∧ (listD D T f u).2.beg = D.beg := by
  unfold listD
  split
  · exact ⟨rfl, by simp, rfl⟩
  · exact listDGo_suf h hF _ D [] ha

theorem mayD_suf {T F : Tab} (h : Suf T F) (D : Ded) : mayD D F = mayD D T := by
  unfold mayD clashD staleD
  have : ∀ k, sinceT F k = sinceT T k := fun k => (h.since k).symm
  simp only [this]

end Go.Proofs.Ytoiobhcgpajogad
