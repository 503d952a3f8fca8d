/- Plain laws of a table of versions: what is read behind a commit. -/
import Derived.Test.YtoiobhcgpajogabTab1
namespace Go.Proofs.Ytoiobhcgpajogab
open Go.RowKit

def lastV (l : List Ent) : Val := (l.getLastD default).v

theorem lastLe_top {l : List Ent} (h : Sorted l) {a : Int} (ha : lastN l ≤ a) : lastLe l a = lastV l := by
  obtain ⟨h1, h2, -⟩ := h
  rcases List.eq_nil_or_concat l with rfl | ⟨l', e, rfl⟩
  · exact absurd rfl h1
  · rw [List.concat_eq_append] at *
    have he : e.n ≤ a := by simpa [lastN] using ha
    rw [lastLe_snoc, if_pos he]
    simp [lastV]

theorem readC_top {l : List Ent} (h : Sorted l) {a : Int} (ha : lastN l ≤ a) : readC l a = (lastV l, 0) := by
  have h1 := firstN_le_lastN h
  have h2 := h.2.2
  unfold readC
  rw [if_neg (by omega), if_neg (by omega), lastLe_top h ha]

theorem readT_top {T : Tab} (h : T.Ok) {k : Nat} (hk : k < 8) : readT T k T.last = (lastV (T.l k), 0) := by
  unfold readT
  rw [if_neg (by omega)]
  exact readC_top (h.1 k).1 (h.1 k).2

def applyW (f : Nat → Val) (w : List Ent) : Nat → Val := w.foldl (fun f x => upd f x.n.toNat x.v) f

theorem applyW_snoc (f : Nat → Val) (w : List Ent) (x : Ent) : applyW f (w ++ [x]) = upd (applyW f w) x.n.toNat x.v := by simp [applyW]

theorem putC_new {l : List Ent} {n : Int} {v : Val} (hv : ckV v = 0) (hl : lastN l < n) : putC l n v = (0, l ++ [⟨n, v⟩]) := by
  unfold putC
  rw [if_neg (by omega), if_neg (by omega)]

theorem ckPs_rise {w : List Ent} : ∀ {pv : Int}, ckPs pv w = 0 → (∀ x ∈ w, 0 ≤ x.n ∧ x.n < 8 ∧ pv < x.n ∧ ckV x.v = 0) ∧ w.Pairwise (fun x y => x.n < y.n) := by
  induction w with
  | nil => intro pv _; exact ⟨by simp, by simp⟩
  | cons x w ih =>
    intro pv h
    rw [ckPs] at h
    split at h
    · omega
    · split at h
      · omega
      · split at h
        · rename_i h1 h2 h3
          exact absurd h h3
        · rename_i h1 h2 h3
          obtain ⟨i1, i2⟩ := ih h
          refine ⟨?_, List.pairwise_cons.2 ⟨fun y hy => (i1 y hy).2.2.1, i2⟩⟩
          intro y hy
          rcases List.mem_cons.1 hy with rfl | hy
          · exact ⟨by omega, by omega, by omega, by simpa using h3⟩
          · have := i1 y hy
            exact ⟨this.1, this.2.1, by omega, this.2.2.2⟩

theorem puts_lastV {n : Int} {w : List Ent} (h : ∀ x ∈ w, 0 ≤ x.n ∧ ckV x.v = 0) (hp : w.Pairwise (fun x y => x.n < y.n)) : ∀ (l : Nat → List Ent), (∀ x ∈ w, lastN (l x.n.toNat) < n) → ∀ k, lastV (putsT n l w k) = applyW (fun k => lastV (l k)) w k := by
  induction w with
  | nil => intro l _ k; rfl
  | cons x w ih =>
    intro l hl k
    rw [List.pairwise_cons] at hp
    have hx := h x (List.mem_cons_self ..)
    have e1 : putsT n l (x :: w) = putsT n (upd l x.n.toNat (putC (l x.n.toNat) n x.v).2) w := rfl
    have e2 : applyW (fun k => lastV (l k)) (x :: w) = applyW (upd (fun k => lastV (l k)) x.n.toNat x.v) w := rfl
    rw [e1, e2, putC_new hx.2 (hl x (List.mem_cons_self ..))]
    have := ih (fun y hy => h y (List.mem_cons_of_mem _ hy)) hp.2 (upd l x.n.toNat (l x.n.toNat ++ [⟨n, x.v⟩])) (by
      intro y hy
      have hxy := hp.1 y hy
      have hy0 := h y (List.mem_cons_of_mem _ hy)
      rw [upd_other _ _ (by omega)]
      exact hl y (List.mem_cons_of_mem _ hy)) k
    rw [this]
    congr 1
    funext j
    unfold upd
    split
    · simp [lastV]
    · rfl

theorem write_good {T : Tab} {w : List Ent} (h : (writeT T w).1.2 = 0) : ckPs (-1) w = 0 ∧ T.last < 40 ∧ writeT T w = (((T.last : Int) + 1, 0), ⟨putsT (T.last + 1) T.l w, T.last + 1⟩) := by
  unfold writeT at h ⊢
  split at h
  · rename_i hc; exact absurd h hc
  · split at h
    · simp at h
    · rename_i h1 h2
      rw [if_neg h1, if_neg h2]
      exact ⟨by simpa using h1, by omega, rfl⟩

theorem write_bad {T : Tab} {w : List Ent} (h : (writeT T w).1.2 ≠ 0) : (writeT T w).2 = T ∧ (writeT T w).1.1 = 0 := by
  unfold writeT at h ⊢
  split
  · exact ⟨rfl, rfl⟩
  · split
    · exact ⟨rfl, rfl⟩
    · rename_i h1 h2
      rw [if_neg h1, if_neg h2] at h
      exact absurd rfl h

theorem write_last {T : Tab} {w : List Ent} : (writeT T w).2.last = T.last ∨ (writeT T w).2.last = T.last + 1 ∧ (writeT T w).1 = ((T.last : Int) + 1, 0) := by
  unfold writeT
  split
  · exact .inl rfl
  · split
    · exact .inl rfl
    · exact .inr ⟨rfl, rfl⟩

/-- Behind a commit its keys have what it wrote, the others what they had. -/
theorem read_write {T : Tab} (hT : T.Ok) {w : List Ent} (h : (writeT T w).1.2 = 0) {k : Nat} (hk : k < 8) :
    readT (writeT T w).2 k ((T.last : Int) + 1) = (applyW (fun k => (readT T k T.last).1) w k, 0) := by
  obtain ⟨h1, h2, h3⟩ := write_good h
  have hok := write_ok hT w
  rw [h3] at hok ⊢
  have := readT_top hok hk
  simp only at this
  have e : (((T.last + 1 : Nat) : Int)) = (T.last : Int) + 1 := by omega
  rw [e] at this
  rw [this]
  obtain ⟨r1, r2⟩ := ckPs_rise h1
  rw [puts_lastV (fun x hx => ⟨(r1 x hx).1, (r1 x hx).2.2.2⟩) r2 T.l (fun x hx => by have := (hT.1 x.n.toNat).2; omega) k]
  -- only the eight keys are asked for
  have key : ∀ (w : List Ent) (f g : Nat → Val), (∀ j, j < 8 → f j = g j) → ∀ j, j < 8 → applyW f w j = applyW g w j := by
    intro w
    induction w with
    | nil => intro f g h j hj; exact h j hj
    | cons x w ih =>
      intro f g h j hj
      refine ih (upd f x.n.toNat x.v) (upd g x.n.toNat x.v) (fun i hi => ?_) j hj
      unfold upd
      split
      · rfl
      · exact h i hi
  rw [key w (fun k => lastV (T.l k)) (fun k => (readT T k T.last).1) (fun j hj => by rw [readT_top hT hj]) k hk]

theorem puts_read {n a : Int} (ha : a < n) (w : List Ent) : ∀ (l : Nat → List Ent), (∀ k, l k ≠ []) → ∀ k, readC (putsT n l w k) a = readC (l k) a := by
  induction w with
  | nil => intro l _ k; rfl
  | cons x w ih =>
    intro l hl k
    have e1 : putsT n l (x :: w) = putsT n (upd l x.n.toNat (putC (l x.n.toNat) n x.v).2) w := rfl
    rw [e1, ih]
    · by_cases e : k = x.n.toNat
      · subst e; rw [upd_same, put_read (hl _) _ _ _ ha]
      · rw [upd_other _ _ e]
    · intro j
      by_cases e : j = x.n.toNat
      · subst e; rw [upd_same]; exact put_ne (hl _) _ _
      · rw [upd_other _ _ e]; exact hl j

/-- What is read behind a commit stays so, whatever is written later. -/
theorem read_later {T : Tab} (hT : T.Ok) (w : List Ent) (k : Int) {a : Int} (ha : a ≤ T.last) : readT (writeT T w).2 k a = readT T k a := by
  unfold writeT
  split
  · rfl
  · split
    · rfl
    · unfold readT
      simp only
      rw [puts_read (by omega) w T.l (fun k => (hT.1 k).1.1)]
      by_cases h : k < 0 ∨ 8 ≤ k
      · rw [if_pos (by omega), if_pos (by omega)]
      · rw [if_neg (by omega), if_neg (by omega)]

theorem clearGo_last (least : Int) (T : Tab) (ks : List Nat) : (clearGo least T ks).2.last = T.last := by
  induction ks using snoc_ind with
  | nil => rfl
  | snoc ks k ih => rw [clearGo_snoc]; exact ih

theorem clearGo_l (least : Int) (T : Tab) (ks : List Nat) (hn : ks.Nodup) (k : Nat) : (clearGo least T ks).2.l k = if k ∈ ks then (T.l k).drop (clearK least (T.l k)) else T.l k := by
  induction ks using snoc_ind with
  | nil => rfl
  | snoc ks j ih =>
    rw [List.nodup_append] at hn
    obtain ⟨h1, -, h3⟩ := hn
    have hj : j ∉ ks := fun h => h3 j h j (by simp) rfl
    rw [clearGo_snoc]
    simp only [List.mem_append, List.mem_singleton]
    by_cases e : k = j
    · subst e
      rw [upd_same]
      have ihk := ih h1
      rw [if_neg hj] at ihk
      rw [ihk]
      simp
    · rw [upd_other _ _ e, ih h1]
      simp [e]

theorem clearT_l (T : Tab) (least : Int) {k : Nat} (hk : k < 8) : (clearT T least).2.l k = (T.l k).drop (clearK least (T.l k)) := by
  unfold clearT
  rw [clearGo_l _ _ _ List.nodup_range, if_pos (by simpa using hk)]

theorem clearT_last (T : Tab) (least : Int) : (clearT T least).2.last = T.last := clearGo_last _ _ _

/-- What is forgotten up to least is not seen behind least, nor later. -/
theorem read_clear {T : Tab} (hT : T.Ok) (k : Int) {least a : Int} (ha : least ≤ a) : readT (clearT T least).2 k a = readT T k a := by
  unfold readT
  rw [clearT_last]
  by_cases h : k < 0 ∨ 8 ≤ k ∨ (T.last : Int) < a
  · rw [if_pos h, if_pos h]
  · rw [if_neg h, if_neg h, clearT_l _ _ (by omega), clear_read (hT.1 _).1 _ _ ha]

theorem clearGo_zero (least : Int) (T : Tab) (ks : List Nat) (h : ∀ k ∈ ks, clearK least (T.l k) = 0) : (clearGo least T ks).1 = 0 ∧ (clearGo least T ks).2 = T := by
  induction ks using snoc_ind with
  | nil => exact ⟨rfl, rfl⟩
  | snoc ks k ih =>
    obtain ⟨i1, i2⟩ := ih (fun j hj => h j (List.mem_append_left _ hj))
    have hk := h k (by simp)
    rw [clearGo_snoc, i1, i2, hk]
    exact ⟨rfl, by rw [List.drop_zero, upd_self]⟩

theorem clear_twice (T : Tab) (least : Int) : (clearT (clearT T least).2 least).1 = 0 := by
  refine (clearGo_zero least _ _ fun k hk => ?_).1
  rw [clearT_l _ _ (by simpa using hk)]
  exact clear_again least _

theorem since_clear {T : Tab} (hT : T.Ok) (k least : Int) : sinceT (clearT T least).2 k = sinceT T k := by
  unfold sinceT
  split
  · rfl
  · rw [clearT_l _ _ (by omega), clear_last _ (clearK_lt _ _ (hT.1 _).1.1)]

theorem putC_lastN {l : List Ent} {n : Int} {v : Val} (hv : ckV v = 0) (hl : lastN l < n) : lastN (putC l n v).2 = n := by
  rw [putC_new hv hl]; simp [lastN]

theorem puts_lastN {n : Int} {w : List Ent} (h : ∀ x ∈ w, 0 ≤ x.n ∧ ckV x.v = 0) (hp : w.Pairwise (fun x y => x.n < y.n)) : ∀ (l : Nat → List Ent), (∀ x ∈ w, lastN (l x.n.toNat) < n) → ∀ k : Nat, lastN (putsT n l w k) = if ∃ x ∈ w, x.n = k then n else lastN (l k) := by
  induction w with
  | nil => intro l _ k; simp [putsT]
  | cons x w ih =>
    intro l hl k
    rw [List.pairwise_cons] at hp
    have hx := h x (List.mem_cons_self ..)
    have e1 : putsT n l (x :: w) = putsT n (upd l x.n.toNat (putC (l x.n.toNat) n x.v).2) w := rfl
    have := ih (fun y hy => h y (List.mem_cons_of_mem _ hy)) hp.2 (upd l x.n.toNat (putC (l x.n.toNat) n x.v).2) (by
      intro y hy
      have hxy := hp.1 y hy
      have hy0 := h y (List.mem_cons_of_mem _ hy)
      rw [upd_other _ _ (by omega)]
      exact hl y (List.mem_cons_of_mem _ hy)) k
    rw [e1, this]
    by_cases hw : ∃ y ∈ w, y.n = (k : Int)
    · rw [if_pos hw, if_pos (by obtain ⟨y, hy, e⟩ := hw; exact ⟨y, List.mem_cons_of_mem _ hy, e⟩)]
    · rw [if_neg hw]
      by_cases e : x.n = (k : Int)
      · have ek : x.n.toNat = k := by omega
        rw [if_pos ⟨x, List.mem_cons_self .., e⟩, ek, upd_same, putC_lastN hx.2 (by rw [← ek]; exact hl x (List.mem_cons_self ..))]
      · rw [upd_other _ _ (by omega), if_neg]
        rintro ⟨y, hy, ey⟩
        rcases List.mem_cons.1 hy with rfl | hy
        · exact e ey
        · exact hw ⟨y, hy, ey⟩

theorem since_write {T : Tab} (hT : T.Ok) {w : List Ent} (h : (writeT T w).1.2 = 0) {k : Nat} (hk : k < 8) : sinceT (writeT T w).2 k = if ∃ x ∈ w, x.n = k then (T.last : Int) + 1 else sinceT T k := by
  obtain ⟨h1, h2, h3⟩ := write_good h
  obtain ⟨r1, r2⟩ := ckPs_rise h1
  rw [h3]
  have e1 : ∀ S : Tab, sinceT S k = lastN (S.l k) := by
    intro S
    unfold sinceT
    rw [if_neg (by omega)]
    rfl
  rw [e1, e1]
  simp only
  rw [puts_lastN (fun x hx => ⟨(r1 x hx).1, (r1 x hx).2.2.2⟩) r2 T.l (fun x hx => by have := (hT.1 x.n.toNat).2; omega) k]

/-! ### What all keys had; lists -/

def codesT (T : Tab) (a : Int) (k : Nat) : Bool := (List.range k).all (fun j => (readT T j a).2 == 0)

/-- What the keys had behind a commit, up to the first one of which it is not known. -/
def sheetT (T : Tab) (a : Int) (k : Nat) : Val := if k < 8 ∧ codesT T a (k + 1) then (readT T k a).1 else Val.zero

theorem codesT_succ (T : Tab) (a : Int) (k : Nat) : codesT T a (k + 1) = (codesT T a k && ((readT T k a).2 == 0)) := by simp [codesT, List.range_succ]

theorem sheetT_congr {T T' : Tab} {a a' : Int} (h : ∀ k : Nat, k < 8 → readT T k a = readT T' k a') : (∀ k, k ≤ 8 → codesT T a k = codesT T' a' k) ∧ sheetT T a = sheetT T' a' := by
  have h1 : ∀ k, k ≤ 8 → codesT T a k = codesT T' a' k := by
    intro k hk
    induction k with
    | zero => rfl
    | succ k ih => rw [codesT_succ, codesT_succ, ih (by omega), h k (by omega)]
  refine ⟨h1, funext fun k => ?_⟩
  unfold sheetT
  by_cases hk : k < 8
  · rw [h1 (k + 1) (by omega), h k hk]
  · simp [hk]

theorem codesT_top {T : Tab} (hT : T.Ok) : codesT T T.last 8 = true := by
  unfold codesT
  rw [List.all_eq_true]
  intro k hk
  rw [readT_top hT (by simpa using hk)]
  rfl

theorem codesT_mono {T : Tab} {a : Int} {k : Nat} (h : codesT T a 8 = true) (hk : k ≤ 8) : codesT T a k = true := by
  unfold codesT at *
  rw [List.all_eq_true] at *
  intro j hj
  exact h j (by simp at *; omega)

theorem sheetT_at {T : Tab} {a : Int} (h : codesT T a 8 = true) {k : Nat} (hk : k < 8) : readT T k a = (sheetT T a k, 0) := by
  have h1 : (readT T k a).2 = 0 := by
    unfold codesT at h
    rw [List.all_eq_true] at h
    simpa using h k (by simpa using hk)
  unfold sheetT
  rw [if_pos ⟨hk, codesT_mono h (by omega)⟩, ← h1]

def entsOf (f : Nat → Val) (ks : List Nat) : List Ent := ks.flatMap (fun k => if (f k).there then [⟨k, f k⟩] else [])

theorem entsOf_append (f : Nat → Val) (a b : List Nat) : entsOf f (a ++ b) = entsOf f a ++ entsOf f b := by simp [entsOf]

theorem listGo_all {T : Tab} {a : Int} (h : codesT T a 8 = true) : ∀ (ks : List Nat), (∀ k ∈ ks, k < 8) → ∀ out, listGo T a ks out = (out ++ entsOf (sheetT T a) ks, 0) := by
  intro ks
  induction ks with
  | nil => intro _ out; simp [listGo, entsOf]
  | cons k ks ih =>
    intro hk out
    have hr := sheetT_at h (hk k (List.mem_cons_self ..))
    rw [listGo, hr, if_neg (by simp), ih (fun j hj => hk j (List.mem_cons_of_mem _ hj))]
    simp only [entsOf, List.flatMap_cons]
    split <;> simp

theorem listGo_none {T : Tab} {a : Int} : ∀ (ks : List Nat), (∃ k ∈ ks, (readT T k a).2 ≠ 0) → ∀ out, (listGo T a ks out).1 = [] ∧ (listGo T a ks out).2 ≠ 0 := by
  intro ks
  induction ks with
  | nil => rintro ⟨k, hk, -⟩; cases hk
  | cons k ks ih =>
    intro h out
    rw [listGo]
    by_cases hc : (readT T k a).2 = 0
    · rw [if_neg (by simpa using hc)]
      refine ih ?_ _
      obtain ⟨j, hj, hj2⟩ := h
      rcases List.mem_cons.1 hj with rfl | hj
      · exact absurd hc hj2
      · exact ⟨j, hj, hj2⟩
    · rw [if_pos hc]
      exact ⟨rfl, hc⟩

theorem listT_all {T : Tab} {a : Int} (h : codesT T a 8 = true) {f t : Nat} (hf : f < 8) (ht : t < 8) : listT T f t a = (entsOf (sheetT T a) ((List.range (t + 1)).drop f), 0) := by
  unfold listT
  rw [if_neg (by omega), listGo_all h]
  · simp
  · intro k hk
    have := List.mem_of_mem_drop hk
    simp at this
    omega

theorem listT_none {T : Tab} {a : Int} (h : codesT T a 8 = false) : (listT T 0 7 a).1 = [] ∧ (listT T 0 7 a).2 ≠ 0 := by
  unfold listT
  rw [if_neg (by omega)]
  refine listGo_none _ ?_ _
  unfold codesT at h
  rw [List.all_eq_false] at h
  obtain ⟨k, hk, h2⟩ := h
  exact ⟨k, by simpa using hk, by simpa using h2⟩

theorem listT_split {T : Tab} {a : Int} (h : codesT T a 8 = true) {k : Nat} (hk : k < 7) : (listT T 0 k a).1 ++ (listT T ((k + 1 : Nat) : Int) 7 a).1 = (listT T 0 7 a).1 := by
  have h0 := listT_all h (f := 0) (t := k) (by omega) (by omega)
  have h1 := listT_all h (f := k + 1) (t := 7) (by omega) (by omega)
  have h2 := listT_all h (f := 0) (t := 7) (by omega) (by omega)
  have h0' : listT T 0 k a = _ := h0
  have h1' : listT T ((k + 1 : Nat) : Int) 7 a = _ := h1
  have h2' : listT T 0 7 a = _ := h2
  rw [h0', h1', h2']
  simp only [List.drop_zero]
  rw [← entsOf_append]
  congr 1
  have : List.range (k + 1) = (List.range 8).take (k + 1) := by rw [range_take _ _ (by omega)]
  rw [this, List.take_append_drop]

end Go.Proofs.Ytoiobhcgpajogab
