/- A hall, plain laws: what a table forgot, and its log. -/
import Derived.Test.YtoiobhcgpajogabGreatDoorHall5
import Derived.Test.YtoiobhcgpajogabGreatDoorHall6
import Derived.Test.YtoiobhcgpajogabGreatDoorVals
namespace Go.Proofs.YtoiobhcgpajogabGreatDoor
open Go.RowKit

/-- T is F, but for what is forgotten. -/
def Suf (T F : Tab) : Prop := T.last = F.last ∧ ∀ k, ∃ n, n < (F.l k).length ∧ T.l k = (F.l k).drop n

theorem Suf.refl {F : Tab} (h : F.Ok) : Suf F F := ⟨rfl, fun k => ⟨0, List.length_pos_iff.2 (h.1 k).1.1, rfl⟩⟩

theorem drop_last {l : List Ent} {n : Nat} (h : n < l.length) : (l.drop n).getLastD default = l.getLastD default := by
  have h1 : l.drop n ≠ [] := by intro e; have := congrArg List.length e; simp at this; omega
  have h2 : l ≠ [] := by intro e; subst e; simp at h
  rw [List.getLastD_eq_getLast?, List.getLastD_eq_getLast?, List.getLast?_drop, if_neg (by omega)]

theorem Suf.lastN {T F : Tab} (h : Suf T F) (k : Nat) : Go.Proofs.YtoiobhcgpajogabGreatDoor.lastN (T.l k) = Go.Proofs.YtoiobhcgpajogabGreatDoor.lastN (F.l k) := by
  obtain ⟨n, hn, e⟩ := h.2 k
  unfold Go.Proofs.YtoiobhcgpajogabGreatDoor.lastN
  rw [e, drop_last hn]

theorem Suf.lastV {T F : Tab} (h : Suf T F) (k : Nat) : Go.Proofs.YtoiobhcgpajogabGreatDoor.lastV (T.l k) = Go.Proofs.YtoiobhcgpajogabGreatDoor.lastV (F.l k) := by
  obtain ⟨n, hn, e⟩ := h.2 k
  unfold Go.Proofs.YtoiobhcgpajogabGreatDoor.lastV
  rw [e, drop_last hn]

theorem Suf.clear {T F : Tab} (h : Suf T F) (hT : T.Ok) (least : Int) : Suf (clearT T least).2 F := by
  refine ⟨(clearT_last T least).trans h.1, fun k => ?_⟩
  obtain ⟨n, hn, e⟩ := h.2 k
  by_cases hk : k < 8
  · have hl := clearK_lt least (T.l k) (hT.1 k).1.1
    refine ⟨n + clearK least (T.l k), ?_, ?_⟩
    · have : (T.l k).length = (F.l k).length - n := by rw [e, List.length_drop]
      omega
    · rw [clearT_l T least hk]
      conv => lhs; rw [e]
      rw [List.drop_drop, ← e]
  · refine ⟨n, hn, ?_⟩
    show (clearGo least T (List.range 8)).2.l k = _
    rw [clearGo_l least T (List.range 8) List.nodup_range k, if_neg (by simpa using hk)]
    exact e

theorem puts_suf {n : Int} {w : List Ent} (h : ∀ x ∈ w, 0 ≤ x.n ∧ ckV x.v = 0) (hp : w.Pairwise (fun x y => x.n < y.n)) : ∀ (l f : Nat → List Ent), (∀ k, ∃ m, m < (f k).length ∧ l k = (f k).drop m) → (∀ x ∈ w, Go.Proofs.YtoiobhcgpajogabGreatDoor.lastN (l x.n.toNat) < n) → (∀ x ∈ w, Go.Proofs.YtoiobhcgpajogabGreatDoor.lastN (f x.n.toNat) < n) →
    ∀ k, ∃ m, m < (putsT n f w k).length ∧ putsT n l w k = (putsT n f w k).drop m := by
  induction w with
  | nil => intro l f hs _ _ k; exact hs k
  | cons x w ih =>
    intro l f hs hl hf k
    rw [List.pairwise_cons] at hp
    have hx := h x (List.mem_cons_self ..)
    have e1 : ∀ l, putsT n l (x :: w) = putsT n (upd l x.n.toNat (putC (l x.n.toNat) n x.v).2) w := fun _ => rfl
    rw [e1, e1, putC_new hx.2 (hl x (List.mem_cons_self ..)), putC_new hx.2 (hf x (List.mem_cons_self ..))]
    refine ih (fun y hy => h y (List.mem_cons_of_mem _ hy)) hp.2 _ _ ?_ ?_ ?_ k
    · intro j
      by_cases e : j = x.n.toNat
      · subst e
        obtain ⟨m, hm, em⟩ := hs x.n.toNat
        refine ⟨m, ?_, ?_⟩
        · rw [upd_same, List.length_append]; omega
        · rw [upd_same, upd_same, em, List.drop_append_of_le_length (by omega)]
      · rw [upd_other _ _ e, upd_other _ _ e]; exact hs j
    · intro y hy
      have hxy := hp.1 y hy
      have hy0 := h y (List.mem_cons_of_mem _ hy)
      rw [upd_other _ _ (by omega)]
      exact hl y (List.mem_cons_of_mem _ hy)
    · intro y hy
      have hxy := hp.1 y hy
      have hy0 := h y (List.mem_cons_of_mem _ hy)
      rw [upd_other _ _ (by omega)]
      exact hf y (List.mem_cons_of_mem _ hy)

theorem Suf.write {T F : Tab} (h : Suf T F) (hT : T.Ok) (hF : F.Ok) {w : List Ent} (hc : ckPs (-1) w = 0) (hl : T.last < 40) : Suf (writeT T w).2 (writeT F w).2 := by
  have c1 : (writeT T w).1.2 = 0 := by rw [(write_fine hc hl).1]
  have c2 : (writeT F w).1.2 = 0 := by rw [(write_fine hc (by rw [← h.1]; exact hl)).1]
  rw [(write_good c1).2.2, (write_good c2).2.2, h.1]
  have hr := ckPs_rise hc
  refine ⟨rfl, puts_suf (fun x hx => ⟨(hr.1 x hx).1, (hr.1 x hx).2.2.2⟩) hr.2 _ _ h.2 (fun x hx => ?_) (fun x hx => ?_)⟩
  · have := (hT.1 x.n.toNat).2; rw [h.1] at this; show Go.Proofs.YtoiobhcgpajogabGreatDoor.lastN (T.l x.n.toNat) < _; omega
  · have := (hF.1 x.n.toNat).2; show Go.Proofs.YtoiobhcgpajogabGreatDoor.lastN (F.l x.n.toNat) < _; omega

theorem Suf.top {T F : Tab} (h : Suf T F) (hT : T.Ok) (hF : F.Ok) (k : Nat) (hk : k < 8) : readT T k T.last = readT F k F.last := by
  rw [readT_top hT hk, readT_top hF hk, h.lastV k]

/-- All begins at 0. -/
def AtZero (T : Tab) : Prop := ∀ k, firstN (T.l k) = 0

theorem AtZero.first {T : Tab} (h : AtZero T) : firstT T = 0 := by
  have : ∀ k, firstGo T k = 0 := by
    intro k
    induction k with
    | zero => rfl
    | succ k ih => rw [firstGo, h k, ih]; rfl
  exact this 8

theorem putC_first {l : List Ent} {n : Int} {v : Val} (hl : l ≠ []) (h : firstN l = 0) (hn : Go.Proofs.YtoiobhcgpajogabGreatDoor.lastN l < n) (hv : ckV v = 0) : firstN (putC l n v).2 = 0 := by
  rw [putC_new hv hn]
  cases l with
  | nil => exact absurd rfl hl
  | cons x l => exact h

theorem puts_zero {n : Int} {w : List Ent} (h : ∀ x ∈ w, 0 ≤ x.n ∧ ckV x.v = 0) (hp : w.Pairwise (fun x y => x.n < y.n)) : ∀ (l : Nat → List Ent), (∀ k, l k ≠ [] ∧ firstN (l k) = 0) → (∀ x ∈ w, Go.Proofs.YtoiobhcgpajogabGreatDoor.lastN (l x.n.toNat) < n) → ∀ k, firstN (putsT n l w k) = 0 := by
  induction w with
  | nil => intro l hs _ k; exact (hs k).2
  | cons x w ih =>
    intro l hs hl k
    rw [List.pairwise_cons] at hp
    have hx := h x (List.mem_cons_self ..)
    have e1 : putsT n l (x :: w) = putsT n (upd l x.n.toNat (putC (l x.n.toNat) n x.v).2) w := rfl
    rw [e1]
    refine ih (fun y hy => h y (List.mem_cons_of_mem _ hy)) hp.2 _ ?_ ?_ k
    · intro j
      by_cases e : j = x.n.toNat
      · subst e
        rw [upd_same]
        refine ⟨?_, putC_first (hs _).1 (hs _).2 (hl x (List.mem_cons_self ..)) hx.2⟩
        rw [putC_new hx.2 (hl x (List.mem_cons_self ..))]; simp
      · rw [upd_other _ _ e]; exact hs j
    · intro y hy
      have hxy := hp.1 y hy
      have hy0 := h y (List.mem_cons_of_mem _ hy)
      rw [upd_other _ _ (by omega)]
      exact hl y (List.mem_cons_of_mem _ hy)

theorem AtZero.write {T : Tab} (h : AtZero T) (hT : T.Ok) (w : List Ent) : AtZero (writeT T w).2 := by
  by_cases hc : (writeT T w).1.2 = 0
  · obtain ⟨g1, g2, g3⟩ := write_good hc
    rw [g3]
    have hr := ckPs_rise g1
    exact puts_zero (fun x hx => ⟨(hr.1 x hx).1, (hr.1 x hx).2.2.2⟩) hr.2 _ (fun k => ⟨(hT.1 k).1.1, h k⟩) (fun x _ => by have := (hT.1 x.n.toNat).2; omega)
  · rw [(write_bad hc).1]; exact h

theorem AtZero.all (L : List (List Ent)) : AtZero (writeAll Tab.new L) := by
  have : ∀ (L : List (List Ent)) (T : Tab), T.Ok → AtZero T → AtZero (writeAll T L) := by
    intro L
    induction L with
    | nil => intro T _ h; exact h
    | cons w L ih => intro T hT h; exact ih _ (write_ok hT w) (h.write hT w)
  exact this L Tab.new Tab.new_ok (fun _ => rfl)

/-- A vault's table is its log's, but for what is forgotten. -/
def Vt.Sound (V : Vt) : Prop := Suf V.tab (writeAll Tab.new V.log.l)

theorem Vt.new_sound : Vt.new.Sound := Suf.refl Tab.new_ok

theorem crashV_sound (G : Lg) : (crashV G).Sound := Suf.refl (writeAll_ok Tab.new_ok G.l)

theorem commitV_sound {V : Vt} (h : V.Ok) (hT : V.tab.Ok) (hs : V.Sound) (D : Ded) : (commitV V D).2.Sound := by
  unfold commitV
  split
  · exact hs
  · split
    · exact hs
    · split
      · exact hs
      · rename_i h1 h2 h3
        have h3' : (putG V.log (writesD D)).1 = 0 := by simpa using h3
        obtain ⟨z1, z2, z3⟩ := putG_zero h3'
        show Suf (writeT V.tab (writesD D)).2 (writeAll Tab.new (putG V.log (writesD D)).2.l)
        rw [z3, writeAll_snoc]
        exact hs.write hT (writeAll_ok Tab.new_ok _) z1 (by rw [h.2.2]; exact z2)

theorem beginH_v (H : Ht) (x : St) : (beginH H x).2.v = H.v := by
  unfold beginH
  split
  · rfl
  · split <;> rfl

theorem deedH_sound {H : Ht} (h : H.v.Ok) (hT : H.v.tab.Ok) (hs : H.v.Sound) (x : St) (D : Ded) : (deedH H x D).2.v.Sound := by
  unfold deedH
  split
  · exact hs
  · split
    · exact hs
    · split
      · exact hs
      · split
        · exact hs
        · split
          · exact commitV_sound h hT hs D
          · split
            · exact crashV_sound _
            · exact hs

theorem doH_sound {H : Ht} (h : H.v.Ok) (hT : H.v.tab.Ok) (hs : H.v.Sound) (x : St) : (doH H x).2.v.Sound := by
  unfold doH
  split
  · exact hs
  · split
    · exact hs.clear hT _
    · split
      · exact crashV_sound _
      · split
        · exact hs
        · split
          · rw [beginH_v]; exact hs
          · unfold deedO
            split
            · exact hs
            · exact deedH_sound h hT hs x _

theorem HallAt.ok {w : World} {g : Nat → Nat} {p h : Nat} {H : Ht} (k : HallAt w g p h H) : H.v.Ok ∧ H.v.tab.Ok := by
  obtain ⟨vp, ds, k⟩ := k
  obtain ⟨t, b, hv⟩ := k.vault
  exact ⟨hv.1, hv.2.2.1.1⟩

end Go.Proofs.YtoiobhcgpajogabGreatDoor

/- Two halls, one of which forgets: plain laws. -/
namespace Go.Proofs.YtoiobhcgpajogabGreatDoor
open Go.RowKit

theorem lastLe_drop {l : List Ent} {n : Nat} {a : Int} (hn : n < l.length) (h : firstN (l.drop n) ≤ a) : lastLe l a = lastLe (l.drop n) a := by
  conv => lhs; rw [← List.take_append_drop n l]
  unfold lastLe
  rw [List.foldl_append]
  cases hd : l.drop n with
  | nil => have := congrArg List.length hd; simp at this; omega
  | cons x r =>
    rw [hd] at h
    have hx : x.n ≤ a := h
    simp only [List.foldl_cons, if_pos hx]

theorem first_drop {l : List Ent} (h : Sorted l) {n : Nat} (hn : n < l.length) : firstN l ≤ firstN (l.drop n) := by
  cases n with
  | zero => simp
  | succ n =>
    cases l with
    | nil => simp at hn
    | cons x r =>
      have hp := h.2.1
      rw [List.pairwise_cons] at hp
      show x.n ≤ firstN (r.drop n)
      cases hd : r.drop n with
      | nil => have := congrArg List.length hd; simp at this; simp at hn; omega
      | cons y s =>
        have : y ∈ r := List.mem_of_mem_drop (by rw [hd]; exact List.mem_cons_self ..)
        have := hp.1 y this
        show x.n ≤ y.n
        omega

theorem readC_drop {l : List Ent} (h : Sorted l) {n : Nat} {a : Int} (hn : n < l.length) (ha : firstN (l.drop n) ≤ a) : readC (l.drop n) a = readC l a := by
  have h1 := first_drop h hn
  have h2 := h.2.2
  unfold readC
  rw [if_neg (by omega), if_neg (by omega), if_neg (by omega), if_neg (by omega), lastLe_drop hn ha]

theorem Suf.read {T F : Tab} (h : Suf T F) (hF : F.Ok) {k a : Int} (ha : ∀ j : Nat, j < 8 → firstN (T.l j) ≤ a) : readT T k a = readT F k a := by
  unfold readT
  rw [h.1]
  split
  · rfl
  · rename_i hk
    obtain ⟨n, hn, e⟩ := h.2 k.toNat
    have := ha k.toNat (by omega)
    rw [e] at this ⊢
    exact readC_drop (hF.1 _).1 hn this

theorem read_no12 {T : Tab} {k a : Int} (ha : ∀ j : Nat, j < 8 → firstN (T.l j) ≤ a) : (readT T k a).2 ≠ 12 := by
  unfold readT
  split
  · simp
  · rename_i hk
    have := ha k.toNat (by omega)
    unfold readC
    split
    · simp
    · rw [if_neg (by omega)]; simp

theorem Suf.since {T F : Tab} (h : Suf T F) (k : Int) : sinceT T k = sinceT F k := by
  unfold sinceT
  split
  · rfl
  · exact h.lastN _

theorem Suf.first {T F : Tab} (h : Suf T F) (hF : F.Ok) : firstT F ≤ firstT T := by
  have hk : ∀ k, firstN (F.l k) ≤ firstN (T.l k) := fun k => by
    obtain ⟨n, hn, e⟩ := h.2 k
    rw [e]; exact first_drop (hF.1 k).1 hn
  have : ∀ k, firstGo F k ≤ firstGo T k := by
    intro k
    induction k with
    | zero => exact Int.le_refl _
    | succ k ih =>
      have e1 : ∀ T : Tab, firstGo T (k + 1) = if firstGo T k < firstN (T.l k) then firstN (T.l k) else firstGo T k := fun _ => rfl
      rw [e1, e1]
      have := hk k
      split <;> split <;> omega
  exact this 8

theorem firstT_ge {T : Tab} {j : Nat} (hj : j < 8) : firstN (T.l j) ≤ firstT T := by
  have mono : ∀ k, firstGo T k ≤ firstGo T (k + 1) := by
    intro k
    have e1 : firstGo T (k + 1) = if firstGo T k < firstN (T.l k) then firstN (T.l k) else firstGo T k := rfl
    rw [e1]; split <;> omega
  have up : ∀ d k, firstGo T k ≤ firstGo T (k + d) := by
    intro d
    induction d with
    | zero => intro k; exact Int.le_refl _
    | succ d ih => intro k; exact Int.le_trans (ih k) (mono (k + d))
  have h1 : firstN (T.l j) ≤ firstGo T (j + 1) := by
    have e1 : firstGo T (j + 1) = if firstGo T j < firstN (T.l j) then firstN (T.l j) else firstGo T j := rfl
    rw [e1]; split <;> omega
  have := up (8 - (j + 1)) (j + 1)
  rw [show j + 1 + (8 - (j + 1)) = 8 by omega] at this
  exact Int.le_trans h1 this

theorem clearK_first {least a : Int} (hla : least ≤ a) : ∀ l : List Ent, firstN l ≤ a → firstN (l.drop (clearK least l)) ≤ a
  | [], h => h
  | [x], h => h
  | x :: e :: l, h => by
    rw [clearK]
    split
    · rename_i he
      exact clearK_first hla (e :: l) (by show e.n ≤ a; omega)
    · exact h

theorem puts_first {n : Int} {w : List Ent} (h : ∀ x ∈ w, 0 ≤ x.n ∧ ckV x.v = 0) (hp : w.Pairwise (fun x y => x.n < y.n)) : ∀ (l : Nat → List Ent), (∀ k, l k ≠ []) → (∀ x ∈ w, Go.Proofs.YtoiobhcgpajogabGreatDoor.lastN (l x.n.toNat) < n) → ∀ k, firstN (putsT n l w k) = firstN (l k) := by
  induction w with
  | nil => intro l _ _ k; rfl
  | cons x w ih =>
    intro l hs hl k
    rw [List.pairwise_cons] at hp
    have hx := h x (List.mem_cons_self ..)
    have e1 : putsT n l (x :: w) = putsT n (upd l x.n.toNat (putC (l x.n.toNat) n x.v).2) w := rfl
    rw [e1, putC_new hx.2 (hl x (List.mem_cons_self ..))]
    rw [ih (fun y hy => h y (List.mem_cons_of_mem _ hy)) hp.2 _ (fun j => ?_) (fun y hy => ?_) k]
    · by_cases e : k = x.n.toNat
      · subst e
        rw [upd_same]
        have := hs x.n.toNat
        cases hq : l x.n.toNat with
        | nil => exact absurd hq this
        | cons y r => rfl
      · rw [upd_other _ _ e]
    · by_cases e : j = x.n.toNat
      · subst e; rw [upd_same]; simp
      · rw [upd_other _ _ e]; exact hs j
    · have hxy := hp.1 y hy
      have hy0 := h y (List.mem_cons_of_mem _ hy)
      rw [upd_other _ _ (by omega)]
      exact hl y (List.mem_cons_of_mem _ hy)

theorem write_first {T : Tab} (hT : T.Ok) (w : List Ent) (k : Nat) : firstN ((writeT T w).2.l k) = firstN (T.l k) := by
  by_cases hc : (writeT T w).1.2 = 0
  · obtain ⟨g1, g2, g3⟩ := write_good hc
    rw [g3]
    have hr := ckPs_rise g1
    exact puts_first (fun x hx => ⟨(hr.1 x hx).1, (hr.1 x hx).2.2.2⟩) hr.2 _ (fun k => (hT.1 k).1.1) (fun x _ => by have := (hT.1 x.n.toNat).2; omega) k
  · rw [(write_bad hc).1]

/-- H forgets, G does not. -/
structure Rel (H G : Ht) : Prop where
  log : G.v.log = H.v.log
  suf : Suf H.v.tab G.v.tab
  seats : G.seats = H.seats
  beg : ∀ s, s < 5 → ∀ D, H.seats s = some D → (∀ j : Nat, j < 8 → firstN (H.v.tab.l j) ≤ D.beg) ∧ D.beg ≤ (H.v.tab.last : Int)

theorem Rel.start : Rel Ht.new Ht.new := ⟨rfl, Suf.refl Tab.new_ok, rfl, fun s _ D hD => by cases hD⟩

theorem leastGo_le {T : Tab} {S : Nat → Option Ded} : ∀ (n s : Nat) (D : Ded), s < n → S s = some D → leastGo T S n ≤ D.beg
  | 0, s, D, hs, _ => by omega
  | n + 1, s, D, hs, hD => by
    rw [leastGo]
    by_cases e : s = n
    · subst e; rw [hD]; exact Int.min_le_right _ _
    · have ih := leastGo_le (T := T) (S := S) n s D (by omega) hD
      cases S n with
      | none => exact ih
      | some E => exact Int.le_trans (Int.min_le_left _ _) ih

theorem Rel.clear {H G : Ht} (h : Rel H G) (hT : H.v.tab.Ok) : Rel ⟨⟨(clearT H.v.tab (leastH H)).2, H.v.log⟩, H.seats⟩ G := by
  refine ⟨h.log, h.suf.clear hT _, h.seats, fun s hs D hD => ⟨fun j hj => ?_, ?_⟩⟩
  · show firstN ((clearT H.v.tab (leastH H)).2.l j) ≤ D.beg
    rw [clearT_l _ _ hj]
    exact clearK_first (leastGo_le 5 s D hs hD) _ ((h.beg s hs D hD).1 j hj)
  · show D.beg ≤ ((clearT H.v.tab (leastH H)).2.last : Int)
    rw [clearT_last]; exact (h.beg s hs D hD).2

theorem getD_suf {T F : Tab} (h : Suf T F) (hF : F.Ok) {D : Ded} (ha : ∀ j : Nat, j < 8 → firstN (T.l j) ≤ D.beg) (k : Int) : getD D F k = getD D T k := by
  unfold getD
  rw [h.read hF (k := k) ha]

theorem getD_no12 {T : Tab} {D : Ded} (ha : ∀ j : Nat, j < 8 → firstN (T.l j) ≤ D.beg) (k : Int) : (getD D T k).1.2 ≠ 12 := by
  unfold getD
  split
  · simp
  · split
    · simp
    · exact read_no12 ha

theorem listDGo_suf {T F : Tab} (h : Suf T F) (hF : F.Ok) : ∀ (ks : List Nat) (D : Ded) (out : List Ent), (∀ j : Nat, j < 8 → firstN (T.l j) ≤ D.beg) → listDGo F ks D out = listDGo T ks D out ∧ (listDGo T ks D out).1.2 ≠ 12 ∧ (listDGo T ks D out).2.beg = D.beg
  | [], D, out, _ => ⟨rfl, by simp [listDGo], rfl⟩
  | k :: ks, D, out, ha => by
    have hb := (getD_same D T k).2.1
    rw [listDGo, listDGo, getD_suf h hF ha k]
    split
    · exact ⟨rfl, getD_no12 ha k, hb⟩
    · obtain ⟨i1, i2, i3⟩ := listDGo_suf h hF ks (getD D T k).2 (if (getD D T k).1.1.there then out ++ [⟨k, (getD D T k).1.1⟩] else out) (by rw [hb]; exact ha)
      exact ⟨i1, i2, i3.trans hb⟩

theorem listD_suf {T F : Tab} (h : Suf T F) (hF : F.Ok) {D : Ded} (ha : ∀ j : Nat, j < 8 → firstN (T.l j) ≤ D.beg) (f u : Int) : listD D F f u = listD D T f u ∧ (listD D T f u).1.2 ≠ 12 ∧ (listD D T f u).2.beg = D.beg := by
  unfold listD
  split
  · exact ⟨rfl, by simp, rfl⟩
  · exact listDGo_suf h hF _ D [] ha

theorem mayD_suf {T F : Tab} (h : Suf T F) (D : Ded) : mayD D F = mayD D T := by
  unfold mayD clashD staleD
  have : ∀ k, sinceT F k = sinceT T k := fun k => (h.since k).symm
  simp only [this]

end Go.Proofs.YtoiobhcgpajogabGreatDoor

/- Two halls, one of which forgets: a step of both. -/
namespace Go.Proofs.YtoiobhcgpajogabGreatDoor
open Go.RowKit

theorem ckV_no12 (v : Val) : ckV v ≠ 12 := by
  unfold ckV
  split
  · simp
  · split <;> simp

theorem putD_no12 (D : Ded) (k : Int) (v : Val) : (putD D k v).1 ≠ 12 := by
  unfold putD
  split
  · simp
  · split
    · simp
    · split
      · exact ckV_no12 v
      · simp

theorem putD_beg (D : Ded) (k : Int) (v : Val) : (putD D k v).2.beg = D.beg := by
  unfold putD
  split
  · rfl
  · split
    · rfl
    · split <;> rfl

theorem mayD_no12 (D : Ded) (T : Tab) : mayD D T ≠ 12 := by
  unfold mayD
  repeat' split
  all_goals simp

theorem putG_no12 {G : Lg} {w : List Ent} (h : ckPs (-1) w = 0) : (putG G w).1 ≠ 12 := by
  unfold putG
  rw [if_neg (by rw [h]; simp)]
  split <;> simp

/-- What both come to. -/
structure Both (H G : Ht) (a b : Evt × Ht) : Prop where
  old : a.1.code = 12 → Rel a.2 G
  same : a.1.code ≠ 12 → b.1 = a.1 ∧ Rel a.2 b.2

theorem Both.no {H G : Ht} {a b : Evt × Ht} (h : a.1.code ≠ 12) (k : b.1 = a.1 ∧ Rel a.2 b.2) : Both H G a b := ⟨fun e => absurd e h, fun _ => k⟩

theorem Rel.withDeed {H G : Ht} (h : Rel H G) {n : Nat} {D D' : Ded} (hn : n < 5) (hD : H.seats n = some D) (hb : D'.beg = D.beg) : Rel ⟨H.v, upd H.seats n (some D')⟩ ⟨G.v, upd G.seats n (some D')⟩ := by
  refine ⟨h.log, h.suf, by rw [h.seats], fun s hs E hE => ?_⟩
  by_cases e : s = n
  · subst e
    simp only [upd_same, Option.some.injEq] at hE
    subst hE
    have := h.beg s hs D hD
    rw [hb]; exact this
  · simp only [upd_other _ _ e] at hE
    exact h.beg s hs E hE

theorem Rel.drop {H G : Ht} (h : Rel H G) (n : Nat) : Rel ⟨H.v, upd H.seats n none⟩ ⟨G.v, upd G.seats n none⟩ := by
  refine ⟨h.log, h.suf, by rw [h.seats], fun s hs E hE => ?_⟩
  by_cases e : s = n
  · subst e; simp only [upd_same] at hE; cases hE
  · simp only [upd_other _ _ e] at hE
    exact h.beg s hs E hE

theorem Rel.crash {A B : Lg} (hl : B = A) : Rel ⟨crashV A, fun _ => none⟩ ⟨crashV B, fun _ => none⟩ := by
  subst hl
  exact ⟨rfl, crashV_sound _, rfl, fun s _ D hD => by cases hD⟩

theorem commit_both {H G : Ht} (h : Rel H G) (hH : H.v.Ok) (hTH : H.v.tab.Ok) (hTG : G.v.tab.Ok) {n : Nat} {D : Ded} (hD : D.Ok) :
    (commitV H.v D).1.2 ≠ 12 ∧ (commitV G.v D).1 = (commitV H.v D).1 ∧ Rel ⟨(commitV H.v D).2, upd H.seats n none⟩ ⟨(commitV G.v D).2, upd G.seats n none⟩ := by
  have hm := mayD_suf h.suf D
  have hck := writesD_ck hD
  unfold commitV
  rw [hm, h.log]
  by_cases h1 : mayD D H.v.tab ≠ 0
  · rw [if_pos h1, if_pos h1]
    exact ⟨mayD_no12 _ _, rfl, h.drop n⟩
  · rw [if_neg h1, if_neg h1]
    by_cases h2 : writesD D = []
    · rw [if_pos h2, if_pos h2]
      exact ⟨by simp, rfl, h.drop n⟩
    · rw [if_neg h2, if_neg h2]
      by_cases h3 : (putG H.v.log (writesD D)).1 ≠ 0
      · rw [if_pos h3, if_pos h3]
        exact ⟨putG_no12 hck, rfl, h.drop n⟩
      · rw [if_neg h3, if_neg h3]
        have h3' : (putG H.v.log (writesD D)).1 = 0 := by simpa using h3
        obtain ⟨z1, z2, z3⟩ := putG_zero h3'
        have hl : H.v.tab.last < 40 := by rw [hH.2.2]; exact z2
        have w1 := (write_fine z1 hl).1
        have w2 := (write_fine z1 (T := G.v.tab) (by rw [← h.suf.1]; exact hl)).1
        refine ⟨by rw [w1]; simp, by rw [w1, w2, h.suf.1], ⟨rfl, h.suf.write hTH hTG z1 hl, by rw [h.seats], fun s hs E hE => ?_⟩⟩
        by_cases e : s = n
        · subst e; simp only [upd_same] at hE; cases hE
        · simp only [upd_other _ _ e] at hE
          obtain ⟨b1, b2⟩ := h.beg s hs E hE
          refine ⟨fun j hj => ?_, ?_⟩
          · show firstN ((writeT H.v.tab (writesD D)).2.l j) ≤ E.beg
            rw [write_first hTH]; exact b1 j hj
          · show E.beg ≤ ((writeT H.v.tab (writesD D)).2.last : Int)
            rw [(write_fine z1 hl).2]; omega

theorem tear_both {H G : Ht} (h : Rel H G) {D : Ded} (hD : D.Ok) (keep : Int) :
    (tearV H.v D keep).1.2 ≠ 12 ∧ tearV G.v D keep = tearV H.v D keep := by
  have ht : tornV G.v D keep = tornV H.v D keep := by unfold tornV; rw [mayD_suf h.suf D, h.log]
  refine ⟨?_, ?_⟩
  · show (tornV H.v D keep).1 ≠ 12
    unfold tornV
    split
    · unfold tearG
      split
      · exact putG_no12 (writesD_ck hD)
      · split <;> simp
    · exact mayD_no12 _ _
  · unfold tearV; rw [ht, h.suf.1]

theorem begin_both {H G : Ht} (h : Rel H G) (hTG : G.v.tab.Ok) (x : St) {n : Nat} (hn : n < 5) (hx : x.s.toNat = n) : Both H G (beginH H x) (beginH G x) := by
  unfold beginH
  rw [h.seats]
  by_cases hb : (H.seats x.s.toNat).isSome
  · rw [if_pos hb, if_pos hb]
    exact Both.no (by simp [Evt.of]) ⟨rfl, h⟩
  · rw [if_neg hb, if_neg hb, hx]
    unfold beginV
    rw [← h.suf.1]
    by_cases h1 : x.mode < 1 ∨ 3 < x.mode
    · rw [if_pos h1, if_pos h1]
      exact Both.no (by simp [Evt.of]) ⟨rfl, h⟩
    · rw [if_neg h1, if_neg h1]
      generalize (if x.mode = 3 then x.at_ else (H.v.tab.last : Int)) = b
      by_cases h2 : b < 0 ∨ (H.v.tab.last : Int) < b
      · rw [if_pos h2, if_pos h2]
        exact Both.no (by simp [Evt.of]) ⟨rfl, h⟩
      · rw [if_neg h2, if_neg h2]
        by_cases h3 : b < firstT H.v.tab
        · rw [if_pos h3]
          exact ⟨fun _ => h, fun e => absurd rfl e⟩
        · have hf := h.suf.first hTG
          rw [if_neg h3, if_neg (by omega)]
          refine Both.no (by simp [Evt.of]) ⟨rfl, ⟨h.log, h.suf, rfl, fun s hs E hE => ?_⟩⟩
          by_cases e : s = n
          · subst e
            simp only [upd_same, Option.some.injEq] at hE
            subst hE
            refine ⟨fun j hj => ?_, ?_⟩
            · have := firstT_ge (T := H.v.tab) hj
              show firstN (H.v.tab.l j) ≤ b
              omega
            · show b ≤ (H.v.tab.last : Int); omega
          · simp only [upd_other _ _ e] at hE
            exact h.beg s hs E hE

theorem doH_both {H G : Ht} (h : Rel H G) (hH : H.v.Ok) (hTH : H.v.tab.Ok) (hTG : G.v.tab.Ok) (hDs : ∀ s, s < 5 → ∀ D, H.seats s = some D → D.Ok) (x : St) (h8 : x.kind ≠ 8) : Both H G (doH H x) (doH G x) := by
  unfold doH
  by_cases h1 : x.kind < 1 ∨ 10 < x.kind
  · rw [if_pos h1, if_pos h1]; exact Both.no (by simp [Evt.of]) ⟨rfl, h⟩
  rw [if_neg h1, if_neg h1, if_neg h8, if_neg h8]
  by_cases h9 : x.kind = 9
  · rw [if_pos h9, if_pos h9]; exact Both.no (by simp [Evt.of]) ⟨rfl, Rel.crash h.log⟩
  rw [if_neg h9, if_neg h9]
  by_cases hse : isSeatB x.s = false
  · rw [if_pos hse, if_pos hse]; exact Both.no (by simp [Evt.of]) ⟨rfl, h⟩
  rw [if_neg hse, if_neg hse]
  obtain ⟨n, hn, hxn⟩ := seat_nat (s := x.s) (by simpa using hse)
  have hxt : x.s.toNat = n := by rw [hxn]; rfl
  by_cases hk1 : x.kind = 1
  · rw [if_pos hk1, if_pos hk1]; exact begin_both h hTG x hn hxt
  rw [if_neg hk1, if_neg hk1, h.seats, hxt]
  unfold deedO
  cases hd : H.seats n with
  | none => exact Both.no (by simp [Evt.of]) ⟨rfl, h⟩
  | some D =>
    obtain ⟨hbeg, -⟩ := h.beg n hn D hd
    have hDok := hDs n hn D hd
    simp only
    unfold deedH
    rw [hxt]
    by_cases k2 : x.kind = 2
    · rw [if_pos k2, if_pos k2, getD_suf h.suf hTG hbeg]
      exact Both.no (getD_no12 hbeg _) ⟨rfl, h.withDeed hn hd (getD_same D _ _).2.1⟩
    rw [if_neg k2, if_neg k2]
    by_cases k3 : x.kind = 3
    · rw [if_pos k3, if_pos k3]
      exact Both.no (putD_no12 _ _ _) ⟨rfl, h.withDeed hn hd (putD_beg _ _ _)⟩
    rw [if_neg k3, if_neg k3]
    by_cases k4 : x.kind = 4
    · rw [if_pos k4, if_pos k4]
      exact Both.no (putD_no12 _ _ _) ⟨rfl, h.withDeed hn hd (putD_beg _ _ _)⟩
    rw [if_neg k4, if_neg k4]
    by_cases k5 : x.kind = 5
    · obtain ⟨e1, e2, e3⟩ := listD_suf h.suf hTG hbeg x.key x.to_
      rw [if_pos k5, if_pos k5, e1]
      exact Both.no e2 ⟨rfl, h.withDeed hn hd e3⟩
    rw [if_neg k5, if_neg k5]
    by_cases k6 : x.kind = 6
    · obtain ⟨e1, e2, e3⟩ := commit_both h hH hTH hTG (n := n) hDok
      rw [if_pos k6, if_pos k6]
      exact Both.no e1 ⟨by rw [e2], e3⟩
    rw [if_neg k6, if_neg k6]
    by_cases k10 : x.kind = 10
    · obtain ⟨e1, e2⟩ := tear_both h hDok x.keep
      rw [if_pos k10, if_pos k10, e2]
      exact Both.no e1 ⟨rfl, Rel.crash rfl⟩
    rw [if_neg k10, if_neg k10]
    exact Both.no (by simp [Evt.of]) ⟨rfl, h.drop n⟩

end Go.Proofs.YtoiobhcgpajogabGreatDoor

/- Two halls in one memory; SameEvent. -/
namespace Go.Proofs.YtoiobhcgpajogabGreatDoor
open Go.RowKit

theorem RowB.recolor2 {w : World} {g g' : Nat → Nat} {p p' : Nat} {a : Option Addr} {cap : Nat} {l : List UInt8} (h : RowB w g p a cap l) (hg : ∀ k, g k = p → g' k = p') : RowB w g' p' a cap l := by
  obtain ⟨h1, h2, h3, h4, h5⟩ := h
  exact ⟨h1, h2, h3, fun ad e => ⟨(h4 ad e).1, (h4 ad e).2.1, hg _ (h4 ad e).2.2.1, (h4 ad e).2.2.2⟩, h5⟩

theorem LogAt.recolor2 {w : World} {g g' : Nat → Nat} {p p' b : Nat} {G : Lg} (h : LogAt w g p b G) (hg : ∀ k, g k = p → g' k = p') : LogAt w g' p' b G := by
  obtain ⟨a, cap, h1, h2, h3⟩ := h
  exact ⟨a, cap, ⟨h1.1, hg _ h1.2⟩, h2.recolor2 hg, h3⟩

section
variable {g g' : Nat → Nat} {w : World} {p : Nat}
theorem VaultAt.recolor {v : Nat} {V : Vt} (h : VaultAt w g p v V) (hg : ∀ k, p ≤ g k → g k < p + 11 → g' k = g k) : VaultAt w g' p v V := by
  obtain ⟨t, b, h0, h1, h2, h3⟩ := h
  exact ⟨t, b, h0, ⟨h1.1, (hg _ (by rw [h1.2]; omega) (by rw [h1.2]; omega)).trans h1.2⟩, h2.recolor (fun k j hj e => (hg k (by omega) (by omega)).trans e), h3.recolor2 (fun k e => (hg k (by omega) (by omega)).trans e)⟩

theorem HallAt.recolor {h : Nat} {H : Ht} (k : HallAt w g p h H) (hg : ∀ k, p ≤ g k → g k < p + 17 → g' k = g k) : HallAt w g' p h H := by
  obtain ⟨vp, ds, k⟩ := k
  refine ⟨vp, ds, ⟨⟨k.loc.1, (hg _ (by rw [k.loc.2]; omega) (by rw [k.loc.2]; omega)).trans k.loc.2⟩, k.vault.recolor (fun j h1 h2 => hg j (by omega) (by omega)), fun s hs D hD => ?_⟩⟩
  have d := k.deed s hs D hD
  exact ⟨d.1, d.2.1, (hg _ (by rw [d.2.2]; omega) (by rw [d.2.2]; omega)).trans d.2.2⟩
end

end Go.Proofs.YtoiobhcgpajogabGreatDoor

/- What a deed sees is of one time: plain laws. -/
namespace Go.Proofs.YtoiobhcgpajogabGreatDoor
open Go.RowKit

/-- All of what a hall wrote. -/
def fullH (H : Ht) : Tab := writeAll Tab.new H.v.log.l

/-- What a deed sees. -/
def viewF (D : Ded) (F : Tab) (k : Nat) : Val := match D.wrote k with | some v => v | none => (readT F k D.beg).1

/-- Each deed began behind a commit of which all is known. -/
def BegsH (H : Ht) : Prop := ∀ s, s < 5 → ∀ D, H.seats s = some D → (∀ j : Nat, j < 8 → firstN (H.v.tab.l j) ≤ D.beg) ∧ D.beg ≤ (H.v.tab.last : Int)

theorem BegsH.start : BegsH Ht.new := fun s _ D hD => by cases hD

theorem BegsH.rel {H : Ht} (h : BegsH H) (hS : H.v.Sound) : Rel H ⟨⟨fullH H, H.v.log⟩, H.seats⟩ := ⟨rfl, hS, rfl, h⟩

theorem doH_begs {H : Ht} (hH : H.v.Ok) (hT : H.v.tab.Ok) (hS : H.v.Sound) (hB : BegsH H) (hDs : ∀ s, s < 5 → ∀ D, H.seats s = some D → D.Ok) (x : St) : BegsH (doH H x).2 := by
  have hR := hB.rel hS
  by_cases h8 : x.kind = 8
  · unfold doH
    rw [if_neg (by omega), if_pos h8]
    exact (hR.clear hT).beg
  · have hb := doH_both hR hH hT (writeAll_ok Tab.new_ok H.v.log.l) hDs x h8
    by_cases hc : (doH H x).1.code = 12
    · exact (hb.old hc).beg
    · exact (hb.same hc).2.beg

/-- What stood in each seat. -/
inductive SeatC (H : Ht) (x : St) (y : Evt × Ht) (s : Nat) (D' : Ded) : Prop
  | old (D : Ded) (hD : H.seats s = some D) (hb : D'.beg = D.beg) (hw : D'.wrote = D.wrote)
  | new (hk : x.kind = 1) (hs : x.s = s) (hc : y.1.code = 0)
  | put (hk : x.kind = 3 ∨ x.kind = 4) (hs : x.s = s) (hc : y.1.code = 0)

/-- What a step does to what is seen. -/
structure ShotC (H : Ht) (x : St) (y : Evt × Ht) : Prop where
  full : fullH y.2 = fullH H ∨ ∃ w, fullH y.2 = (writeT (fullH H) w).2
  seat : ∀ s, s < 5 → ∀ D', y.2.seats s = some D' → SeatC H x y s D'

theorem ShotC.old {H : Ht} {x : St} {y : Evt × Ht} (h1 : y.2.v.log.l = H.v.log.l) (h2 : ∀ s D', y.2.seats s = some D' → H.seats s = some D') : ShotC H x y :=
  ⟨.inl (by unfold fullH; rw [h1]), fun s _ D' hD => .old D' (h2 s D' hD) rfl rfl⟩

theorem ShotC.one {H : Ht} {x : St} {y : Evt × Ht} {n : Nat} {D D' : Ded} (h1 : y.2.v = H.v) (hD : H.seats n = some D) (h2 : y.2.seats = upd H.seats n (some D')) (h3 : SeatC H x y n D') : ShotC H x y :=
  ⟨.inl (by unfold fullH; rw [h1]), fun s _ E hE => by
    rw [h2] at hE
    by_cases e : s = n
    · subst e
      simp only [upd_same, Option.some.injEq] at hE
      subst hE; exact h3
    · simp only [upd_other _ _ e] at hE
      exact .old E hE rfl rfl⟩

/-- What all seats see. -/
def ShotH (H : Ht) (W : Nat → Nat → Val) : Prop := ∀ s, s < 5 → ∀ D, H.seats s = some D → ∀ k, k < 8 → W s k = viewF D (fullH H) k

theorem ShotH.start (W : Nat → Nat → Val) : ShotH Ht.new W := fun s _ D hD => by cases hD

theorem ShotC.read {H : Ht} {x : St} {y : Evt × Ht} (h : ShotC H x y) (hS : H.v.Sound) {a : Int} (ha : a ≤ (H.v.tab.last : Int)) (k : Int) : readT (fullH y.2) k a = readT (fullH H) k a := by
  rcases h.full with e | ⟨w, e⟩
  · rw [e]
  · rw [e]
    exact read_later (writeAll_ok Tab.new_ok H.v.log.l) w k (by have := hS.1; show a ≤ ((writeAll Tab.new H.v.log.l).last : Int); omega)

theorem ShotC.view {H : Ht} {x : St} {y : Evt × Ht} (h : ShotC H x y) (hS : H.v.Sound) (hB : BegsH H) {s : Nat} (hs : s < 5) {D D' : Ded} (hD : H.seats s = some D) (hb : D'.beg = D.beg) (hw : D'.wrote = D.wrote) (k : Nat) : viewF D' (fullH y.2) k = viewF D (fullH H) k := by
  unfold viewF
  rw [hw, hb, h.read hS (hB s hs D hD).2]

/-- A step that is no beginning and no writing. -/
theorem ShotH.keep {H : Ht} {W : Nat → Nat → Val} (h : ShotH H W) (hS : H.v.Sound) (hB : BegsH H) {x : St} {y : Evt × Ht} (hy : ShotC H x y) (hk : y.1.code ≠ 0 ∨ (x.kind ≠ 1 ∧ x.kind ≠ 3 ∧ x.kind ≠ 4)) : ShotH y.2 W := by
  intro s hs D' hD' k hk8
  cases hy.seat s hs D' hD' with
  | old D hD hb hw => rw [hy.view hS hB hs hD hb hw]; exact h s hs D hD k hk8
  | new hk1 _ hc => rcases hk with h | h; exact absurd hc h; exact absurd hk1 h.1
  | put hk1 _ hc => rcases hk with h | h; exact absurd hc h; rcases hk1 with h1 | h1; exact absurd h1 h.2.1; exact absurd h1 h.2.2

/-- A step of one seat: the others see what they saw. -/
theorem ShotH.one {H : Ht} {W : Nat → Nat → Val} (h : ShotH H W) (hS : H.v.Sound) (hB : BegsH H) {x : St} {y : Evt × Ht} (hy : ShotC H x y) {n : Nat} (hx : x.s = n) {f : Nat → Val} (hf : ∀ D', y.2.seats n = some D' → ∀ k, k < 8 → f k = viewF D' (fullH y.2) k) : ShotH y.2 (upd W n f) := by
  intro s hs D' hD' k hk8
  by_cases e : s = n
  · subst e; rw [upd_same]; exact hf D' hD' k hk8
  · rw [upd_other _ _ e]
    cases hy.seat s hs D' hD' with
    | old D hD hb hw => rw [hy.view hS hB hs hD hb hw]; exact h s hs D hD k hk8
    | new _ h2 _ => exact absurd (by omega) e
    | put _ h2 _ => exact absurd (by omega) e

end Go.Proofs.YtoiobhcgpajogabGreatDoor
