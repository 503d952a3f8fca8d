/- A hall, plain laws: what a table forgot, and its log. -/
import Derived.Test.YtoiobhcgpajogadHall5
namespace Go.Proofs.Ytoiobhcgpajogad
open Go.RowKit

/-- T is F, but for what is forgotten. -/
def Suf (T F : Tab) : Prop := T.last = F.last ∧ ∀ k, ∃ n, n < (F.l k).length ∧ T.l k = (F.l k).drop n

theorem Suf.refl {F : Tab} (h : F.Ok) : Suf F F := ⟨rfl, fun k => ⟨0, List.length_pos_iff.2 (h.1 k).1.1, rfl⟩⟩

theorem drop_last {l : List Ent} {n : Nat} (h : n < l.length) : (l.drop n).getLastD default = l.getLastD default := by
  have h1 : l.drop n ≠ [] := by intro e; have := congrArg List.length e; simp at this; omega
  have h2 : l ≠ [] := by intro e; subst e; simp at h
  rw [List.getLastD_eq_getLast?, List.getLastD_eq_getLast?, List.getLast?_drop, if_neg (by omega)]

theorem Suf.lastN {T F : Tab} (h : Suf T F) (k : Nat) : Go.Proofs.Ytoiobhcgpajogad.lastN (T.l k) = Go.Proofs.Ytoiobhcgpajogad.lastN (F.l k) := by
  obtain ⟨n, hn, e⟩ := h.2 k
  unfold Go.Proofs.Ytoiobhcgpajogad.lastN
  rw [e, drop_last hn]

theorem Suf.lastV {T F : Tab} (h : Suf T F) (k : Nat) : Go.Proofs.Ytoiobhcgpajogad.lastV (T.l k) = Go.Proofs.Ytoiobhcgpajogad.lastV (F.l k) := by
  obtain ⟨n, hn, e⟩ := h.2 k
  unfold Go.Proofs.Ytoiobhcgpajogad.lastV
  rw [e, drop_last hn]

theorem Suf.clear {T F : Tab} (h : Suf T F) (hT : T.Ok) (least : Int) : Suf (clearT T least).2 F := by
  refine ⟨(clearT_last T least).trans h.1, fun k => ?_⟩
  obtain ⟨n, hn, e⟩ := h.2 k
  by_cases hk : k < 8
  · have hl := clearK_lt least (T.l k) (hT.1 k).1.1
    refine ⟨n + clearK least (T.l k), ?_, ?_⟩
    · have : (T.l k).length = (F.l k).length - n := by rw [e, List.length_drop]
      omega
    · rw [clearT_l T least hk]
      conv => lhs; rw [e]
      rw [List.drop_drop, ← e]
  · refine ⟨n, hn, ?_⟩
    show (clearGo least T (List.range 8)).2.l k = _
    rw [clearGo_l least T (List.range 8) List.nodup_range k, if_neg (by simpa using hk)]
    exact e

theorem puts_suf {n : Int} {w : List Ent} (h : ∀ x ∈ w, 0 ≤ x.n ∧ ckV x.v = 0) (hp : w.Pairwise (fun x y => x.n < y.n)) : ∀ (l f : Nat → List Ent), (∀ k, ∃ m, m < (f k).length ∧ l k = (f k).drop m) → (∀ x ∈ w, Go.Proofs.Ytoiobhcgpajogad.lastN (l x.n.toNat) < n) → (∀ x ∈ w, Go.Proofs.Ytoiobhcgpajogad.lastN (f x.n.toNat) < n) →
    ∀ k, ∃ m, m < (putsT n f w k).length ∧ putsT n l w k = (putsT n f w k).drop m := by
  induction w with
  | nil => intro l f hs _ _ k; exact hs k
  | cons x w ih =>
    intro l f hs hl hf k
    rw [List.pairwise_cons] at hp
    have hx := h x (List.mem_cons_self ..)
    have e1 : ∀ l, putsT n l (x :: w) = putsT n (upd l x.n.toNat (putC (l x.n.toNat) n x.v).2) w := fun _ => rfl
    rw [e1, e1, putC_new hx.2 (hl x (List.mem_cons_self ..)), putC_new hx.2 (hf x (List.mem_cons_self ..))]
    refine ih (fun y hy => h y (List.mem_cons_of_mem _ hy)) hp.2 _ _ ?_ ?_ ?_ k
    · intro j
      by_cases e : j = x.n.toNat
      · subst e
        obtain ⟨m, hm, em⟩ := hs x.n.toNat
        refine ⟨m, ?_, ?_⟩
        · rw [upd_same, List.length_append]; omega
        · rw [upd_same, upd_same, em, List.drop_append_of_le_length (by omega)]
      · rw [upd_other _ _ e, upd_other _ _ e]; exact hs j
    · intro y hy
      have hxy := hp.1 y hy
      have hy0 := h y (List.mem_cons_of_mem _ hy)
      rw [upd_other _ _ (by omega)]
      exact hl y (List.mem_cons_of_mem _ hy)
    · intro y hy
      have hxy := hp.1 y hy
      have hy0 := h y (List.mem_cons_of_mem _ hy)
      rw [upd_other _ _ (by omega)]
      exact hf y (List.mem_cons_of_mem _ hy)

theorem Suf.write {T F : Tab} (h : Suf T F) (hT : T.Ok) (hF : F.Ok) {w : List Ent} (hc : ckPs (-1) w = 0) (hl : T.last < 40) : Suf (writeT T w).2 (writeT F w).2 := by
  have c1 : (writeT T w).1.2 = 0 := by rw [(write_fine hc hl).1]
  have c2 : (writeT F w).1.2 = 0 := by rw [(write_fine hc (by rw [← h.1]; exact hl)).1]
  rw [(write_good c1).2.2, (write_good c2).2.2, h.1]
  have hr := ckPs_rise hc
  refine ⟨rfl, puts_suf (fun x hx => ⟨(hr.1 x hx).1, (hr.1 x hx).2.2.2⟩) hr.2 _ _ h.2 (fun x hx => ?_) (fun x hx => ?_)⟩
  · have := (hT.1 x.n.toNat).2; rw [h.1] at this; show Go.Proofs.Ytoiobhcgpajogad.lastN (T.l x.n.toNat) < _; omega
  · have := (hF.1 x.n.toNat).2; show Go.Proofs.Ytoiobhcgpajogad.lastN (F.l x.n.toNat) < _; omega

theorem Suf.top {T F : Tab} (h : Suf T F) (hT : T.Ok) (hF : F.Ok) (k : Nat) (hk : k < 8) : readT T k T.last = readT F k F.last := by
  rw [readT_top hT hk, readT_top hF hk, h.lastV k]

theorem Suf.sheet {T F : Tab} (h : Suf T F) (hT : T.Ok) (hF : F.Ok) : sheetT T T.last = sheetT F F.last := (sheetT_congr (fun k hk => h.top hT hF k hk)).2

/-- All begins at 0. -/
def AtZero (T : Tab) : Prop := ∀ k, firstN (T.l k) = 0

theorem AtZero.first {T : Tab} (h : AtZero T) : firstT T = 0 := by
  have : ∀ k, firstGo T k = 0 := by
    intro k
    induction k with
    | zero => rfl
    | succ k ih => rw [firstGo, h k, ih]; rfl
  exact this 8

theorem putC_first {l : List Ent} {n : Int} {v : Val} (hl : l ≠ []) (h : firstN l = 0) (hn : Go.Proofs.Ytoiobhcgpajogad.lastN l < n) (hv : ckV v = 0) : firstN (putC l n v).2 = 0 := by
  rw [putC_new hv hn]
  cases l with
  | nil => exact absurd rfl hl
  | cons x l => exact h

theorem puts_zero {n : Int} {w : List Ent} (h : ∀ x ∈ w, 0 ≤ x.n ∧ ckV x.v = 0) (hp : w.Pairwise (fun x y => x.n < y.n)) : ∀ (l : Nat → List Ent), (∀ k, l k ≠ [] ∧ firstN (l k) = 0) → (∀ x ∈ w, Go.Proofs.Ytoiobhcgpajogad.lastN (l x.n.toNat) < n) → ∀ k, firstN (putsT n l w k) = 0 := by
  induction w with
  | nil => intro l hs _ k; exact (hs k).2
  | cons x w ih =>
    intro l hs hl k
    rw [List.pairwise_cons] at hp
    have hx := h x (List.mem_cons_self ..)
    have e1 : putsT n l (x :: w) = putsT n (upd l x.n.toNat (putC (l x.n.toNat) n x.v).2) w := rfl
    rw [e1]
    refine ih (fun y hy => h y (List.mem_cons_of_mem _ hy)) hp.2 _ ?_ ?_ k
    · intro j
      by_cases e : j = x.n.toNat
      · subst e
        rw [upd_same]
        refine ⟨?_, putC_first (hs _).1 (hs _).2 (hl x (List.mem_cons_self ..)) hx.2⟩
        rw [putC_new hx.2 (hl x (List.mem_cons_self ..))]; simp
      · rw [upd_other _ _ e]; exact hs j
    · intro y hy
      have hxy := hp.1 y hy
      have hy0 := h y (List.mem_cons_of_mem _ hy)
      rw [upd_other _ _ (by omega)]
      exact hl y (List.mem_cons_of_mem _ hy)

theorem AtZero.write {T : Tab} (h : AtZero T) (hT : T.Ok) (w : List Ent) : AtZero (writeT T w).2 := by
  by_cases hc : (writeT T w).1.2 = 0
  · obtain ⟨g1, g2, g3⟩ := write_good hc
    rw [g3]
    have hr := ckPs_rise g1
    exact puts_zero (fun x hx => ⟨(hr.1 x hx).1, (hr.1 x hx).2.2.2⟩) hr.2 _ (fun k => ⟨(hT.1 k).1.1, h k⟩) (fun x _ => by have := (hT.1 x.n.toNat).2; omega)
  · rw [(write_bad hc).1]; exact h

theorem AtZero.all (L : List (List Ent)) : AtZero (writeAll Tab.new L) := by
  have : ∀ (L : List (List Ent)) (T : Tab), T.Ok → AtZero T → AtZero (writeAll T L) := by
    intro L
    induction L with
    | nil => intro T _ h; exact h
    | cons w L ih => intro T hT h; exact ih _ (write_ok hT w) (h.write hT w)
  exact this L Tab.new Tab.new_ok (fun _ => rfl)

/-- A vault's table is its log's, but for what is forgotten. -/
def Vt.Sound (V : Vt) : Prop := Suf V.tab (writeAll Tab.new V.log.l)

theorem Vt.new_sound : Vt.new.Sound := Suf.refl Tab.new_ok

theorem crashV_sound (G : Lg) : (crashV G).Sound := Suf.refl (writeAll_ok Tab.new_ok G.l)

theorem commitV_sound {V : Vt} (h : V.Ok) (hT : V.tab.Ok) (hs : V.Sound) (D : Ded) : (commitV V D).2.Sound := by
  unfold commitV
  split
  · exact hs
  · split
    · exact hs
    · split
      · exact hs
      · rename_i h1 h2 h3
        have h3' : (putG V.log (writesD D)).1 = 0 := by simpa using h3
        obtain ⟨z1, z2, z3⟩ := putG_zero h3'
        show Suf (writeT V.tab (writesD D)).2 (writeAll Tab.new (putG V.log (writesD D)).2.l)
        rw [z3, writeAll_snoc]
        exact hs.write hT (writeAll_ok Tab.new_ok _) z1 (by rw [h.2.2]; exact z2)

theorem beginH_v (H : Ht) (x : St) : (beginH H x).2.v = H.v := by
  unfold beginH
  split
  · rfl
  · split <;> rfl

theorem deedH_sound {H : Ht} (h : H.v.Ok) (hT : H.v.tab.Ok) (hs : H.v.Sound) (x : St) (D : Ded) : (deedH H x D).2.v.Sound := by
  unfold deedH
  split
  · exact hs
  · split
    · exact hs
    · split
      · exact hs
      · split
        · exact hs
        · split
          · exact commitV_sound h hT hs D
          · split
            · exact crashV_sound _
            · exact hs

theorem doH_sound {H : Ht} (h : H.v.Ok) (hT : H.v.tab.Ok) (hs : H.v.Sound) (x : St) : (doH H x).2.v.Sound := by
  unfold doH
  split
  · exact hs
  · split
    · exact hs.clear hT _
    · split
      · exact crashV_sound _
      · split
        · exact hs
        · split
          · rw [beginH_v]; exact hs
          · unfold deedO
            split
            · exact hs
            · exact deedH_sound h hT hs x _

theorem HallAt.ok {w : World} {g : Nat → Nat} {p h : Nat} {H : Ht} (k : HallAt w g p h H) : H.v.Ok ∧ H.v.tab.Ok := by
  obtain ⟨vp, ds, k⟩ := k
  obtain ⟨t, b, hv⟩ := k.vault
  exact ⟨hv.1, hv.2.2.1.1⟩

end Go.Proofs.Ytoiobhcgpajogad
