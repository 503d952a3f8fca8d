/- One seat alone: plain laws. -/
import Derived.Test.YtoiobhcgpajogacHallP
namespace Go.Proofs.Ytoiobhcgpajogac
open Go.RowKit

theorem since_le' {T : Tab} (hT : T.Ok) (k : Int) : sinceT T k ≤ T.last := by
  unfold sinceT
  split
  · omega
  · exact (hT.1 _).2

theorem may_fresh' {D : Ded} {T : Tab} (hT : T.Ok) (hb : D.beg = T.last) : mayD D T = 0 := by
  have h : ∀ k, decide (D.beg < sinceT T k) = false := fun k => by have := since_le' hT k; simp; omega
  have h1 : clashD D T = false := by unfold clashD; simp only [h]; simp
  have h2 : staleD D T = false := by unfold staleD; simp only [h]; simp
  unfold mayD
  rw [if_neg (by rw [h1]; simp), if_neg (by rw [h2]; simp)]

theorem firstT_le {T : Tab} (hT : T.Ok) : firstT T ≤ T.last := by
  have : ∀ k, firstGo T k ≤ T.last := by
    intro k
    induction k with
    | zero => exact Int.natCast_nonneg _
    | succ k ih =>
      have e1 : firstGo T (k + 1) = if firstGo T k < firstN (T.l k) then firstN (T.l k) else firstGo T k := rfl
      rw [e1]
      split
      · exact Int.le_trans (firstN_le_lastN (hT.1 k).1) (hT.1 k).2
      · exact ih
  exact this 8

theorem sheet_write' {T : Tab} (h : T.Ok) {w : List Ent} (hw : (writeT T w).1.2 = 0) : sheetT (writeT T w).2 ((T.last : Int) + 1) = applyW (sheetT T T.last) w := by
  obtain ⟨h1, h2, h3⟩ := write_good hw
  have hok := write_ok h w
  have hl : (writeT T w).2.last = T.last + 1 := by rw [h3]
  have hc := codesT_top hok
  rw [hl] at hc
  have hc' : codesT (writeT T w).2 ((T.last : Int) + 1) 8 = true := by simpa using hc
  have hc0 := codesT_top h
  obtain ⟨r1, -⟩ := ckPs_rise h1
  have key : ∀ (w : List Ent) (f g : Nat → Val), (∀ j, j < 8 → f j = g j) → ∀ j, j < 8 → applyW f w j = applyW g w j := by
    intro w
    induction w with
    | nil => intro f g h j hj; exact h j hj
    | cons x w ih =>
      intro f g h j hj
      refine ih (upd f x.n.toNat x.v) (upd g x.n.toNat x.v) (fun i hi => ?_) j hj
      unfold upd
      split
      · rfl
      · exact h i hi
  have out : ∀ (w : List Ent), (∀ x ∈ w, 0 ≤ x.n ∧ x.n < 8) → ∀ (f : Nat → Val) (j : Nat), 8 ≤ j → applyW f w j = f j := by
    intro w
    induction w with
    | nil => intro _ f j hj; rfl
    | cons x w ih =>
      intro hx f j hj
      have h0 := hx x (List.mem_cons_self ..)
      have := ih (fun y hy => hx y (List.mem_cons_of_mem _ hy)) (upd f x.n.toNat x.v) j hj
      refine this.trans ?_
      rw [upd_other _ _ (by omega)]
  funext k
  by_cases hk : k < 8
  · have e1 := sheetT_at hc' hk
    have e2 := read_write h hw hk
    have e3 : (sheetT (writeT T w).2 ((T.last : Int) + 1) k, (0 : Int)) = (applyW (fun k => (readT T k T.last).1) w k, 0) := e1.symm.trans e2
    rw [(Prod.mk.inj e3).1]
    exact key w _ _ (fun j hj => by rw [sheetT_at hc0 hj]) k hk
  · rw [out w (fun x hx => ⟨(r1 x hx).1, (r1 x hx).2.1⟩) _ k (by omega)]
    unfold sheetT
    rw [if_neg (by omega), if_neg (by omega)]

/-- The steps of one seat alone. -/
def sBegin (m : Int) : St := ⟨1, 0, m, 0, 0, 0, 0, ⟨#[]⟩⟩
def sCommit : St := ⟨6, 0, 0, 0, 0, 0, 0, ⟨#[]⟩⟩
def sOf (x : St) : St := ⟨x.kind, 0, x.mode, x.at_, x.key, x.to_, x.keep, x.bytes⟩

theorem alone_begin {H : Ht} (hT : H.v.tab.Ok) (hs : H.seats 0 = none) {m : Int} (hm : m = 1 ∨ m = 2) : doH H (sBegin m) = (Evt.of 0 0, ⟨H.v, upd H.seats 0 (some (Ded.new m H.v.tab.last))⟩) := by
  have h1 := firstT_le hT
  have h2 : beginV H.v.tab m 0 = (some (Ded.new m H.v.tab.last), 0) := by
    unfold beginV
    rw [if_neg (by omega), if_neg (by omega), if_neg (by omega), if_neg (by omega)]
  unfold doH sBegin
  simp only
  rw [if_neg (by decide), if_neg (by decide), if_neg (by decide), if_neg (by decide), if_pos True.intro]
  unfold beginH
  simp only [h2]
  rw [if_neg (by rw [show Int.toNat 0 = 0 from rfl, hs]; decide)]
  rfl

theorem alone_put {H : Ht} {D : Ded} (hs : H.seats 0 = some D) {x : St} (h3 : x.kind = 3) : doH H (sOf x) = (Evt.of (putD D x.key ⟨true, x.bytes⟩).1 0, ⟨H.v, upd H.seats 0 (some (putD D x.key ⟨true, x.bytes⟩).2)⟩) := by
  unfold doH sOf
  simp only [h3]
  rw [if_neg (by decide), if_neg (by decide), if_neg (by decide), if_neg (by decide), if_neg (by decide)]
  unfold deedO
  rw [show Int.toNat 0 = 0 from rfl, hs]
  rfl

theorem alone_drop {H : Ht} {D : Ded} (hs : H.seats 0 = some D) {x : St} (h3 : x.kind = 4) : doH H (sOf x) = (Evt.of (putD D x.key Val.zero).1 0, ⟨H.v, upd H.seats 0 (some (putD D x.key Val.zero).2)⟩) := by
  unfold doH sOf
  simp only [h3]
  rw [if_neg (by decide), if_neg (by decide), if_neg (by decide), if_neg (by decide), if_neg (by decide)]
  unfold deedO
  rw [show Int.toNat 0 = 0 from rfl, hs]
  rfl

theorem alone_commit {H : Ht} {D : Ded} (hs : H.seats 0 = some D) : doH H sCommit = (Evt.of (commitV H.v D).1.2 (commitV H.v D).1.1, ⟨(commitV H.v D).2, upd H.seats 0 none⟩) := by
  unfold doH sCommit
  simp only
  rw [if_neg (by decide), if_neg (by decide), if_neg (by decide), if_neg (by decide), if_neg (by decide)]
  unfold deedO
  rw [show Int.toNat 0 = 0 from rfl, hs]
  rfl

theorem alone_clear {H : Ht} (hs : ∀ s, H.seats s = none) (hT : H.v.tab.Ok) {x : St} (h8 : x.kind = 8) : (doH H (sOf x)).2.seats = H.seats ∧ (doH H (sOf x)).2.v.tab.last = H.v.tab.last ∧ sheetT (doH H (sOf x)).2.v.tab (H.v.tab.last : Int) = sheetT H.v.tab H.v.tab.last := by
  have hl : ∀ n, leastGo H.v.tab H.seats n = H.v.tab.last := by
    intro n
    induction n with
    | zero => rfl
    | succ n ih => rw [leastGo, hs n]; exact ih
  have h : doH H (sOf x) = (Evt.of 0 ((clearT H.v.tab (leastH H)).1 : Int), ⟨⟨(clearT H.v.tab (leastH H)).2, H.v.log⟩, H.seats⟩) := by
    unfold doH
    rw [if_neg (by unfold sOf; simp only; omega), if_pos (show (sOf x).kind = 8 from h8)]
  rw [h]
  refine ⟨rfl, clearT_last _ _, ?_⟩
  show sheetT (clearT H.v.tab (leastH H)).2 _ = _
  rw [show leastH H = H.v.tab.last from hl 5]
  exact (sheetT_congr (fun k hk => read_clear hT k (Int.le_refl _))).2

/-- What comes of a deed that writes one key. -/
structure OneW (V : Vt) (m : Int) (k : Int) (v : Val) (c : Int) (y : (Int × Int) × Vt) : Prop where
  no : c ≠ 0 → y = ((0, 0), V)
  yes : c = 0 → ∃ n : Nat, n < 8 ∧ k = n ∧ (y.1.2 = 9 ∨ y.1 = ((V.tab.last : Int) + 1, 0) ∧ y.2.tab.last = V.tab.last + 1 ∧ sheetT y.2.tab ((V.tab.last : Int) + 1) = upd (sheetT V.tab V.tab.last) n v)

theorem oneW {V : Vt} (hV : V.Ok) (hT : V.tab.Ok) {m : Int} (hm : m = 1 ∨ m = 2) (k : Int) (v : Val) : OneW V m k v (putD (Ded.new m V.tab.last) k v).1 (commitV V (putD (Ded.new m V.tab.last) k v).2) := by
  have hbeg : ∀ D : Ded, D.beg = V.tab.last → mayD D V.tab = 0 := fun D h => may_fresh' hT h
  constructor
  · intro hc
    have e : (putD (Ded.new m V.tab.last) k v).2 = Ded.new m V.tab.last := by
      unfold putD at hc ⊢
      split
      · rfl
      · split
        · rfl
        · split
          · rfl
          · rename_i h1 h2 h3
            rw [if_neg h1, if_neg h2, if_neg h3] at hc
            exact absurd rfl hc
    rw [e]
    unfold commitV
    rw [if_neg (by rw [hbeg _ rfl]; simp), if_pos (by rfl)]
  · intro hc
    unfold putD at hc ⊢
    by_cases h1 : k < 0 ∨ 8 ≤ k
    · rw [if_pos h1] at hc; cases hc
    rw [if_neg h1] at hc ⊢
    have h2 : ¬(Ded.new m (V.tab.last : Int)).mode = 3 := by show ¬ m = 3; omega
    rw [if_neg h2] at hc ⊢
    by_cases h3 : ckV v ≠ 0
    · rw [if_pos h3] at hc; exact absurd hc h3
    rw [if_neg h3] at hc ⊢
    have hv : ckV v = 0 := by simpa using h3
    obtain ⟨n, rfl⟩ : ∃ n : Nat, k = n := ⟨k.toNat, by omega⟩
    have hn : n < 8 := by omega
    refine ⟨n, hn, rfl, ?_⟩
    have hw : writesD ⟨(Ded.new m (V.tab.last : Int)).mode, (Ded.new m (V.tab.last : Int)).beg, (Ded.new m (V.tab.last : Int)).read, upd (Ded.new m (V.tab.last : Int)).wrote (n : Int).toNat (some v)⟩ = [⟨(n : Int), v⟩] := by
      have h : n = 0 ∨ n = 1 ∨ n = 2 ∨ n = 3 ∨ n = 4 ∨ n = 5 ∨ n = 6 ∨ n = 7 := by omega
      rcases h with rfl | rfl | rfl | rfl | rfl | rfl | rfl | rfl <;> rfl
    have hck : ckPs (-1) [(⟨(n : Int), v⟩ : Ent)] = 0 := by
      rw [← hw]
      refine writesD_ck ⟨fun j u hj => ?_, fun h => absurd h h2⟩
      by_cases ej : j = (n : Int).toNat
      · rw [ej] at hj
        simp only [upd_same, Option.some.injEq] at hj
        rw [← hj]; exact hv
      · simp only [upd_other _ _ ej] at hj
        cases hj
    unfold commitV
    rw [if_neg (by rw [hbeg _ rfl]; simp), hw, if_neg (by simp)]
    by_cases h4 : (putG V.log [(⟨(n : Int), v⟩ : Ent)]).1 ≠ 0
    · rw [if_pos h4]
      left
      show (putG V.log [(⟨(n : Int), v⟩ : Ent)]).1 = 9
      unfold putG at h4 ⊢
      rw [if_neg (by rw [hck]; simp)] at h4 ⊢
      split
      · rfl
      · rename_i h5; rw [if_neg h5] at h4; exact absurd rfl h4
    · rw [if_neg h4]
      right
      obtain ⟨z1, z2, -⟩ := putG_zero (by simpa using h4)
      have hl : V.tab.last < 40 := by rw [hV.2.2]; exact z2
      obtain ⟨w1, w2⟩ := write_fine z1 hl
      refine ⟨w1, w2, ?_⟩
      show sheetT (writeT V.tab [(⟨(n : Int), v⟩ : Ent)]).2 _ = _
      rw [sheet_write' hT (by rw [w1])]
      rfl

end Go.Proofs.Ytoiobhcgpajogac
