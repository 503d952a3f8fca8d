/- A vault's laws, plain: read again, torn, looking back. -/
import Derived.Test.YtoiobhcgpajogacHallR
import Derived.Test.YtoiobhcgpajogacHallQ
namespace Go.Proofs.Ytoiobhcgpajogac
open Go.RowKit

theorem first_at {T : Tab} {a : Int} (h : firstT T ≤ a) : ∀ j : Nat, j < 8 → firstN (T.l j) ≤ a := fun j hj => by have := firstT_ge (T := T) hj; omega

theorem read_from {T : Tab} (hT : T.Ok) {a : Int} (h1 : firstT T ≤ a) (h2 : a ≤ T.last) {k : Nat} (hk : k < 8) : (readT T k a).2 = 0 := by
  have h3 := first_at h1 k hk
  have h0 := (hT.1 k).1.2.2
  unfold readT
  rw [if_neg (by omega)]
  unfold readC
  rw [Int.toNat_natCast, if_neg (by omega), if_neg (by omega)]

theorem codes_from {T : Tab} (hT : T.Ok) {a : Int} (h1 : firstT T ≤ a) (h2 : a ≤ T.last) : codesT T a 8 = true := by
  unfold codesT
  rw [List.all_eq_true]
  intro k hk
  rw [read_from hT h1 h2 (by simpa using hk)]
  rfl

theorem first_pos {T : Tab} : 0 ≤ firstT T := by
  have : ∀ k, 0 ≤ firstGo T k := by
    intro k
    induction k with
    | zero => exact Int.le_refl _
    | succ k ih =>
      have e1 : firstGo T (k + 1) = if firstGo T k < firstN (T.l k) then firstN (T.l k) else firstGo T k := rfl
      rw [e1]; split <;> omega
  exact this 8

/-- Behind a crash all is as it was, as far as it was known. -/
theorem again_sheet {V : Vt} (hS : V.Sound) (hT : V.tab.Ok) {a : Int} (h1 : firstT V.tab ≤ a) (h2 : a ≤ V.tab.last) :
    codesT V.tab a 8 = true ∧ codesT (crashV V.log).tab a 8 = true ∧ sheetT (crashV V.log).tab a = sheetT V.tab a := by
  have hF := writeAll_ok Tab.new_ok V.log.l
  have e : ∀ k : Nat, k < 8 → readT (crashV V.log).tab k a = readT V.tab k a := fun k _ => (Suf.read hS hF (first_at h1)).symm
  have h3 := codes_from hT h1 h2
  have h4 := sheetT_congr e
  exact ⟨h3, by rw [h4.1 8 (Nat.le_refl _)]; exact h3, h4.2⟩

theorem again_log {V : Vt} (hV : V.Ok) : (crashV V.log).log.bytes = V.log.bytes := by
  show encAll V.log.l ++ [] = encAll V.log.l ++ V.log.torn
  rw [hV.2.1]

theorem again_last {V : Vt} (hS : V.Sound) : (crashV V.log).tab.last = V.tab.last := hS.1.symm
theorem again_twice (G : Lg) : crashV (crashV G).log = crashV G := rfl
theorem again_first (G : Lg) : firstT (crashV G).tab = 0 := (AtZero.all _).first

/-! ### Torn -/

/-- What all keys would have if the deed were done. -/
def wantP (f : Nat → Val) (D : Ded) : Nat → Val := fun k => if k < 8 then (D.wrote k).getD (f k) else f k

theorem want_new (f : Nat → Val) (mode beg : Int) : wantP f (Ded.new mode beg) = f := by
  funext k; unfold wantP; split <;> rfl

theorem want_put {f : Nat → Val} {D : Ded} {k : Int} {v : Val} (h : (putD D k v).1 = 0) :
    ∃ n : Nat, n < 8 ∧ k = n ∧ wantP f (putD D k v).2 = upd (wantP f D) n v ∧ (putD D k v).2.beg = D.beg := by
  unfold putD at h ⊢
  by_cases h1 : k < 0 ∨ 8 ≤ k
  · rw [if_pos h1] at h; cases h
  rw [if_neg h1] at h ⊢
  by_cases h2 : D.mode = 3
  · rw [if_pos h2] at h; cases h
  rw [if_neg h2] at h ⊢
  by_cases h3 : ckV v ≠ 0
  · rw [if_pos h3] at h; exact absurd h h3
  rw [if_neg h3] at h ⊢
  obtain ⟨n, hn, rfl⟩ := key_nat h1
  refine ⟨n, hn, rfl, ?_, rfl⟩
  rw [Int.toNat_natCast]
  funext j
  unfold wantP
  by_cases e : j = n
  · subst e
    rw [upd_same, if_pos hn]
    show ((upd D.wrote j (some v)) j).getD (f j) = v
    rw [upd_same]; rfl
  · rw [upd_other _ _ e]
    show (if j < 8 then ((upd D.wrote n (some v)) j).getD (f j) else f j) = _
    rw [upd_other _ _ e]

theorem want_stay {D : Ded} {k : Int} {v : Val} (h : (putD D k v).1 ≠ 0) : (putD D k v).2 = D := by
  unfold putD at h ⊢
  split
  · rfl
  · rename_i h1
    rw [if_neg h1] at h
    split
    · rfl
    · rename_i h2
      rw [if_neg h2] at h
      split
      · rfl
      · rename_i h3
        rw [if_neg h3] at h; exact absurd rfl h

theorem apply_writes (f : Nat → Val) (D : Ded) (n : Nat) : ∀ k, applyW f (writesTo D n) k = if k < n then (D.wrote k).getD (f k) else f k := by
  induction n with
  | zero => intro k; rfl
  | succ n ih =>
    intro k
    rw [writesTo_succ]
    cases hq : D.wrote n with
    | none =>
      simp only [List.append_nil]
      rw [ih]
      by_cases e : k = n
      · subst e; rw [if_neg (by omega), if_pos (by omega), hq]; rfl
      · by_cases e2 : k < n
        · rw [if_pos e2, if_pos (by omega)]
        · rw [if_neg e2, if_neg (by omega)]
    | some v =>
      simp only
      rw [applyW_snoc]
      simp only [Int.toNat_natCast]
      by_cases e : k = n
      · subst e; rw [upd_same, if_pos (by omega), hq]; rfl
      · rw [upd_other _ _ e, ih]
        by_cases e2 : k < n
        · rw [if_pos e2, if_pos (by omega)]
        · rw [if_neg e2, if_neg (by omega)]

/-- What a torn commit comes to. -/
structure TornNone (V : Vt) (D : Ded) (keep : Int) : Prop where
  zero : (tearV V D keep).1.1 = 0
  last : (tearV V D keep).2.tab.last = V.tab.last
  sheet : sheetT (tearV V D keep).2.tab V.tab.last = sheetT V.tab V.tab.last
  why : (tearV V D keep).1.2 ≠ 0 ∨ writesD D = [] ∨ keep < 200

structure TornAll (V : Vt) (D : Ded) (keep : Int) : Prop where
  some_ : (tearV V D keep).1.1 = (V.tab.last : Int) + 1
  code : (tearV V D keep).1.2 = 0
  last : (tearV V D keep).2.tab.last = V.tab.last + 1
  sheet : sheetT (tearV V D keep).2.tab ((V.tab.last : Int) + 1) = wantP (sheetT V.tab V.tab.last) D
  wrote : writesD D ≠ []

theorem tears_law {V : Vt} (hV : V.Ok) (hT : V.tab.Ok) (hS : V.Sound) {D : Ded} (hD : D.Ok) (hb : D.beg = V.tab.last) (keep : Int) : TornNone V D keep ∨ TornAll V D keep := by
  have hm : mayD D V.tab = 0 := may_fresh' hT hb
  have hF := writeAll_ok Tab.new_ok V.log.l
  have hlen := hV.2.2
  have hsh : sheetT (writeAll Tab.new V.log.l) ((writeAll Tab.new V.log.l).last : Int) = sheetT V.tab V.tab.last := (Suf.sheet hS hT hF).symm
  have hla : (writeAll Tab.new V.log.l).last = V.tab.last := hS.1.symm
  have hck := writesD_ck hD
  have e0 : (tearV V D keep) = ((if (tornV V D keep).2.l.length = V.tab.last then 0 else ((tornV V D keep).2.l.length : Int), (tornV V D keep).1), crashV (tornV V D keep).2) := rfl
  have none_ : (tornV V D keep).2.l = V.log.l → ((tornV V D keep).1 ≠ 0 ∨ writesD D = [] ∨ keep < 200) → TornNone V D keep := fun h hw => by
    have e1 : (tearV V D keep).2.tab = writeAll Tab.new V.log.l := by rw [e0]; show writeAll Tab.new (tornV V D keep).2.l = _; rw [h]
    refine ⟨?_, by rw [e1, hla], by rw [e1, ← hla, hsh, hla], by rw [e0]; exact hw⟩
    rw [e0]
    show (if _ then _ else _) = _
    rw [h, if_pos hlen.symm]
  by_cases hw : writesD D = []
  · left
    have : tornV V D keep = (mayD D V.tab, V.log) := by unfold tornV; rw [if_neg (fun h => h.2 hw)]
    exact none_ (by rw [this]) (.inr (.inl hw))
  have e2 : tornV V D keep = tearG V.log (writesD D) keep := by unfold tornV; rw [if_pos ⟨hm, hw⟩]
  by_cases hp : (putG V.log (writesD D)).1 ≠ 0
  · left
    have : tearG V.log (writesD D) keep = ((putG V.log (writesD D)).1, V.log) := by unfold tearG; rw [if_pos hp]
    rw [this] at e2
    exact none_ (by rw [e2]) (.inl (by rw [e2]; exact hp))
  by_cases hk : ((encL (writesD D)).length : Int) ≤ keep
  · right
    have : tearG V.log (writesD D) keep = (0, ⟨V.log.l ++ [writesD D], V.log.torn⟩) := by unfold tearG; rw [if_neg hp, if_pos hk]
    rw [this] at e2
    obtain ⟨-, h40, -⟩ := putG_zero (by simpa using hp : (putG V.log (writesD D)).1 = 0)
    have e1 : (tearV V D keep).2.tab = (writeT (writeAll Tab.new V.log.l) (writesD D)).2 := by
      rw [e0]; show writeAll Tab.new (tornV V D keep).2.l = _; rw [e2]; exact writeAll_snoc _ _ _
    have hf := write_fine (T := writeAll Tab.new V.log.l) hck (by rw [hla]; omega)
    have hc : (writeT (writeAll Tab.new V.log.l) (writesD D)).1.2 = 0 := by rw [hf.1]
    have hs := sheet_write' hF hc
    rw [hsh, hla] at hs
    refine ⟨?_, by rw [e0, e2], by rw [e1, hf.2, hla], ?_, hw⟩
    · rw [e0]
      show (if _ then _ else _) = _
      rw [e2]
      simp only [List.length_append, List.length_cons, List.length_nil]
      rw [if_neg (by omega)]
      omega
    · rw [e1, hs]
      funext k
      show applyW _ (writesTo D 8) k = _
      rw [apply_writes]
      rfl
  · left
    have : tearG V.log (writesD D) keep = (0, ⟨V.log.l, V.log.torn ++ (encL (writesD D)).take keep.toNat⟩) := by unfold tearG; rw [if_neg hp, if_neg hk]
    rw [this] at e2
    have := (encL_bound hck).2
    exact none_ (by rw [e2]) (.inr (.inr (by omega)))

/-! ### Looking back -/

theorem look_some {T : Tab} {a : Int} (h0 : 0 ≤ a) (h1 : a ≤ T.last) (h2 : firstT T ≤ a) : beginV T 3 a = (some (Ded.new 3 a), 0) := by
  unfold beginV
  rw [if_neg (by omega)]
  simp only [if_true]
  rw [if_neg (by omega), if_neg (by omega)]

theorem begin_sure {T : Tab} (hT : T.Ok) : beginV T 2 0 = (some (Ded.new 2 T.last), 0) := by
  have h1 := firstT_le hT
  unfold beginV
  rw [if_neg (by omega), if_neg (by omega), if_neg (by omega), if_neg (by omega)]

theorem look_range {T : Tab} {a : Int} (h : a < 0 ∨ T.last < a) : beginV T 3 a = (none, 1) := by
  unfold beginV
  rw [if_neg (by omega)]
  simp only [if_true]
  rw [if_pos (by omega)]

theorem look_old {T : Tab} {a : Int} (h0 : 0 ≤ a) (h1 : a ≤ T.last) (h2 : a < firstT T) : beginV T 3 a = (none, 12) := by
  unfold beginV
  rw [if_neg (by omega)]
  simp only [if_true]
  rw [if_neg (by omega), if_pos h2]

theorem look_get (T : Tab) (hT : T.Ok) {a : Int} (h1 : a ≤ T.last) (h2 : firstT T ≤ a) (k : Int) : (getD (Ded.new 3 a) T k).1 = readT T k a ∧ writesD (getD (Ded.new 3 a) T k).2 = [] ∧ (getD (Ded.new 3 a) T k).2.mode = 3 := by
  have e0 : (Ded.new 3 a).wrote = fun _ => none := rfl
  unfold getD
  by_cases hk : k < 0 ∨ 8 ≤ k
  · rw [if_pos hk]
    refine ⟨?_, rfl, rfl⟩
    unfold readT; rw [if_pos (by omega)]
  · rw [if_neg hk, e0]
    obtain ⟨n, hn, rfl⟩ := key_nat hk
    have hc := read_from hT h2 h1 hn
    simp only
    rw [show (Ded.new 3 a).beg = a from rfl, if_pos hc]
    exact ⟨rfl, rfl, rfl⟩

theorem look_commit {V : Vt} {D : Ded} (hw : writesD D = []) (hm : D.mode = 3) : commitV V D = ((0, 0), V) := by
  have h1 : clashD D V.tab = false := by unfold clashD; rw [hw]; rfl
  have h2 : mayD D V.tab = 0 := by
    unfold mayD
    rw [h1, if_neg (by simp), if_neg (by omega)]
  unfold commitV
  rw [if_neg (by omega), if_pos hw]

theorem look_put {D : Ded} (hm : D.mode = 3) (k : Int) (v : Val) : (putD D k v).1 ≠ 0 := by
  unfold putD
  split
  · simp
  · first
      | (rw [if_pos hm]; simp)
      | simp

#print axioms tears_law
end Go.Proofs.Ytoiobhcgpajogac
