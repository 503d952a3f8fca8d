/- What a deed sees is of one time: plain laws. -/
import Derived.Test.YtoiobhcgpajogadHallS
namespace Go.Proofs.Ytoiobhcgpajogad
open Go.RowKit

/-- All of what a hall wrote. -/
def fullH (H : Ht) : Tab := writeAll Tab.new H.v.log.l

/-- What a deed sees. -/
def viewF (D : Ded) (F : Tab) (k : Nat) : Val := match D.wrote k with | some v => v | none => (readT F k D.beg).1

/-- Each deed began behind a commit of which all is known. -/
def BegsH (H : Ht) : Prop := ∀ s, s < 5 → ∀ D, H.seats s = some D → (∀ j : Nat, j < 8 → firstN (H.v.tab.l j) ≤ D.beg) ∧ D.beg ≤ (H.v.tab.last : Int)

theorem BegsH.start : BegsH Ht.new := fun s _ D hD => by cases hD

theorem BegsH.rel {H : Ht} (h : BegsH H) (hS : H.v.Sound) : Rel H ⟨⟨fullH H, H.v.log⟩, H.seats⟩ := ⟨rfl, hS, rfl, h⟩

theorem doH_begs {H : Ht} (hH : H.v.Ok) (hT : H.v.tab.Ok) (hS : H.v.Sound) (hB : BegsH H) (hDs : ∀ s, s < 5 → ∀ D, H.seats s = some D → D.Ok) (x : St) : BegsH (doH H x).2 := by
  have hR := hB.rel hS
  by_cases h8 : x.kind = 8
  · unfold doH
    rw [if_neg (by omega), if_pos h8]
    exact (hR.clear hT).beg
  · have hb := doH_both hR hH hT (writeAll_ok Tab.new_ok H.v.log.l) hDs x h8
    by_cases hc : (doH H x).1.code = 12
    · exact (hb.old hc).beg
    · exact (hb.same hc).2.beg

theorem deed_read {H : Ht} (hT : H.v.tab.Ok) (hS : H.v.Sound) (hB : BegsH H) {n : Nat} (hn : n < 5) {D : Ded} (hD : H.seats n = some D) {k : Nat} (hk : k < 8) : readT H.v.tab k D.beg = ((readT (fullH H) k D.beg).1, 0) := by
  obtain ⟨h1, h2⟩ := hB n hn D hD
  have e1 := Suf.read hS (writeAll_ok Tab.new_ok H.v.log.l) (k := (k : Int)) h1
  rw [show fullH H = writeAll Tab.new H.v.log.l from rfl, ← e1]
  refine Prod.ext rfl ?_
  show (readT H.v.tab k D.beg).2 = 0
  unfold readT
  rw [if_neg (by omega)]
  have := h1 k hk
  have h0 := (hT.1 k).1.2.2
  unfold readC
  rw [Int.toNat_natCast, if_neg (by omega), if_neg (by omega)]

theorem deed_codes {H : Ht} (hT : H.v.tab.Ok) (hS : H.v.Sound) (hB : BegsH H) {n : Nat} (hn : n < 5) {D : Ded} (hD : H.seats n = some D) : codesT H.v.tab D.beg 8 = true := by
  unfold codesT
  rw [List.all_eq_true]
  intro k hk
  rw [deed_read hT hS hB hn hD (by simpa using hk)]
  rfl

theorem deed_sheet {H : Ht} (hT : H.v.tab.Ok) (hS : H.v.Sound) (hB : BegsH H) {n : Nat} (hn : n < 5) {D : Ded} (hD : H.seats n = some D) (hw : D.wrote = fun _ => none) {k : Nat} (hk : k < 8) : sheetT H.v.tab D.beg k = viewF D (fullH H) k := by
  have e := sheetT_at (deed_codes hT hS hB hn hD) hk
  rw [deed_read hT hS hB hn hD hk] at e
  unfold viewF
  rw [hw]
  exact (Prod.mk.inj e).1.symm

theorem get_view {H : Ht} (hT : H.v.tab.Ok) (hS : H.v.Sound) (hB : BegsH H) {n : Nat} (hn : n < 5) {D : Ded} (hD : H.seats n = some D) {k : Nat} (hk : k < 8) : (getD D H.v.tab k).1 = (viewF D (fullH H) k, 0) := by
  unfold getD viewF
  rw [if_neg (by omega), Int.toNat_natCast]
  cases D.wrote k with
  | some v => rfl
  | none => exact deed_read hT hS hB hn hD hk

/-- What stood in each seat. -/
inductive SeatC (H : Ht) (x : St) (y : Evt × Ht) (s : Nat) (D' : Ded) : Prop
  | old (D : Ded) (hD : H.seats s = some D) (hb : D'.beg = D.beg) (hw : D'.wrote = D.wrote)
  | new (hk : x.kind = 1) (hs : x.s = s) (hc : y.1.code = 0)
  | put (hk : x.kind = 3 ∨ x.kind = 4) (hs : x.s = s) (hc : y.1.code = 0)

/-- What a step does to what is seen. -/
structure ShotC (H : Ht) (x : St) (y : Evt × Ht) : Prop where
  full : fullH y.2 = fullH H ∨ ∃ w, fullH y.2 = (writeT (fullH H) w).2
  seat : ∀ s, s < 5 → ∀ D', y.2.seats s = some D' → SeatC H x y s D'

theorem ShotC.old {H : Ht} {x : St} {y : Evt × Ht} (h1 : y.2.v.log.l = H.v.log.l) (h2 : ∀ s D', y.2.seats s = some D' → H.seats s = some D') : ShotC H x y :=
  ⟨.inl (by unfold fullH; rw [h1]), fun s _ D' hD => .old D' (h2 s D' hD) rfl rfl⟩

theorem ShotC.one {H : Ht} {x : St} {y : Evt × Ht} {n : Nat} {D D' : Ded} (h1 : y.2.v = H.v) (hD : H.seats n = some D) (h2 : y.2.seats = upd H.seats n (some D')) (h3 : SeatC H x y n D') : ShotC H x y :=
  ⟨.inl (by unfold fullH; rw [h1]), fun s _ E hE => by
    rw [h2] at hE
    by_cases e : s = n
    · subst e
      simp only [upd_same, Option.some.injEq] at hE
      subst hE; exact h3
    · simp only [upd_other _ _ e] at hE
      exact .old E hE rfl rfl⟩

theorem listDGo_keep {T : Tab} : ∀ (ks : List Nat) (D : Ded) (out : List Ent), (listDGo T ks D out).2.beg = D.beg ∧ (listDGo T ks D out).2.wrote = D.wrote
  | [], D, out => ⟨rfl, rfl⟩
  | k :: ks, D, out => by
    have hg := getD_same D T k
    rw [listDGo]
    split
    · exact hg.2
    · obtain ⟨i1, i2⟩ := listDGo_keep (T := T) ks (getD D T k).2 (if (getD D T k).1.1.there then out ++ [⟨k, (getD D T k).1.1⟩] else out)
      exact ⟨i1.trans hg.2.1, i2.trans hg.2.2⟩

theorem listD_keep (D : Ded) (T : Tab) (f u : Int) : (listD D T f u).2.beg = D.beg ∧ (listD D T f u).2.wrote = D.wrote := by
  unfold listD
  split
  · exact ⟨rfl, rfl⟩
  · exact listDGo_keep _ _ _

theorem putD_keep (D : Ded) (k : Int) (v : Val) (h : (putD D k v).1 ≠ 0) : (putD D k v).2 = D := by
  unfold putD at h ⊢
  split
  · rfl
  · split
    · rfl
    · split
      · rfl
      · rename_i h1 h2 h3; rw [if_neg h1, if_neg h2, if_neg h3] at h; exact absurd rfl h

theorem putD_put {D : Ded} {k : Int} {v : Val} (h : (putD D k v).1 = 0) : ∃ m : Nat, m < 8 ∧ k = m ∧ (putD D k v).2.beg = D.beg ∧ (putD D k v).2.wrote = upd D.wrote m (some v) := by
  unfold putD at h ⊢
  split
  · rename_i h1; rw [if_pos h1] at h; cases h
  · rename_i h1
    rw [if_neg h1] at h
    split
    · rename_i h2; rw [if_pos h2] at h; cases h
    · rename_i h2
      rw [if_neg h2] at h
      split
      · rename_i h3; rw [if_pos h3] at h; exact absurd h h3
      · exact ⟨k.toNat, by omega, by omega, rfl, rfl⟩

theorem commit_full (H : Ht) (D : Ded) : (commitV H.v D).2.log.l = H.v.log.l ∨ (commitV H.v D).2.log.l = H.v.log.l ++ [writesD D] := by
  unfold commitV
  split
  · exact .inl rfl
  · split
    · exact .inl rfl
    · split
      · exact .inl rfl
      · rename_i h1 h2 h3
        obtain ⟨-, -, z3⟩ := putG_zero (by simpa using h3)
        right
        show (putG H.v.log (writesD D)).2.l = _
        rw [z3]

theorem torn_full (H : Ht) (D : Ded) (keep : Int) : (tornV H.v D keep).2.l = H.v.log.l ∨ (tornV H.v D keep).2.l = H.v.log.l ++ [writesD D] := by
  unfold tornV
  split
  · unfold tearG
    split
    · exact .inl rfl
    · split
      · exact .inr rfl
      · exact .inl rfl
  · exact .inl rfl

theorem full_of {H H' : Ht} {w : List Ent} (h : H'.v.log.l = H.v.log.l ∨ H'.v.log.l = H.v.log.l ++ [w]) : fullH H' = fullH H ∨ ∃ w, fullH H' = (writeT (fullH H) w).2 := by
  rcases h with h | h
  · exact .inl (by unfold fullH; rw [h])
  · exact .inr ⟨w, by unfold fullH; rw [h, writeAll_snoc]⟩

theorem doH_shot (H : Ht) (x : St) : ShotC H x (doH H x) := by
  unfold doH
  by_cases h1 : x.kind < 1 ∨ 10 < x.kind
  · rw [if_pos h1]; exact .old rfl (fun _ _ h => h)
  rw [if_neg h1]
  by_cases h8 : x.kind = 8
  · rw [if_pos h8]; exact .old rfl (fun _ _ h => h)
  rw [if_neg h8]
  by_cases h9 : x.kind = 9
  · rw [if_pos h9]; exact .old rfl (fun _ _ h => by cases h)
  rw [if_neg h9]
  by_cases hse : isSeatB x.s = false
  · rw [if_pos hse]; exact .old rfl (fun _ _ h => h)
  rw [if_neg hse]
  obtain ⟨n, hn, hxn⟩ := seat_nat (s := x.s) (by simpa using hse)
  have hxt : x.s.toNat = n := by rw [hxn]; rfl
  by_cases hk1 : x.kind = 1
  · rw [if_pos hk1]
    unfold beginH
    rw [hxt]
    by_cases hb : (H.seats n).isSome
    · rw [if_pos hb]; exact .old rfl (fun _ _ h => h)
    · rw [if_neg hb]
      generalize hbv : beginV H.v.tab x.mode x.at_ = bv
      obtain ⟨o, c⟩ := bv
      cases o with
      | none => exact .old rfl (fun _ _ h => h)
      | some D =>
        have hc := beginV_some hbv
        subst hc
        refine ⟨.inl rfl, fun s _ E hE => ?_⟩
        by_cases e : s = n
        · subst e; exact .new hk1 hxn rfl
        · simp only [upd_other _ _ e] at hE
          exact .old E hE rfl rfl
  rw [if_neg hk1, hxt]
  unfold deedO
  cases hd : H.seats n with
  | none => exact .old rfl (fun _ _ h => h)
  | some D =>
    simp only
    unfold deedH
    rw [hxt]
    by_cases k2 : x.kind = 2
    · rw [if_pos k2]
      have hg := getD_same D H.v.tab x.key
      exact .one rfl hd rfl (.old D hd hg.2.1 hg.2.2)
    rw [if_neg k2]
    by_cases k3 : x.kind = 3
    · rw [if_pos k3]
      by_cases hc : (putD D x.key ⟨true, x.bytes⟩).1 = 0
      · exact .one rfl hd rfl (.put (.inl k3) hxn hc)
      · refine .one rfl hd rfl (.old D hd ?_ ?_) <;> rw [putD_keep _ _ _ hc]
    rw [if_neg k3]
    by_cases k4 : x.kind = 4
    · rw [if_pos k4]
      by_cases hc : (putD D x.key Val.zero).1 = 0
      · exact .one rfl hd rfl (.put (.inr k4) hxn hc)
      · refine .one rfl hd rfl (.old D hd ?_ ?_) <;> rw [putD_keep _ _ _ hc]
    rw [if_neg k4]
    by_cases k5 : x.kind = 5
    · rw [if_pos k5]
      have hg := listD_keep D H.v.tab x.key x.to_
      exact .one rfl hd rfl (.old D hd hg.1 hg.2)
    rw [if_neg k5]
    have drop : ∀ E s, upd H.seats n none s = some E → H.seats s = some E := fun E s hE => by
      by_cases e : s = n
      · subst e; simp only [upd_same] at hE; cases hE
      · simpa only [upd_other _ _ e] using hE
    by_cases k6 : x.kind = 6
    · rw [if_pos k6]
      exact ⟨full_of (H' := ⟨(commitV H.v D).2, upd H.seats n none⟩) (commit_full H D), fun s _ E hE => .old E (drop E s hE) rfl rfl⟩
    rw [if_neg k6]
    by_cases k10 : x.kind = 10
    · rw [if_pos k10]
      exact ⟨full_of (H' := ⟨(tearV H.v D x.keep).2, fun _ => none⟩) (torn_full H D x.keep), fun s _ E hE => by cases hE⟩
    rw [if_neg k10]
    exact .old rfl (fun s E hE => drop E s hE)

/-- What all seats see. -/
def ShotH (H : Ht) (W : Nat → Nat → Val) : Prop := ∀ s, s < 5 → ∀ D, H.seats s = some D → ∀ k, k < 8 → W s k = viewF D (fullH H) k

theorem ShotH.start (W : Nat → Nat → Val) : ShotH Ht.new W := fun s _ D hD => by cases hD

theorem ShotC.read {H : Ht} {x : St} {y : Evt × Ht} (h : ShotC H x y) (hS : H.v.Sound) {a : Int} (ha : a ≤ (H.v.tab.last : Int)) (k : Int) : readT (fullH y.2) k a = readT (fullH H) k a := by
  rcases h.full with e | ⟨w, e⟩
  · rw [e]
  · rw [e]
    exact read_later (writeAll_ok Tab.new_ok H.v.log.l) w k (by have := hS.1; show a ≤ ((writeAll Tab.new H.v.log.l).last : Int); omega)

theorem ShotC.view {H : Ht} {x : St} {y : Evt × Ht} (h : ShotC H x y) (hS : H.v.Sound) (hB : BegsH H) {s : Nat} (hs : s < 5) {D D' : Ded} (hD : H.seats s = some D) (hb : D'.beg = D.beg) (hw : D'.wrote = D.wrote) (k : Nat) : viewF D' (fullH y.2) k = viewF D (fullH H) k := by
  unfold viewF
  rw [hw, hb, h.read hS (hB s hs D hD).2]

/-- A step that is no beginning and no writing. -/
theorem ShotH.keep {H : Ht} {W : Nat → Nat → Val} (h : ShotH H W) (hS : H.v.Sound) (hB : BegsH H) {x : St} {y : Evt × Ht} (hy : ShotC H x y) (hk : y.1.code ≠ 0 ∨ (x.kind ≠ 1 ∧ x.kind ≠ 3 ∧ x.kind ≠ 4)) : ShotH y.2 W := by
  intro s hs D' hD' k hk8
  cases hy.seat s hs D' hD' with
  | old D hD hb hw => rw [hy.view hS hB hs hD hb hw]; exact h s hs D hD k hk8
  | new hk1 _ hc => rcases hk with h | h; exact absurd hc h; exact absurd hk1 h.1
  | put hk1 _ hc => rcases hk with h | h; exact absurd hc h; rcases hk1 with h1 | h1; exact absurd h1 h.2.1; exact absurd h1 h.2.2

/-- A step of one seat: the others see what they saw. -/
theorem ShotH.one {H : Ht} {W : Nat → Nat → Val} (h : ShotH H W) (hS : H.v.Sound) (hB : BegsH H) {x : St} {y : Evt × Ht} (hy : ShotC H x y) {n : Nat} (hx : x.s = n) {f : Nat → Val} (hf : ∀ D', y.2.seats n = some D' → ∀ k, k < 8 → f k = viewF D' (fullH y.2) k) : ShotH y.2 (upd W n f) := by
  intro s hs D' hD' k hk8
  by_cases e : s = n
  · subst e; rw [upd_same]; exact hf D' hD' k hk8
  · rw [upd_other _ _ e]
    cases hy.seat s hs D' hD' with
    | old D hD hb hw => rw [hy.view hS hB hs hD hb hw]; exact h s hs D hD k hk8
    | new _ h2 _ => exact absurd (by omega) e
    | put _ h2 _ => exact absurd (by omega) e

theorem doH_seat {H : Ht} {x : St} (h0 : (doH H x).1.code = 0) (h8 : x.kind ≠ 8) (h9 : x.kind ≠ 9) : isSeatB x.s = true := by
  unfold doH at h0
  by_cases h1 : x.kind < 1 ∨ 10 < x.kind
  · rw [if_pos h1] at h0; cases h0
  rw [if_neg h1, if_neg h8, if_neg h9] at h0
  by_cases hse : isSeatB x.s = false
  · rw [if_pos hse] at h0; cases h0
  · simpa using hse

theorem doH_at {H : Ht} {x : St} {n : Nat} (_hn : n < 5) (hx : x.s = n) (h0 : (doH H x).1.code = 0) (h8 : x.kind ≠ 8) (h9 : x.kind ≠ 9) : doH H x = if x.kind = 1 then beginH H x else deedO H x (H.seats n) := by
  have hse := doH_seat h0 h8 h9
  have h1 : ¬ (x.kind < 1 ∨ 10 < x.kind) := fun h1 => by unfold doH at h0; rw [if_pos h1] at h0; cases h0
  unfold doH
  rw [if_neg h1, if_neg h8, if_neg h9, if_neg (by rw [hse]; simp), hx]
  rfl

theorem doH_busy {H : Ht} {x : St} {n : Nat} (hn : n < 5) (hx : x.s = n) (h0 : (doH H x).1.code = 0) (h1 : x.kind ≠ 1) (h8 : x.kind ≠ 8) (h9 : x.kind ≠ 9) : ∃ D, H.seats n = some D ∧ doH H x = deedH H x D := by
  have e := doH_at hn hx h0 h8 h9
  rw [if_neg h1] at e
  rw [e] at h0 ⊢
  cases hd : H.seats n with
  | none => rw [hd] at h0; cases h0
  | some D => exact ⟨D, rfl, rfl⟩

theorem beginV_wrote {T : Tab} {m a c : Int} {D : Ded} (h : beginV T m a = (some D, c)) : D.wrote = fun _ => none := by
  unfold beginV at h
  by_cases h1 : m < 1 ∨ 3 < m
  · rw [if_pos h1] at h; cases h
  · rw [if_neg h1] at h
    generalize (if m = 3 then a else (T.last : Int)) = b at h
    by_cases h2 : b < 0 ∨ (T.last : Int) < b
    · rw [if_pos h2] at h; cases h
    · rw [if_neg h2] at h
      by_cases h3 : b < firstT T
      · rw [if_pos h3] at h; cases h
      · rw [if_neg h3] at h
        rw [← Option.some.inj (Prod.mk.inj h).1]; rfl

theorem shot_begin {H : Ht} {x : St} {n : Nat} (hn : n < 5) (hx : x.s = n) (h0 : (doH H x).1.code = 0) (h1 : x.kind = 1) : ∃ D, (doH H x).2.seats n = some D ∧ D.wrote = fun _ => none := by
  have e := doH_at hn hx h0 (by omega) (by omega)
  rw [if_pos h1] at e
  rw [e] at h0 ⊢
  unfold beginH at h0 ⊢
  have hxt : x.s.toNat = n := by rw [hx]; rfl
  rw [hxt] at h0 ⊢
  by_cases hb : (H.seats n).isSome
  · rw [if_pos hb] at h0; cases h0
  · rw [if_neg hb] at h0 ⊢
    generalize hbv : beginV H.v.tab x.mode x.at_ = bv at *
    obtain ⟨o, c⟩ := bv
    cases o with
    | none => exact absurd h0 (beginV_none hbv)
    | some D =>
      exact ⟨D, by simp only [upd_same], beginV_wrote hbv⟩

theorem shot_get {H : Ht} (hT : H.v.tab.Ok) (hS : H.v.Sound) (hB : BegsH H) {W : Nat → Nat → Val} (h : ShotH H W) {x : St} {n : Nat} (hn : n < 5) (hx : x.s = n) (h0 : (doH H x).1.code = 0) (h2 : x.kind = 2) : ∃ m : Nat, m < 8 ∧ x.key = m ∧ (doH H x).1.v = W n m := by
  obtain ⟨D, hD, e⟩ := doH_busy hn hx h0 (by omega) (by omega) (by omega)
  rw [e] at h0 ⊢
  unfold deedH at h0 ⊢
  rw [if_pos h2] at h0 ⊢
  by_cases hk : x.key < 0 ∨ 8 ≤ x.key
  · have e2 : getD D H.v.tab x.key = ((Val.zero, 1), D) := by unfold getD; rw [if_pos hk]
    rw [e2] at h0; cases h0
  · obtain ⟨m, hm⟩ : ∃ m : Nat, x.key = m := ⟨x.key.toNat, by omega⟩
    refine ⟨m, by omega, hm, ?_⟩
    show (getD D H.v.tab x.key).1.1 = _
    rw [hm, get_view hT hS hB hn hD (by omega), h n hn D hD m (by omega)]

theorem shot_put {H : Ht} (hS : H.v.Sound) (hB : BegsH H) {W : Nat → Nat → Val} (h : ShotH H W) {x : St} {n : Nat} (hn : n < 5) (hx : x.s = n) (h0 : (doH H x).1.code = 0) {v : Val} (hk : x.kind = 3 ∧ v = ⟨true, x.bytes⟩ ∨ x.kind = 4 ∧ v = Val.zero) : ∃ m : Nat, m < 8 ∧ x.key = m ∧ ShotH (doH H x).2 (upd W n (upd (W n) m v)) := by
  obtain ⟨D, hD, e⟩ := doH_busy hn hx h0 (by omega) (by omega) (by omega)
  have hxt : x.s.toNat = n := by rw [hx]; rfl
  have hsh := doH_shot H x
  have e2 : doH H x = (Evt.of (putD D x.key v).1 0, ⟨H.v, upd H.seats n (some (putD D x.key v).2)⟩) := by
    rw [e]
    unfold deedH
    rw [hxt]
    rcases hk with ⟨h3, rfl⟩ | ⟨h4, rfl⟩
    · rw [if_neg (by omega), if_pos h3]
    · rw [if_neg (by omega), if_neg (by omega), if_pos h4]
  have h0' : (putD D x.key v).1 = 0 := by rw [e2] at h0; exact h0
  obtain ⟨m, hm, hkm, hb, hw⟩ := putD_put h0'
  refine ⟨m, hm, hkm, h.one hS hB hsh hx (fun D' hD' k hk8 => ?_)⟩
  have hD2 : D' = (putD D x.key v).2 := by rw [e2] at hD'; simp only [upd_same, Option.some.injEq] at hD'; exact hD'.symm
  have hr := hsh.read hS (hB n hn D hD).2 (k : Int)
  have hW := h n hn D hD k hk8
  unfold viewF at hW ⊢
  rw [hD2, hw, hb, hr]
  by_cases ek : k = m
  · subst ek; rw [upd_same, upd_same]
  · rw [upd_other _ _ ek, upd_other _ _ ek]; exact hW

theorem shot_new {H : Ht} (hS : H.v.Sound) (hB : BegsH H) {W : Nat → Nat → Val} (h : ShotH H W) {x : St} {n : Nat} (hn : n < 5) (hx : x.s = n) (hT' : (doH H x).2.v.tab.Ok) (hS' : (doH H x).2.v.Sound) (hB' : BegsH (doH H x).2) {D : Ded} (hD : (doH H x).2.seats n = some D) (hw : D.wrote = fun _ => none) :
    ShotH (doH H x).2 (upd W n (sheetT (doH H x).2.v.tab D.beg)) :=
  h.one hS hB (doH_shot H x) hx (fun D' hD' k hk8 => by
    rw [hD] at hD'
    cases hD'
    exact deed_sheet hT' hS' hB' hn hD hw hk8)

/-- What of some keys is there. -/
def listW (w : Nat → Val) (f t : Int) (n : Nat) : List Ent := (List.range n).flatMap (fun (k : Nat) => if f ≤ (k : Int) ∧ (k : Int) ≤ t ∧ (w k).there = true then [⟨(k : Int), w k⟩] else [])

theorem listW_succ (w : Nat → Val) (f t : Int) (n : Nat) : listW w f t (n + 1) = listW w f t n ++ (if f ≤ (n : Int) ∧ (n : Int) ≤ t ∧ (w n).there = true then [⟨(n : Int), w n⟩] else []) := by
  unfold listW; rw [List.range_succ, List.flatMap_append]; simp

theorem listDGo_view {T : Tab} {w : Nat → Val} : ∀ (ks : List Nat) (D : Ded) (out : List Ent), (∀ (k : Nat) (D' : Ded), k ∈ ks → D'.beg = D.beg → D'.wrote = D.wrote → (getD D' T k).1 = (w k, 0)) → (listDGo T ks D out).1 = (out ++ ks.flatMap (fun (k : Nat) => if (w k).there = true then [⟨(k : Int), w k⟩] else []), 0)
  | [], D, out, _ => by simp [listDGo]
  | k :: ks, D, out, h => by
    have hg := getD_same D T k
    have hk := h k D (List.mem_cons_self ..) rfl rfl
    rw [listDGo, hk]
    simp only [ne_eq, not_true_eq_false, if_false]
    rw [listDGo_view (w := w) ks (getD D T k).2 _ (fun j D' hj hb hw => h j D' (List.mem_cons_of_mem _ hj) (hb.trans hg.2.1) (hw.trans hg.2.2))]
    rw [List.flatMap_cons]
    cases (w k).there <;> simp

theorem drop_range_flat (w : Nat → Val) (a _b : Nat) : ∀ n, a ≤ n → ((List.range n).drop a).flatMap (fun (k : Nat) => if (w k).there = true then [(⟨(k : Int), w k⟩ : Ent)] else []) = (List.range n).flatMap (fun (k : Nat) => if (a : Int) ≤ (k : Int) ∧ (w k).there = true then [(⟨(k : Int), w k⟩ : Ent)] else []) := by
  intro n
  induction n with
  | zero => intro h; rw [show a = 0 by omega]; rfl
  | succ n ih =>
    intro h
    by_cases e : a = n + 1
    · subst e
      rw [List.drop_eq_nil_of_le (by simp)]
      symm
      rw [List.flatMap_eq_nil_iff.2 (fun k hk => ?_)]
      · rfl
      · rw [if_neg]
        rintro ⟨h1, -⟩
        have := List.mem_range.1 hk
        omega
    · rw [List.range_succ, List.drop_append_of_le_length (by simp; omega), List.flatMap_append, List.flatMap_append, ih (by omega)]
      have : a ≤ n := by omega
      simp [this]

theorem flat_congr {α β : Type} : ∀ (l : List α) {f g : α → List β}, (∀ x ∈ l, f x = g x) → l.flatMap f = l.flatMap g
  | [], _, _, _ => rfl
  | x :: l, f, g, h => by rw [List.flatMap_cons, List.flatMap_cons, h x (List.mem_cons_self ..), flat_congr l (fun y hy => h y (List.mem_cons_of_mem _ hy))]

theorem listW_cut (w : Nat → Val) (f : Int) (u : Nat) : ∀ n, u + 1 ≤ n → listW w f u n = (List.range (u + 1)).flatMap (fun (k : Nat) => if f ≤ (k : Int) ∧ (w k).there = true then [(⟨(k : Int), w k⟩ : Ent)] else []) := by
  intro n h
  obtain ⟨d, rfl⟩ : ∃ d, n = u + 1 + d := ⟨n - (u + 1), by omega⟩
  clear h
  induction d with
  | zero =>
    unfold listW
    refine flat_congr _ (fun k hk => ?_)
    have := List.mem_range.1 hk
    have h1 : (k : Int) ≤ (u : Int) := by omega
    simp only [h1, true_and]
  | succ d ih =>
    rw [show u + 1 + (d + 1) = u + 1 + d + 1 by omega, listW_succ, ih, if_neg (by omega), List.append_nil]

theorem listW_none (w : Nat → Val) (f t : Int) (h : t < f) : ∀ n, listW w f t n = [] := by
  intro n
  induction n with
  | zero => rfl
  | succ n ih => rw [listW_succ, ih, if_neg (by omega)]; rfl

theorem shot_list {H : Ht} (hT : H.v.tab.Ok) (hS : H.v.Sound) (hB : BegsH H) {W : Nat → Nat → Val} (h : ShotH H W) {x : St} {n : Nat} (hn : n < 5) (hx : x.s = n) (h0 : (doH H x).1.code = 0) (h5 : x.kind = 5) : (doH H x).1.l = listW (W n) x.key x.to_ 8 := by
  obtain ⟨D, hD, e⟩ := doH_busy hn hx h0 (by omega) (by omega) (by omega)
  rw [e] at h0 ⊢
  unfold deedH at h0 ⊢
  rw [if_neg (by omega), if_neg (by omega), if_neg (by omega), if_pos h5] at h0 ⊢
  show (listD D H.v.tab x.key x.to_).1.1 = _
  have h0' : (listD D H.v.tab x.key x.to_).1.2 = 0 := h0
  unfold listD at h0' ⊢
  by_cases hk : x.key < 0 ∨ 8 ≤ x.key ∨ x.to_ < 0 ∨ 8 ≤ x.to_
  · rw [if_pos hk] at h0'; cases h0'
  rw [if_neg hk]
  obtain ⟨a, ha⟩ : ∃ a : Nat, x.key = a := ⟨x.key.toNat, by omega⟩
  obtain ⟨u, hu⟩ : ∃ u : Nat, x.to_ = u := ⟨x.to_.toNat, by omega⟩
  rw [ha, hu, Int.toNat_natCast, Int.toNat_natCast]
  rw [listDGo_view (w := W n) _ D [] (fun k D' hk hb hw => ?_)]
  · simp only [List.nil_append]
    by_cases hau : a ≤ u + 1
    · rw [drop_range_flat _ a a _ hau, listW_cut _ _ _ _ (by omega)]
    · rw [List.drop_eq_nil_of_le (by simp; omega), listW_none _ _ _ (by omega)]; rfl
  · have hk8 : k < 8 := by
      have := List.mem_range.1 (List.mem_of_mem_drop hk)
      omega
    have hv : (getD D' H.v.tab k).1 = (getD D H.v.tab k).1 := by
      unfold getD
      rw [hw, hb]
      by_cases hkk : (k : Int) < 0 ∨ 8 ≤ (k : Int)
      · rw [if_pos hkk, if_pos hkk]
      · rw [if_neg hkk, if_neg hkk]
        split <;> rfl
    rw [hv, get_view hT hS hB hn hD hk8, h n hn D hD k hk8]

end Go.Proofs.Ytoiobhcgpajogad
