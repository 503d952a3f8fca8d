/- First come: plain laws. -/
import Derived.Test.YtoiobhcgpajogacHallP
namespace Go.Proofs.Ytoiobhcgpajogac
open Go.RowKit

theorem puts_last {n : Int} {w : List Ent} (h : ∀ x ∈ w, 0 ≤ x.n ∧ ckV x.v = 0) (hp : w.Pairwise (fun x y => x.n < y.n)) : ∀ (l : Nat → List Ent), (∀ x ∈ w, Go.Proofs.Ytoiobhcgpajogac.lastN (l x.n.toNat) < n) →
    ∀ k, Go.Proofs.Ytoiobhcgpajogac.lastN (l k) ≤ Go.Proofs.Ytoiobhcgpajogac.lastN (putsT n l w k) ∧ ((∀ x ∈ w, x.n.toNat ≠ k) → putsT n l w k = l k) ∧ (∀ x ∈ w, x.n.toNat = k → Go.Proofs.Ytoiobhcgpajogac.lastN (putsT n l w k) = n) := by
  induction w with
  | nil => intro l _ k; exact ⟨Int.le_refl _, fun _ => rfl, fun x hx => by cases hx⟩
  | cons x w ih =>
    intro l hl k
    rw [List.pairwise_cons] at hp
    have hx := h x (List.mem_cons_self ..)
    have hlx := hl x (List.mem_cons_self ..)
    have e1 : putsT n l (x :: w) = putsT n (upd l x.n.toNat (putC (l x.n.toNat) n x.v).2) w := rfl
    rw [e1, putC_new hx.2 hlx]
    have hne : ∀ y ∈ w, y.n.toNat ≠ x.n.toNat := fun y hy => by
      have := hp.1 y hy
      have := h y (List.mem_cons_of_mem _ hy)
      omega
    have hnew : Go.Proofs.Ytoiobhcgpajogac.lastN (l x.n.toNat ++ [⟨n, x.v⟩]) = n := by unfold Go.Proofs.Ytoiobhcgpajogac.lastN; simp
    obtain ⟨i1, i2, i3⟩ := ih (fun y hy => h y (List.mem_cons_of_mem _ hy)) hp.2 (upd l x.n.toNat (l x.n.toNat ++ [⟨n, x.v⟩])) (fun y hy => by
      rw [upd_other _ _ (hne y hy)]; exact hl y (List.mem_cons_of_mem _ hy)) k
    by_cases e : k = x.n.toNat
    · subst e
      have e2 := i2 hne
      rw [upd_same] at i1 e2
      rw [e2, hnew]
      exact ⟨by omega, fun hh => absurd rfl (hh x (List.mem_cons_self ..)), fun _ _ _ => rfl⟩
    · rw [upd_other _ _ e] at i1 i2
      refine ⟨i1, fun hh => i2 (fun y hy => hh y (List.mem_cons_of_mem _ hy)), fun y hy ey => ?_⟩
      rcases List.mem_cons.1 hy with rfl | hy
      · exact absurd ey.symm e
      · exact i3 y hy ey

theorem write_lastN {T : Tab} (hT : T.Ok) {w : List Ent} (hc : ckPs (-1) w = 0) (hl : T.last < 40) :
    (∀ k, lastN (T.l k) ≤ lastN ((writeT T w).2.l k)) ∧ ∀ x ∈ w, lastN ((writeT T w).2.l x.n.toNat) = (T.last : Int) + 1 := by
  have c1 : (writeT T w).1.2 = 0 := by rw [(write_fine hc hl).1]
  rw [(write_good c1).2.2]
  have hr := ckPs_rise hc
  have P := puts_last (n := (T.last : Int) + 1) (fun x hx => ⟨(hr.1 x hx).1, (hr.1 x hx).2.2.2⟩) hr.2 T.l (fun x _ => by have := (hT.1 x.n.toNat).2; omega)
  exact ⟨fun k => (P k).1, fun x hx => (P _).2.2 x hx rfl⟩

/-- What a step does to what was written last. -/
inductive FirstC (H : Ht) (x : St) (y : Evt × Ht) : Prop
  | same (h1 : y.2.v.tab.last = H.v.tab.last) (h2 : ∀ k, k < 8 → lastN (H.v.tab.l k) ≤ lastN (y.2.v.tab.l k))
  | more (n : Nat) (D : Ded) (hn : n < 5) (hs : x.s = n) (hD : H.seats n = some D) (hk : x.kind = 6 ∨ x.kind = 10) (h1 : y.2.v.tab.last = H.v.tab.last + 1) (he : y.1.n = (H.v.tab.last : Int) + 1)
      (hb : ∀ z ∈ writesD D, lastN (H.v.tab.l z.n.toNat) ≤ D.beg) (h2 : ∀ k, k < 8 → lastN (H.v.tab.l k) ≤ lastN (y.2.v.tab.l k)) (h3 : ∀ z ∈ writesD D, lastN (y.2.v.tab.l z.n.toNat) = (H.v.tab.last : Int) + 1)

theorem may_beg {D : Ded} {T : Tab} (hD : D.Ok) (h : mayD D T = 0) : ∀ z ∈ writesD D, lastN (T.l z.n.toNat) ≤ D.beg := by
  intro z hz
  have hr := (ckPs_rise (writesD_ck hD)).1 z hz
  have hcl : clashD D T = false := by
    cases hq : clashD D T with
    | false => rfl
    | true => unfold mayD at h; rw [hq] at h; simp at h
  unfold clashD at hcl
  have := List.any_eq_false.1 hcl z hz
  have hs : sinceT T z.n = lastN (T.l z.n.toNat) := by unfold sinceT; rw [if_neg (by omega)]
  rw [hs] at this
  simpa using this

theorem suf_lastEq {T F : Tab} (h : Suf T F) (k : Nat) : lastN (T.l k) ≤ lastN (F.l k) := by rw [h.lastN k]; exact Int.le_refl _

theorem doH_first {H : Ht} (hH : H.v.Ok) (hT : H.v.tab.Ok) (hS : H.v.Sound) (hDs : ∀ s, s < 5 → ∀ D, H.seats s = some D → D.Ok) (x : St) : FirstC H x (doH H x) := by
  have stay : ∀ e S, FirstC H x (e, ⟨H.v, S⟩) := fun e S => .same rfl (fun _ _ => Int.le_refl _)
  unfold doH
  by_cases h1 : x.kind < 1 ∨ 10 < x.kind
  · rw [if_pos h1]; exact stay _ _
  rw [if_neg h1]
  by_cases h8 : x.kind = 8
  · rw [if_pos h8]
    refine .same (clearT_last _ _) (fun k hk => ?_)
    show lastN (H.v.tab.l k) ≤ lastN ((clearT H.v.tab (leastH H)).2.l k)
    rw [clearT_l _ _ hk, clear_last _ (clearK_lt _ _ (hT.1 k).1.1)]
    exact Int.le_refl _
  rw [if_neg h8]
  by_cases h9 : x.kind = 9
  · rw [if_pos h9]
    exact .same hS.1.symm (fun k _ => suf_lastEq hS k)
  rw [if_neg h9]
  by_cases hse : isSeatB x.s = false
  · rw [if_pos hse]; exact stay _ _
  rw [if_neg hse]
  obtain ⟨n, hn, hxn⟩ := seat_nat (s := x.s) (by simpa using hse)
  have hxt : x.s.toNat = n := by rw [hxn]; rfl
  by_cases hk1 : x.kind = 1
  · rw [if_pos hk1]
    exact .same (by rw [beginH_v]) (fun k _ => by rw [beginH_v]; exact Int.le_refl _)
  rw [if_neg hk1, hxt]
  unfold deedO
  cases hd : H.seats n with
  | none => exact stay _ _
  | some D =>
    have hDok := hDs n hn D hd
    have hck := writesD_ck hDok
    simp only
    unfold deedH
    by_cases k2 : x.kind = 2
    · rw [if_pos k2]; exact stay _ _
    rw [if_neg k2]
    by_cases k3 : x.kind = 3
    · rw [if_pos k3]; exact stay _ _
    rw [if_neg k3]
    by_cases k4 : x.kind = 4
    · rw [if_pos k4]; exact stay _ _
    rw [if_neg k4]
    by_cases k5 : x.kind = 5
    · rw [if_pos k5]; exact stay _ _
    rw [if_neg k5]
    by_cases k6 : x.kind = 6
    · rw [if_pos k6]
      unfold commitV
      by_cases c1 : mayD D H.v.tab ≠ 0
      · rw [if_pos c1]; exact stay _ _
      rw [if_neg c1]
      have c1' : mayD D H.v.tab = 0 := by simpa using c1
      by_cases c2 : writesD D = []
      · rw [if_pos c2]; exact stay _ _
      rw [if_neg c2]
      by_cases c3 : (putG H.v.log (writesD D)).1 ≠ 0
      · rw [if_pos c3]; exact stay _ _
      rw [if_neg c3]
      obtain ⟨z1, z2, z3⟩ := putG_zero (by simpa using c3)
      have hl : H.v.tab.last < 40 := by rw [hH.2.2]; exact z2
      obtain ⟨w1, w2⟩ := write_fine z1 hl
      obtain ⟨l1, l2⟩ := write_lastN hT z1 hl
      exact .more n D hn hxn hd (.inl k6) w2 (by simp only [Evt.of]; rw [w1]) (may_beg hDok c1') (fun k _ => l1 k) l2
    rw [if_neg k6]
    by_cases k10 : x.kind = 10
    · rw [if_pos k10]
      have tornI : ∀ G : Lg, G.l = H.v.log.l → FirstC H x (Evt.of (tornV H.v D x.keep).1 (if G.l.length = H.v.tab.last then 0 else (G.l.length : Int)), ⟨crashV G, fun _ => none⟩) := fun G hG =>
        .same (by show (writeAll Tab.new G.l).last = _; rw [hG]; exact hS.1.symm) (fun k _ => by show _ ≤ lastN ((writeAll Tab.new G.l).l k); rw [hG]; exact suf_lastEq hS k)
      show FirstC H x (Evt.of (tornV H.v D x.keep).1 (if (tornV H.v D x.keep).2.l.length = H.v.tab.last then 0 else ((tornV H.v D x.keep).2.l.length : Int)), ⟨crashV (tornV H.v D x.keep).2, fun _ => none⟩)
      by_cases c : (tornV H.v D x.keep).2.l = H.v.log.l
      · exact tornI _ c
      have hG : mayD D H.v.tab = 0 ∧ (putG H.v.log (writesD D)).1 = 0 ∧ (tornV H.v D x.keep).2.l = H.v.log.l ++ [writesD D] := by
        by_cases c0 : mayD D H.v.tab = 0 ∧ writesD D ≠ []
        · have e : tornV H.v D x.keep = tearG H.v.log (writesD D) x.keep := by unfold tornV; rw [if_pos c0]
          rw [e] at c ⊢
          unfold tearG at c ⊢
          by_cases c3 : (putG H.v.log (writesD D)).1 ≠ 0
          · rw [if_pos c3] at c; exact absurd rfl c
          rw [if_neg c3] at c ⊢
          split at c
          · rename_i hk
            rw [if_pos hk]
            exact ⟨c0.1, by simpa using c3, rfl⟩
          · exact absurd rfl c
        · have e : tornV H.v D x.keep = (mayD D H.v.tab, H.v.log) := by unfold tornV; rw [if_neg c0]
          rw [e] at c; exact absurd rfl c
      obtain ⟨m1, m2, m3⟩ := hG
      obtain ⟨z1, z2, z3⟩ := putG_zero m2
      have hF := writeAll_ok Tab.new_ok H.v.log.l
      have hl0 : H.v.tab.last < 40 := by rw [hH.2.2]; exact z2
      have hl : (writeAll Tab.new H.v.log.l).last < 40 := by rw [← hS.1]; exact hl0
      obtain ⟨w1, w2⟩ := write_fine z1 hl
      obtain ⟨l1, l2⟩ := write_lastN hF z1 hl
      have hlen : (tornV H.v D x.keep).2.l.length = H.v.tab.last + 1 := by rw [m3, hH.2.2]; simp
      have eT : (crashV (tornV H.v D x.keep).2).tab = (writeT (writeAll Tab.new H.v.log.l) (writesD D)).2 := by show writeAll Tab.new _ = _; rw [m3, writeAll_snoc]
      refine .more n D hn hxn hd (.inr k10) (by show (crashV _).tab.last = _; rw [eT, w2, hS.1]) ?_ (may_beg hDok m1) (fun k _ => ?_) (fun z hz => ?_)
      · show (if (tornV H.v D x.keep).2.l.length = H.v.tab.last then (0 : Int) else ((tornV H.v D x.keep).2.l.length : Int)) = _
        rw [hlen, if_neg (by omega)]; omega
      · show lastN (H.v.tab.l k) ≤ lastN ((crashV _).tab.l k)
        rw [eT]
        exact Int.le_trans (suf_lastEq hS k) (l1 k)
      · show lastN ((crashV _).tab.l z.n.toNat) = _
        rw [eT, l2 z hz, hS.1]
    rw [if_neg k10]
    exact stay _ _

end Go.Proofs.Ytoiobhcgpajogac
