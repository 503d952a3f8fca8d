/- Two halls, one of which forgets: a step of both. -/
import Derived.Test.YtoiobhcgpajogadHallR
namespace Go.Proofs.Ytoiobhcgpajogad
open Go.RowKit

theorem ckV_no12 (v : Val) : ckV v ≠ 12 := by
  unfold ckV
  split
  · simp
  · split <;> simp

theorem putD_no12 (D : Ded) (k : Int) (v : Val) : (putD D k v).1 ≠ 12 := by
  unfold putD
  split
  · simp
  · split
    · simp
    · split
      · exact ckV_no12 v
      · simp

theorem putD_beg (D : Ded) (k : Int) (v : Val) : (putD D k v).2.beg = D.beg := by
  unfold putD
  split
  · rfl
  · split
    · rfl
    · split <;> rfl

theorem mayD_no12 (D : Ded) (T : Tab) : mayD D T ≠ 12 := by
  unfold mayD
  repeat' split
  all_goals simp

theorem putG_no12 {G : Lg} {w : List Ent} (h : ckPs (-1) w = 0) : (putG G w).1 ≠ 12 := by
  unfold putG
  rw [if_neg (by rw [h]; simp)]
  split <;> simp

/-- What both come to. -/
structure Both (H G : Ht) (a b : Evt × Ht) : Prop where
  old : a.1.code = 12 → Rel a.2 G
  same : a.1.code ≠ 12 → b.1 = a.1 ∧ Rel a.2 b.2

theorem Both.no {H G : Ht} {a b : Evt × Ht} (h : a.1.code ≠ 12) (k : b.1 = a.1 ∧ Rel a.2 b.2) : Both H G a b := ⟨fun e => absurd e h, fun _ => k⟩

theorem Rel.withDeed {H G : Ht} (h : Rel H G) {n : Nat} {D D' : Ded} (hn : n < 5) (hD : H.seats n = some D) (hb : D'.beg = D.beg) : Rel ⟨H.v, upd H.seats n (some D')⟩ ⟨G.v, upd G.seats n (some D')⟩ := by
  refine ⟨h.log, h.suf, by rw [h.seats], fun s hs E hE => ?_⟩
  by_cases e : s = n
  · subst e
    simp only [upd_same, Option.some.injEq] at hE
    subst hE
    have := h.beg s hs D hD
    rw [hb]; exact this
  · simp only [upd_other _ _ e] at hE
    exact h.beg s hs E hE

theorem Rel.drop {H G : Ht} (h : Rel H G) (n : Nat) : Rel ⟨H.v, upd H.seats n none⟩ ⟨G.v, upd G.seats n none⟩ := by
  refine ⟨h.log, h.suf, by rw [h.seats], fun s hs E hE => ?_⟩
  by_cases e : s = n
  · subst e; simp only [upd_same] at hE; cases hE
  · simp only [upd_other _ _ e] at hE
    exact h.beg s hs E hE

theorem Rel.crash {A B : Lg} (hl : B = A) : Rel ⟨crashV A, fun _ => none⟩ ⟨crashV B, fun _ => none⟩ := by
  subst hl
  exact ⟨rfl, crashV_sound _, rfl, fun s _ D hD => by cases hD⟩

theorem commit_both {H G : Ht} (h : Rel H G) (hH : H.v.Ok) (hTH : H.v.tab.Ok) (hTG : G.v.tab.Ok) {n : Nat} {D : Ded} (hD : D.Ok) :
    (commitV H.v D).1.2 ≠ 12 ∧ (commitV G.v D).1 = (commitV H.v D).1 ∧ Rel ⟨(commitV H.v D).2, upd H.seats n none⟩ ⟨(commitV G.v D).2, upd G.seats n none⟩ := by
  have hm := mayD_suf h.suf D
  have hck := writesD_ck hD
  unfold commitV
  rw [hm, h.log]
  by_cases h1 : mayD D H.v.tab ≠ 0
  · rw [if_pos h1, if_pos h1]
    exact ⟨mayD_no12 _ _, rfl, h.drop n⟩
  · rw [if_neg h1, if_neg h1]
    by_cases h2 : writesD D = []
    · rw [if_pos h2, if_pos h2]
      exact ⟨by simp, rfl, h.drop n⟩
    · rw [if_neg h2, if_neg h2]
      by_cases h3 : (putG H.v.log (writesD D)).1 ≠ 0
      · rw [if_pos h3, if_pos h3]
        exact ⟨putG_no12 hck, rfl, h.drop n⟩
      · rw [if_neg h3, if_neg h3]
        have h3' : (putG H.v.log (writesD D)).1 = 0 := by simpa using h3
        obtain ⟨z1, z2, z3⟩ := putG_zero h3'
        have hl : H.v.tab.last < 40 := by rw [hH.2.2]; exact z2
        have w1 := (write_fine z1 hl).1
        have w2 := (write_fine z1 (T := G.v.tab) (by rw [← h.suf.1]; exact hl)).1
        refine ⟨by rw [w1]; simp, by rw [w1, w2, h.suf.1], ⟨rfl, h.suf.write hTH hTG z1 hl, by rw [h.seats], fun s hs E hE => ?_⟩⟩
        by_cases e : s = n
        · subst e; simp only [upd_same] at hE; cases hE
        · simp only [upd_other _ _ e] at hE
          obtain ⟨b1, b2⟩ := h.beg s hs E hE
          refine ⟨fun j hj => ?_, ?_⟩
          · show firstN ((writeT H.v.tab (writesD D)).2.l j) ≤ E.beg
            rw [write_first hTH]; exact b1 j hj
          · show E.beg ≤ ((writeT H.v.tab (writesD D)).2.last : Int)
            rw [(write_fine z1 hl).2]; omega

theorem tear_both {H G : Ht} (h : Rel H G) {D : Ded} (hD : D.Ok) (keep : Int) :
    (tearV H.v D keep).1.2 ≠ 12 ∧ tearV G.v D keep = tearV H.v D keep := by
  have ht : tornV G.v D keep = tornV H.v D keep := by unfold tornV; rw [mayD_suf h.suf D, h.log]
  refine ⟨?_, ?_⟩
  · show (tornV H.v D keep).1 ≠ 12
    unfold tornV
    split
    · unfold tearG
      split
      · exact putG_no12 (writesD_ck hD)
      · split <;> simp
    · exact mayD_no12 _ _
  · unfold tearV; rw [ht, h.suf.1]

theorem begin_both {H G : Ht} (h : Rel H G) (hTG : G.v.tab.Ok) (x : St) {n : Nat} (hn : n < 5) (hx : x.s.toNat = n) : Both H G (beginH H x) (beginH G x) := by
  unfold beginH
  rw [h.seats]
  by_cases hb : (H.seats x.s.toNat).isSome
  · rw [if_pos hb, if_pos hb]
    exact Both.no (by simp [Evt.of]) ⟨rfl, h⟩
  · rw [if_neg hb, if_neg hb, hx]
    unfold beginV
    rw [← h.suf.1]
    by_cases h1 : x.mode < 1 ∨ 3 < x.mode
    · rw [if_pos h1, if_pos h1]
      exact Both.no (by simp [Evt.of]) ⟨rfl, h⟩
    · rw [if_neg h1, if_neg h1]
      generalize (if x.mode = 3 then x.at_ else (H.v.tab.last : Int)) = b
      by_cases h2 : b < 0 ∨ (H.v.tab.last : Int) < b
      · rw [if_pos h2, if_pos h2]
        exact Both.no (by simp [Evt.of]) ⟨rfl, h⟩
      · rw [if_neg h2, if_neg h2]
        by_cases h3 : b < firstT H.v.tab
        · rw [if_pos h3]
          exact ⟨fun _ => h, fun e => absurd rfl e⟩
        · have hf := h.suf.first hTG
          rw [if_neg h3, if_neg (by omega)]
          refine Both.no (by simp [Evt.of]) ⟨rfl, ⟨h.log, h.suf, rfl, fun s hs E hE => ?_⟩⟩
          by_cases e : s = n
          · subst e
            simp only [upd_same, Option.some.injEq] at hE
            subst hE
            refine ⟨fun j hj => ?_, ?_⟩
            · have := firstT_ge (T := H.v.tab) hj
              show firstN (H.v.tab.l j) ≤ b
              omega
            · show b ≤ (H.v.tab.last : Int); omega
          · simp only [upd_other _ _ e] at hE
            exact h.beg s hs E hE

theorem doH_both {H G : Ht} (h : Rel H G) (hH : H.v.Ok) (hTH : H.v.tab.Ok) (hTG : G.v.tab.Ok) (hDs : ∀ s, s < 5 → ∀ D, H.seats s = some D → D.Ok) (x : St) (h8 : x.kind ≠ 8) : Both H G (doH H x) (doH G x) := by
  unfold doH
  by_cases h1 : x.kind < 1 ∨ 10 < x.kind
  · rw [if_pos h1, if_pos h1]; exact Both.no (by simp [Evt.of]) ⟨rfl, h⟩
  rw [if_neg h1, if_neg h1, if_neg h8, if_neg h8]
  by_cases h9 : x.kind = 9
  · rw [if_pos h9, if_pos h9]; exact Both.no (by simp [Evt.of]) ⟨rfl, Rel.crash h.log⟩
  rw [if_neg h9, if_neg h9]
  by_cases hse : isSeatB x.s = false
  · rw [if_pos hse, if_pos hse]; exact Both.no (by simp [Evt.of]) ⟨rfl, h⟩
  rw [if_neg hse, if_neg hse]
  obtain ⟨n, hn, hxn⟩ := seat_nat (s := x.s) (by simpa using hse)
  have hxt : x.s.toNat = n := by rw [hxn]; rfl
  by_cases hk1 : x.kind = 1
  · rw [if_pos hk1, if_pos hk1]; exact begin_both h hTG x hn hxt
  rw [if_neg hk1, if_neg hk1, h.seats, hxt]
  unfold deedO
  cases hd : H.seats n with
  | none => exact Both.no (by simp [Evt.of]) ⟨rfl, h⟩
  | some D =>
    obtain ⟨hbeg, -⟩ := h.beg n hn D hd
    have hDok := hDs n hn D hd
    simp only
    unfold deedH
    rw [hxt]
    by_cases k2 : x.kind = 2
    · rw [if_pos k2, if_pos k2, getD_suf h.suf hTG hbeg]
      exact Both.no (getD_no12 hbeg _) ⟨rfl, h.withDeed hn hd (getD_same D _ _).2.1⟩
    rw [if_neg k2, if_neg k2]
    by_cases k3 : x.kind = 3
    · rw [if_pos k3, if_pos k3]
      exact Both.no (putD_no12 _ _ _) ⟨rfl, h.withDeed hn hd (putD_beg _ _ _)⟩
    rw [if_neg k3, if_neg k3]
    by_cases k4 : x.kind = 4
    · rw [if_pos k4, if_pos k4]
      exact Both.no (putD_no12 _ _ _) ⟨rfl, h.withDeed hn hd (putD_beg _ _ _)⟩
    rw [if_neg k4, if_neg k4]
    by_cases k5 : x.kind = 5
    · obtain ⟨e1, e2, e3⟩ := listD_suf h.suf hTG hbeg x.key x.to_
      rw [if_pos k5, if_pos k5, e1]
      exact Both.no e2 ⟨rfl, h.withDeed hn hd e3⟩
    rw [if_neg k5, if_neg k5]
    by_cases k6 : x.kind = 6
    · obtain ⟨e1, e2, e3⟩ := commit_both h hH hTH hTG (n := n) hDok
      rw [if_pos k6, if_pos k6]
      exact Both.no e1 ⟨by rw [e2], e3⟩
    rw [if_neg k6, if_neg k6]
    by_cases k10 : x.kind = 10
    · obtain ⟨e1, e2⟩ := tear_both h hDok x.keep
      rw [if_pos k10, if_pos k10, e2]
      exact Both.no e1 ⟨rfl, Rel.crash rfl⟩
    rw [if_neg k10, if_neg k10]
    exact Both.no (by simp [Evt.of]) ⟨rfl, h.drop n⟩

end Go.Proofs.Ytoiobhcgpajogad
