/- The document's deeds: plain: what a step turns. -/
import Derived.Test.YtoiobhcgpajogadGreatSerP
import Derived.Test.YtoiobhcgpajogadGreatSer5
namespace Go.Proofs.YtoiobhcgpajogadGreat
open Go.RowKit

/-- The same was done; no more is open. -/
def Bk.sub (B' B : Bk) : Prop := B'.l = B.l ∧ ∀ s d, B'.seats s = some d → B.seats s = some d

theorem Bk.sub_refl (B : Bk) : B.sub B := ⟨rfl, fun _ _ h => h⟩

theorem upd_none {f : Nat → Option Dn} {n s : Nat} {d : Dn} (h : upd f n none s = some d) : f s = some d := by
  unfold upd at h
  split at h
  · cases h
  · exact h

theorem endB_false (B : Bk) (s : Nat) (m : Int) : (endB B s false m).sub B := by
  refine ⟨?_, fun j d h => upd_none h⟩
  unfold endB
  simp only
  split <;> rfl

theorem endB_idle {B : Bk} {s : Nat} (h : B.seats s = none) (b : Bool) (m : Int) : (endB B s b m).sub B := by
  refine ⟨?_, fun j d h => upd_none h⟩
  unfold endB
  simp only
  rw [h]

theorem clear_sub {B B' : Bk} (h : B'.sub B) : (⟨fun _ => none, B'.l⟩ : Bk).sub B := ⟨h.1, fun _ _ h => by cases h⟩

/-- Had the seat a deed? -/
def busyB (H : Ht) (x : St) : Bool := isSeatB x.s && (H.seats x.s.toNat).isSome

theorem doH_begun {H : Ht} {x : St} (hk : x.kind = 1) (hc : (doH H x).1.code = 0) : isSeatB x.s = true ∧ busyB H x = false := by
  unfold doH at hc
  rw [if_neg (by omega), if_neg (by omega), if_neg (by omega)] at hc
  by_cases hs : isSeatB x.s = false
  · rw [if_pos hs] at hc; cases hc
  · rw [if_neg hs, if_pos hk] at hc
    have hs' : isSeatB x.s = true := by simpa using hs
    refine ⟨hs', ?_⟩
    unfold busyB
    rw [hs']
    unfold beginH at hc
    by_cases hb : (H.seats x.s.toNat).isSome
    · rw [if_pos hb] at hc; cases hc
    · simpa using hb

theorem doH_idle {H : Ht} {x : St} (h8 : x.kind ≠ 8) (h9 : x.kind ≠ 9) (h1 : x.kind ≠ 1) (hr : ¬ (x.kind < 1 ∨ 10 < x.kind)) (hs : isSeatB x.s = true) (hb : busyB H x = false) : (doH H x).1.code = 7 := by
  unfold doH
  rw [if_neg hr, if_neg h8, if_neg h9, if_neg (by rw [hs]; simp), if_neg h1]
  have hn : H.seats x.s.toNat = none := by
    unfold busyB at hb
    rw [hs] at hb
    simpa using hb
  rw [hn]
  rfl

theorem doH_torn {H : Ht} {x : St} (hDs : ∀ s, s < 5 → ∀ D, H.seats s = some D → D.Ok) (hk : x.kind = 10) (hb : busyB H x = true) : (doH H x).1.code ≠ 7 := by
  unfold busyB at hb
  rw [Bool.and_eq_true] at hb
  obtain ⟨hs, ho⟩ := hb
  obtain ⟨D, hD⟩ := Option.isSome_iff_exists.1 ho
  obtain ⟨n, hn, hxn⟩ := seat_nat hs
  have hxt : x.s.toNat = n := by rw [hxn]; rfl
  unfold doH
  rw [if_neg (by omega), if_neg (by omega), if_neg (by omega), if_neg (by rw [hs]; simp), if_neg (by omega), hD]
  unfold deedO deedH
  simp only
  rw [if_neg (by omega), if_neg (by omega), if_neg (by omega), if_neg (by omega), if_neg (by omega), if_pos hk]
  exact torn_code (hDs n hn D (by rw [← hxt]; exact hD)) x.keep

/-- What a book notes, as the document has it. -/
theorem note_begun {B : Bk} {x : St} {e : Evt} {last : Int} (hk : x.kind = 1) (hc : e.code = 0) (hs : isSeatB x.s = true) : noteK B x e last = ⟨upd B.seats x.s.toNat (some ⟨0, if x.mode = 3 then x.at_ else last, x.mode, []⟩), B.l⟩ := by
  rw [noteK_act (overK_none (by omega) (by omega) (by omega) (by omega)) hc hs, if_pos hk]

theorem note_idle {H : Ht} {B : Bk} {x : St} {last : Int} (h : Kept H B) (hk : ¬ (x.kind = 1 ∧ (doH H x).1.code = 0)) (hb : busyB H x = false) : (noteK B x (doH H x).1 last).sub B := by
  by_cases h9 : x.kind = 9
  · rw [noteK_some (B' := ⟨fun _ => none, B.l⟩) (by unfold overK; rw [if_neg (by omega), if_neg (by omega), if_pos h9])]
    exact clear_sub (Bk.sub_refl B)
  by_cases h8 : x.kind = 8
  · have ho : overK B x (doH H x).1 = none := overK_none (by omega) (by omega) (by omega) (by omega)
    by_cases hc : (doH H x).1.code ≠ 0 ∨ isSeatB x.s = false
    · rw [noteK_none ho hc]; exact Bk.sub_refl B
    · rw [noteK_act ho (Classical.not_not.1 (fun hh => hc (.inl hh))) (by cases hq : isSeatB x.s with | true => rfl | false => exact absurd (.inr hq) hc)]
      rw [if_neg (by omega), if_neg (by omega), if_neg (by omega), if_neg (by omega), if_neg (by omega)]
      exact Bk.sub_refl B
  by_cases hs : isSeatB x.s = true
  · obtain ⟨n, hn, hxn⟩ := seat_nat hs
    have hxt : x.s.toNat = n := by rw [hxn]; rfl
    have hBn : B.seats n = none := by
      have h1 := h.open_ n hn
      have h2 : H.seats n = none := by
        unfold busyB at hb
        rw [hs, hxt] at hb
        simpa using hb
      rw [h2] at h1
      exact h1
    by_cases h7 : x.kind = 7
    · rw [noteK_some (B' := endB B n false 0) (by unfold overK; rw [if_pos h7, hs, hxt]; rfl)]
      exact endB_false B n 0
    by_cases h6 : x.kind = 6
    · rw [noteK_some (B' := endB B n ((doH H x).1.code == 0) (doH H x).1.n) (by unfold overK; rw [if_neg h7, if_pos h6, hs, hxt]; rfl)]
      exact endB_idle hBn _ _
    by_cases h10 : x.kind = 10
    · have h7c := doH_idle h8 h9 (by omega) (by omega) hs hb
      rw [noteK_some (B' := B) (by unfold overK; rw [if_neg h7, if_neg h6, if_neg h9, if_pos h10, hs]; simp only [if_true]; rw [if_pos h7c])]
      exact Bk.sub_refl B
    have hcode : (doH H x).1.code ≠ 0 := by
      by_cases hr : x.kind < 1 ∨ 10 < x.kind
      · unfold doH; rw [if_pos hr]; simp [Evt.of]
      · by_cases h1 : x.kind = 1
        · exact fun hc => hk ⟨h1, hc⟩
        · rw [doH_idle h8 h9 h1 hr hs hb]; decide
    rw [noteK_none (overK_none h6 h7 h9 h10) (.inl hcode)]
    exact Bk.sub_refl B
  · have hs' : isSeatB x.s = false := by simpa using hs
    by_cases h7 : x.kind = 7
    · rw [noteK_some (B' := B) (by unfold overK; rw [if_pos h7, hs']; rfl)]; exact Bk.sub_refl B
    by_cases h6 : x.kind = 6
    · rw [noteK_some (B' := B) (by unfold overK; rw [if_neg h7, if_pos h6, hs']; rfl)]; exact Bk.sub_refl B
    by_cases h10 : x.kind = 10
    · rw [noteK_some (B' := B) (by unfold overK; rw [if_neg h7, if_neg h6, if_neg h9, if_pos h10, hs']; rfl)]; exact Bk.sub_refl B
    rw [noteK_none (overK_none h6 h7 h9 h10) (.inr hs')]
    exact Bk.sub_refl B

/-- What is behind a step of a seat with a deed. -/
theorem note_busy {H : Ht} {B : Bk} {x : St} {last : Int} (h : Kept H B) (hDs : ∀ s, s < 5 → ∀ D, H.seats s = some D → D.Ok) (hb : busyB H x = true) :
    ∃ (n : Nat) (d : Dn), n < 5 ∧ x.s = (n : Int) ∧ B.seats n = some d ∧
      ((x.kind = 6 ∧ (doH H x).1.code = 0 ∨ x.kind = 10 ∧ 0 < (doH H x).1.n) → (noteK B x (doH H x).1 last).l = B.l ++ [⟨(doH H x).1.n, d.at_, d.mode, d.acts⟩] ∧ (noteK B x (doH H x).1 last).seats n = none ∧ ∀ s d', (noteK B x (doH H x).1 last).seats s = some d' → B.seats s = some d') ∧
      (¬ (x.kind = 6 ∧ (doH H x).1.code = 0 ∨ x.kind = 10 ∧ 0 < (doH H x).1.n) → ((doH H x).1.code ≠ 0 ∨ x.kind < 2 ∨ 5 < x.kind) → (noteK B x (doH H x).1 last).sub B) ∧
      ((doH H x).1.code = 0 → ∀ a : Ac, (x.kind = 2 ∧ a = ⟨2, x.key, 0, (doH H x).1.v, []⟩ ∨ x.kind = 3 ∧ a = ⟨3, x.key, 0, ⟨true, x.bytes⟩, []⟩ ∨ x.kind = 4 ∧ a = ⟨4, x.key, 0, Val.zero, []⟩ ∨ x.kind = 5 ∧ a = ⟨5, x.key, x.to_, Val.zero, (doH H x).1.l⟩) →
        noteK B x (doH H x).1 last = ⟨upd B.seats n (some ⟨d.n, d.at_, d.mode, d.acts ++ [a]⟩), B.l⟩) := by
  have hb' := hb
  unfold busyB at hb
  rw [Bool.and_eq_true] at hb
  obtain ⟨hs, ho⟩ := hb
  obtain ⟨D, hD⟩ := Option.isSome_iff_exists.1 ho
  obtain ⟨n, hn, hxn⟩ := seat_nat hs
  have hxt : x.s.toNat = n := by rw [hxn]; rfl
  have hop := h.open_ n hn
  rw [← hxt, hD] at hop
  obtain ⟨d, hd, -⟩ := hop
  rw [hxt] at hd
  generalize hev : (doH H x).1 = e at *
  refine ⟨n, d, hn, hxn, hd, fun hk => ?_, fun hk hk2 => ?_, fun hc a ha => ?_⟩
  · rcases hk with ⟨h6, hc⟩ | ⟨h10, hp⟩
    · rw [noteK_some (B' := endB B n (e.code == 0) e.n) (by unfold overK; rw [if_neg (by omega), if_pos h6, hs, hxt]; rfl), endB_some hd]
      refine ⟨?_, upd_same _ _ _, fun s d' h => upd_none h⟩
      rw [hc]; rfl
    · have h7c := doH_torn hDs h10 hb'
      rw [hev] at h7c
      rw [noteK_some (B' := ⟨fun _ => none, (endB B n (decide (0 < e.n)) e.n).l⟩) (by unfold overK; rw [if_neg (by omega), if_neg (by omega), if_neg (by omega), if_pos h10, hs]; simp only [if_true]; rw [if_neg h7c, hxt]), endB_some hd]
      refine ⟨?_, rfl, fun s d' h => by cases h⟩
      simp only
      rw [decide_eq_true hp]; rfl
  · by_cases h9 : x.kind = 9
    · rw [noteK_some (B' := ⟨fun _ => none, B.l⟩) (by unfold overK; rw [if_neg (by omega), if_neg (by omega), if_pos h9])]
      exact clear_sub (Bk.sub_refl B)
    by_cases h7 : x.kind = 7
    · rw [noteK_some (B' := endB B n false 0) (by unfold overK; rw [if_pos h7, hs, hxt]; rfl)]
      exact endB_false B n 0
    by_cases h6 : x.kind = 6
    · have hc : (e.code == 0) = false := by
        rw [beq_eq_false_iff_ne]
        exact fun hc => hk (.inl ⟨h6, hc⟩)
      rw [noteK_some (B' := endB B n (e.code == 0) e.n) (by unfold overK; rw [if_neg h7, if_pos h6, hs, hxt]; rfl), hc]
      exact endB_false B n e.n
    by_cases h10 : x.kind = 10
    · have h7c := doH_torn hDs h10 hb'
      rw [hev] at h7c
      have hp : decide (0 < e.n) = false := decide_eq_false (fun hp => hk (.inr ⟨h10, hp⟩))
      rw [noteK_some (B' := ⟨fun _ => none, (endB B n (decide (0 < e.n)) e.n).l⟩) (by unfold overK; rw [if_neg h7, if_neg h6, if_neg h9, if_pos h10, hs]; simp only [if_true]; rw [if_neg h7c, hxt]), hp]
      exact clear_sub (endB_false B n e.n)
    have ho2 : overK B x e = none := overK_none h6 h7 h9 h10
    by_cases hc : e.code ≠ 0
    · rw [noteK_none ho2 (.inl hc)]; exact Bk.sub_refl B
    · have hc0 : e.code = 0 := Classical.not_not.1 hc
      have hne1 : x.kind ≠ 1 := fun h1 => by
        have := (doH_begun (H := H) h1 (by rw [hev]; exact hc0)).2
        rw [hb'] at this; cases this
      rw [noteK_act ho2 hc0 hs, if_neg hne1, if_neg (by omega), if_neg (by omega), if_neg (by omega), if_neg (by omega)]
      exact Bk.sub_refl B
  · have ho2 : overK B x e = none := overK_none (by omega) (by omega) (by omega) (by omega)
    rw [noteK_act ho2 hc hs, if_neg (by omega), hxt]
    rcases ha with ⟨hk, rfl⟩ | ⟨hk, rfl⟩ | ⟨hk, rfl⟩ | ⟨hk, rfl⟩
    · rw [if_pos hk, noteA_some hd]
    · rw [if_neg (by omega), if_pos hk, noteA_some hd]
    · rw [if_neg (by omega), if_neg (by omega), if_pos hk, noteA_some hd]
    · rw [if_neg (by omega), if_neg (by omega), if_neg (by omega), if_pos hk, noteA_some hd]

end Go.Proofs.YtoiobhcgpajogadGreat

/- The document's deeds in memory. -/
namespace Go.Proofs.YtoiobhcgpajogadGreat
open Go.RowKit

/-- A deed in the array: its acts lie in a row of the colour q. -/
structure Od where
  n : Int
  at_ : Int
  mode : Int
  v : Value
  acts : List Acx
  q : Nat

instance : Inhabited Od := ⟨⟨0, 0, 0, .slice none 0 0, [], 0⟩⟩

def openL (f : Nat → Od) : List Value :=
  [.int .i64 (f 0).n, .int .i64 (f 0).at_, .int .i64 (f 0).mode, (f 0).v, .int .i64 (f 1).n, .int .i64 (f 1).at_, .int .i64 (f 1).mode, (f 1).v, .int .i64 (f 2).n, .int .i64 (f 2).at_, .int .i64 (f 2).mode, (f 2).v,
   .int .i64 (f 3).n, .int .i64 (f 3).at_, .int .i64 (f 3).mode, (f 3).v, .int .i64 (f 4).n, .int .i64 (f 4).at_, .int .i64 (f 4).mode, (f 4).v]

theorem openL_get (f : Nat → Od) {s : Nat} (hs : s < 5) : (openL f)[s * 4]? = some (.int .i64 (f s).n) ∧ (openL f)[s * 4 + 1]? = some (.int .i64 (f s).at_) ∧ (openL f)[s * 4 + 2]? = some (.int .i64 (f s).mode) ∧ (openL f)[s * 4 + 3]? = some (f s).v := by
  have h : s = 0 ∨ s = 1 ∨ s = 2 ∨ s = 3 ∨ s = 4 := by omega
  rcases h with rfl | rfl | rfl | rfl | rfl <;> exact ⟨rfl, rfl, rfl, rfl⟩

theorem openL_n (f : Nat → Od) {s : Nat} (hs : s < 5) (n : Int) : (openL f).set (s * 4) (.int .i64 n) = openL (upd f s { f s with n := n }) := by
  have h : s = 0 ∨ s = 1 ∨ s = 2 ∨ s = 3 ∨ s = 4 := by omega
  rcases h with rfl | rfl | rfl | rfl | rfl <;> rfl

theorem openL_at (f : Nat → Od) {s : Nat} (hs : s < 5) (n : Int) : (openL f).set (s * 4 + 1) (.int .i64 n) = openL (upd f s { f s with at_ := n }) := by
  have h : s = 0 ∨ s = 1 ∨ s = 2 ∨ s = 3 ∨ s = 4 := by omega
  rcases h with rfl | rfl | rfl | rfl | rfl <;> rfl

theorem openL_mode (f : Nat → Od) {s : Nat} (hs : s < 5) (n : Int) : (openL f).set (s * 4 + 2) (.int .i64 n) = openL (upd f s { f s with mode := n }) := by
  have h : s = 0 ∨ s = 1 ∨ s = 2 ∨ s = 3 ∨ s = 4 := by omega
  rcases h with rfl | rfl | rfl | rfl | rfl <;> rfl

theorem openL_acts (f : Nat → Od) {s : Nat} (hs : s < 5) (v : Value) (A : List Acx) (q : Nat) : (openL f).set (s * 4 + 3) v = openL (upd f s { f s with v := v, acts := A, q := q }) := by
  have h : s = 0 ∨ s = 1 ∨ s = 2 ∨ s = 3 ∨ s = 4 := by omega
  rcases h with rfl | rfl | rfl | rfl | rfl <;> rfl

/-- A deed that goes on. -/
structure LiveO (w : World) (g : Nat → Nat) (p ql nx N : Nat) (o : Od) (d : Dn) : Prop where
  at_ : o.at_ = d.at_
  mode : o.mode = d.mode
  isA : o.acts.map (·.a) = d.acts
  row : RowC w g o.q 44 6 o.v o.acts.length (encActs o.acts)
  col : p + 3 ≤ o.q ∧ o.q < nx
  len : o.acts.length ≤ N
  lists : ∀ z ∈ o.acts, FixL w g ql z

/-- A deed that was done. -/
structure FinO (w : World) (g : Nat → Nat) (p ql nx N : Nat) (y : Dnx) : Prop where
  acts : FixC w g y.q y.ad (encActs y.acts)
  col : p + 3 ≤ y.q ∧ y.q < nx
  len : y.acts.length ≤ N
  lists : ∀ z ∈ y.acts, FixL w g ql z

structure DeedsC (w : World) (g : Nat → Nat) (p ql b nx N : Nat) (B : Bk) (v : Value) (L : List Dnx) (f : Nat → Od) : Prop where
  loc : LocC w g p b 79 (openL f)
  slc : ∀ s, s < 5 → ∃ a n c, (f s).v = .slice a n c
  row : RowC w g (p + 1) 39 4 v L.length (encDones L)
  isL : L.map Dnx.d = B.l
  few : L.length ≤ N
  fin : ∀ y ∈ L, FinO w g p ql nx N y
  live : ∀ s, s < 5 → ∀ d, B.seats s = some d → LiveO w g p ql nx N (f s) d
  apart : ∀ s, s < 5 → B.seats s ≠ none → (∀ y ∈ L, y.q ≠ (f s).q) ∧ ∀ t, t < 5 → t ≠ s → B.seats t ≠ none → (f t).q ≠ (f s).q

section
variable {w w' : World} {g g' : Nat → Nat} {p ql b nx N lo hi : Nat} {B B' : Bk} {v : Value} {L : List Dnx} {f : Nat → Od}

theorem LiveO.frame {o : Od} {d : Dn} (h : LiveO w g p ql nx N o d) (e : Evo lo hi g g' w w') (hq : o.q < lo ∨ hi ≤ o.q) (hl : ql < lo ∨ hi ≤ ql) : LiveO w' g' p ql nx N o d :=
  ⟨h.at_, h.mode, h.isA, h.row.frame e hq, h.col, h.len, fun z hz => (h.lists z hz).frame e hl⟩
theorem FinO.frame {y : Dnx} (h : FinO w g p ql nx N y) (e : Evo lo hi g g' w w') (hq : y.q < lo ∨ hi ≤ y.q) (hl : ql < lo ∨ hi ≤ ql) : FinO w' g' p ql nx N y :=
  ⟨h.acts.frame e hq, h.col, h.len, fun z hz => (h.lists z hz).frame e hl⟩
theorem LiveO.more {o : Od} {d : Dn} {nx' N' : Nat} (h : LiveO w g p ql nx N o d) (h1 : nx ≤ nx') (h2 : N ≤ N') : LiveO w g p ql nx' N' o d :=
  ⟨h.at_, h.mode, h.isA, h.row, ⟨h.col.1, Nat.lt_of_lt_of_le h.col.2 h1⟩, Nat.le_trans h.len h2, h.lists⟩
theorem FinO.more {y : Dnx} {nx' N' : Nat} (h : FinO w g p ql nx N y) (h1 : nx ≤ nx') (h2 : N ≤ N') : FinO w g p ql nx' N' y :=
  ⟨h.acts, ⟨h.col.1, Nat.lt_of_lt_of_le h.col.2 h1⟩, Nat.le_trans h.len h2, h.lists⟩

theorem DeedsC.frame (h : DeedsC w g p ql b nx N B v L f) (e : Evo lo hi g g' w w') (hc : hi ≤ p ∨ nx ≤ lo) (hp : p + 3 ≤ nx) (hl : ql < lo ∨ hi ≤ ql) : DeedsC w' g' p ql b nx N B v L f :=
  ⟨h.loc.frame e (by omega), h.slc, h.row.frame e (by omega), h.isL, h.few, fun y hy => (h.fin y hy).frame e (by have := (h.fin y hy).col; omega) hl, fun s hs d hd => (h.live s hs d hd).frame e (by have := (h.live s hs d hd).col; omega) hl, h.apart⟩
theorem DeedsC.quiet (h : DeedsC w g p ql b nx N B v L f) (e : Evo 0 0 g g' w w') : DeedsC w' g' p ql b nx N B v L f :=
  ⟨h.loc.frame e (by omega), h.slc, h.row.frame e (by omega), h.isL, h.few, fun y hy => (h.fin y hy).frame e (by omega) (by omega), fun s hs d hd => (h.live s hs d hd).frame e (by omega) (by omega), h.apart⟩
theorem DeedsC.more {N' : Nat} (h : DeedsC w g p ql b nx N B v L f) (h2 : N ≤ N') : DeedsC w g p ql b nx N' B v L f :=
  ⟨h.loc, h.slc, h.row, h.isL, Nat.le_trans h.few h2, fun y hy => (h.fin y hy).more (Nat.le_refl _) h2, fun s hs d hd => (h.live s hs d hd).more (Nat.le_refl _) h2, h.apart⟩
theorem DeedsC.sub (h : DeedsC w g p ql b nx N B v L f) (e : B'.sub B) : DeedsC w g p ql b nx N B' v L f := by
  have live : ∀ s, B'.seats s ≠ none → B.seats s ≠ none := fun s hs => by
    obtain ⟨d, hd⟩ := Option.ne_none_iff_exists'.1 hs
    rw [e.2 s d hd]; simp
  exact ⟨h.loc, h.slc, h.row, h.isL.trans e.1.symm, h.few, h.fin, fun s hs d hd => h.live s hs d (e.2 s d hd), fun s hs hn => ⟨(h.apart s hs (live s hn)).1, fun t ht hne htn => (h.apart s hs (live s hn)).2 t ht hne (live t htn)⟩⟩

/-- A deed begins. -/
theorem DeedsC.begun (h : DeedsC w g p ql b nx N B v L f) {s : Nat} (hs : s < 5) {a m : Int} (hp : p + 3 ≤ nx) (hl : ql < p) (e : Evo p (p + 1) g g' w w') (hL : LocC w' g' p b 79 (openL (upd f s ⟨0, a, m, .slice none 0 0, [], nx⟩))) :
    DeedsC w' g' p ql b (nx + 1) N ⟨upd B.seats s (some ⟨0, a, m, []⟩), B.l⟩ v L (upd f s ⟨0, a, m, .slice none 0 0, [], nx⟩) := by
  refine ⟨hL, fun t ht => ?_, h.row.frame e (by omega), h.isL, h.few, fun y hy => ((h.fin y hy).frame e (by have := (h.fin y hy).col; omega) (by omega)).more (by omega) (Nat.le_refl _), fun t ht d hd => ?_, fun t ht hn => ⟨fun y hy => ?_, fun r hr hne hrn => ?_⟩⟩
  · by_cases et : t = s
    · subst et; rw [upd_same]; exact ⟨none, 0, 0, rfl⟩
    · rw [upd_other _ _ et]; exact h.slc t ht
  · by_cases et : t = s
    · subst et
      simp only [upd_same, Option.some.injEq] at hd ⊢
      subst hd
      exact ⟨rfl, rfl, rfl, ⟨World.ownsRow_nil _ 0 _ _, nofun⟩, ⟨hp, Nat.lt_succ_self _⟩, Nat.zero_le _, nofun⟩
    · simp only [upd_other _ _ et] at hd ⊢
      have k := h.live t ht d hd
      exact (k.frame e (by have := k.col; omega) (by omega)).more (by omega) (Nat.le_refl _)
  · have hy := (h.fin y hy).col
    by_cases et : t = s
    · subst et; rw [upd_same]; simp only; omega
    · simp only [upd_other _ _ et] at hn ⊢
      exact (h.apart t ht hn).1 y ‹y ∈ L›
  · by_cases et : t = s
    · subst et
      simp only [upd_same, upd_other _ _ hne] at hrn ⊢
      obtain ⟨d, hd⟩ := Option.ne_none_iff_exists'.1 hrn
      have := (h.live r hr d hd).col
      omega
    · by_cases er : r = s
      · subst er
        simp only [upd_same, upd_other _ _ et] at hn ⊢
        obtain ⟨d, hd⟩ := Option.ne_none_iff_exists'.1 hn
        have := (h.live t ht d hd).col
        omega
      · simp only [upd_other _ _ et, upd_other _ _ er] at hn hrn ⊢
        exact (h.apart t ht hn).2 r hr hne hrn

/-- A deed has one act more: its row grew, and then the array was told. -/
theorem DeedsC.acted {w1 : World} {g1 : Nat → Nat} (h : DeedsC w g p ql b nx N B v L f) {s : Nat} (hs : s < 5) {d : Dn} (hd : B.seats s = some d) {z : Acx} {v' : Value} (hl : ql < p) (hz : FixL w g ql z)
    (e1 : Evo (f s).q ((f s).q + 1) g g1 w w1) (hR : RowC w1 g1 (f s).q 44 6 v' ((f s).acts.length + 1) (encActs (f s).acts ++ encAcx z)) (hv : ∃ a n c, v' = .slice a n c)
    (e2 : Evo p (p + 1) g1 g' w1 w') (hL : LocC w' g' p b 79 (openL (upd f s { f s with v := v', acts := (f s).acts ++ [z] }))) :
    DeedsC w' g' p ql b nx (N + 1) ⟨upd B.seats s (some ⟨d.n, d.at_, d.mode, d.acts ++ [z.a]⟩), B.l⟩ v L (upd f s { f s with v := v', acts := (f s).acts ++ [z] }) := by
  have k := h.live s hs d hd
  have hcol := k.col
  have hne : B.seats s ≠ none := by rw [hd]; simp
  have hseat : ∀ t, (upd B.seats s (some (⟨d.n, d.at_, d.mode, d.acts ++ [z.a]⟩ : Dn))) t ≠ none → B.seats t ≠ none := fun t ht => by
    by_cases et : t = s
    · subst et; exact hne
    · rwa [upd_other _ _ et] at ht
  have hq : ∀ t, (upd f s { f s with v := v', acts := (f s).acts ++ [z] } t).q = (f t).q := fun t => by
    by_cases et : t = s
    · subst et; rw [upd_same]
    · rw [upd_other _ _ et]
  refine ⟨hL, fun t ht => ?_, (h.row.frame e1 (by omega)).frame e2 (by omega), h.isL, by have := h.few; omega, fun y hy => ?_, fun t ht d' hd' => ?_, fun t ht hn => ⟨fun y hy => ?_, fun r hr hne hrn => ?_⟩⟩
  · by_cases et : t = s
    · subst et; rw [upd_same]; exact hv
    · rw [upd_other _ _ et]; exact h.slc t ht
  · have hy2 := (h.fin y hy).col
    have hy3 := (h.apart s hs hne).1 y hy
    exact (((h.fin y hy).frame e1 (by omega) (by omega)).frame e2 (by omega) (by omega)).more (Nat.le_refl _) (by omega)
  · by_cases et : t = s
    · subst et
      simp only [upd_same, Option.some.injEq] at hd' ⊢
      subst hd'
      refine ⟨k.at_, k.mode, ?_, ?_, hcol, ?_, fun z' hz' => ?_⟩
      · simp only; rw [List.map_append, k.isA]; rfl
      · simp only
        rw [encActs_append, List.length_append]
        have := hR.frame e2 (by omega)
        simpa [encActs] using this
      · simp only; rw [List.length_append]; have := k.len; simp; omega
      · rcases List.mem_append.1 hz' with hz' | hz'
        · exact ((k.lists z' hz').frame e1 (by omega)).frame e2 (by omega)
        · rw [List.mem_singleton] at hz'; subst hz'
          exact (hz.frame e1 (by omega)).frame e2 (by omega)
    · simp only [upd_other _ _ et] at hd' ⊢
      have k2 := h.live t ht d' hd'
      have hc2 := k2.col
      have hc3 := (h.apart s hs hne).2 t ht et (by rw [hd']; simp)
      exact (((k2.frame e1 (by omega) (by omega)).frame e2 (by omega) (by omega))).more (Nat.le_refl _) (by omega)
  · rw [hq]; exact (h.apart t ht (hseat t hn)).1 y hy
  · rw [hq, hq]; exact (h.apart t ht (hseat t hn)).2 r hr hne (hseat r hrn)

/-- A deed is done. -/
theorem DeedsC.closed {w1 w2 w3 : World} {g1 g2 g3 : Nat → Nat} (h : DeedsC w g p ql b nx N B v L f) {s : Nat} (hs : s < 5) {d : Dn} (hd : B.seats s = some d) {m : Int} {a a' : Option Addr} {c c' : Nat} (hfv : (f s).v = .slice a (f s).acts.length c) (hl : ql < p)
    (e1 : Evo p (p + 1) g g1 w w1) (hL : LocC w1 g1 p b 79 (openL (upd f s { f s with n := m }))) (e2 : Evo 0 0 g1 g2 w1 w2) (e3 : Evo (p + 1) (p + 2) g2 g3 w2 w3)
    (hR : RowC w3 g3 (p + 1) 39 4 (.slice a' (L.length + 1) c') (L.length + 1) (encDones L ++ encDnx ⟨m, (f s).at_, (f s).mode, (f s).acts, a, c, (f s).q⟩))
    (hB : B'.l = B.l ++ [⟨m, d.at_, d.mode, d.acts⟩]) (hBn : B'.seats s = none) (hBs : ∀ t d', B'.seats t = some d' → B.seats t = some d') :
    DeedsC w3 g3 p ql b nx (N + 1) B' (.slice a' (L.length + 1) c') (L ++ [⟨m, (f s).at_, (f s).mode, (f s).acts, a, c, (f s).q⟩]) (upd f s { f s with n := m }) := by
  have k := h.live s hs d hd
  have hcol := k.col
  have hne : B.seats s ≠ none := by rw [hd]; simp
  have hseat : ∀ t, B'.seats t ≠ none → B.seats t ≠ none ∧ t ≠ s := fun t ht => by
    obtain ⟨d', hd'⟩ := Option.ne_none_iff_exists'.1 ht
    refine ⟨by rw [hBs t d' hd']; simp, fun et => ?_⟩
    subst et
    exact ht hBn
  have kf := ((k.frame e1 (by omega) (by omega)).frame e2 (by omega) (by omega)).frame e3 (by omega) (by omega)
  refine ⟨(hL.frame e2 (by omega)).frame e3 (by omega), fun t ht => ?_, ?_, ?_, ?_, fun y hy => ?_, fun t ht d' hd' => ?_, fun t ht hn => ⟨fun y hy => ?_, fun r hr hne2 hrn => ?_⟩⟩
  · by_cases et : t = s
    · subst et; rw [upd_same]; exact h.slc t ht
    · rw [upd_other _ _ et]; exact h.slc t ht
  · rw [encDones_append, List.length_append]
    simpa [encDones] using hR
  · rw [List.map_append, h.isL, hB]
    show _ ++ [Dnx.d _] = _
    unfold Dnx.d
    simp only
    rw [k.at_, k.mode, k.isA]
  · rw [List.length_append]; have := h.few; simp; omega
  · rcases List.mem_append.1 hy with hy | hy
    · have hy2 := (h.fin y hy).col
      exact ((((h.fin y hy).frame e1 (by omega) (by omega)).frame e2 (by omega) (by omega)).frame e3 (by omega) (by omega)).more (Nat.le_refl _) (by omega)
    · rw [List.mem_singleton] at hy; subst hy
      refine ⟨?_, hcol, by have := k.len; simp only; omega, kf.lists⟩
      have hr := kf.row
      rw [hfv] at hr
      exact hr.fix
  · obtain ⟨h1, h2⟩ := hseat t (by rw [hd']; simp)
    rw [upd_other _ _ h2]
    have k2 := h.live t ht d' (hBs t d' hd')
    have hc2 := k2.col
    exact (((k2.frame e1 (by omega) (by omega)).frame e2 (by omega) (by omega)).frame e3 (by omega) (by omega)).more (Nat.le_refl _) (by omega)
  · obtain ⟨h1, h2⟩ := hseat t hn
    rw [upd_other _ _ h2]
    rcases List.mem_append.1 hy with hy | hy
    · exact (h.apart t ht h1).1 y hy
    · rw [List.mem_singleton] at hy; subst hy
      exact fun e => (h.apart s hs hne).2 t ht h2 h1 e.symm
  · obtain ⟨h1, h2⟩ := hseat t hn
    obtain ⟨h3, h4⟩ := hseat r hrn
    rw [upd_other _ _ h2, upd_other _ _ h4]
    exact (h.apart t ht h1).2 r hr hne2 h3
end

/-- At the end: all that was done. -/
theorem DeedsC.dones {w : World} {g : Nat → Nat} {p ql b nx N : Nat} {B : Bk} {v : Value} {L : List Dnx} {f : Nat → Od} (h : DeedsC w g p ql b nx N B v L f) : ∃ a cap, v = .slice a L.length cap ∧ DonesF w a L := by
  obtain ⟨a, cap, rfl, hs, -⟩ := ownsRow.sliceAt h.row.1
  exact ⟨a, cap, rfl, hs, fun y hy => ⟨(h.fin y hy).acts.1, fun z hz => ((h.fin y hy).lists z hz).1.1⟩⟩

end Go.Proofs.YtoiobhcgpajogadGreat
