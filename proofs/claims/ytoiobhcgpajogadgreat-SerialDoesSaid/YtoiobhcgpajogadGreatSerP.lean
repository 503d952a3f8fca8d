/- What was done, in plain words: a book, replaying, and that all came one behind the other. -/
import Derived.Test.YtoiobhcgpajogadGreatHallP
namespace Go.Proofs.YtoiobhcgpajogadGreat
open Go.RowKit

structure Ac where
  kind : Int
  key : Int
  to_ : Int
  v : Val
  l : List Ent

structure Dn where
  n : Int
  at_ : Int
  mode : Int
  acts : List Ac

structure Bk where
  seats : Nat → Option Dn
  l : List Dn

def Bk.new : Bk := ⟨fun _ => none, []⟩

def noteA (B : Bk) (s : Nat) (a : Ac) : Bk := match B.seats s with | none => B | some d => ⟨upd B.seats s (some ⟨d.n, d.at_, d.mode, d.acts ++ [a]⟩), B.l⟩

def endB (B : Bk) (s : Nat) (done : Bool) (n : Int) : Bk :=
  ⟨upd B.seats s none, match B.seats s with | none => B.l | some d => if done then B.l ++ [⟨n, d.at_, d.mode, d.acts⟩] else B.l⟩

def overK (B : Bk) (x : St) (e : Evt) : Option Bk :=
  if x.kind = 7 then some (if isSeatB x.s then endB B x.s.toNat false 0 else B)
  else if x.kind = 6 then some (if isSeatB x.s then endB B x.s.toNat (e.code == 0) e.n else B)
  else if x.kind = 9 then some ⟨fun _ => none, B.l⟩
  else if x.kind = 10 then some (if isSeatB x.s then (if e.code = 7 then B else ⟨fun _ => none, (endB B x.s.toNat (decide (0 < e.n)) e.n).l⟩) else B)
  else none

def noteK (B : Bk) (x : St) (e : Evt) (last : Int) : Bk :=
  match overK B x e with
  | some B' => B'
  | none =>
    if e.code ≠ 0 ∨ isSeatB x.s = false then B
    else if x.kind = 1 then ⟨upd B.seats x.s.toNat (some ⟨0, if x.mode = 3 then x.at_ else last, x.mode, []⟩), B.l⟩
    else if x.kind = 2 then noteA B x.s.toNat ⟨2, x.key, 0, e.v, []⟩
    else if x.kind = 3 then noteA B x.s.toNat ⟨3, x.key, 0, ⟨true, x.bytes⟩, []⟩
    else if x.kind = 4 then noteA B x.s.toNat ⟨4, x.key, 0, Val.zero, []⟩
    else if x.kind = 5 then noteA B x.s.toNat ⟨5, x.key, x.to_, Val.zero, e.l⟩
    else B

/-! ### Replaying -/

def stepA (r : (Nat → Val) × Bool) (a : Ac) : (Nat → Val) × Bool :=
  if a.kind = 2 then (r.1, r.2 && decide (r.1 a.key.toNat = a.v))
  else if a.kind = 3 ∨ a.kind = 4 then (upd r.1 a.key.toNat a.v, r.2)
  else if a.kind = 5 then (r.1, r.2 && decide (listW r.1 a.key a.to_ 8 = a.l))
  else r

def replayA : (Nat → Val) × Bool → List Ac → (Nat → Val) × Bool
  | r, [] => r
  | r, a :: l => if a.key < 0 ∨ 8 ≤ a.key then (r.1, false) else replayA (stepA r a) l

def replay (w : Nat → Val) (l : List Ac) : (Nat → Val) × Bool := replayA (w, true) l

def KeysOk (l : List Ac) : Prop := ∀ a ∈ l, 0 ≤ a.key ∧ a.key < 8

theorem replayA_append : ∀ (l m : List Ac) (r : (Nat → Val) × Bool), KeysOk l → replayA r (l ++ m) = replayA (replayA r l) m
  | [], _, _, _ => rfl
  | a :: l, m, r, h => by
    have ha := h a (List.mem_cons_self ..)
    rw [List.cons_append, replayA, replayA, if_neg (by omega), if_neg (by omega)]
    exact replayA_append l m _ (fun b hb => h b (List.mem_cons_of_mem _ hb))

theorem replay_snoc {l : List Ac} (h : KeysOk l) {a : Ac} (ha : 0 ≤ a.key ∧ a.key < 8) (w : Nat → Val) : replay w (l ++ [a]) = stepA (replay w l) a := by
  unfold replay
  rw [replayA_append l [a] _ h, replayA, if_neg (by omega), replayA]

theorem KeysOk.snoc {l : List Ac} (h : KeysOk l) {a : Ac} (ha : 0 ≤ a.key ∧ a.key < 8) : KeysOk (l ++ [a]) := by
  intro b hb
  rcases List.mem_append.1 hb with hb | hb
  · exact h b hb
  · rw [List.mem_singleton] at hb; subst hb; exact ha

/-! ### Serial -/

def lookS (w : Nat → Val) (at_ : Int) (ok : Bool) (l : List Dn) : Bool := l.foldl (fun ok d => if d.n = 0 ∧ d.at_ = at_ then ok && (replay w d.acts).2 else ok) ok

def passS (n : Int) (r : (Nat → Val) × Bool) (l : List Dn) : (Nat → Val) × Bool :=
  l.foldl (fun r d => if d.n = n then ((replay r.1 d.acts).1, r.2 && ((replay r.1 d.acts).2 || !(d.mode == 2))) else r) r

def serialGo (l : List Dn) : Nat → (Nat → Val) × Bool
  | 0 => ((fun _ => Val.zero), lookS (fun _ => Val.zero) 0 true l)
  | n + 1 => ((passS ((n : Int) + 1) (serialGo l n) l).1, lookS (passS ((n : Int) + 1) (serialGo l n) l).1 ((n : Int) + 1) (passS ((n : Int) + 1) (serialGo l n) l).2 l)

def lastS (l : List Dn) : Int := l.foldl (fun m d => max m d.n) 0

def serialS (l : List Dn) : Bool := (serialGo l (lastS l).toNat).2

/-! ### What a deed noted -/

/-- What all keys had behind a commit. -/
def shF (F : Tab) (a : Int) (k : Nat) : Val := if k < 8 then (readT F k a).1 else Val.zero

structure Match (F : Tab) (D : Ded) (acts : List Ac) : Prop where
  keys : KeysOk acts
  writes : ∀ (w : Nat → Val) k, (replay w acts).1 k = if k < 8 then (D.wrote k).getD (w k) else w k
  answers : ∀ w : Nat → Val, (∀ k, k < 8 → D.read k = true → w k = (readT F k D.beg).1) → (replay w acts).2 = true
  wrote : (∃ a ∈ acts, a.kind = 3 ∨ a.kind = 4) ↔ ∃ k, k < 8 ∧ D.wrote k ≠ none

theorem Match.start (F : Tab) (mode beg : Int) : Match F (Ded.new mode beg) [] :=
  ⟨fun a ha => (by cases ha), fun w k => by show w k = _; split <;> rfl, fun _ _ => rfl, ⟨fun ⟨a, ha, _⟩ => (by cases ha), fun ⟨k, _, h⟩ => absurd rfl h⟩⟩

/-- More was read. -/
theorem Match.more {F : Tab} {D D' : Ded} {acts : List Ac} (h : Match F D acts) (hb : D'.beg = D.beg) (hw : D'.wrote = D.wrote) (hr : ∀ k, D.read k = true → D'.read k = true) : Match F D' acts :=
  ⟨h.keys, by rw [hw]; exact h.writes, fun w hh => h.answers w (fun k hk hk2 => by rw [hh k hk (hr k hk2), hb]), by rw [hw]; exact h.wrote⟩

/-- The table has grown. -/
theorem Match.grow {F F' : Tab} {D : Ded} {acts : List Ac} (h : Match F D acts) (hr : ∀ k : Nat, k < 8 → readT F' k D.beg = readT F k D.beg) : Match F' D acts :=
  ⟨h.keys, h.writes, fun w hh => h.answers w (fun k hk hk2 => by rw [hh k hk hk2, hr k hk]), h.wrote⟩

theorem Match.get {F : Tab} {D D' : Ded} {acts : List Ac} (h : Match F D acts) {m : Nat} (hm : m < 8) {v : Val} (hv : v = viewF D F m) (hb : D'.beg = D.beg) (hw : D'.wrote = D.wrote) (hr : ∀ k, D.read k = true → D'.read k = true) (hnew : D.wrote m = none → D'.read m = true) :
    Match F D' (acts ++ [⟨2, m, 0, v, []⟩]) := by
  have h' := h.more hb hw hr
  have ha : 0 ≤ (m : Int) ∧ (m : Int) < 8 := by omega
  have e : ∀ w, replay w (acts ++ [⟨2, (m : Int), 0, v, []⟩]) = ((replay w acts).1, (replay w acts).2 && decide ((replay w acts).1 m = v)) := fun w => by
    rw [replay_snoc h.keys ha]; rfl
  refine ⟨h.keys.snoc ha, fun w k => by rw [e]; exact h'.writes w k, fun w hh => ?_, ?_⟩
  · rw [e]
    simp only [Bool.and_eq_true, decide_eq_true_eq]
    refine ⟨h'.answers w hh, ?_⟩
    rw [h.writes w m, if_pos hm, hv]
    unfold viewF
    cases hq : D.wrote m with
    | some u => rfl
    | none => rw [Option.getD_none, hh m hm (hnew hq), hb]
  · rw [← h'.wrote]
    constructor
    · rintro ⟨a, hmem, hk⟩
      rcases List.mem_append.1 hmem with h1 | h1
      · exact ⟨a, h1, hk⟩
      · rw [List.mem_singleton] at h1; subst h1; simp at hk
    · rintro ⟨a, hmem, hk⟩
      exact ⟨a, List.mem_append_left _ hmem, hk⟩

theorem Match.put {F : Tab} {D D' : Ded} {acts : List Ac} (h : Match F D acts) {m : Nat} (hm : m < 8) {v : Val} {kind : Int} (hk : kind = 3 ∨ kind = 4) (hb : D'.beg = D.beg) (hr : D'.read = D.read) (hw : D'.wrote = upd D.wrote m (some v)) :
    Match F D' (acts ++ [⟨kind, m, 0, v, []⟩]) := by
  have ha : 0 ≤ (m : Int) ∧ (m : Int) < 8 := by omega
  have e : ∀ w, replay w (acts ++ [⟨kind, (m : Int), 0, v, []⟩]) = (upd (replay w acts).1 m v, (replay w acts).2) := fun w => by
    rw [replay_snoc h.keys ha]
    unfold stepA
    simp only
    rw [if_neg (by omega), if_pos hk]; rfl
  refine ⟨h.keys.snoc ha, fun w k => ?_, fun w hh => ?_, ?_⟩
  · rw [e, hw]
    by_cases ek : k = m
    · subst ek; simp only [upd_same]; rw [if_pos hm]; rfl
    · simp only [upd_other _ _ ek]; exact h.writes w k
  · rw [e]; exact h.answers w (fun k h1 h2 => by rw [hh k h1 (by rw [hr]; exact h2), hb])
  · refine ⟨fun _ => ⟨m, hm, by rw [hw, upd_same]; simp⟩, fun _ => ⟨_, List.mem_append_right _ (List.mem_singleton.2 rfl), hk⟩⟩

theorem listW_congr {w w' : Nat → Val} {f t : Int} : ∀ n : Nat, (∀ k : Nat, k < n → f ≤ (k : Int) → (k : Int) ≤ t → w k = w' k) → listW w f t n = listW w' f t n := by
  intro n
  induction n with
  | zero => intro _; rfl
  | succ n ih =>
    intro h
    rw [listW_succ, listW_succ, ih (fun k hk => h k (by omega))]
    by_cases hc : f ≤ (n : Int) ∧ (n : Int) ≤ t
    · rw [h n (by omega) hc.1 hc.2]
    · rw [if_neg (fun hh => hc ⟨hh.1, hh.2.1⟩), if_neg (fun hh => hc ⟨hh.1, hh.2.1⟩)]

theorem Match.list {F : Tab} {D D' : Ded} {acts : List Ac} (h : Match F D acts) {m : Nat} (hm : m < 8) {t : Int} {l : List Ent} (hl : l = listW (viewF D F) m t 8) (hb : D'.beg = D.beg) (hw : D'.wrote = D.wrote) (hr : ∀ k, D.read k = true → D'.read k = true)
    (hnew : ∀ k : Nat, k < 8 → (m : Int) ≤ k → (k : Int) ≤ t → D.wrote k = none → D'.read k = true) : Match F D' (acts ++ [⟨5, m, t, Val.zero, l⟩]) := by
  have h' := h.more hb hw hr
  have ha : 0 ≤ (m : Int) ∧ (m : Int) < 8 := by omega
  have e : ∀ w, replay w (acts ++ [⟨5, (m : Int), t, Val.zero, l⟩]) = ((replay w acts).1, (replay w acts).2 && decide (listW (replay w acts).1 m t 8 = l)) := fun w => by
    rw [replay_snoc h.keys ha]; rfl
  refine ⟨h.keys.snoc ha, fun w k => by rw [e]; exact h'.writes w k, fun w hh => ?_, ?_⟩
  · rw [e]
    simp only [Bool.and_eq_true, decide_eq_true_eq]
    refine ⟨h'.answers w hh, ?_⟩
    rw [hl]
    refine listW_congr 8 (fun k hk h1 h2 => ?_)
    rw [h.writes w k, if_pos hk]
    unfold viewF
    cases hq : D.wrote k with
    | some u => rfl
    | none => rw [Option.getD_none, hh k hk (hnew k hk h1 h2 hq), hb]
  · rw [← h'.wrote]
    constructor
    · rintro ⟨a, hmem, hk⟩
      rcases List.mem_append.1 hmem with h1 | h1
      · exact ⟨a, h1, hk⟩
      · rw [List.mem_singleton] at h1; subst h1; simp at hk
    · rintro ⟨a, hmem, hk⟩
      exact ⟨a, List.mem_append_left _ hmem, hk⟩

/-- A deed that was done. -/
structure DoneOk (F : Tab) (d : Dn) : Prop where
  keys : KeysOk d.acts
  beg : 0 ≤ d.at_ ∧ d.at_ ≤ F.last
  none_ : d.n = 0 → (∀ k, (replay (shF F d.at_) d.acts).1 k = shF F d.at_ k) ∧ (replay (shF F d.at_) d.acts).2 = true
  some_ : d.n ≠ 0 → d.at_ < d.n ∧ d.n ≤ F.last ∧ (∀ k, (replay (shF F (d.n - 1)) d.acts).1 k = shF F d.n k) ∧ (d.mode = 2 → (replay (shF F (d.n - 1)) d.acts).2 = true)
  wrote : (∃ a ∈ d.acts, a.kind = 3 ∨ a.kind = 4) ↔ d.n ≠ 0

theorem DoneOk.grow {F F' : Tab} {d : Dn} (h : DoneOk F d) (hl : F.last ≤ F'.last) (hr : ∀ (k : Nat) (a : Int), k < 8 → a ≤ F.last → readT F' k a = readT F k a) : DoneOk F' d := by
  have hs : ∀ a, a ≤ (F.last : Int) → shF F' a = shF F a := fun a ha => by
    funext k
    unfold shF
    split
    · rename_i hk; rw [hr k a hk ha]
    · rfl
  have hb := h.beg
  refine ⟨h.keys, ⟨hb.1, by omega⟩, fun h0 => ?_, fun h0 => ?_, h.wrote⟩
  · rw [hs _ hb.2]; exact h.none_ h0
  · obtain ⟨h1, h2, h3, h4⟩ := h.some_ h0
    rw [hs _ (by omega), hs _ h2]
    exact ⟨h1, by omega, h3, h4⟩

/-- Each commit has one deed. -/
def OneEach (F : Tab) (l : List Dn) : Prop := ∀ n : Nat, 1 ≤ n → n ≤ F.last → ((l.filter (fun d => d.n == (n : Int))).length = 1)

structure Kept (H : Ht) (B : Bk) : Prop where
  open_ : ∀ s, s < 5 → match H.seats s with
    | none => B.seats s = none
    | some D => ∃ d, B.seats s = some d ∧ d.at_ = D.beg ∧ d.mode = D.mode ∧ d.n = 0 ∧ Match (fullH H) D d.acts
  done : ∀ d ∈ B.l, DoneOk (fullH H) d
  each : OneEach (fullH H) B.l

end Go.Proofs.YtoiobhcgpajogadGreat

/- A step of a hall, and what is noted of it: plain laws. -/
namespace Go.Proofs.YtoiobhcgpajogadGreat
open Go.RowKit

theorem applyW_writesTo (f : Nat → Val) (D : Ded) (n : Nat) : ∀ k, applyW f (writesTo D n) k = if k < n then (D.wrote k).getD (f k) else f k := by
  induction n with
  | zero => intro k; rfl
  | succ n ih =>
    intro k
    rw [writesTo_succ]
    cases hq : D.wrote n with
    | none =>
      simp only [List.append_nil]
      rw [ih]
      by_cases e : k = n
      · subst e; rw [if_neg (by omega), if_pos (by omega), hq]; rfl
      · by_cases e2 : k < n
        · rw [if_pos e2, if_pos (by omega)]
        · rw [if_neg e2, if_neg (by omega)]
    | some v =>
      simp only
      rw [applyW_snoc]
      simp only [Int.toNat_natCast]
      by_cases e : k = n
      · subst e; rw [upd_same, if_pos (by omega), hq]; rfl
      · rw [upd_other _ _ e, ih]
        by_cases e2 : k < n
        · rw [if_pos e2, if_pos (by omega)]
        · rw [if_neg e2, if_neg (by omega)]

theorem read_last_eq {F : Tab} (hF : F.Ok) {k : Nat} (hk : k < 8) {a b : Int} (ha : lastN (F.l k) ≤ a) (ha2 : a ≤ F.last) (hb : lastN (F.l k) ≤ b) (hb2 : b ≤ F.last) : readT F k a = readT F k b := by
  have hs := (hF.1 k).1
  unfold readT
  rw [if_neg (by omega), if_neg (by omega), Int.toNat_natCast, readC_top hs ha, readC_top hs hb]

theorem may_zero {D : Ded} {T : Tab} (h : mayD D T = 0) : D.mode = 2 → ∀ k, k < 8 → D.read k = true → lastN (T.l k) ≤ D.beg := by
  intro hm k hk hr
  have hst : staleD D T = false := by
    cases hq : staleD D T with
    | false => rfl
    | true =>
      unfold mayD at h
      split at h
      · cases h
      · rw [if_pos ⟨hm, hq⟩] at h; cases h
  unfold staleD at hst
  have := List.any_eq_false.1 hst k (mem_readsTo.2 ⟨hk, hr⟩)
  have hs : sinceT T k = lastN (T.l k) := by unfold sinceT; rw [if_neg (by omega), Int.toNat_natCast]
  rw [hs] at this
  simpa using this

theorem writesD_nil {D : Ded} (h : writesD D = []) : ∀ k, k < 8 → D.wrote k = none := by
  intro k hk
  cases hq : D.wrote k with
  | none => rfl
  | some v =>
    have : (⟨(k : Int), v⟩ : Ent) ∈ writesTo D 8 := mem_writesTo.2 ⟨k, hk, rfl, hq⟩
    rw [show writesTo D 8 = [] from h] at this
    cases this

theorem writesD_some {D : Ded} (h : writesD D ≠ []) : ∃ k, k < 8 ∧ D.wrote k ≠ none := by
  cases hq : writesTo D 8 with
  | nil => exact absurd hq h
  | cons x l =>
    have : x ∈ writesTo D 8 := by rw [hq]; exact List.mem_cons_self ..
    obtain ⟨k, hk, -, hw⟩ := mem_writesTo.1 this
    exact ⟨k, hk, by rw [hw]; simp⟩

/-- A deed that wrote nothing is done. -/
theorem done_none {F : Tab} {D : Ded} {acts : List Ac} (hM : Match F D acts) (hb : 0 ≤ D.beg ∧ D.beg ≤ F.last) (hw : writesD D = []) {d : Dn} (h1 : d.n = 0) (h2 : d.at_ = D.beg) (h3 : d.acts = acts) : DoneOk F d := by
  have hn := writesD_nil hw
  refine ⟨by rw [h3]; exact hM.keys, by rw [h2]; exact hb, fun _ => ?_, fun h => absurd h1 h, ?_⟩
  · rw [h2, h3]
    refine ⟨fun k => ?_, hM.answers _ (fun k hk _ => by unfold shF; rw [if_pos hk])⟩
    rw [hM.writes]
    by_cases hk : k < 8
    · rw [if_pos hk, hn k hk]; rfl
    · rw [if_neg hk]
  · rw [h3, hM.wrote]
    exact ⟨fun ⟨k, hk, h⟩ => absurd (hn k hk) h, fun h => absurd h1 h⟩

/-- A deed that wrote is done. -/
theorem done_some {F T : Tab} (hF : F.Ok) (hST : Suf T F) {D : Ded} {acts : List Ac} (hM : Match F D acts) (hb : 0 ≤ D.beg ∧ D.beg ≤ F.last) (hmay : mayD D T = 0) (hw : writesD D ≠ []) (hc : (writeT F (writesD D)).1.2 = 0) {d : Dn} (h1 : d.n = (F.last : Int) + 1) (h2 : d.at_ = D.beg) (h3 : d.acts = acts) (h4 : d.mode = D.mode) :
    DoneOk (writeT F (writesD D)).2 d := by
  have hl : (writeT F (writesD D)).2.last = F.last + 1 := by rw [(write_good hc).2.2]
  have hold : ∀ (k : Nat) (a : Int), a ≤ F.last → readT (writeT F (writesD D)).2 k a = readT F k a := fun k a ha => read_later hF _ k ha
  have hsh : ∀ a, a ≤ (F.last : Int) → shF (writeT F (writesD D)).2 a = shF F a := fun a ha => by
    funext k; unfold shF; rw [hold k a ha]
  have hnew : ∀ k, shF (writeT F (writesD D)).2 ((F.last : Int) + 1) k = if k < 8 then (D.wrote k).getD (shF F F.last k) else Val.zero := by
    intro k
    unfold shF
    by_cases hk : k < 8
    · rw [if_pos hk, if_pos hk, if_pos hk, read_write hF hc hk]
      show applyW _ (writesTo D 8) k = _
      rw [applyW_writesTo, if_pos hk]
    · rw [if_neg hk, if_neg hk]
  refine ⟨by rw [h3]; exact hM.keys, by rw [h2, hl]; omega, fun h => by omega, fun _ => ⟨by omega, by rw [hl, h1]; omega, fun k => ?_, fun hm => ?_⟩, ?_⟩
  · rw [h1, h3, show (F.last : Int) + 1 - 1 = F.last by omega, hsh _ (Int.le_refl _), hnew, hM.writes]
    by_cases hk : k < 8
    · rw [if_pos hk, if_pos hk]
    · rw [if_neg hk, if_neg hk]; unfold shF; rw [if_neg hk]
  · rw [h1, h3, show (F.last : Int) + 1 - 1 = F.last by omega, hsh _ (Int.le_refl _)]
    refine hM.answers _ (fun k hk hr => ?_)
    unfold shF
    rw [if_pos hk]
    have hlk := may_zero hmay (by rw [← h4]; exact hm) k hk hr
    rw [hST.lastN k] at hlk
    rw [read_last_eq hF hk (hF.1 k).2 (Int.le_refl _) hlk hb.2]
  · rw [h3, hM.wrote]
    exact ⟨fun _ => by omega, fun _ => writesD_some hw⟩

theorem OneEach.none_ {F : Tab} {l : List Dn} (h : OneEach F l) {d : Dn} (hd : d.n = 0) : OneEach F (l ++ [d]) := by
  intro n h1 h2
  rw [List.filter_append, List.length_append, h n h1 h2]
  have : ((d.n == (n : Int)) = false) := by rw [hd]; simp; omega
  simp [this]

theorem OneEach.some_ {F F' : Tab} {l : List Dn} (h : OneEach F l) (hl : F'.last = F.last + 1) (hD : ∀ d ∈ l, DoneOk F d) {d : Dn} (hd : d.n = (F.last : Int) + 1) : OneEach F' (l ++ [d]) := by
  intro n h1 h2
  rw [List.filter_append, List.length_append]
  by_cases e : n ≤ F.last
  · rw [h n h1 e]
    have : ((d.n == (n : Int)) = false) := by rw [hd]; simp; omega
    simp [this]
  · obtain rfl : n = F.last + 1 := by omega
    have h0 : l.filter (fun d => d.n == ((F.last + 1 : Nat) : Int)) = [] := by
      rw [List.filter_eq_nil_iff]
      intro c hc
      have := hD c hc
      by_cases h0 : c.n = 0
      · rw [h0]; simp; omega
      · have := (this.some_ h0).2.1
        simp; omega
    have : ((d.n == ((F.last + 1 : Nat) : Int)) = true) := by rw [hd]; simp
    rw [h0, List.filter_cons, if_pos this]
    rfl

/-! ### One step -/

theorem full_ok (H : Ht) : (fullH H).Ok := writeAll_ok Tab.new_ok H.v.log.l

theorem Kept.start : Kept Ht.new Bk.new := ⟨fun s _ => rfl, fun d hd => (by cases hd), fun n h1 h2 => by
  have : (fullH Ht.new).last = 0 := rfl
  omega⟩

/-- Nothing but what nobody knows of has turned. -/
theorem Kept.same {H H' : Ht} {B : Bk} (h : Kept H B) (h1 : H'.v.log.l = H.v.log.l) (h2 : H'.seats = H.seats) : Kept H' B := by
  have e : fullH H' = fullH H := by unfold fullH; rw [h1]
  exact ⟨by rw [h2, e]; exact h.open_, by rw [e]; exact h.done, by rw [e]; exact h.each⟩

/-- All seats are empty. -/
theorem Kept.clear {H' : Ht} {B' : Bk} (h1 : H'.seats = fun _ => none) (h2 : B'.seats = fun _ => none) (hd : ∀ d ∈ B'.l, DoneOk (fullH H') d) (he : OneEach (fullH H') B'.l) : Kept H' B' :=
  ⟨fun s _ => by rw [h1, h2], hd, he⟩

/-- One seat's deed has turned. -/
theorem Kept.one {H H' : Ht} {B B' : Bk} (h : Kept H B) (h1 : H'.v.log.l = H.v.log.l) {n : Nat} {D' : Ded} {d' : Dn} (h2 : H'.seats = upd H.seats n (some D')) (h3 : B'.seats = upd B.seats n (some d')) (h4 : B'.l = B.l)
    (h5 : d'.at_ = D'.beg ∧ d'.mode = D'.mode ∧ d'.n = 0 ∧ Match (fullH H) D' d'.acts) : Kept H' B' := by
  have e : fullH H' = fullH H := by unfold fullH; rw [h1]
  refine ⟨fun s hs => ?_, by rw [e, h4]; exact h.done, by rw [e, h4]; exact h.each⟩
  rw [h2, h3, e]
  by_cases es : s = n
  · subst es; rw [upd_same, upd_same]; exact ⟨d', rfl, h5⟩
  · rw [upd_other _ _ es, upd_other _ _ es]; exact h.open_ s hs

/-- One seat's deed is over; what was done is told by F' and l. -/
theorem Kept.over {H H' : Ht} {B B' : Bk} (h : Kept H B) (hB : BegsH H) {n : Nat} (h2 : H'.seats = upd H.seats n none) (h3 : B'.seats = upd B.seats n none) (hlast : (fullH H).last = H.v.tab.last)
    (hr : ∀ (k : Nat) (a : Int), k < 8 → a ≤ (fullH H).last → readT (fullH H') k a = readT (fullH H) k a) (hd : ∀ d ∈ B'.l, DoneOk (fullH H') d) (he : OneEach (fullH H') B'.l) : Kept H' B' := by
  refine ⟨fun s hs => ?_, hd, he⟩
  rw [h2, h3]
  by_cases es : s = n
  · subst es; rw [upd_same, upd_same]
  · rw [upd_other _ _ es, upd_other _ _ es]
    have ho := h.open_ s hs
    cases hq : H.seats s with
    | none => rw [hq] at ho; exact ho
    | some D =>
      rw [hq] at ho
      obtain ⟨d, i1, i2, i3, i4, i5⟩ := ho
      exact ⟨d, i1, i2, i3, i4, i5.grow (fun k hk => hr k _ hk (by rw [hlast]; exact (hB s hs D hq).2))⟩

theorem getD_reads (D : Ded) (T : Tab) (k : Int) : (∀ j, D.read j = true → (getD D T k).2.read j = true) ∧ ((getD D T k).1.2 = 0 → ∀ m : Nat, k = m → D.wrote m = none → (getD D T k).2.read m = true) := by
  unfold getD
  by_cases hk : k < 0 ∨ 8 ≤ k
  · rw [if_pos hk]; exact ⟨fun _ h => h, fun h => by cases h⟩
  · rw [if_neg hk]
    cases hq : D.wrote k.toNat with
    | some v => exact ⟨fun _ h => h, fun _ m hm hw => by subst hm; rw [Int.toNat_natCast] at hq; rw [hq] at hw; cases hw⟩
    | none =>
      simp only
      split
      · refine ⟨fun j hj => ?_, fun _ m hm _ => ?_⟩
        · simp only [upd]; split <;> simp_all
        · subst hm; simp [upd]
      · rename_i hc
        exact ⟨fun _ h => h, fun h => absurd h hc⟩

theorem listDGo_reads {T : Tab} : ∀ (ks : List Nat) (D : Ded) (out : List Ent), (∀ j, D.read j = true → (listDGo T ks D out).2.read j = true) ∧ ((listDGo T ks D out).1.2 = 0 → ∀ m ∈ ks, D.wrote m = none → (listDGo T ks D out).2.read m = true)
  | [], D, out => ⟨fun _ h => h, fun _ m hm => by cases hm⟩
  | k :: ks, D, out => by
    obtain ⟨g1, g2⟩ := getD_reads D T k
    have hw := (getD_same D T k).2.2
    rw [listDGo]
    split
    · rename_i hc
      exact ⟨g1, fun h => absurd h hc⟩
    · rename_i hc
      obtain ⟨i1, i2⟩ := listDGo_reads (T := T) ks (getD D T k).2 (if (getD D T k).1.1.there then out ++ [⟨k, (getD D T k).1.1⟩] else out)
      refine ⟨fun j hj => i1 j (g1 j hj), fun h m hm hn => ?_⟩
      rcases List.mem_cons.1 hm with rfl | hm
      · exact i1 _ (g2 (by simpa using hc) m rfl hn)
      · exact i2 h m hm (by rw [hw]; exact hn)

theorem listD_reads (D : Ded) (T : Tab) (f u : Int) : (∀ j, D.read j = true → (listD D T f u).2.read j = true) ∧ ((listD D T f u).1.2 = 0 → ∀ m : Nat, f ≤ m → (m : Int) ≤ u → D.wrote m = none → (listD D T f u).2.read m = true) := by
  unfold listD
  by_cases hk : f < 0 ∨ 8 ≤ f ∨ u < 0 ∨ 8 ≤ u
  · rw [if_pos hk]; exact ⟨fun _ h => h, fun h => by cases h⟩
  · rw [if_neg hk]
    obtain ⟨i1, i2⟩ := listDGo_reads (T := T) ((List.range (u.toNat + 1)).drop f.toNat) D []
    refine ⟨i1, fun h m h1 h2 hn => i2 h m ?_ hn⟩
    have e : (List.range (u.toNat + 1)).drop f.toNat = List.range' f.toNat (u.toNat + 1 - f.toNat) := by
      rw [List.range_eq_range', List.drop_range']; simp
    rw [e, List.mem_range']
    exact ⟨m - f.toNat, by omega, by omega⟩

theorem putD_read (D : Ded) (k : Int) (v : Val) : (putD D k v).2.read = D.read ∧ (putD D k v).2.mode = D.mode ∧ (putD D k v).2.beg = D.beg := by
  unfold putD
  split
  · exact ⟨rfl, rfl, rfl⟩
  · split
    · exact ⟨rfl, rfl, rfl⟩
    · split <;> exact ⟨rfl, rfl, rfl⟩

theorem listDGo_mode {T : Tab} : ∀ (ks : List Nat) (D : Ded) (out : List Ent), (listDGo T ks D out).2.mode = D.mode
  | [], _, _ => rfl
  | k :: ks, D, out => by
    have hg := (getD_same D T k).1
    rw [listDGo]
    split
    · exact hg
    · rw [listDGo_mode ks]; exact hg

theorem listD_mode (D : Ded) (T : Tab) (f u : Int) : (listD D T f u).2.mode = D.mode := by
  unfold listD
  split
  · rfl
  · exact listDGo_mode _ _ _

end Go.Proofs.YtoiobhcgpajogadGreat

/- A book is kept, step by step; and what it tells came one behind the other. Plain laws. -/
namespace Go.Proofs.YtoiobhcgpajogadGreat
open Go.RowKit

theorem overK_none {B : Bk} {x : St} {e : Evt} (h6 : x.kind ≠ 6) (h7 : x.kind ≠ 7) (h9 : x.kind ≠ 9) (h10 : x.kind ≠ 10) : overK B x e = none := by
  unfold overK; rw [if_neg h7, if_neg h6, if_neg h9, if_neg h10]

theorem noteK_none {B : Bk} {x : St} {e : Evt} {last : Int} (h : overK B x e = none) (hc : e.code ≠ 0 ∨ isSeatB x.s = false) : noteK B x e last = B := by
  unfold noteK; rw [h]; exact if_pos hc

theorem noteK_some {B B' : Bk} {x : St} {e : Evt} {last : Int} (h : overK B x e = some B') : noteK B x e last = B' := by
  unfold noteK; rw [h]

theorem noteK_act {B : Bk} {x : St} {e : Evt} {last : Int} (h : overK B x e = none) (hc : e.code = 0) (hs : isSeatB x.s = true) :
    noteK B x e last = if x.kind = 1 then ⟨upd B.seats x.s.toNat (some ⟨0, if x.mode = 3 then x.at_ else last, x.mode, []⟩), B.l⟩
    else if x.kind = 2 then noteA B x.s.toNat ⟨2, x.key, 0, e.v, []⟩
    else if x.kind = 3 then noteA B x.s.toNat ⟨3, x.key, 0, ⟨true, x.bytes⟩, []⟩
    else if x.kind = 4 then noteA B x.s.toNat ⟨4, x.key, 0, Val.zero, []⟩
    else if x.kind = 5 then noteA B x.s.toNat ⟨5, x.key, x.to_, Val.zero, e.l⟩
    else B := by
  unfold noteK; rw [h]
  exact if_neg (by rw [hs]; simp [hc])

theorem noteA_some {B : Bk} {n : Nat} {d : Dn} (h : B.seats n = some d) (a : Ac) : noteA B n a = ⟨upd B.seats n (some ⟨d.n, d.at_, d.mode, d.acts ++ [a]⟩), B.l⟩ := by
  unfold noteA; rw [h]

theorem endB_some {B : Bk} {n : Nat} {d : Dn} (h : B.seats n = some d) (done : Bool) (m : Int) : endB B n done m = ⟨upd B.seats n none, if done then B.l ++ [⟨m, d.at_, d.mode, d.acts⟩] else B.l⟩ := by
  unfold endB; rw [h]

theorem endB_none {B : Bk} {n : Nat} (h : B.seats n = none) (done : Bool) (m : Int) : endB B n done m = ⟨upd B.seats n none, B.l⟩ := by
  unfold endB; rw [h]

theorem torn_cases (V : Vt) (D : Ded) (keep : Int) : (tornV V D keep).2.l = V.log.l ∨ (mayD D V.tab = 0 ∧ writesD D ≠ [] ∧ (putG V.log (writesD D)).1 = 0 ∧ (tornV V D keep).2.l = V.log.l ++ [writesD D]) := by
  unfold tornV
  by_cases c0 : mayD D V.tab = 0 ∧ writesD D ≠ []
  · rw [if_pos c0]
    unfold tearG
    by_cases c3 : (putG V.log (writesD D)).1 ≠ 0
    · rw [if_pos c3]; exact .inl rfl
    · rw [if_neg c3]
      split
      · exact .inr ⟨c0.1, c0.2, by simpa using c3, rfl⟩
      · exact .inl rfl
  · rw [if_neg c0]; exact .inl rfl

theorem may_codes (D : Ded) (T : Tab) : mayD D T = 0 ∨ mayD D T = 10 ∨ mayD D T = 11 := by
  unfold mayD
  split
  · exact .inr (.inl rfl)
  · split
    · exact .inr (.inr rfl)
    · exact .inl rfl

theorem torn_code {V : Vt} {D : Ded} (hD : D.Ok) (keep : Int) : (tornV V D keep).1 ≠ 7 := by
  unfold tornV
  split
  · unfold tearG
    have hp : (putG V.log (writesD D)).1 ≠ 7 := by
      unfold putG
      rw [if_neg (by rw [writesD_ck hD]; simp)]
      split <;> simp
    split
    · exact hp
    · split <;> simp
  · have := may_codes D V.tab; show mayD D V.tab ≠ 7; omega

theorem beginV_as {T : Tab} {m a c : Int} {D : Ded} (h : beginV T m a = (some D, c)) : D = Ded.new m (if m = 3 then a else T.last) := by
  unfold beginV at h
  by_cases h1 : m < 1 ∨ 3 < m
  · rw [if_pos h1] at h; cases h
  · rw [if_neg h1] at h
    generalize (if m = 3 then a else (T.last : Int)) = b at h ⊢
    by_cases h2 : b < 0 ∨ (T.last : Int) < b
    · rw [if_pos h2] at h; cases h
    · rw [if_neg h2] at h
      by_cases h3 : b < firstT T
      · rw [if_pos h3] at h; cases h
      · rw [if_neg h3] at h
        exact (Option.some.inj (Prod.mk.inj h).1).symm

theorem Kept.endNone {H H' : Ht} {B : Bk} (h : Kept H B) {n : Nat} (h1 : H'.v.log.l = H.v.log.l) (h2 : H'.seats = H.seats) (hn : B.seats n = none) : Kept H' ⟨upd B.seats n none, B.l⟩ := by
  have e : upd B.seats n none = B.seats := by rw [← hn]; exact upd_self _ _
  rw [e]
  exact h.same h1 h2

theorem kept_step {H : Ht} {B : Bk} (h : Kept H B) (hH : H.v.Ok) (hT : H.v.tab.Ok) (hS : H.v.Sound) (hB : BegsH H) (hDs : ∀ s, s < 5 → ∀ D, H.seats s = some D → D.Ok) (hb0 : ∀ s, s < 5 → ∀ D, H.seats s = some D → 0 ≤ D.beg) (x : St) : Kept (doH H x).2 (noteK B x (doH H x).1 H.v.tab.last) := by
  have hlast : (fullH H).last = H.v.tab.last := hS.1.symm
  have hF := full_ok H
  unfold doH
  by_cases h1 : x.kind < 1 ∨ 10 < x.kind
  · rw [if_pos h1, noteK_none (overK_none (by omega) (by omega) (by omega) (by omega)) (.inl (by simp [Evt.of]))]
    exact h
  rw [if_neg h1]
  by_cases h8 : x.kind = 8
  · rw [if_pos h8]
    have e : ∀ e : Evt, noteK B x e H.v.tab.last = B := fun e => by
      have ho := overK_none (B := B) (x := x) (e := e) (by omega) (by omega) (by omega) (by omega)
      by_cases hc : e.code ≠ 0 ∨ isSeatB x.s = false
      · exact noteK_none ho hc
      · rw [noteK_act ho (Classical.not_not.1 (fun hh => hc (.inl hh))) (by cases hq : isSeatB x.s with | true => rfl | false => exact absurd (.inr hq) hc)]
        rw [if_neg (by omega), if_neg (by omega), if_neg (by omega), if_neg (by omega), if_neg (by omega)]
    rw [e]
    exact h.same rfl rfl
  rw [if_neg h8]
  by_cases h9 : x.kind = 9
  · rw [if_pos h9, noteK_some (B' := ⟨fun _ => none, B.l⟩) (by unfold overK; rw [if_neg (by omega), if_neg (by omega), if_pos h9])]
    exact Kept.clear rfl rfl h.done h.each
  rw [if_neg h9]
  by_cases hse : isSeatB x.s = false
  · rw [if_pos hse]
    have e : noteK B x (Evt.of 1 0) H.v.tab.last = B := by
      by_cases h7 : x.kind = 7
      · exact noteK_some (by unfold overK; rw [if_pos h7, hse]; rfl)
      by_cases h6 : x.kind = 6
      · exact noteK_some (by unfold overK; rw [if_neg h7, if_pos h6, hse]; rfl)
      by_cases h10 : x.kind = 10
      · exact noteK_some (by unfold overK; rw [if_neg h7, if_neg h6, if_neg h9, if_pos h10, hse]; rfl)
      exact noteK_none (overK_none h6 h7 h9 h10) (.inr hse)
    rw [e]; exact h
  rw [if_neg hse]
  have hse' : isSeatB x.s = true := by simpa using hse
  obtain ⟨n, hn, hxn⟩ := seat_nat hse'
  have hxt : x.s.toNat = n := by rw [hxn]; rfl
  by_cases hk1 : x.kind = 1
  · rw [if_pos hk1]
    have ho : ∀ e, overK B x e = none := fun e => overK_none (by omega) (by omega) (by omega) (by omega)
    unfold beginH
    rw [hxt]
    by_cases hb : (H.seats n).isSome
    · rw [if_pos hb, noteK_none (ho _) (.inl (by simp [Evt.of]))]; exact h
    · rw [if_neg hb]
      generalize hbv : beginV H.v.tab x.mode x.at_ = bv
      obtain ⟨o, c⟩ := bv
      cases o with
      | none =>
        simp only
        rw [noteK_none (ho _) (.inl (beginV_none hbv))]; exact h
      | some D =>
        have hc := beginV_some hbv
        have hD := beginV_as hbv
        subst hc
        simp only
        rw [noteK_act (ho _) rfl hse', if_pos hk1, hxt]
        refine h.one rfl rfl rfl rfl ⟨?_, ?_, rfl, ?_⟩
        · rw [hD]; rfl
        · rw [hD]; rfl
        · rw [hD]; exact Match.start _ _ _
  rw [if_neg hk1, hxt]
  unfold deedO
  have hop := h.open_ n hn
  cases hd : H.seats n with
  | none =>
    rw [hd] at hop
    simp only at hop ⊢
    by_cases h7 : x.kind = 7
    · rw [noteK_some (B' := endB B n false 0) (by unfold overK; rw [if_pos h7, hse', hxt]; rfl), endB_none hop]
      exact h.endNone rfl rfl hop
    by_cases h6 : x.kind = 6
    · rw [noteK_some (B' := endB B n false 0) (by unfold overK; rw [if_neg h7, if_pos h6, hse', hxt]; rfl), endB_none hop]
      exact h.endNone rfl rfl hop
    by_cases h10 : x.kind = 10
    · rw [noteK_some (B' := B) (by unfold overK; rw [if_neg h7, if_neg h6, if_neg h9, if_pos h10, hse']; rfl)]
      exact h
    rw [noteK_none (overK_none h6 h7 h9 h10) (.inl (by simp [Evt.of]))]
    exact h
  | some D =>
    rw [hd] at hop
    obtain ⟨d, o1, o2, o3, o4, o5⟩ := hop
    have hDok := hDs n hn D hd
    have hbeg := hB n hn D hd
    have hbe0 := hb0 n hn D hd
    have hbl : 0 ≤ D.beg ∧ D.beg ≤ (fullH H).last := ⟨hbe0, by rw [hlast]; exact hbeg.2⟩
    simp only
    unfold deedH
    rw [hxt]
    by_cases k2 : x.kind = 2
    · rw [if_pos k2]
      have ho : ∀ e, overK B x e = none := fun e => overK_none (by omega) (by omega) (by omega) (by omega)
      obtain ⟨g1, g2, g3⟩ := getD_same D H.v.tab x.key
      obtain ⟨r1, r2⟩ := getD_reads D H.v.tab x.key
      by_cases hc : (getD D H.v.tab x.key).1.2 = 0
      · rw [noteK_act (ho _) hc hse', if_neg hk1, if_pos k2, hxt, noteA_some o1]
        have hkey : ¬(x.key < 0 ∨ 8 ≤ x.key) := fun hk => by unfold getD at hc; rw [if_pos hk] at hc; cases hc
        obtain ⟨m, hm, hkm⟩ := key_nat hkey
        refine h.one rfl rfl rfl rfl ⟨by rw [g2]; exact o2, by rw [g1]; exact o3, o4, ?_⟩
        simp only
        have hv := get_view hT hS hB hn hd hm
        rw [hkm] at r1 r2 g2 g3 hc ⊢
        exact o5.get hm (by rw [hv]) g2 g3 r1 (fun hw => r2 hc m rfl hw)
      · rw [noteK_none (ho _) (.inl hc)]
        refine h.one (d' := d) rfl rfl (by rw [← o1]; exact (upd_self _ _).symm) rfl ⟨by rw [g2]; exact o2, by rw [g1]; exact o3, o4, o5.more g2 g3 r1⟩
    rw [if_neg k2]
    have hput : ∀ (kind : Int) (v : Val), x.kind = kind → (kind = 3 ∨ kind = 4) → Kept ⟨H.v, upd H.seats n (some (putD D x.key v).2)⟩ (if (putD D x.key v).1 = 0 then noteA B n ⟨kind, x.key, 0, v, []⟩ else B) := by
      intro kind v hkk hk34
      obtain ⟨p1, p2, p3⟩ := putD_read D x.key v
      by_cases hc : (putD D x.key v).1 = 0
      · rw [if_pos hc, noteA_some o1]
        obtain ⟨m, hm, hkm, q1, q2⟩ := putD_put hc
        refine h.one rfl rfl rfl rfl ⟨by rw [p3]; exact o2, by rw [p2]; exact o3, o4, ?_⟩
        simp only
        rw [hkm] at p1 p3 q2 ⊢
        exact o5.put hm hk34 p3 p1 q2
      · rw [if_neg hc]
        have e := putD_keep _ _ _ hc
        refine h.one (d' := d) rfl rfl (by rw [← o1]; exact (upd_self _ _).symm) rfl ⟨by rw [p3]; exact o2, by rw [p2]; exact o3, o4, by rw [e]; exact o5⟩
    by_cases k3 : x.kind = 3
    · rw [if_pos k3]
      have ho : ∀ e, overK B x e = none := fun e => overK_none (by omega) (by omega) (by omega) (by omega)
      have := hput 3 ⟨true, x.bytes⟩ k3 (.inl rfl)
      by_cases hc : (putD D x.key ⟨true, x.bytes⟩).1 = 0
      · rw [noteK_act (ho _) hc hse', if_neg hk1, if_neg k2, if_pos k3, hxt]
        rwa [if_pos hc] at this
      · rw [noteK_none (ho _) (.inl hc)]
        rwa [if_neg hc] at this
    rw [if_neg k3]
    by_cases k4 : x.kind = 4
    · rw [if_pos k4]
      have ho : ∀ e, overK B x e = none := fun e => overK_none (by omega) (by omega) (by omega) (by omega)
      have := hput 4 Val.zero k4 (.inr rfl)
      by_cases hc : (putD D x.key Val.zero).1 = 0
      · rw [noteK_act (ho _) hc hse', if_neg hk1, if_neg k2, if_neg k3, if_pos k4, hxt]
        rwa [if_pos hc] at this
      · rw [noteK_none (ho _) (.inl hc)]
        rwa [if_neg hc] at this
    rw [if_neg k4]
    by_cases k5 : x.kind = 5
    · rw [if_pos k5]
      have ho : ∀ e, overK B x e = none := fun e => overK_none (by omega) (by omega) (by omega) (by omega)
      obtain ⟨g2, g3⟩ := listD_keep D H.v.tab x.key x.to_
      have g1 := listD_mode D H.v.tab x.key x.to_
      obtain ⟨r1, r2⟩ := listD_reads D H.v.tab x.key x.to_
      by_cases hc : (listD D H.v.tab x.key x.to_).1.2 = 0
      · rw [noteK_act (ho _) hc hse', if_neg hk1, if_neg k2, if_neg k3, if_neg k4, if_pos k5, hxt, noteA_some o1]
        have hkey : ¬(x.key < 0 ∨ 8 ≤ x.key) := fun hk => by unfold listD at hc; rw [if_pos (by omega)] at hc; cases hc
        obtain ⟨m, hm, hkm⟩ := key_nat hkey
        have e5 : doH H x = (⟨(listD D H.v.tab x.key x.to_).1.2, 0, Val.zero, (listD D H.v.tab x.key x.to_).1.1⟩, ⟨H.v, upd H.seats n (some (listD D H.v.tab x.key x.to_).2)⟩) := by
          unfold doH
          rw [if_neg h1, if_neg h8, if_neg h9, if_neg hse, if_neg hk1, hxt, hd]
          unfold deedO deedH
          simp only
          rw [if_neg k2, if_neg k3, if_neg k4, if_pos k5, hxt]
        have hv := shot_list hT hS hB (W := fun s => match H.seats s with | some D => viewF D (fullH H) | none => fun _ => Val.zero) (fun s hs E hE k hk => by simp only [hE]) hn hxn (by rw [e5]; exact hc) k5
        rw [e5] at hv
        simp only [hd] at hv
        refine h.one rfl rfl rfl rfl ⟨by rw [g2]; exact o2, by rw [g1]; exact o3, o4, ?_⟩
        simp only
        rw [hkm] at r1 r2 g2 g3 hc hv ⊢
        exact o5.list hm hv g2 g3 r1 (fun k _ a1 a2 hw => r2 hc k a1 a2 hw)
      · rw [noteK_none (ho _) (.inl hc)]
        refine h.one (d' := d) rfl rfl (by rw [← o1]; exact (upd_self _ _).symm) rfl ⟨by rw [g2]; exact o2, by rw [g1]; exact o3, o4, o5.more g2 g3 r1⟩
    rw [if_neg k5]
    by_cases k6 : x.kind = 6
    · rw [if_pos k6]
      simp only
      have hno : ∀ (c m : Int), noteK B x (Evt.of c m) H.v.tab.last = ⟨upd B.seats n none, if (c == 0) then B.l ++ [⟨m, d.at_, d.mode, d.acts⟩] else B.l⟩ := fun c m => by
        rw [noteK_some (B' := endB B n (c == 0) m) (by unfold overK; rw [if_neg (by omega), if_pos k6, hse', hxt]; rfl), endB_some o1]
      rw [hno]
      have stay : ∀ (l : List Dn), (∀ d ∈ l, DoneOk (fullH H) d) → OneEach (fullH H) l → Kept ⟨H.v, upd H.seats n none⟩ ⟨upd B.seats n none, l⟩ := fun l h1 h2 =>
        h.over hB rfl rfl hlast (fun _ _ _ _ => rfl) h1 h2
      unfold commitV
      by_cases c1 : mayD D H.v.tab ≠ 0
      · rw [if_pos c1]
        simp only
        rw [if_neg (by simpa using c1)]
        exact stay _ h.done h.each
      rw [if_neg c1]
      have c1' : mayD D H.v.tab = 0 := by simpa using c1
      by_cases c2 : writesD D = []
      · rw [if_pos c2]
        simp only [beq_self_eq_true, if_true]
        refine stay _ (fun q hq => ?_) (h.each.none_ rfl)
        rcases List.mem_append.1 hq with hq | hq
        · exact h.done q hq
        · rw [List.mem_singleton] at hq; subst hq
          exact done_none o5 hbl c2 rfl o2 rfl
      rw [if_neg c2]
      by_cases c3 : (putG H.v.log (writesD D)).1 ≠ 0
      · rw [if_pos c3]
        simp only
        rw [if_neg (by simpa using c3)]
        exact stay _ h.done h.each
      rw [if_neg c3]
      obtain ⟨z1, z2, z3⟩ := putG_zero (by simpa using c3)
      have hl0 : H.v.tab.last < 40 := by rw [hH.2.2]; exact z2
      obtain ⟨w1, w2⟩ := write_fine z1 hl0
      obtain ⟨f1, f2⟩ := write_fine z1 (T := fullH H) (by rw [hlast]; exact hl0)
      have hcF : (writeT (fullH H) (writesD D)).1.2 = 0 := by rw [f1]
      simp only [w1, beq_self_eq_true, if_true]
      have hfull : fullH ⟨⟨(writeT H.v.tab (writesD D)).2, (putG H.v.log (writesD D)).2⟩, upd H.seats n none⟩ = (writeT (fullH H) (writesD D)).2 := by
        show writeAll Tab.new (putG H.v.log (writesD D)).2.l = _
        rw [z3, writeAll_snoc]; rfl
      have hold : ∀ (k : Nat) (a : Int), k < 8 → a ≤ (fullH H).last → readT (writeT (fullH H) (writesD D)).2 k a = readT (fullH H) k a := fun k a _ ha => read_later hF _ k ha
      refine h.over hB rfl rfl hlast (by rw [hfull]; exact hold) ?_ ?_
      · rw [hfull]
        intro q hq
        rcases List.mem_append.1 hq with hq | hq
        · exact (h.done q hq).grow (by rw [f2]; omega) hold
        · rw [List.mem_singleton] at hq; subst hq
          exact done_some hF hS o5 hbl c1' c2 hcF (by rw [hlast]) o2 rfl o3
      · rw [hfull]
        exact h.each.some_ f2 h.done (by rw [hlast])
    rw [if_neg k6]
    by_cases k10 : x.kind = 10
    · rw [if_pos k10]
      simp only
      have hcode : (tearV H.v D x.keep).1.2 ≠ 7 := torn_code hDok x.keep
      have hno : noteK B x (Evt.of (tearV H.v D x.keep).1.2 (tearV H.v D x.keep).1.1) H.v.tab.last = ⟨fun _ => none, if decide (0 < (tearV H.v D x.keep).1.1) then B.l ++ [⟨(tearV H.v D x.keep).1.1, d.at_, d.mode, d.acts⟩] else B.l⟩ := by
        rw [noteK_some (B' := ⟨fun _ => none, (endB B n (decide (0 < (tearV H.v D x.keep).1.1)) (tearV H.v D x.keep).1.1).l⟩) (by unfold overK; rw [if_neg (by omega), if_neg k6, if_neg h9, if_pos k10, hse', hxt]; simp only [if_true]; exact congrArg some (if_neg hcode)), endB_some o1]
      rw [hno]
      have hlen := hH.2.2
      rcases torn_cases H.v D x.keep with e | ⟨m1, m2, m3, e⟩
      · have hN : (tearV H.v D x.keep).1.1 = 0 := by
          show (if (tornV H.v D x.keep).2.l.length = H.v.tab.last then (0 : Int) else ((tornV H.v D x.keep).2.l.length : Int)) = 0
          rw [e, if_pos hlen.symm]
        rw [hN]
        have hfull : fullH ⟨(tearV H.v D x.keep).2, fun _ => none⟩ = fullH H := by
          show writeAll Tab.new (tornV H.v D x.keep).2.l = _
          rw [e]; rfl
        refine Kept.clear rfl rfl ?_ ?_
        · rw [hfull]; exact h.done
        · rw [hfull]; exact h.each
      · obtain ⟨z1, z2, -⟩ := putG_zero m3
        have hl0 : H.v.tab.last < 40 := by rw [hlen]; exact z2
        obtain ⟨f1, f2⟩ := write_fine z1 (T := fullH H) (by rw [hlast]; exact hl0)
        have hcF : (writeT (fullH H) (writesD D)).1.2 = 0 := by rw [f1]
        have hN : (tearV H.v D x.keep).1.1 = (H.v.tab.last : Int) + 1 := by
          show (if (tornV H.v D x.keep).2.l.length = H.v.tab.last then (0 : Int) else ((tornV H.v D x.keep).2.l.length : Int)) = _
          rw [e, List.length_append, if_neg (by simp [hlen]), hlen]; simp
        rw [hN]
        have hfull : fullH ⟨(tearV H.v D x.keep).2, fun _ => none⟩ = (writeT (fullH H) (writesD D)).2 := by
          show writeAll Tab.new (tornV H.v D x.keep).2.l = _
          rw [e, writeAll_snoc]; rfl
        have hold : ∀ (k : Nat) (a : Int), k < 8 → a ≤ (fullH H).last → readT (writeT (fullH H) (writesD D)).2 k a = readT (fullH H) k a := fun k a _ ha => read_later hF _ k ha
        have hpos : decide (0 < (H.v.tab.last : Int) + 1) = true := decide_eq_true (by omega)
        rw [if_pos hpos]
        refine Kept.clear rfl rfl ?_ ?_
        · rw [hfull]
          intro q hq
          rcases List.mem_append.1 hq with hq | hq
          · exact (h.done q hq).grow (by rw [f2]; omega) hold
          · rw [List.mem_singleton] at hq; subst hq
            exact done_some hF hS o5 hbl m1 m2 hcF (by rw [hlast]) o2 rfl o3
        · rw [hfull]
          exact h.each.some_ f2 h.done (by rw [hlast])
    rw [if_neg k10]
    have h7 : x.kind = 7 := by omega
    rw [noteK_some (B' := endB B n false 0) (by unfold overK; rw [if_pos h7, hse', hxt]; rfl), endB_some o1]
    exact h.over hB rfl rfl hlast (fun _ _ _ _ => rfl) h.done h.each

end Go.Proofs.YtoiobhcgpajogadGreat

/- One part of the acts behind the other: plain laws. -/
namespace Go.Proofs.YtoiobhcgpajogadGreat
open Go.RowKit

end Go.Proofs.YtoiobhcgpajogadGreat
