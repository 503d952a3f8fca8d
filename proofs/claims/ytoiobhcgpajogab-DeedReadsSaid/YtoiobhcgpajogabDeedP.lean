/- A deed, in plain words. -/
import Derived.Test.YtoiobhcgpajogabTabP
namespace Go.Proofs.Ytoiobhcgpajogab
open Go.RowKit

structure Ded where
  mode : Int
  beg : Int
  read : Nat → Bool
  wrote : Nat → Option Val

def Ded.new (mode beg : Int) : Ded := ⟨mode, beg, fun _ => false, fun _ => none⟩

/-- What was written may be; a deed that only looks writes nothing. -/
def Ded.Ok (D : Ded) : Prop := (∀ k v, D.wrote k = some v → ckV v = 0) ∧ (D.mode = 3 → ∀ k, D.wrote k = none)

def getD (D : Ded) (T : Tab) (k : Int) : (Val × Int) × Ded :=
  if k < 0 ∨ 8 ≤ k then ((Val.zero, 1), D) else
    match D.wrote k.toNat with
    | some v => ((v, 0), D)
    | none => (readT T k D.beg, if (readT T k D.beg).2 = 0 then ⟨D.mode, D.beg, upd D.read k.toNat true, D.wrote⟩ else D)

def putD (D : Ded) (k : Int) (v : Val) : Int × Ded :=
  if k < 0 ∨ 8 ≤ k then (1, D) else if D.mode = 3 then (3, D) else if ckV v ≠ 0 then (ckV v, D) else (0, ⟨D.mode, D.beg, D.read, upd D.wrote k.toNat (some v)⟩)

def listDGo (T : Tab) : List Nat → Ded → List Ent → (List Ent × Int) × Ded
  | [], D, out => ((out, 0), D)
  | k :: ks, D, out => if (getD D T k).1.2 ≠ 0 then (([], (getD D T k).1.2), (getD D T k).2) else listDGo T ks (getD D T k).2 (if (getD D T k).1.1.there then out ++ [⟨k, (getD D T k).1.1⟩] else out)

def listD (D : Ded) (T : Tab) (f t : Int) : (List Ent × Int) × Ded :=
  if f < 0 ∨ 8 ≤ f ∨ t < 0 ∨ 8 ≤ t then (([], 1), D) else listDGo T ((List.range (t.toNat + 1)).drop f.toNat) D []

def readsTo (D : Ded) (n : Nat) : List Nat := (List.range n).filter D.read
def readsD (D : Ded) : List Nat := readsTo D 8

def writesTo (D : Ded) (n : Nat) : List Ent := (List.range n).flatMap (fun (k : Nat) => match D.wrote k with | some v => [⟨(k : Int), v⟩] | none => [])
def writesD (D : Ded) : List Ent := writesTo D 8

def clashD (D : Ded) (T : Tab) : Bool := (writesD D).any (fun x => decide (D.beg < sinceT T x.n))
def staleD (D : Ded) (T : Tab) : Bool := (readsD D).any (fun (k : Nat) => decide (D.beg < sinceT T k))

def mayD (D : Ded) (T : Tab) : Int := if clashD D T then 10 else if D.mode = 2 ∧ staleD D T then 11 else 0

theorem Ded.new_ok (mode beg : Int) : (Ded.new mode beg).Ok := ⟨by intro k v h; simp [Ded.new] at h, fun _ _ => rfl⟩

theorem getD_ok {D : Ded} (h : D.Ok) (T : Tab) (k : Int) : (getD D T k).2.Ok := by
  unfold getD
  split
  · exact h
  · split
    · exact h
    · simp only
      split
      · exact h
      · exact h

theorem getD_same (D : Ded) (T : Tab) (k : Int) : (getD D T k).2.mode = D.mode ∧ (getD D T k).2.beg = D.beg ∧ (getD D T k).2.wrote = D.wrote := by
  unfold getD
  split
  · exact ⟨rfl, rfl, rfl⟩
  · split
    · exact ⟨rfl, rfl, rfl⟩
    · simp only
      split <;> exact ⟨rfl, rfl, rfl⟩

theorem putD_ok {D : Ded} (h : D.Ok) (k : Int) (v : Val) : (putD D k v).2.Ok := by
  unfold putD
  split
  · exact h
  · split
    · exact h
    · split
      · exact h
      · rename_i h1 h2 h3
        refine ⟨?_, fun hm => absurd hm h2⟩
        intro j u hj
        by_cases e : j = k.toNat
        · subst e
          simp only [upd_same, Option.some.injEq] at hj
          subst hj
          simpa using h3
        · simp only [upd_other _ _ e] at hj
          exact h.1 j u hj

theorem listDGo_ok {T : Tab} : ∀ (ks : List Nat) {D : Ded}, D.Ok → ∀ out, (listDGo T ks D out).2.Ok := by
  intro ks
  induction ks with
  | nil => intro D h out; exact h
  | cons k ks ih =>
    intro D h out
    rw [listDGo]
    split
    · exact getD_ok h T k
    · exact ih (getD_ok h T k) _

theorem listD_ok {D : Ded} (h : D.Ok) (T : Tab) (f t : Int) : (listD D T f t).2.Ok := by
  unfold listD
  split
  · exact h
  · exact listDGo_ok _ h _

theorem readsTo_succ (D : Ded) (n : Nat) : readsTo D (n + 1) = readsTo D n ++ if D.read n then [n] else [] := by
  unfold readsTo
  rw [List.range_succ, List.filter_append]
  cases h : D.read n <;> simp [h]

theorem writesTo_succ (D : Ded) (n : Nat) : writesTo D (n + 1) = writesTo D n ++ match D.wrote n with | some v => [⟨(n : Int), v⟩] | none => [] := by
  unfold writesTo
  rw [List.range_succ, List.flatMap_append]
  simp

theorem readsTo_length (D : Ded) (n : Nat) : (readsTo D n).length ≤ n := by
  have := List.length_filter_le D.read (List.range n)
  simpa [readsTo] using this

theorem writesTo_length (D : Ded) (n : Nat) : (writesTo D n).length ≤ n := by
  induction n with
  | zero => simp [writesTo]
  | succ n ih =>
    rw [writesTo_succ, List.length_append]
    split <;> simp <;> omega

theorem mem_writesTo {D : Ded} {n : Nat} {x : Ent} : x ∈ writesTo D n ↔ ∃ k, k < n ∧ x.n = k ∧ D.wrote k = some x.v := by
  unfold writesTo
  rw [List.mem_flatMap]
  constructor
  · rintro ⟨k, hk, hx⟩
    split at hx
    · rename_i v hv
      rw [List.mem_singleton] at hx
      subst hx
      exact ⟨k, by simpa using hk, rfl, hv⟩
    · cases hx
  · rintro ⟨k, hk, h1, h2⟩
    refine ⟨k, by simpa using hk, ?_⟩
    rw [h2, List.mem_singleton]
    exact Ent.ext' h1 rfl

theorem mem_readsTo {D : Ded} {n k : Nat} : k ∈ readsTo D n ↔ k < n ∧ D.read k = true := by simp [readsTo]

theorem ckPs_snoc {l : List Ent} {x : Ent} {pv : Int} (h : ckPs pv l = 0) (hx : 0 ≤ x.n ∧ x.n < 8 ∧ ckV x.v = 0) (hp : ∀ y ∈ l, y.n < x.n) (hpv : pv < x.n) : ckPs pv (l ++ [x]) = 0 := by
  induction l generalizing pv with
  | nil =>
    simp only [List.nil_append]
    rw [ckPs, if_neg (by omega), if_neg (by omega), if_neg (by rw [hx.2.2]; simp)]
    rfl
  | cons y l ih =>
    rw [List.cons_append, ckPs]
    rw [ckPs] at h
    have hy := hp y (List.mem_cons_self ..)
    split at h
    · omega
    · split at h
      · omega
      · split at h
        · rename_i h1 h2 h3; exact absurd h h3
        · rename_i h1 h2 h3
          rw [if_neg h1, if_neg h2, if_neg h3]
          exact ih h (fun z hz => hp z (List.mem_cons_of_mem _ hz)) hy

theorem writesTo_ck {D : Ded} (h : D.Ok) (n : Nat) (hn : n ≤ 8) : ckPs (-1) (writesTo D n) = 0 := by
  induction n with
  | zero => rfl
  | succ n ih =>
    rw [writesTo_succ]
    split
    · rename_i v hv
      refine ckPs_snoc (ih (by omega)) ⟨by simp only; omega, by simp only; omega, h.1 n v hv⟩ ?_ (by simp only; omega)
      intro y hy
      obtain ⟨k, hk, h1, h2⟩ := mem_writesTo.1 hy
      simp only
      omega
    · rw [List.append_nil]; exact ih (by omega)

theorem writesD_ck {D : Ded} (h : D.Ok) : ckPs (-1) (writesD D) = 0 := writesTo_ck h 8 (Nat.le_refl _)

end Go.Proofs.Ytoiobhcgpajogab
