/- A table of versions, in plain words; its two forms in memory (a table of chains, the document's sheet of lines). -/
import Derived.Test.YtoiobhcgpajogabPlain00
import Derived.Test.YtoiobhcgpajogabCodec5
namespace Go.Proofs.Ytoiobhcgpajogab
open Go.RowKit

def upd {α : Type} (f : Nat → α) (k : Nat) (x : α) : Nat → α := fun j => if j = k then x else f j

theorem upd_same {α : Type} (f : Nat → α) (k : Nat) (x : α) : upd f k x k = x := by simp [upd]
theorem upd_other {α : Type} (f : Nat → α) {k j : Nat} (x : α) (h : j ≠ k) : upd f k x j = f j := by simp [upd, h]
theorem upd_self {α : Type} (f : Nat → α) (k : Nat) : upd f k (f k) = f := by funext j; unfold upd; split <;> simp_all

structure Tab where
  l : Nat → List Ent
  last : Nat

def Tab.new : Tab := ⟨fun _ => [⟨0, Val.zero⟩], 0⟩

/-- Its versions are by rising commits, none above the last one; there are not too many commits. -/
def Tab.Ok (T : Tab) : Prop := (∀ k, Sorted (T.l k) ∧ lastN (T.l k) ≤ T.last) ∧ T.last ≤ 40

theorem Tab.new_ok : Tab.new.Ok := ⟨fun _ => ⟨Sorted.start, by simp [Tab.new, lastN]⟩, by simp [Tab.new]⟩

theorem sorted_length {m : List Ent} (h : m.Pairwise (fun x y => x.n < y.n)) (hne : m ≠ []) : firstN m + ((m.length : Int) - 1) ≤ lastN m := by
  induction m with
  | nil => exact absurd rfl hne
  | cons a l ih =>
    cases l with
    | nil => simp [firstN, lastN]
    | cons b l =>
      rw [List.pairwise_cons] at h
      have h1 := ih h.2 (by simp)
      have h2 := h.1 b (by simp)
      have hl : lastN (a :: b :: l) = lastN (b :: l) := by simp [lastN, List.getLast?_cons_cons]
      rw [hl]
      have : firstN (a :: b :: l) = a.n := rfl
      have : firstN (b :: l) = b.n := rfl
      simp only [List.length_cons] at *
      omega

theorem Tab.Ok.length {T : Tab} (h : T.Ok) (k : Nat) : (T.l k).length ≤ 41 := by
  have h1 := (h.1 k).1
  have h2 := sorted_length h1.2.1 h1.1
  have h3 := (h.1 k).2
  have h4 := h.2
  have h5 := h1.2.2
  omega

theorem Tab.Ok.long {T : Tab} (h : T.Ok) (k : Nat) : (T.l k).length ≤ 1000000 := by have := h.length k; omega

theorem firstN_le_lastN {m : List Ent} (h : Sorted m) : firstN m ≤ lastN m := by
  have h2 := sorted_length h.2.1 h.1
  have : 0 < m.length := List.length_pos_iff.2 h.1
  omega

theorem Tab.Ok.set {T : Tab} (h : T.Ok) (k : Nat) {x : List Ent} (hx : Sorted x) (hl : lastN x ≤ T.last) : Tab.Ok ⟨upd T.l k x, T.last⟩ := by
  refine ⟨fun j => ?_, h.2⟩
  by_cases e : j = k
  · subst e; simp only [upd_same]; exact ⟨hx, hl⟩
  · simp only [upd_other _ _ e]; exact h.1 j

theorem putC_last {l : List Ent} {n : Int} (v : Val) (h : lastN l ≤ n) : lastN (putC l n v).2 ≤ n := by
  unfold putC
  split
  · exact h
  · split
    · exact h
    · simp [lastN]

/-! ### What is asked of a table -/

def putsT (n : Int) (l : Nat → List Ent) (w : List Ent) : Nat → List Ent := w.foldl (fun l x => upd l x.n.toNat (putC (l x.n.toNat) n x.v).2) l

theorem putsT_snoc (n : Int) (l : Nat → List Ent) (w : List Ent) (x : Ent) : putsT n l (w ++ [x]) = upd (putsT n l w) x.n.toNat (putC (putsT n l w x.n.toNat) n x.v).2 := by simp [putsT]

def writeT (T : Tab) (w : List Ent) : (Int × Int) × Tab :=
  if ckPs (-1) w ≠ 0 then ((0, ckPs (-1) w), T) else if 40 ≤ T.last then ((0, 9), T) else (((T.last : Int) + 1, 0), ⟨putsT (T.last + 1) T.l w, T.last + 1⟩)

theorem puts_ok {T : Tab} (h : T.Ok) (w : List Ent) (hl : T.last < 40) : Tab.Ok ⟨putsT (T.last + 1) T.l w, T.last + 1⟩ := by
  have h0 : Tab.Ok ⟨T.l, T.last + 1⟩ := ⟨fun k => ⟨(h.1 k).1, by have := (h.1 k).2; simp only; omega⟩, by simp only; omega⟩
  unfold putsT
  generalize T.l = l at h0
  clear h
  induction w generalizing l with
  | nil => exact h0
  | cons x w ih =>
    rw [List.foldl_cons]
    refine ih _ (h0.set x.n.toNat ((h0.1 _).1.put _ _) (putC_last _ ?_))
    have := (h0.1 x.n.toNat).2
    simpa using this

theorem write_ok {T : Tab} (h : T.Ok) (w : List Ent) : (writeT T w).2.Ok := by
  unfold writeT
  split
  · exact h
  · split
    · exact h
    · exact puts_ok h w (by omega)

def readT (T : Tab) (k a : Int) : Val × Int := if k < 0 ∨ 8 ≤ k ∨ (T.last : Int) < a then (Val.zero, 1) else readC (T.l k.toNat) a

def sinceT (T : Tab) (k : Int) : Int := if k < 0 ∨ 8 ≤ k then -1 else lastN (T.l k.toNat)

/-- The keys of ks that had a value; the first code, if there is one. -/
def listGo (T : Tab) (a : Int) : List Nat → List Ent → List Ent × Int
  | [], out => (out, 0)
  | k :: ks, out => if (readT T k a).2 ≠ 0 then ([], (readT T k a).2) else listGo T a ks (if (readT T k a).1.there then out ++ [⟨k, (readT T k a).1⟩] else out)

def listT (T : Tab) (f t a : Int) : List Ent × Int :=
  if f < 0 ∨ 8 ≤ f ∨ t < 0 ∨ 8 ≤ t then ([], 1) else listGo T a ((List.range (t.toNat + 1)).drop f.toNat) []

/-- The greatest of the first commits of the keys below k. -/
def firstGo (T : Tab) : Nat → Int
  | 0 => 0
  | k + 1 => if firstGo T k < firstN (T.l k) then firstN (T.l k) else firstGo T k
def firstT (T : Tab) : Int := firstGo T 8

def clearGo (least : Int) (T : Tab) (ks : List Nat) : Nat × Tab :=
  ks.foldl (fun x k => (x.1 + clearK least (x.2.l k), ⟨upd x.2.l k ((x.2.l k).drop (clearK least (x.2.l k))), x.2.last⟩)) (0, T)

def clearT (T : Tab) (least : Int) : Nat × Tab := clearGo least T (List.range 8)

theorem clear_ok1 {T : Tab} (h : T.Ok) (least : Int) (k : Nat) : Tab.Ok ⟨upd T.l k ((T.l k).drop (clearK least (T.l k))), T.last⟩ := by
  have h1 := h.1 k
  have h2 := clearK_lt least (T.l k) h1.1.1
  exact h.set k (h1.1.drop _ h2) (by rw [clear_last _ h2]; exact h1.2)

theorem clearGo_snoc (least : Int) (T : Tab) (ks : List Nat) (k : Nat) : clearGo least T (ks ++ [k]) =
    ((clearGo least T ks).1 + clearK least ((clearGo least T ks).2.l k), ⟨upd (clearGo least T ks).2.l k (((clearGo least T ks).2.l k).drop (clearK least ((clearGo least T ks).2.l k))), (clearGo least T ks).2.last⟩) := by
  simp [clearGo]

theorem clearGo_ok {T : Tab} (h : T.Ok) (least : Int) (ks : List Nat) : (clearGo least T ks).2.Ok ∧ (clearGo least T ks).1 ≤ 41 * ks.length := by
  induction ks using snoc_ind with
  | nil => exact ⟨h, by simp [clearGo]⟩
  | snoc ks k ih =>
    rw [clearGo_snoc]
    refine ⟨clear_ok1 ih.1 least k, ?_⟩
    have h1 := clearK_lt least _ (ih.1.1 k).1.1
    have h2 := ih.1.length k
    have h3 := ih.2
    simp only [List.length_append, List.length_singleton]
    omega

theorem clear_ok {T : Tab} (h : T.Ok) (least : Int) : (clearT T least).2.Ok := (clearGo_ok h least _).1

theorem range_take (n k : Nat) (h : k ≤ n) : (List.range n).take k = List.range k := by
  rw [List.take_range]
  congr 1
  omega

/-! ### In memory -/

def ptrs (c : Nat → Nat) : List Value := (List.range 8).map (fun k => Value.pointer (some ⟨c k, 0, none⟩))

/-- A table lies at block t: of the colour p its own block, of p + 1 + k the chain of the key k. -/
def TableAt (w : World) (g : Nat → Nat) (p t : Nat) (T : Tab) : Prop :=
  T.Ok ∧ ∃ c : Nat → Nat, LocC w g p t 103 (ptrs c ++ [.int .i64 T.last]) ∧ ∀ k, k < 8 → ChainAt w g (p + 1 + k) (c k) (T.l k)

theorem TableAt.frame {lo hi : Nat} {g g' : Nat → Nat} {w w' : World} {p t : Nat} {T : Tab} (h : TableAt w g p t T) (k : Evo lo hi g g' w w') (hc : p + 9 ≤ lo ∨ hi ≤ p) : TableAt w' g' p t T := by
  obtain ⟨h0, c, h1, h2⟩ := h
  exact ⟨h0, c, h1.frame k (by omega), fun j hj => (h2 j hj).frame k (by omega)⟩

theorem TableAt.below {w w' : World} {g : Nat → Nat} {p t : Nat} {T : Tab} (h : TableAt w g p t T) (k : Below w.heap.size w w') : TableAt w' g p t T := by
  obtain ⟨h0, c, h1, h2⟩ := h
  exact ⟨h0, c, h1.below k, fun j hj => (h2 j hj).below k⟩

/-- The document's sheet lies at block s (of the colour p); its lines have the colour p + 1. -/
def SheetAt (w : World) (g : Nat → Nat) (p s : Nat) (T : Tab) : Prop :=
  T.Ok ∧ ∃ v : Nat → Value, LocC w g p s 93 ((List.range 8).map v ++ [.int .i64 T.last]) ∧ ∀ k, k < 8 → LineAt w g (p + 1) (v k) (T.l k)

theorem SheetAt.frame {lo hi : Nat} {g g' : Nat → Nat} {w w' : World} {p s : Nat} {T : Tab} (h : SheetAt w g p s T) (k : Evo lo hi g g' w w') (hc : p + 2 ≤ lo ∨ hi ≤ p) : SheetAt w' g' p s T := by
  obtain ⟨h0, v, h1, h2⟩ := h
  exact ⟨h0, v, h1.frame k (by omega), fun j hj => (h2 j hj).frame k (by omega)⟩

theorem SheetAt.below {w w' : World} {g : Nat → Nat} {p s : Nat} {T : Tab} (h : SheetAt w g p s T) (k : Below w.heap.size w w') : SheetAt w' g p s T := by
  obtain ⟨h0, v, h1, h2⟩ := h
  exact ⟨h0, v, h1.below k, fun j hj => (h2 j hj).below k⟩

theorem map8 (f : Nat → Value) (x : Value) : (List.range 8).map f ++ [x] = [f 0, f 1, f 2, f 3, f 4, f 5, f 6, f 7, x] := rfl

theorem get8 (f : Nat → Value) (x : Value) (k : Nat) (h : k < 8) : ((List.range 8).map f ++ [x])[k]? = some (f k) := by
  rw [List.getElem?_append_left (by simpa using h)]
  simp [h]

theorem get8_last (f : Nat → Value) (x : Value) : ((List.range 8).map f ++ [x])[8]? = some x := rfl

end Go.Proofs.Ytoiobhcgpajogab
