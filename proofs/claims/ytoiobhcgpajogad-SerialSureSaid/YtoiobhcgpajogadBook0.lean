/- Acts of deeds, and deeds that were done, in memory. -/
import Derived.Test.YtoiobhcgpajogadSerP
import Derived.Test.YtoiobhcgpajogadTStep
namespace Go.Proofs.Ytoiobhcgpajogad
open Go.RowKit

/-- An act, and where its list lies. -/
structure Acx where
  a : Ac
  ad : Option Addr
  cap : Nat

instance : Inhabited Ac := ⟨⟨0, 0, 0, Val.zero, []⟩⟩
instance : Inhabited Acx := ⟨⟨default, none, 0⟩⟩

def encAcx (x : Acx) : List Value := [.int .i64 x.a.kind, .int .i64 x.a.key, .int .i64 x.a.to_, .bool x.a.v.there, .string x.a.v.bytes, .slice x.ad x.a.l.length x.cap]
def encActs (l : List Acx) : List Value := l.flatMap encAcx

/-- The list of an act. -/
def ListAt (w : World) (x : Acx) : Prop := PairsAt w x.ad x.a.l ∧ x.a.l.length ≤ maxLen ∧ x.a.v.bytes.size ≤ maxLen

def ActsAt (w : World) (a : Option Addr) (l : List Acx) : Prop := SliceAt w a (encActs l) ∧ ∀ x ∈ l, ListAt w x

theorem ListAt.below {w w' : World} {x : Acx} (h : ListAt w x) (k : Below w.heap.size w w') : ListAt w' x := ⟨h.1.below k, h.2⟩
theorem ActsAt.below {w w' : World} {a : Option Addr} {l : List Acx} (h : ActsAt w a l) (k : Below w.heap.size w w') : ActsAt w' a l := ⟨sliceAt_below h.1 k, fun x hx => (h.2 x hx).below k⟩

theorem encActs_length (l : List Acx) : (encActs l).length = l.length * 6 := by
  unfold encActs
  induction l with
  | nil => rfl
  | cons x l ih => rw [List.flatMap_cons, List.length_append, ih, List.length_cons]; show 6 + _ = _; omega

theorem encActs_append (l m : List Acx) : encActs (l ++ m) = encActs l ++ encActs m := by simp [encActs]

theorem encActs_one (l : List Acx) : ∀ u ∈ encActs l, u.oneCell' = true := by
  intro u hu
  unfold encActs at hu
  obtain ⟨x, -, hx⟩ := List.mem_flatMap.1 hu
  simp only [encAcx, List.mem_cons, List.not_mem_nil, or_false] at hx
  rcases hx with rfl | rfl | rfl | rfl | rfl | rfl <;> rfl

theorem SliceAt.six {α : Type} {w : World} {a : Option Addr} {en : α → List Value} {st : Nat} (hst : ∀ x, (en x).length = st) (hp : 0 < st) {l : List α} (h : SliceAt w a (l.flatMap en)) (h0 : 0 < l.length) :
    ∃ b off, a = some ⟨b, off, none⟩ ∧ b < w.heap.size ∧ ∀ i (hi : i < l.length) j, j < st → w.cell? ⟨b, off + i * st + j, none⟩ = (en l[i])[j]? := by
  have hne : l.flatMap en ≠ [] := by
    cases l with
    | nil => cases h0
    | cons x l =>
      intro e
      have := congrArg List.length e
      rw [List.flatMap_cons, List.length_append, hst] at this
      simp at this; omega
  obtain ⟨b, off, rfl, hb⟩ := h.lt hne
  rcases h with h1 | ⟨b', off', e, hc⟩
  · exact absurd h1 hne
  · cases e
    refine ⟨b, off, rfl, hb, fun i hi j hj => ?_⟩
    have q := flat_get en st hst l i j hi hj
    have hl : j < (en l[i]).length := by rw [hst]; exact hj
    rw [List.getElem?_eq_getElem hl] at q ⊢
    rw [Nat.add_assoc]
    exact hc _ _ q

theorem ActsAt.facts {w : World} {a : Option Addr} {l : List Acx} (h : ActsAt w a l) (h0 : 0 < l.length) :
    ∃ b off, a = some ⟨b, off, none⟩ ∧ b < w.heap.size ∧ ∀ i (hi : i < l.length), w.cell? ⟨b, off + i * 6, none⟩ = some (.int .i64 l[i].a.kind) ∧ w.cell? ⟨b, off + i * 6 + 1, none⟩ = some (.int .i64 l[i].a.key) ∧ w.cell? ⟨b, off + i * 6 + 2, none⟩ = some (.int .i64 l[i].a.to_) ∧
      w.cell? ⟨b, off + i * 6 + 3, none⟩ = some (.bool l[i].a.v.there) ∧ w.cell? ⟨b, off + i * 6 + 4, none⟩ = some (.string l[i].a.v.bytes) ∧ w.cell? ⟨b, off + i * 6 + 5, none⟩ = some (.slice l[i].ad l[i].a.l.length l[i].cap) ∧ ListAt w l[i] := by
  obtain ⟨b, off, rfl, hb, hc⟩ := SliceAt.six (en := encAcx) (st := 6) (fun _ => rfl) (by omega) h.1 h0
  refine ⟨b, off, rfl, hb, fun i hi => ⟨hc i hi 0 (by omega), hc i hi 1 (by omega), hc i hi 2 (by omega), hc i hi 3 (by omega), hc i hi 4 (by omega), hc i hi 5 (by omega), h.2 _ (List.getElem_mem _)⟩⟩

/-- A deed that was done, where its acts lie, of which colour. -/
structure Dnx where
  n : Int
  at_ : Int
  mode : Int
  acts : List Acx
  ad : Option Addr
  cap : Nat
  q : Nat

instance : Inhabited Dnx := ⟨⟨0, 0, 0, [], none, 0, 0⟩⟩

def Dnx.d (x : Dnx) : Dn := ⟨x.n, x.at_, x.mode, x.acts.map (·.a)⟩
def encDnx (x : Dnx) : List Value := [.int .i64 x.n, .int .i64 x.at_, .int .i64 x.mode, .slice x.ad x.acts.length x.cap]
def encDones (l : List Dnx) : List Value := l.flatMap encDnx

def DonesAt (w : World) (a : Option Addr) (l : List Dnx) : Prop := SliceAt w a (encDones l) ∧ ∀ x ∈ l, ActsAt w x.ad x.acts ∧ x.acts.length ≤ maxLen

theorem DonesAt.below {w w' : World} {a : Option Addr} {l : List Dnx} (h : DonesAt w a l) (k : Below w.heap.size w w') : DonesAt w' a l := ⟨sliceAt_below h.1 k, fun x hx => ⟨(h.2 x hx).1.below k, (h.2 x hx).2⟩⟩

theorem encDones_length (l : List Dnx) : (encDones l).length = l.length * 4 := by
  unfold encDones
  induction l with
  | nil => rfl
  | cons x l ih => rw [List.flatMap_cons, List.length_append, ih, List.length_cons]; show 4 + _ = _; omega

theorem encDones_append (l m : List Dnx) : encDones (l ++ m) = encDones l ++ encDones m := by simp [encDones]

theorem encDones_one (l : List Dnx) : ∀ u ∈ encDones l, u.oneCell' = true := by
  intro u hu
  unfold encDones at hu
  obtain ⟨x, -, hx⟩ := List.mem_flatMap.1 hu
  simp only [encDnx, List.mem_cons, List.not_mem_nil, or_false] at hx
  rcases hx with rfl | rfl | rfl | rfl <;> rfl

theorem DonesAt.facts {w : World} {a : Option Addr} {l : List Dnx} (h : DonesAt w a l) (h0 : 0 < l.length) :
    ∃ b off, a = some ⟨b, off, none⟩ ∧ b < w.heap.size ∧ ∀ i (hi : i < l.length), w.cell? ⟨b, off + i * 4, none⟩ = some (.int .i64 l[i].n) ∧ w.cell? ⟨b, off + i * 4 + 1, none⟩ = some (.int .i64 l[i].at_) ∧ w.cell? ⟨b, off + i * 4 + 2, none⟩ = some (.int .i64 l[i].mode) ∧
      w.cell? ⟨b, off + i * 4 + 3, none⟩ = some (.slice l[i].ad l[i].acts.length l[i].cap) ∧ ActsAt w l[i].ad l[i].acts ∧ l[i].acts.length ≤ maxLen := by
  obtain ⟨b, off, rfl, hb, hc⟩ := SliceAt.six (en := encDnx) (st := 4) (fun _ => rfl) (by omega) h.1 h0
  refine ⟨b, off, rfl, hb, fun i hi => ⟨hc i hi 0 (by omega), hc i hi 1 (by omega), hc i hi 2 (by omega), hc i hi 3 (by omega), (h.2 _ (List.getElem_mem _)).1, (h.2 _ (List.getElem_mem _)).2⟩⟩

end Go.Proofs.Ytoiobhcgpajogad
