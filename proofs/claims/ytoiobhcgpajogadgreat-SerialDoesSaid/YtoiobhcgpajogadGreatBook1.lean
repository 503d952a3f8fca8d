/- Acts of deeds, and deeds that were done, in memory. -/
import Derived.Test.YtoiobhcgpajogadGreatSerP
import Derived.Test.YtoiobhcgpajogadGreatTStep
import Derived.Test.YtoiobhcgpajogadGreatHall5
namespace Go.Proofs.YtoiobhcgpajogadGreat
open Go.RowKit

/-- An act, and where its list lies. -/
structure Acx where
  a : Ac
  ad : Option Addr
  cap : Nat

instance : Inhabited Ac := ⟨⟨0, 0, 0, Val.zero, []⟩⟩
instance : Inhabited Acx := ⟨⟨default, none, 0⟩⟩

def encAcx (x : Acx) : List Value := [.int .i64 x.a.kind, .int .i64 x.a.key, .int .i64 x.a.to_, .bool x.a.v.there, .string x.a.v.bytes, .slice x.ad x.a.l.length x.cap]
def encActs (l : List Acx) : List Value := l.flatMap encAcx

/-- The list of an act. -/
def ListAt (w : World) (x : Acx) : Prop := PairsAt w x.ad x.a.l ∧ x.a.l.length ≤ maxLen ∧ x.a.v.bytes.size ≤ maxLen

def ActsAt (w : World) (a : Option Addr) (l : List Acx) : Prop := SliceAt w a (encActs l) ∧ ∀ x ∈ l, ListAt w x

theorem ListAt.below {w w' : World} {x : Acx} (h : ListAt w x) (k : Below w.heap.size w w') : ListAt w' x := ⟨h.1.below k, h.2⟩
theorem ActsAt.below {w w' : World} {a : Option Addr} {l : List Acx} (h : ActsAt w a l) (k : Below w.heap.size w w') : ActsAt w' a l := ⟨sliceAt_below h.1 k, fun x hx => (h.2 x hx).below k⟩

theorem encActs_append (l m : List Acx) : encActs (l ++ m) = encActs l ++ encActs m := by simp [encActs]

theorem SliceAt.six {α : Type} {w : World} {a : Option Addr} {en : α → List Value} {st : Nat} (hst : ∀ x, (en x).length = st) (hp : 0 < st) {l : List α} (h : SliceAt w a (l.flatMap en)) (h0 : 0 < l.length) :
    ∃ b off, a = some ⟨b, off, none⟩ ∧ b < w.heap.size ∧ ∀ i (hi : i < l.length) j, j < st → w.cell? ⟨b, off + i * st + j, none⟩ = (en l[i])[j]? := by
  have hne : l.flatMap en ≠ [] := by
    cases l with
    | nil => cases h0
    | cons x l =>
      intro e
      have := congrArg List.length e
      rw [List.flatMap_cons, List.length_append, hst] at this
      simp at this; omega
  obtain ⟨b, off, rfl, hb⟩ := h.lt hne
  rcases h with h1 | ⟨b', off', e, hc⟩
  · exact absurd h1 hne
  · cases e
    refine ⟨b, off, rfl, hb, fun i hi j hj => ?_⟩
    have q := flat_get en st hst l i j hi hj
    have hl : j < (en l[i]).length := by rw [hst]; exact hj
    rw [List.getElem?_eq_getElem hl] at q ⊢
    rw [Nat.add_assoc]
    exact hc _ _ q

theorem ActsAt.facts {w : World} {a : Option Addr} {l : List Acx} (h : ActsAt w a l) (h0 : 0 < l.length) :
    ∃ b off, a = some ⟨b, off, none⟩ ∧ b < w.heap.size ∧ ∀ i (hi : i < l.length), w.cell? ⟨b, off + i * 6, none⟩ = some (.int .i64 l[i].a.kind) ∧ w.cell? ⟨b, off + i * 6 + 1, none⟩ = some (.int .i64 l[i].a.key) ∧ w.cell? ⟨b, off + i * 6 + 2, none⟩ = some (.int .i64 l[i].a.to_) ∧
      w.cell? ⟨b, off + i * 6 + 3, none⟩ = some (.bool l[i].a.v.there) ∧ w.cell? ⟨b, off + i * 6 + 4, none⟩ = some (.string l[i].a.v.bytes) ∧ w.cell? ⟨b, off + i * 6 + 5, none⟩ = some (.slice l[i].ad l[i].a.l.length l[i].cap) ∧ ListAt w l[i] := by
  obtain ⟨b, off, rfl, hb, hc⟩ := SliceAt.six (en := encAcx) (st := 6) (fun _ => rfl) (by omega) h.1 h0
  refine ⟨b, off, rfl, hb, fun i hi => ⟨hc i hi 0 (by omega), hc i hi 1 (by omega), hc i hi 2 (by omega), hc i hi 3 (by omega), hc i hi 4 (by omega), hc i hi 5 (by omega), h.2 _ (List.getElem_mem _)⟩⟩

/-- A deed that was done, where its acts lie, of which colour. -/
structure Dnx where
  n : Int
  at_ : Int
  mode : Int
  acts : List Acx
  ad : Option Addr
  cap : Nat
  q : Nat

instance : Inhabited Dnx := ⟨⟨0, 0, 0, [], none, 0, 0⟩⟩

def Dnx.d (x : Dnx) : Dn := ⟨x.n, x.at_, x.mode, x.acts.map (·.a)⟩
def encDnx (x : Dnx) : List Value := [.int .i64 x.n, .int .i64 x.at_, .int .i64 x.mode, .slice x.ad x.acts.length x.cap]
def encDones (l : List Dnx) : List Value := l.flatMap encDnx

def DonesAt (w : World) (a : Option Addr) (l : List Dnx) : Prop := SliceAt w a (encDones l) ∧ ∀ x ∈ l, ActsAt w x.ad x.acts ∧ x.acts.length ≤ maxLen

theorem DonesAt.below {w w' : World} {a : Option Addr} {l : List Dnx} (h : DonesAt w a l) (k : Below w.heap.size w w') : DonesAt w' a l := ⟨sliceAt_below h.1 k, fun x hx => ⟨(h.2 x hx).1.below k, (h.2 x hx).2⟩⟩

theorem encDones_append (l m : List Dnx) : encDones (l ++ m) = encDones l ++ encDones m := by simp [encDones]

theorem DonesAt.facts {w : World} {a : Option Addr} {l : List Dnx} (h : DonesAt w a l) (h0 : 0 < l.length) :
    ∃ b off, a = some ⟨b, off, none⟩ ∧ b < w.heap.size ∧ ∀ i (hi : i < l.length), w.cell? ⟨b, off + i * 4, none⟩ = some (.int .i64 l[i].n) ∧ w.cell? ⟨b, off + i * 4 + 1, none⟩ = some (.int .i64 l[i].at_) ∧ w.cell? ⟨b, off + i * 4 + 2, none⟩ = some (.int .i64 l[i].mode) ∧
      w.cell? ⟨b, off + i * 4 + 3, none⟩ = some (.slice l[i].ad l[i].acts.length l[i].cap) ∧ ActsAt w l[i].ad l[i].acts ∧ l[i].acts.length ≤ maxLen := by
  obtain ⟨b, off, rfl, hb, hc⟩ := SliceAt.six (en := encDnx) (st := 4) (fun _ => rfl) (by omega) h.1 h0
  refine ⟨b, off, rfl, hb, fun i hi => ⟨hc i hi 0 (by omega), hc i hi 1 (by omega), hc i hi 2 (by omega), hc i hi 3 (by omega), (h.2 _ (List.getElem_mem _)).1, (h.2 _ (List.getElem_mem _)).2⟩⟩

end Go.Proofs.YtoiobhcgpajogadGreat

/- A book in memory. -/
namespace Go.Proofs.YtoiobhcgpajogadGreat
open Go.RowKit

/-- A slice whose cells lie in a block of the colour q. -/
def FixC (w : World) (g : Nat → Nat) (q : Nat) (a : Option Addr) (cells : List Value) : Prop := SliceAt w a cells ∧ ∀ ad, a = some ad → ad.block < w.heap.size ∧ g ad.block = q

/-- An act's list lies in a block of the colour q; it is short. -/
def FixL (w : World) (g : Nat → Nat) (q : Nat) (z : Acx) : Prop := FixC w g q z.ad (encEnts z.a.l) ∧ z.a.l.length ≤ 8

section
variable {lo hi : Nat} {w w' : World} {g g' : Nat → Nat} {q : Nat} {a : Option Addr} {cells : List Value} {z : Acx}
theorem FixC.frame (h : FixC w g q a cells) (k : Evo lo hi g g' w w') (hc : q < lo ∨ hi ≤ q) : FixC w' g' q a cells :=
  ⟨h.1.lift (fun ad e => k.same _ (h.2 ad e).1 (by rw [(h.2 ad e).2]; omega)), fun ad e => ⟨Nat.lt_of_lt_of_le (h.2 ad e).1 k.size, (k.col _ (h.2 ad e).1).trans (h.2 ad e).2⟩⟩
theorem FixC.below (h : FixC w g q a cells) (k : Below w.heap.size w w') : FixC w' g q a cells := h.frame (Evo.of_same (lo := 0) (hi := 0) k) (by omega)
theorem FixC.fresh (hs : SliceAt w' a cells) (hn : ∀ ad, a = some ad → w.heap.size ≤ ad.block ∧ ad.block < w'.heap.size) : FixC w' (extc g w q) q a cells := ⟨hs, fun ad e => ⟨(hn ad e).2, extc_new (hn ad e).1⟩⟩
theorem FixL.frame (h : FixL w g q z) (k : Evo lo hi g g' w w') (hc : q < lo ∨ hi ≤ q) : FixL w' g' q z := ⟨h.1.frame k hc, h.2⟩
theorem FixL.below (h : FixL w g q z) (k : Below w.heap.size w w') : FixL w' g q z := ⟨h.1.below k, h.2⟩
theorem FixL.none (w : World) (g : Nat → Nat) (q : Nat) (c : Ac) (hc : c.l = []) : FixL w g q ⟨c, none, 0⟩ := ⟨⟨.inl (by rw [hc]; rfl), fun ad e => (by cases e)⟩, by show c.l.length ≤ 8; rw [hc]; simp⟩
end

/-- A deed that is under way: the first of its two colours, where it lies, its slice of acts, its acts. -/
structure Sn where
  cl : Nat
  d : Nat
  va : Value
  A : List Acx

def openP (B : Bk) (x : Nat → Sn) (s : Nat) : Value := match B.seats s with | none => .pointer none | some _ => .pointer (some ⟨(x s).d, 0, none⟩)
def bookL (B : Bk) (x : Nat → Sn) (v : Value) : List Value := [openP B x 0, openP B x 1, openP B x 2, openP B x 3, openP B x 4, v]

theorem bookL_get (B : Bk) (x : Nat → Sn) (v : Value) {s : Nat} (hs : s < 5) : (bookL B x v)[s]? = some (openP B x s) := by
  have h : s = 0 ∨ s = 1 ∨ s = 2 ∨ s = 3 ∨ s = 4 := by omega
  rcases h with rfl | rfl | rfl | rfl | rfl <;> rfl

theorem openP_upd (B : Bk) (x : Nat → Sn) (s : Nat) (o : Option Dn) (y : Sn) (j : Nat) : openP ⟨upd B.seats s o, B.l⟩ (upd x s y) j = if j = s then (match o with | none => .pointer none | some _ => .pointer (some ⟨y.d, 0, none⟩)) else openP B x j := by
  unfold openP
  by_cases e : j = s
  · subst e; simp only [upd_same, if_true]
  · simp only [upd_other _ _ e, if_neg e]

theorem bookL_set (B : Bk) (x : Nat → Sn) (v : Value) {s : Nat} (hs : s < 5) (o : Option Dn) (y : Sn) : (bookL B x v).set s (match o with | none => .pointer none | some _ => .pointer (some ⟨y.d, 0, none⟩)) = bookL ⟨upd B.seats s o, B.l⟩ (upd x s y) v := by
  unfold bookL
  simp only [openP_upd]
  have h : s = 0 ∨ s = 1 ∨ s = 2 ∨ s = 3 ∨ s = 4 := by omega
  rcases h with rfl | rfl | rfl | rfl | rfl <;> rfl

theorem bookL_same {B B' : Bk} {x x' : Nat → Sn} (h : ∀ s, s < 5 → openP B' x' s = openP B x s) (v : Value) : bookL B' x' v = bookL B x v := by
  unfold bookL
  rw [h 0 (by omega), h 1 (by omega), h 2 (by omega), h 3 (by omega), h 4 (by omega)]

theorem bookL_list (B : Bk) (x : Nat → Sn) (v v' : Value) (l : List Dn) : (bookL B x v).set 5 v' = bookL ⟨B.seats, l⟩ x v' := rfl

/-- A seat's deed in memory. -/
structure OneC (w : World) (g : Nat → Nat) (p nx N : Nat) (d : Dn) (y : Sn) : Prop where
  loc : LocC w g y.cl y.d 36 [.int .i64 d.n, .int .i64 d.at_, .int .i64 d.mode, y.va]
  row : RowC w g (y.cl + 1) 43 6 y.va y.A.length (encActs y.A)
  isA : y.A.map (·.a) = d.acts
  lists : ∀ z ∈ y.A, FixL w g (p + 2) z
  col : p + 3 ≤ y.cl ∧ y.cl + 2 ≤ nx
  len : y.A.length ≤ N

structure FinC (w : World) (g : Nat → Nat) (p nx N : Nat) (y : Dnx) (q : Nat) : Prop where
  col : p + 3 ≤ q ∧ q < nx
  acts : FixC w g q y.ad (encActs y.acts)
  lists : ∀ z ∈ y.acts, FixL w g (p + 2) z
  len : y.acts.length ≤ N

structure BookC (w : World) (g : Nat → Nat) (p b nx N : Nat) (B : Bk) (v : Value) (L : List Dnx) (x : Nat → Sn) : Prop where
  loc : LocC w g p b 104 (bookL B x v)
  row : RowC w g (p + 1) 36 4 v L.length (encDones L)
  isL : L.map Dnx.d = B.l
  fin : ∀ y ∈ L, FinC w g p nx N y y.q
  finApart : ∀ y ∈ L, ∀ s, s < 5 → ∀ d, B.seats s = some d → y.q ≠ (x s).cl + 1 ∧ y.q ≠ (x s).cl
  one : ∀ s, s < 5 → ∀ d, B.seats s = some d → OneC w g p nx N d (x s)
  apart : ∀ s t, s < 5 → t < 5 → s ≠ t → ∀ d e, B.seats s = some d → B.seats t = some e → (x s).cl + 2 ≤ (x t).cl ∨ (x t).cl + 2 ≤ (x s).cl
  few : L.length ≤ N
  nxt : p + 3 ≤ nx

def BookAt (w : World) (g : Nat → Nat) (p b nx N : Nat) (B : Bk) : Prop := ∃ v L x, BookC w g p b nx N B v L x

section
variable {lo hi : Nat} {w w' : World} {g g' : Nat → Nat} {p b nx nx' N N' q : Nat} {B : Bk} {v : Value} {L : List Dnx} {x : Nat → Sn} {d : Dn} {y : Sn} {z : Dnx}
theorem OneC.frame (h : OneC w g p nx N d y) (k : Evo lo hi g g' w w') (hc : (y.cl + 2 ≤ lo ∨ hi ≤ y.cl) ∧ (p + 2 < lo ∨ hi ≤ p + 2)) : OneC w' g' p nx N d y :=
  ⟨h.loc.frame k (by omega), h.row.frame k (by omega), h.isA, fun z hz => (h.lists z hz).frame k hc.2, h.col, h.len⟩
theorem OneC.more (h : OneC w g p nx N d y) (hx : nx ≤ nx') (hN : N ≤ N') : OneC w g p nx' N' d y := ⟨h.loc, h.row, h.isA, h.lists, ⟨h.col.1, by have := h.col.2; omega⟩, by have := h.len; omega⟩
theorem FinC.frame (h : FinC w g p nx N z q) (k : Evo lo hi g g' w w') (hc : (q < lo ∨ hi ≤ q) ∧ (p + 2 < lo ∨ hi ≤ p + 2)) : FinC w' g' p nx N z q :=
  ⟨h.col, h.acts.frame k hc.1, fun z hz => (h.lists z hz).frame k hc.2, h.len⟩
theorem FinC.more (h : FinC w g p nx N z q) (hx : nx ≤ nx') (hN : N ≤ N') : FinC w g p nx' N' z q := ⟨⟨h.col.1, by have := h.col.2; omega⟩, h.acts, h.lists, by have := h.len; omega⟩

theorem BookC.frame (h : BookC w g p b nx N B v L x) (k : Evo lo hi g g' w w') (hc : nx ≤ lo ∨ hi ≤ p) : BookC w' g' p b nx N B v L x := by
  have h0 := h.nxt
  exact ⟨h.loc.frame k (by omega), h.row.frame k (by omega), h.isL, fun y hy => (h.fin y hy).frame k (by have := (h.fin y hy).col; omega), h.finApart,
    fun s hs d hd => (h.one s hs d hd).frame k (by have := (h.one s hs d hd).col; omega), h.apart, h.few, h0⟩
theorem BookC.below (h : BookC w g p b nx N B v L x) (k : Below w.heap.size w w') : BookC w' g p b nx N B v L x := h.frame (Evo.of_same (lo := 0) (hi := 0) k) (by omega)
theorem BookC.more (h : BookC w g p b nx N B v L x) (hx : nx ≤ nx') (hN : N ≤ N') : BookC w g p b nx' N' B v L x :=
  ⟨h.loc, h.row, h.isL, fun y hy => (h.fin y hy).more hx hN, h.finApart, fun s hs d hd => (h.one s hs d hd).more hx hN, h.apart, by have := h.few; omega, by have := h.nxt; omega⟩
theorem BookAt.frame (h : BookAt w g p b nx N B) (k : Evo lo hi g g' w w') (hc : nx ≤ lo ∨ hi ≤ p) : BookAt w' g' p b nx N B := by
  obtain ⟨v, L, x, h⟩ := h
  exact ⟨v, L, x, h.frame k hc⟩
theorem BookAt.below (h : BookAt w g p b nx N B) (k : Below w.heap.size w w') : BookAt w' g p b nx N B := by
  obtain ⟨v, L, x, h⟩ := h
  exact ⟨v, L, x, h.below k⟩
theorem BookAt.more (h : BookAt w g p b nx N B) (hx : nx ≤ nx') (hN : N ≤ N') : BookAt w g p b nx' N' B := by
  obtain ⟨v, L, x, h⟩ := h
  exact ⟨v, L, x, h.more hx hN⟩

/-- A seat's place is told anew. -/
theorem BookC.seated (h : BookC w g p b nx N B v L x) {s : Nat} (hs : s < 5) (o : Option Dn) (y : Sn) {u : Value} (hu : u = (match o with | none => .pointer none | some _ => .pointer (some ⟨y.d, 0, none⟩)))
    (ho : ∀ d, o = some d → OneC w g p nx N d y ∧ (∀ z ∈ L, z.q ≠ y.cl + 1 ∧ z.q ≠ y.cl) ∧ ∀ t, t < 5 → t ≠ s → ∀ e, B.seats t = some e → y.cl + 2 ≤ (x t).cl ∨ (x t).cl + 2 ≤ y.cl) :
    BookC (w.setCell ⟨b, s, none⟩ u) g p b nx N ⟨upd B.seats s o, B.l⟩ v L (upd x s y) ∧ Evo p (p + 1) g g w (w.setCell ⟨b, s, none⟩ u) := by
  have e : Evo p (p + 1) g g w (w.setCell ⟨b, s, none⟩ u) := evo_store _ h.loc.2
  have h0 := h.nxt
  refine ⟨⟨?_, h.row.frame e (by omega), h.isL, fun y hy => (h.fin y hy).frame e (by have := (h.fin y hy).col; omega), fun z hz t ht d hd => ?_, fun t ht d hd => ?_, fun t t2 ht ht2 hne d d2 hd hd2 => ?_, h.few, h0⟩, e⟩
  · rw [← bookL_set B x v hs o y, ← hu]
    exact h.loc.set s u
  · by_cases et : t = s
    · subst et
      rw [upd_same]
      simp only [upd_same] at hd
      exact (ho d hd).2.1 z hz
    · rw [upd_other _ _ et]
      simp only [upd_other _ _ et] at hd
      exact h.finApart z hz t ht d hd
  · by_cases et : t = s
    · subst et
      rw [upd_same]
      simp only [upd_same] at hd
      have k := (ho d hd).1
      exact k.frame e (by have := k.col; omega)
    · rw [upd_other _ _ et]
      simp only [upd_other _ _ et] at hd
      have k := h.one t ht d hd
      exact k.frame e (by have := k.col; omega)
  · by_cases et : t = s
    · subst et
      have et2 : t2 ≠ t := fun e => hne e.symm
      rw [upd_same, upd_other _ _ et2]
      simp only [upd_same, upd_other _ _ et2] at hd hd2
      exact (ho d hd).2.2 t2 ht2 et2 d2 hd2
    · by_cases et2 : t2 = s
      · subst et2
        rw [upd_same, upd_other _ _ et]
        simp only [upd_same, upd_other _ _ et] at hd hd2
        exact ((ho d2 hd2).2.2 t ht et d hd).symm
      · rw [upd_other _ _ et, upd_other _ _ et2]
        simp only [upd_other _ _ et, upd_other _ _ et2] at hd hd2
        exact h.apart t t2 ht ht2 hne d d2 hd hd2

theorem BookC.closed (h : BookC w g p b nx N B v L x) {s : Nat} (hs : s < 5) :
    BookC (w.setCell ⟨b, s, none⟩ (.pointer none)) g p b nx N ⟨upd B.seats s none, B.l⟩ v L (upd x s (x s)) ∧ Evo p (p + 1) g g w (w.setCell ⟨b, s, none⟩ (.pointer none)) :=
  h.seated hs none (x s) rfl (fun d e => by cases e)

/-- A seat's deed is another one, in the same place. -/
theorem BookC.withOne (h : BookC w g p b nx N B v L x) {s : Nat} (hs : s < 5) {d d' : Dn} (hd : B.seats s = some d) {y : Sn} (h1 : y.cl = (x s).cl) (h2 : y.d = (x s).d) (e : Evo (x s).cl ((x s).cl + 2) g g' w w') (hN : N ≤ N') (ho : OneC w' g' p nx N' d' y) :
    BookC w' g' p b nx N' ⟨upd B.seats s (some d'), B.l⟩ v L (upd x s y) := by
  have h0 := h.nxt
  have hcol := (h.one s hs d hd).col
  refine ⟨?_, h.row.frame e (by omega), h.isL, fun z hz => ((h.fin z hz).frame e (by have := (h.fin z hz).col; have := h.finApart z hz s hs d hd; omega)).more (Nat.le_refl _) hN, fun z hz t ht d2 hd2 => ?_, fun t ht d2 hd2 => ?_, fun t t2 ht ht2 hne d2 d3 hd2 hd3 => ?_, by have := h.few; omega, h0⟩
  · rw [bookL_same (B := B) (x := x)]
    · exact h.loc.frame e (by omega)
    · intro j hj
      rw [openP_upd]
      by_cases ej : j = s
      · subst ej; rw [if_pos rfl]; unfold openP; rw [hd, h2]
      · rw [if_neg ej]
  · by_cases et : t = s
    · subst et; rw [upd_same, h1]; exact h.finApart z hz t ht d hd
    · rw [upd_other _ _ et]
      simp only [upd_other _ _ et] at hd2
      exact h.finApart z hz t ht d2 hd2
  · by_cases et : t = s
    · subst et
      rw [upd_same]
      simp only [upd_same] at hd2
      cases hd2
      exact ho
    · rw [upd_other _ _ et]
      simp only [upd_other _ _ et] at hd2
      have k := h.one t ht d2 hd2
      exact (k.frame e (by have := k.col; have := h.apart s t hs ht (Ne.symm et) d d2 hd hd2; omega)).more (Nat.le_refl _) hN
  · by_cases et : t = s
    · subst et
      have et2 : t2 ≠ t := fun e => hne e.symm
      rw [upd_same, upd_other _ _ et2, h1]
      simp only [upd_other _ _ et2] at hd3
      exact h.apart t t2 ht ht2 hne d d3 hd hd3
    · by_cases et2 : t2 = s
      · subst et2
        rw [upd_same, upd_other _ _ et, h1]
        simp only [upd_other _ _ et] at hd2
        exact h.apart t t2 ht ht2 hne d2 d hd2 hd
      · rw [upd_other _ _ et, upd_other _ _ et2]
        simp only [upd_other _ _ et, upd_other _ _ et2] at hd2 hd3
        exact h.apart t t2 ht ht2 hne d2 d3 hd2 hd3

/-- A fresh deed is there: two colours more. -/
theorem BookC.begun (h : BookC w g p b nx N B v L x) {s : Nat} (hs : s < 5) {d : Dn} (ha : d.acts = []) {dl : Nat} (hl : LocC w g nx dl 36 [.int .i64 d.n, .int .i64 d.at_, .int .i64 d.mode, .slice none 0 0]) :
    BookC (w.setCell ⟨b, s, none⟩ (.pointer (some ⟨dl, 0, none⟩))) g p b (nx + 2) N ⟨upd B.seats s (some d), B.l⟩ v L (upd x s ⟨nx, dl, .slice none 0 0, []⟩) ∧ Evo p (p + 1) g g w (w.setCell ⟨b, s, none⟩ (.pointer (some ⟨dl, 0, none⟩))) := by
  have h0 := h.nxt
  refine (h.more (nx' := nx + 2) (by omega) (Nat.le_refl _)).seated hs (some d) ⟨nx, dl, .slice none 0 0, []⟩ rfl (fun d2 e => ?_)
  cases e
  refine ⟨⟨hl, ⟨World.ownsRow_nil _ 0 43 6, nofun⟩, ha.symm, fun z hz => (by cases hz), ⟨by show p + 3 ≤ nx; omega, Nat.le_refl _⟩, Nat.zero_le _⟩, fun z hz => ?_, fun t ht hne e he => ?_⟩
  · have := (h.fin z hz).col
    show z.q ≠ nx + 1 ∧ z.q ≠ nx
    omega
  · have := (h.one t ht e he).col
    right
    exact this.2

end

end Go.Proofs.YtoiobhcgpajogadGreat
