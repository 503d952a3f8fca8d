/- What a call does to memory, told by colours of blocks; rows of entries (a number, a mark, bytes); laws on them. Nothing of the program. -/
import Derived.WalkKit
import Derived.Deep.Draws
namespace Go.Proofs.YtoiobhcgpajogabGreatDoor
open Go.RowKit

theorem hid {p : Prop} (h : p) : Hid p := h

/-- A value of a key. -/
structure Val where
  there : Bool
  bytes : ByteArray

theorem Val.ext' {a b : Val} (h : a.there = b.there) (h' : a.bytes = b.bytes) : a = b := by
  cases a; cases b; simp at h h'; simp [h, h']

instance : DecidableEq Val := fun a b =>
  if h : a.there = b.there ∧ a.bytes = b.bytes then isTrue (Val.ext' h.1 h.2) else isFalse (fun e => h (by rw [e]; exact ⟨rfl, rfl⟩))

instance : Inhabited Val := ⟨⟨false, ByteArray.empty⟩⟩

def Val.zero : Val := ⟨false, ByteArray.empty⟩

/-- A number with a value: a version (its commit), a pair (its key). -/
structure Ent where
  n : Int
  v : Val

theorem Ent.ext' {a b : Ent} (h : a.n = b.n) (h' : a.v = b.v) : a = b := by
  cases a; cases b; simp at h h'; simp [h, h']

instance : DecidableEq Ent := fun a b =>
  if h : a.n = b.n ∧ a.v = b.v then isTrue (Ent.ext' h.1 h.2) else isFalse (fun e => h (by rw [e]; exact ⟨rfl, rfl⟩))

instance : Inhabited Ent := ⟨⟨0, Val.zero⟩⟩

def encEnt (e : Ent) : List Value := [.int .i64 e.n, .bool e.v.there, .string e.v.bytes]
def encEnts : List Ent → List Value
  | [] => []
  | e :: l => encEnt e ++ encEnts l

theorem encEnts_append (l m : List Ent) : encEnts (l ++ m) = encEnts l ++ encEnts m := by
  induction l with
  | nil => rfl
  | cons e l ih => simp [encEnts, ih]

theorem encEnts_length (l : List Ent) : (encEnts l).length = l.length * 3 := by
  induction l with
  | nil => rfl
  | cons e l ih => simp [encEnts, encEnt, ih]; omega

theorem encEnts_get (l : List Ent) (i : Nat) (h : i < l.length) :
    (encEnts l)[i * 3]? = some (.int .i64 l[i].n) ∧ (encEnts l)[i * 3 + 1]? = some (.bool l[i].v.there) ∧ (encEnts l)[i * 3 + 2]? = some (.string l[i].v.bytes) := by
  induction l generalizing i with
  | nil => simp at h
  | cons e l ih =>
    cases i with
    | zero => simp [encEnts, encEnt]
    | succ i =>
      have := ih i (by simpa using h)
      have e1 : (i + 1) * 3 = i * 3 + 3 := by omega
      simpa [encEnts, encEnt, e1] using this

theorem encEnts_one (l : List Ent) : ∀ u ∈ encEnts l, u.oneCell' = true := by
  induction l with
  | nil => intro u hu; cases hu
  | cons e l ih =>
    intro u hu
    simp only [encEnts, encEnt, List.cons_append, List.nil_append, List.mem_cons] at hu
    rcases hu with rfl | rfl | rfl | hu
    · rfl
    · rfl
    · rfl
    · exact ih u hu

theorem encEnts_drop (l : List Ent) (k : Nat) : (encEnts l).drop (k * 3) = encEnts (l.drop k) := by
  induction l generalizing k with
  | nil => simp [encEnts]
  | cons e l ih =>
    cases k with
    | zero => rfl
    | succ k =>
      have e1 : (k + 1) * 3 = k * 3 + 3 := by omega
      simp [encEnts, encEnt, e1, ih]

/-! ### A slice that is read: its cells lie where it leads to -/

def SliceAt (w : World) (a : Option Addr) (cells : List Value) : Prop :=
  cells = [] ∨ ∃ b off, a = some ⟨b, off, none⟩ ∧ ∀ j u, cells[j]? = some u → w.cell? ⟨b, off + j, none⟩ = some u

/-- The same, of entries, by the walk's own spelling. -/
theorem SliceAt.ents {w : World} {a : Option Addr} {l : List Ent} (h : SliceAt w a (encEnts l)) (h0 : 0 < l.length) :
    ∃ b off, a = some ⟨b, off, none⟩ ∧ ∀ i (hi : i < l.length), w.cell? ⟨b, off + i * 3, none⟩ = some (.int .i64 l[i].n) ∧ w.cell? ⟨b, off + i * 3 + 1, none⟩ = some (.bool l[i].v.there) ∧
      w.cell? ⟨b, off + i * 3 + 2, none⟩ = some (.string l[i].v.bytes) := by
  rcases h with h | ⟨b, off, rfl, h⟩
  · have := congrArg List.length h; rw [encEnts_length] at this; simp at this; omega
  · refine ⟨b, off, rfl, fun i hi => ?_⟩
    have g := encEnts_get l i hi
    exact ⟨h _ _ g.1, h _ _ g.2.1, h _ _ g.2.2⟩

theorem SliceAt.lift {w w' : World} {a : Option Addr} {cells : List Value} (h : SliceAt w a cells) (hs : ∀ ad, a = some ad → w'.heap[ad.block]? = w.heap[ad.block]?) : SliceAt w' a cells := by
  rcases h with h | ⟨b, off, rfl, h⟩
  · exact .inl h
  · refine .inr ⟨b, off, rfl, fun j u hu => ?_⟩
    exact (World.cell?_of_block (w := w) (a := ⟨b, off + j, none⟩) (hs ⟨b, off, none⟩ rfl)).trans (h j u hu)

theorem SliceAt.lt {w : World} {a : Option Addr} {cells : List Value} (h : SliceAt w a cells) (hne : cells ≠ []) : ∃ b off, a = some ⟨b, off, none⟩ ∧ b < w.heap.size := by
  rcases h with h | ⟨b, off, rfl, h⟩
  · exact absurd h hne
  · cases cells with
    | nil => exact absurd rfl hne
    | cons u l => exact ⟨b, off, rfl, World.block_lt_of_cell? w _ (h 0 u rfl)⟩

/-! ### Colours of blocks -/

/-- From w (its blocks coloured by g) to w' (by g'): no block goes; old blocks keep their colours; only those of a colour from lo on, below hi, may have turned. -/
structure Evo (lo hi : Nat) (g g' : Nat → Nat) (w w' : World) : Prop where
  os : w'.os = w.os
  tape : w'.tape = w.tape
  output : w'.output = w.output
  size : w.heap.size ≤ w'.heap.size
  col : ∀ b, b < w.heap.size → g' b = g b
  same : ∀ b, b < w.heap.size → ¬(lo ≤ g b ∧ g b < hi) → w'.heap[b]? = w.heap[b]?

theorem Evo.refl (lo hi : Nat) (g : Nat → Nat) (w : World) : Evo lo hi g g w w := ⟨rfl, rfl, rfl, Nat.le_refl _, fun _ _ => rfl, fun _ _ _ => rfl⟩

theorem Evo.trans {lo hi : Nat} {g g1 g2 : Nat → Nat} {w w1 w2 : World} (h : Evo lo hi g g1 w w1) (k : Evo lo hi g1 g2 w1 w2) : Evo lo hi g g2 w w2 :=
  ⟨k.os.trans h.os, k.tape.trans h.tape, k.output.trans h.output, Nat.le_trans h.size k.size,
    fun b hb => (k.col b (Nat.lt_of_lt_of_le hb h.size)).trans (h.col b hb),
    fun b hb hn => (k.same b (Nat.lt_of_lt_of_le hb h.size) (by rw [h.col b hb]; exact hn)).trans (h.same b hb hn)⟩

theorem Evo.wide {lo hi lo' hi' : Nat} {g g' : Nat → Nat} {w w' : World} (h : Evo lo hi g g' w w') (h1 : lo' ≤ lo) (h2 : hi ≤ hi') : Evo lo' hi' g g' w w' :=
  ⟨h.os, h.tape, h.output, h.size, h.col, fun b hb hn => h.same b hb (fun ⟨a, c⟩ => hn ⟨by omega, by omega⟩)⟩

/-- Nothing old has turned: of whatever interval. -/
theorem Evo.none {lo hi lo' hi' : Nat} {g g' : Nat → Nat} {w w' : World} (h : Evo lo hi g g' w w') (h1 : hi ≤ lo) : Evo lo' hi' g g' w w' :=
  ⟨h.os, h.tape, h.output, h.size, h.col, fun b hb _ => h.same b hb (fun ⟨_, _⟩ => by omega)⟩

/-- New blocks have the colour q. -/
def extc (g : Nat → Nat) (w : World) (q : Nat) : Nat → Nat := fun b => if b < w.heap.size then g b else q

theorem extc_old {g : Nat → Nat} {w : World} {q b : Nat} (h : b < w.heap.size) : extc g w q b = g b := if_pos h
theorem extc_new {g : Nat → Nat} {w : World} {q b : Nat} (h : w.heap.size ≤ b) : extc g w q b = q := if_neg (by omega)

/-- Off 'Below': nothing old has turned. -/
theorem Evo.of_below {lo hi : Nat} {w w' : World} (g : Nat → Nat) (q : Nat) (h : Below w.heap.size w w') : Evo lo hi g (extc g w q) w w' :=
  ⟨h.os, h.tape, h.output, h.size, fun _ hb => extc_old hb, fun b hb _ => h.block b hb⟩

theorem Evo.below {lo hi : Nat} {g g' : Nat → Nat} {w w' : World} (h : Evo lo hi g g' w w') (hl : hi ≤ lo) : Below w.heap.size w w' :=
  ⟨h.os, h.tape, h.output, h.size, fun b hb => h.same b hb (fun ⟨_, _⟩ => by omega)⟩

theorem Evo.alloc (g : Nat → Nat) (q : Nat) (w : World) (o : Obj) : Evo 0 0 g (extc g w q) w (w.alloc o) :=
  Evo.of_below g q ((Below.refl _ _).alloc (Nat.le_refl _) _)

/-- What is as it was at a block of a colour outside. -/
theorem Evo.at {lo hi : Nat} {g g' : Nat → Nat} {w w' : World} (h : Evo lo hi g g' w w') {b : Nat} {o : Obj} (hb : w.heap[b]? = some o) (hc : g b < lo ∨ hi ≤ g b) :
    w'.heap[b]? = some o ∧ g' b = g b :=
  have hlt := lt_of_block hb
  ⟨(h.same b hlt (fun ⟨_, _⟩ => by omega)).trans hb, h.col b hlt⟩

/-- The call's own beginning: below B nothing has turned, and those blocks have the colour 0. -/
structure Base (B : Nat) (w0 : World) (g : Nat → Nat) (w : World) : Prop where
  below : Below B w0 w
  size : B ≤ w.heap.size
  zero : ∀ b, b < B → g b = 0

theorem Base.start (w : World) : Base w.heap.size w (fun _ => 0) w := ⟨Below.refl _ _, Nat.le_refl _, fun _ _ => rfl⟩

theorem Base.step {B lo hi : Nat} {w0 w w' : World} {g g' : Nat → Nat} (h : Base B w0 g w) (k : Evo lo hi g g' w w') (h1 : 1 ≤ lo ∨ hi ≤ lo) : Base B w0 g' w' :=
  ⟨h.below.trans ⟨k.os, k.tape, k.output, k.size, fun b hb => k.same b (Nat.lt_of_lt_of_le hb h.size) (by rw [h.zero b hb]; omega)⟩,
    Nat.le_trans h.size k.size, fun b hb => (k.col b (Nat.lt_of_lt_of_le hb h.size)).trans (h.zero b hb)⟩

theorem Base.cell {B : Nat} {w0 w : World} {g : Nat → Nat} (h : Base B w0 g w) {p : Addr} (hp : p.block < B) : w.cell? p = w0.cell? p := h.below.cell hp

theorem Base.slice {B : Nat} {w0 w : World} {g : Nat → Nat} (h : Base B w0 g w) {a : Option Addr} {cells : List Value} (k : SliceAt w0 a cells) (hp : ∀ ad, a = some ad → ad.block < B) : SliceAt w a cells :=
  k.lift (fun ad ha => h.below.block _ (hp ad ha))

/-! ### Rows of the call's own -/

/-- The slice v owns its row, of the colour q. -/
def RowC (w : World) (g : Nat → Nat) (q : Nat) (e size : Nat) (v : Value) (n : Nat) (cells : List Value) : Prop :=
  w.ownsRow 0 e size v n cells ∧ ∀ r, v.ownBlock = some r → g r = q

theorem ownsRow.lift {w w' : World} {base e size : Nat} {v : Value} {n : Nat} {xs : List Value} (h : w.ownsRow base e size v n xs) (hs : ∀ r, v.ownBlock = some r → w'.heap[r]? = w.heap[r]?) : w'.ownsRow base e size v n xs := by
  refine ⟨h.1, ?_⟩
  rcases h.2 with hn | ⟨g, cap, cur, rfl, hb, hgg, rest⟩
  · exact .inl hn
  · exact .inr ⟨g, cap, cur, rfl, hb, by rw [hs g rfl]; exact hgg, rest⟩

theorem RowC.frame {lo hi : Nat} {g g' : Nat → Nat} {w w' : World} {q e size : Nat} {v : Value} {n : Nat} {cells : List Value} (h : RowC w g q e size v n cells) (k : Evo lo hi g g' w w') (hc : q < lo ∨ hi ≤ q) :
    RowC w' g' q e size v n cells :=
  ⟨ownsRow.lift h.1 (fun r hr => k.same r (h.1.lt r hr).2 (by rw [h.2 r hr]; omega)), fun r hr => (k.col r (h.1.lt r hr).2).trans (h.2 r hr)⟩

theorem ownsRow.sliceAt {w : World} {base e size : Nat} {v : Value} {n : Nat} {xs : List Value} (h : w.ownsRow base e size v n xs) :
    ∃ a cap, v = .slice a n cap ∧ SliceAt w a xs ∧ ∀ ad, a = some ad → v.ownBlock = some ad.block := by
  rcases h.2 with ⟨rfl, rfl⟩ | ⟨g, cap, cur, rfl, hb, hgg, hn, hm, hz, ht⟩
  · refine ⟨none, 0, rfl, .inl ?_, by intro ad h; cases h⟩
    exact List.eq_nil_of_length_eq_zero (by simpa using h.1)
  · refine ⟨some ⟨g, 0, none⟩, cap, rfl, .inr ⟨g, 0, rfl, fun j u hu => ?_⟩, by intro ad h; cases h; rfl⟩
    have hj : j < n * size := by rw [← h.1]; exact (List.getElem?_eq_some_iff.1 hu).1
    rw [Nat.zero_add, World.ownsRow.cellAt h j hj]
    exact hu

/-- append onto a row of the call's own: the new slice lies in the old row, or in a new one. -/
theorem run_append2 {P : Program} (w : World) (t ty e : TypeId) (i : TypeInfo) (z : Value) (size bytes : Nat) (ht : P.underlying t = some (.slice e)) (hi : P.info? e = some i) (hz : i.zero = some z)
    (hsize : i.size = size) (hby : i.bytes = bytes) (hzs : z.cells.size = size) (hsz : 0 < size)
    (v : Value) (n : Nat) (xs : List Value) (hown : w.ownsRow 0 e size v n xs)
    (a : Addr) (m c : Nat) (news : List Value) (hl : news.length = m * size) (hnews : ∀ j u, news[j]? = some u → w.cell? (a.add j) = some u) (h1 : ∀ u ∈ news, u.oneCell' = true)
    (h63 : n + m ≤ maxLen) (hbytes : (n + m) * bytes ≤ 140737488355328) :
    ∃ v' w', (Builtin.append_ #[t, t] ty #[v, .slice (some a) m c]).run P w = .ok v' w' ∧ w'.ownsRow 0 e size v' (n + m) (xs ++ news) ∧ w.grownBy w' v.ownBlock ∧
      (v'.ownBlock = v.ownBlock ∨ ∀ k, v'.ownBlock = some k → w.heap.size ≤ k) := by
  obtain ⟨v', w', hr, ho, hg, -⟩ := run_append_own (P := P) w 0 t ty e i z size bytes ht hi hz hsize hby hzs hsz v n xs hown a m c news hl hnews h1 h63 hbytes (Nat.zero_le _)
  refine ⟨v', w', hr, ho, hg, ?_⟩
  have hsmall : n + m ≤ 9223372036854775807 := by simp only [maxLen] at h63; omega
  subst hsize
  subst hby
  rcases hown.2 with ⟨rfl, rfl⟩ | ⟨r, cap, cur, rfl, _, hgr, hnc, hcm, hcs, htake⟩
  · by_cases hm : m = 0
    · subst hm
      have hn : news = [] := List.eq_nil_of_length_eq_zero (by simpa using hl)
      subst hn
      left
      have hr2 : (Builtin.append_ #[t, t] ty #[.slice none 0 0, .slice (some a) 0 c]).run P w = .ok (.slice none 0 0) w := by
        simp [Builtin.append_, run_underlying ht, sizeOf, typeInfo, hi, Builtin.lenOf, Builtin.firstCells, loadCells, loadCellsFrom]
      rw [hr2] at hr
      cases hr
      rfl
    · right
      rw [run_append_nil (P := P) w t ty e i z ht hi hz a m c news hl hnews (by omega) (by omega) (by have hb := hbytes; simp only [Nat.zero_add] at hb; omega)] at hr
      cases hr
      intro k hk; cases hk; exact Nat.le_refl _
  · by_cases hroom : n + m ≤ cap
    · left
      rw [run_append_room (P := P) w t ty e i ht hi r n cap cur hgr a m c news hl hnews h1 hroom (by rw [hl, hcs, ← Nat.add_mul]; exact Nat.mul_le_mul_right _ hroom)] at hr
      cases hr
      rfl
    · right
      have holds : ∀ j u, xs[j]? = some u → w.cell? ((⟨r, 0, none⟩ : Addr).add j) = some u := hown.cells (g := r) rfl
      rw [run_append_grow (P := P) w t ty e i z ht hi hz ⟨r, 0, none⟩ n cap xs hown.1 holds a m c news hl hnews (by omega) (by omega) (growslice_fits (by omega) hbytes)] at hr
      cases hr
      intro k hk; cases hk; exact Nat.le_refl _

section
variable {P : Program} {ops : Array Oper} {rest : List Oper} {o : Oper} {a : Act} {w : World} {K : Act → World → Prop} {Q : Exit → Act → World → Prop}

theorem wp_append2 (s x : Operand) (t : TypeId) (hop : o.op = Op.call { callee := Callee.builtin Builtin.append, args := #[s, x], argTypes := #[t, t] })
    (e : TypeId) (i : TypeInfo) (z : Value) (size bytes : Nat) (ht : P.underlying t = some (.slice e)) (hi : P.info? e = some i) (hz : i.zero = some z)
    (hsize : i.size = size) (hby : i.bytes = bytes) (hzs : z.cells.size = size) (hsz : 0 < size)
    (v : Value) (n : Nat) (xs : List Value) (hs : a.eval s = v) (hown : w.ownsRow 0 e size v n xs)
    (ad : Addr) (m c : Nat) (news : List Value) (hx : a.eval x = .slice (some ad) m c) (hl : news.length = m * size) (hnews : ∀ j u, news[j]? = some u → w.cell? (ad.add j) = some u) (h1 : ∀ u ∈ news, u.oneCell' = true)
    (h63 : n + m ≤ maxLen) (hbytes : (n + m) * bytes ≤ 140737488355328)
    (hK : ∀ v' w', w'.ownsRow 0 e size v' (n + m) (xs ++ news) → w.grownBy w' v.ownBlock → (v'.ownBlock = v.ownBlock ∨ ∀ k, v'.ownBlock = some k → w.heap.size ≤ k) → K (a.put o.dst v') w') : o.wp P a w K Q := by
  obtain ⟨v', w', hr, h2, h3, h4⟩ := run_append2 (P := P) w t o.type e i z size bytes ht hi hz hsize hby hzs hsz v n xs hown ad m c news hl hnews h1 h63 hbytes
  unfold Oper.wp execOp
  simp only [hop, resolve, invoke, builtin, Sem.run_bind, Sem.run_pure, Result.andThen_ok, List.map_toArray, List.map_cons, List.map_nil, hs, hx, hr]
  exact hK v' w' h2 h3 h4

/-- As one step of a region that draws. -/
theorem step_append2 {E : Prop} (hg : o.guard = none) (s x : Operand) (t : TypeId) (hop : o.op = Op.call { callee := Callee.builtin Builtin.append, args := #[s, x], argTypes := #[t, t] })
    (e : TypeId) (i : TypeInfo) (z : Value) (size bytes : Nat) (ht : P.underlying t = some (.slice e)) (hi : P.info? e = some i) (hz : i.zero = some z)
    (hsize : i.size = size) (hby : i.bytes = bytes) (hzs : z.cells.size = size) (hsz : 0 < size)
    (v : Value) (n : Nat) (xs : List Value) (hs : a.eval s = v) (hown : w.ownsRow 0 e size v n xs)
    (ad : Addr) (m c : Nat) (news : List Value) (hx : a.eval x = .slice (some ad) m c) (hl : news.length = m * size) (hnews : ∀ j u, news[j]? = some u → w.cell? (ad.add j) = some u) (h1 : ∀ u ∈ news, u.oneCell' = true)
    (h63 : n + m ≤ maxLen) (hbytes : (n + m) * bytes ≤ 140737488355328)
    (hK : ∀ v' w', w'.ownsRow 0 e size v' (n + m) (xs ++ news) → w.grownBy w' v.ownBlock → (v'.ownBlock = v.ownBlock ∨ ∀ k, v'.ownBlock = some k → w.heap.size ≤ k) → K (a.put o.dst v') w') :
    if Region.wanted o (yielded ops a.tmps) = true then Oper.wp P o a w K Q else E := by
  have hw : Region.wanted o (yielded ops a.tmps) = true := by simp [Region.wanted, hg]
  rw [if_pos hw]
  exact wp_append2 s x t hop e i z size bytes ht hi hz hsize hby hzs hsz v n xs hs hown ad m c news hx hl hnews h1 h63 hbytes hK

/-- As one operation of a region that does not draw. -/
theorem wpList_append2 (hg : o.guard = none) (s x : Operand) (t : TypeId) (hop : o.op = Op.call { callee := Callee.builtin Builtin.append, args := #[s, x], argTypes := #[t, t] })
    (e : TypeId) (i : TypeInfo) (z : Value) (size bytes : Nat) (ht : P.underlying t = some (.slice e)) (hi : P.info? e = some i) (hz : i.zero = some z)
    (hsize : i.size = size) (hby : i.bytes = bytes) (hzs : z.cells.size = size) (hsz : 0 < size)
    (v : Value) (n : Nat) (xs : List Value) (hs : a.eval s = v) (hown : w.ownsRow 0 e size v n xs)
    (ad : Addr) (m c : Nat) (news : List Value) (hx : a.eval x = .slice (some ad) m c) (hl : news.length = m * size) (hnews : ∀ j u, news[j]? = some u → w.cell? (ad.add j) = some u) (h1 : ∀ u ∈ news, u.oneCell' = true)
    (h63 : n + m ≤ maxLen) (hbytes : (n + m) * bytes ≤ 140737488355328)
    (hK : ∀ v' w', w'.ownsRow 0 e size v' (n + m) (xs ++ news) → w.grownBy w' v.ownBlock → (v'.ownBlock = v.ownBlock ∨ ∀ k, v'.ownBlock = some k → w.heap.size ≤ k) → wpList P ops Q rest (a.put o.dst v') w') :
    wpList P ops Q (o :: rest) a w :=
  wpList_plain hg fun _ hK' => wp_append2 s x t hop e i z size bytes ht hi hz hsize hby hzs hsz v n xs hs hown ad m c news hx hl hnews h1 h63 hbytes fun v' w' h2 h3 h4 => hK' _ _ (hK v' w' h2 h3 h4)
end

/-- append within the room of a row whose block is known. -/
theorem step_append_at {P : Program} {ops : Array Oper} {o : Oper} {a : Act} {w : World} {K : Act → World → Prop} {Q : Exit → Act → World → Prop} {E : Prop} (hg : o.guard = none) (s x : Operand) (t : TypeId) (hop : o.op = Op.call { callee := Callee.builtin Builtin.append, args := #[s, x], argTypes := #[t, t] })
    (e : TypeId) (i : TypeInfo) (size : Nat) (ht : P.underlying t = some (.slice e)) (hi : P.info? e = some i) (hsize : i.size = size)
    (r n cap : Nat) (cur : Array Value) (hs : a.eval s = .slice (some ⟨r, 0, none⟩) n cap) (hr : w.heap[r]? = some (.cells cur e (0, 0)))
    (ad : Addr) (m c : Nat) (news : List Value) (hx : a.eval x = .slice (some ad) m c) (hl : news.length = m * size) (hnews : ∀ j u, news[j]? = some u → w.cell? (ad.add j) = some u) (h1 : ∀ u ∈ news, u.oneCell' = true)
    (hroom : n + m ≤ cap) (hfit : n * size + news.length ≤ cur.size)
    (hK : K (a.put o.dst (.slice (some ⟨r, 0, none⟩) (n + m) cap)) (w.setRow r (cur.toList.take (n * size) ++ news ++ cur.toList.drop (n * size + news.length)).toArray)) :
    if Region.wanted o (yielded ops a.tmps) = true then Oper.wp P o a w K Q else E := by
  have hw : Region.wanted o (yielded ops a.tmps) = true := by simp [Region.wanted, hg]
  rw [if_pos hw]
  subst hsize
  have hr' := run_append_room (P := P) w t o.type e i ht hi r n cap cur hr ad m c news hl hnews h1 hroom hfit
  unfold Oper.wp execOp
  simp only [hop, resolve, invoke, builtin, Sem.run_bind, Sem.run_pure, Result.andThen_ok, List.map_toArray, List.map_cons, List.map_nil, hs, hx, hr']
  exact hK

/-- clear of a slice that lies in a row whose block is known. -/
theorem wpList_clear_at {P : Program} {ops : Array Oper} {rest : List Oper} {o : Oper} {a : Act} {w : World} {Q : Exit → Act → World → Prop} (hg : o.guard = none) (s : Operand) (t : TypeId) (hop : o.op = Op.call { callee := Callee.builtin Builtin.clear, args := #[s], argTypes := #[t] })
    (e : TypeId) (i : TypeInfo) (z : Value) (size : Nat) (ht : P.underlying t = some (.slice e)) (hi : P.info? e = some i) (hz : i.zero = some z) (hzs : z.cells.size = size) (hz1 : ∀ u ∈ z.cells, u.oneCell' = true) (hsz : 0 < size)
    (r off n cap : Nat) (cur : Array Value) (hs : a.eval s = .slice (some ⟨r, off, none⟩) n cap) (hn : 0 < n) (hr : w.heap[r]? = some (.cells cur e (0, 0))) (hfit : off + n * size ≤ cur.size)
    (hK : ∀ cur' : Array Value, cur'.size = cur.size → cur'.toList.take off = cur.toList.take off → wpList P ops Q rest (a.put o.dst (.tuple #[])) (w.setRow r cur')) :
    wpList P ops Q (o :: rest) a w := by
  refine wpList_plain hg fun K hK' => ?_
  have hlen : (Builtin.zeroCells z.cells n).toList.length = n * size := by rw [Array.length_toList, size_zeroCells, hzs]
  have hone : ∀ u ∈ (Builtin.zeroCells z.cells n).toList, u.oneCell' = true := by
    intro u hu
    simp only [Builtin.zeroCells, Array.toList_map, List.mem_map] at hu
    obtain ⟨j, _, rfl⟩ := hu
    have hj : j % z.cells.size < z.cells.size := Nat.mod_lt _ (by omega)
    rw [getElem!_pos z.cells _ hj]
    exact hz1 _ (Array.getElem_mem hj)
  have hst := run_storeCells_at P r off e (Builtin.zeroCells z.cells n).toList 0 cur w hr (by rw [hlen]; omega) hone
  simp only [Nat.add_zero] at hst
  have hrun : (Builtin.clear_ #[t] o.type #[.slice (some ⟨r, off, none⟩) n cap]).run P w = .ok (.tuple #[]) (w.setRow r (cur.toList.take off ++ (Builtin.zeroCells z.cells n).toList ++ cur.toList.drop (off + (Builtin.zeroCells z.cells n).toList.length)).toArray) := by
    obtain ⟨n, rfl⟩ : ∃ m, n = m + 1 := ⟨n - 1, by omega⟩
    simp [Builtin.clear_, run_underlying ht, zeroValue, typeInfo, hi, hz, hst]
  unfold Oper.wp execOp
  simp only [hop, resolve, invoke, builtin, Sem.run_bind, Sem.run_pure, Result.andThen_ok, List.map_toArray, List.map_cons, List.map_nil, hs, hrun]
  refine hK' _ _ (hK _ ?_ ?_)
  · simp only [List.size_toArray, List.length_append, List.length_take, List.length_drop, Array.length_toList] at hlen ⊢
    omega
  · simp only [List.append_assoc]
    have : (cur.toList.take off).length = off := by simp; omega
    conv => lhs; rw [← this]
    rw [this, List.take_left' this]

/-- An owned row with something in it is no nil. -/
theorem ownsRow.some {w : World} {base e size : Nat} {v : Value} {n : Nat} {xs : List Value} (h : w.ownsRow base e size v n xs) (hn : 0 < n) :
    ∃ r cap, v = .slice (some ⟨r, 0, none⟩) n cap ∧ n ≤ cap ∧ r < w.heap.size := by
  rcases h.2 with ⟨_, h0⟩ | ⟨r, cap, cur, hv, _, hg, hc, _⟩
  · omega
  · exact ⟨r, cap, hv, hc, lt_of_block hg⟩

/-- The cells of a block that was just laid. -/
theorem cells_new (w : World) (cs : List Value) (T : TypeId) : ∀ j u, cs[j]? = some u → (w.alloc (.cells cs.toArray T)).cell? ((⟨w.heap.size, 0, none⟩ : Addr).add j) = some u := by
  intro j u hu
  have e : (⟨w.heap.size, 0, none⟩ : Addr).add j = ⟨w.heap.size, j, none⟩ := by unfold Addr.add; split <;> simp_all
  rw [e, World.cell?_alloc_new]
  simpa using hu

theorem encEnt_one (e : Ent) : ∀ u ∈ encEnt e, u.oneCell' = true := by
  intro u hu
  simp only [encEnt, List.mem_cons, List.not_mem_nil, or_false] at hu
  rcases hu with rfl | rfl | rfl <;> rfl

theorem grownBy.keep {w w' : World} {row : Option Nat} {c : Nat} (hg : w.grownBy w' row) (hne : some c ≠ row) (hlt : c < w.heap.size) :
    (∀ i, w'.cell? ⟨c, i, none⟩ = w.cell? ⟨c, i, none⟩) ∧ (∀ i, w'.frozen? ⟨c, i, none⟩ = w.frozen? ⟨c, i, none⟩) :=
  ⟨fun i => World.cell?_of_block (w := w) (a := ⟨c, i, none⟩) (hg.block c hlt hne), fun i => World.frozen?_of_block (w := w) (a := ⟨c, i, none⟩) (hg.block c hlt hne)⟩

/-! ### A block known whole (a local variable, a struct) -/

def Loc (w : World) (b : Nat) (T : TypeId) (cs : List Value) : Prop := w.heap[b]? = some (.cells cs.toArray T (0, 0))

section
variable {w w' : World} {b B : Nat} {T : TypeId} {cs : List Value}
theorem Loc.lt (h : Loc w b T cs) : b < w.heap.size := lt_of_block h
theorem Loc.new (w : World) (T : TypeId) (cs : List Value) : Loc (w.alloc (.cells cs.toArray T)) w.heap.size T cs := heap_alloc_new _ _
theorem Loc.at {n : Nat} (w : World) (T : TypeId) (cs : List Value) (hn : n = w.heap.size) : Loc (w.alloc (.cells cs.toArray T)) n T cs := by subst hn; exact heap_alloc_new _ _
theorem Loc.alloc (h : Loc w b T cs) (o : Obj) : Loc (w.alloc o) b T cs := (Below.heap_alloc _ _ _ h.lt).trans h
theorem Loc.drew (h : Loc w b T cs) : Loc w.drew b T cs := h
theorem Loc.drewN (h : Loc w b T cs) (n : Nat) : Loc (w.drewN n) b T cs := h
theorem Loc.below (h : Loc w b T cs) (k : Below B w w') (hb : b < B) : Loc w' b T cs := (k.block b hb).trans h
theorem Loc.keep (h : Loc w b T cs) (k : Below w.heap.size w w') : Loc w' b T cs := (k.block b h.lt).trans h
theorem Loc.evo {lo hi : Nat} {g g' : Nat → Nat} (h : Loc w b T cs) (k : Evo lo hi g g' w w') (hc : g b < lo ∨ hi ≤ g b) : Loc w' b T cs := (k.at h hc).1
theorem Loc.other (h : Loc w b T cs) {a : Addr} (hne : b ≠ a.block) (v : Value) : Loc (w.setCell a v) b T cs := (Below.heap_setCell _ _ _ _ hne).trans h
theorem Loc.set (h : Loc w b T cs) (i : Nat) (v : Value) : Loc (w.setCell ⟨b, i, none⟩ v) b T (cs.set i v) := by
  unfold Loc at *
  simp only [World.setCell, Array.getElem?_modify, if_true, h]
  simp
theorem Loc.cell (h : Loc w b T cs) (i : Nat) : w.cell? ⟨b, i, none⟩ = cs[i]? := by
  unfold Loc at h
  simp [World.cell?, h]
theorem Loc.free (h : Loc w b T cs) (i : Nat) : w.frozen? ⟨b, i, none⟩ = false := by
  unfold Loc at h
  simp [World.frozen?, h]
theorem Loc.one {x : Value} (h : Loc w b T [x]) : w.cell? ⟨b, 0, none⟩ = some x ∧ w.frozen? ⟨b, 0, none⟩ = false := ⟨h.cell 0, h.free 0⟩
theorem Loc.two {x y : Value} (h : Loc w b T [x, y]) : w.cell? ⟨b, 0, none⟩ = some x ∧ w.cell? ⟨b, 1, none⟩ = some y ∧ w.frozen? ⟨b, 0, none⟩ = false ∧ w.frozen? ⟨b, 1, none⟩ = false :=
  ⟨h.cell 0, h.cell 1, h.free 0, h.free 1⟩
end

/-- A block known whole, and its colour. -/
def LocC (w : World) (g : Nat → Nat) (q b : Nat) (T : TypeId) (cs : List Value) : Prop := Loc w b T cs ∧ g b = q

theorem LocC.frame {lo hi : Nat} {g g' : Nat → Nat} {w w' : World} {q b : Nat} {T : TypeId} {cs : List Value} (h : LocC w g q b T cs) (k : Evo lo hi g g' w w') (hc : q < lo ∨ hi ≤ q) : LocC w' g' q b T cs :=
  ⟨(k.at h.1 (by rw [h.2]; exact hc)).1, (k.at h.1 (by rw [h.2]; exact hc)).2.trans h.2⟩
theorem LocC.below {g : Nat → Nat} {w w' : World} {q b : Nat} {T : TypeId} {cs : List Value} (h : LocC w g q b T cs) (k : Below w.heap.size w w') : LocC w' g q b T cs := ⟨h.1.keep k, h.2⟩
theorem LocC.new (g : Nat → Nat) (q : Nat) (w : World) (T : TypeId) (cs : List Value) : LocC (w.alloc (.cells cs.toArray T)) (extc g w q) q w.heap.size T cs := ⟨Loc.new _ _ _, extc_new (Nat.le_refl _)⟩
theorem LocC.alloc {g : Nat → Nat} {w : World} {q b : Nat} {T : TypeId} {cs : List Value} (h : LocC w g q b T cs) (q' : Nat) (o : Obj) : LocC (w.alloc o) (extc g w q') q b T cs := ⟨h.1.alloc o, (extc_old h.1.lt).trans h.2⟩

theorem Base.below' {B : Nat} {w0 w w' : World} {g : Nat → Nat} (h : Base B w0 g w) (k : Below w.heap.size w w') : Base B w0 g w' :=
  ⟨h.below.trans (k.mono h.size), Nat.le_trans h.size k.size, h.zero⟩
theorem Base.alloc {B : Nat} {w0 w : World} {g : Nat → Nat} (h : Base B w0 g w) (q : Nat) (o : Obj) : Base B w0 (extc g w q) (w.alloc o) :=
  h.step (Evo.alloc g q w o) (by omega)
theorem Base.drew {B : Nat} {w0 w : World} {g : Nat → Nat} (h : Base B w0 g w) : Base B w0 g w.drew := h.below' (Below.refl _ _).drew

theorem below_drewN (w : World) (k : Nat) : Below w.heap.size w (w.drewN k) := ⟨rfl, rfl, rfl, Nat.le_refl _, fun _ _ => rfl⟩

#print axioms Evo.at
#print axioms Base.step
#print axioms RowC.frame
#print axioms ownsRow.sliceAt
end Go.Proofs.YtoiobhcgpajogabGreatDoor
