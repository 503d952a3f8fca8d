/- The walks of the document's own line of versions (vaultageref.Line), and of SameVersions. -/
import Derived.Test.YtoiobhcgpajogabGreatDoorChain
namespace Go.Proofs.YtoiobhcgpajogabGreatDoor
open Go.RowKit

/-- A line is a slice of versions; nobody writes its cells. -/
def LineAt (w : World) (g : Nat → Nat) (p : Nat) (v : Value) (l : List Ent) : Prop :=
  ∃ b off cap, v = .slice (some ⟨b, off, none⟩) l.length cap ∧ l.length ≤ cap ∧ (∀ j u, (encEnts l)[j]? = some u → w.cell? ⟨b, off + j, none⟩ = some u) ∧ g b = p ∧ b < w.heap.size ∧ l ≠ []

theorem LineAt.lift {w w' : World} {g g' : Nat → Nat} {p : Nat} {v : Value} {l : List Ent} (h : LineAt w g p v l) (hz : w.heap.size ≤ w'.heap.size) (hs : ∀ b, b < w.heap.size → g b = p → w'.heap[b]? = w.heap[b]? ∧ g' b = g b) : LineAt w' g' p v l := by
  obtain ⟨b, off, cap, rfl, h1, h2, h3, h4, h5⟩ := h
  have := hs b h4 h3
  exact ⟨b, off, cap, rfl, h1, fun j u hu => (World.cell?_of_block (w := w) (a := ⟨b, off + j, none⟩) this.1).trans (h2 j u hu), this.2.trans h3, by omega, h5⟩

theorem LineAt.frame {lo hi : Nat} {g g' : Nat → Nat} {w w' : World} {p : Nat} {v : Value} {l : List Ent} (h : LineAt w g p v l) (k : Evo lo hi g g' w w') (hc : p < lo ∨ hi ≤ p) : LineAt w' g' p v l :=
  h.lift k.size fun b hb hp => ⟨k.same b hb (by omega), k.col b hb⟩

theorem LineAt.below {w w' : World} {g : Nat → Nat} {p : Nat} {v : Value} {l : List Ent} (h : LineAt w g p v l) (k : Below w.heap.size w w') : LineAt w' g p v l :=
  h.lift k.size fun b hb _ => ⟨k.block b hb, rfl⟩

theorem LineAt.alloc {w : World} {g : Nat → Nat} {p : Nat} {v : Value} {l : List Ent} (h : LineAt w g p v l) (o : Obj) : LineAt (w.alloc o) g p v l := h.below ((Below.refl _ _).alloc (Nat.le_refl _) _)

theorem LineAt.facts {w : World} {g : Nat → Nat} {p : Nat} {v : Value} {l : List Ent} (h : LineAt w g p v l) :
    ∃ b off cap, v = .slice (some ⟨b, off, none⟩) l.length cap ∧ l.length ≤ cap ∧ b < w.heap.size ∧ 0 < l.length ∧
      (∀ i (hi : i < l.length), w.cell? ⟨b, off + i * 3, none⟩ = some (.int .i64 l[i].n) ∧ w.cell? ⟨b, off + i * 3 + 1, none⟩ = some (.bool l[i].v.there) ∧ w.cell? ⟨b, off + i * 3 + 2, none⟩ = some (.string l[i].v.bytes)) ∧
      (∀ j u, (encEnts l)[j]? = some u → w.cell? ⟨b, off + j, none⟩ = some u) ∧ g b = p := by
  obtain ⟨b, off, cap, rfl, h1, h2, h3, h4, h5⟩ := h
  refine ⟨b, off, cap, rfl, h1, h4, List.length_pos_iff.2 h5, fun i hi => ?_, h2, h3⟩
  have g := encEnts_get l i hi
  exact ⟨h2 _ _ g.1, h2 _ _ g.2.1, h2 _ _ g.2.2⟩

theorem isEmpty_size (s : ByteArray) : s.toList.isEmpty = decide (s.size = 0) := by
  rw [← decide_eq_emptyBytes]
  have : s = ByteArray.empty ↔ s.size = 0 := by
    constructor
    · rintro rfl; rfl
    · intro h
      cases s with | mk d =>
      have : d = #[] := Array.eq_empty_of_size_eq_zero h
      subst this; rfl
  exact decide_eq_decide.2 this

end Go.Proofs.YtoiobhcgpajogabGreatDoor
/- The walks of Put and Clear of the document's line, and of SameVersions. -/
namespace Go.Proofs.YtoiobhcgpajogabGreatDoor
open Go.RowKit

/-- Behind the call the old memory is as it was, but that at the address a there is v'. -/
structure Stored (a : Addr) (v' : Value) (w w' : World) : Prop where
  os : w'.os = w.os
  tape : w'.tape = w.tape
  output : w'.output = w.output
  size : w.heap.size ≤ w'.heap.size
  block : ∀ k, k < w.heap.size → w'.heap[k]? = (w.setCell a v').heap[k]?

theorem setCell_self {w : World} {a : Addr} {v : Value} (h : w.cell? a = some v) : ∀ k : Nat, (w.setCell a v).heap[k]? = w.heap[k]? := by
  intro k
  by_cases hk : k = a.block
  · subst hk
    unfold World.cell? at h
    split at h
    · rename_i cs e f hb
      split at h
      · cases h
      · rename_i hs
        have hs' : a.spot.isSome = false := by simpa using hs
        simp only [World.setCell, Array.getElem?_modify, if_true, hb, hs']
        simp only [Option.map_some, Bool.false_eq_true, if_false]
        congr 2
        have hlt := (Array.getElem?_eq_some_iff.1 h).1
        have hv := (Array.getElem?_eq_some_iff.1 h).2
        rw [← hv]
        apply Array.ext_getElem?
        intro i
        rw [Array.getElem?_setIfInBounds]
        split
        · rename_i e
          subst e
          exact (Array.getElem?_eq_getElem hlt).symm
        · rfl
    · cases h
  · exact Below.heap_setCell _ _ _ _ hk

end Go.Proofs.YtoiobhcgpajogabGreatDoor
/- The walks of Clear of the document's line, and of SameVersions. -/
namespace Go.Proofs.YtoiobhcgpajogabGreatDoor
open Go.RowKit

theorem Stored.refl {a : Addr} {v : Value} {w : World} (h : w.cell? a = some v) : Stored a v w w := ⟨rfl, rfl, rfl, Nat.le_refl _, fun k _ => (setCell_self h k).symm⟩

theorem Stored.there {a : Addr} {u x : Value} {w w' : World} (h : Stored a u w w') (hx : w.cell? a = some x) : w'.cell? a = some u :=
  (World.cell?_of_block (w := w.setCell a u) (h.block _ (World.block_lt_of_cell? w _ hx))).trans (World.cell?_setCell_same w a u hx)

theorem Stored.free {a : Addr} {u : Value} {w w' : World} (h : Stored a u w w') (hx : a.block < w.heap.size) (hf : w.frozen? a = false) : w'.frozen? a = false :=
  (World.frozen?_of_block (w := w.setCell a u) (h.block _ hx)).trans (by rw [World.frozen?_setCell]; exact hf)

theorem Stored.old {a : Addr} {u : Value} {w w' : World} (h : Stored a u w w') {k : Nat} (hk : k < w.heap.size) (hne : k ≠ a.block) : w'.heap[k]? = w.heap[k]? :=
  (h.block k hk).trans (Below.heap_setCell _ _ _ _ hne)

end Go.Proofs.YtoiobhcgpajogabGreatDoor
/- Small things that all walks use. -/
namespace Go.Proofs.YtoiobhcgpajogabGreatDoor
open Go.RowKit

theorem below_cell {B : Nat} {w w' : World} (h : Below B w w') {b o : Nat} (hb : b < B) : w'.cell? ⟨b, o, none⟩ = w.cell? ⟨b, o, none⟩ := h.cell (p := ⟨b, o, none⟩) hb

theorem Tryz.infoU8 : (Tryz.prog.info? 5).map (fun i => (i.zero, i.size, i.bytes)) = some (some (.int .u8 0), 1, 1) := by kernel_rfl

theorem ba_data (s : ByteArray) : (⟨s.data.toList.toArray⟩ : ByteArray) = s := by simp

theorem toList_data (s : ByteArray) : s.toList = s.data.toList := ByteArray.toList_eq s

theorem ba_eq_iff (l : List UInt8) (t : ByteArray) : (⟨l.toArray⟩ : ByteArray) = t ↔ l = t.data.toList := by
  constructor
  · rintro rfl
    rfl
  · rintro rfl
    exact ba_data t

/-- A list is built by its end. -/
theorem snoc_ind {α : Type} {P : List α → Prop} (nil : P []) (snoc : ∀ l x, P l → P (l ++ [x])) (l : List α) : P l := by
  have h : ∀ r : List α, P r.reverse := by
    intro r
    induction r with
    | nil => exact nil
    | cons x r ih => rw [List.reverse_cons]; exact snoc _ _ ih
  have := h l.reverse
  rwa [List.reverse_reverse] at this

/-- A store into a block of the colour q. -/
theorem evo_store {g : Nat → Nat} {w : World} {b i q : Nat} (v : Value) (hq : g b = q) : Evo q (q + 1) g g w (w.setCell ⟨b, i, none⟩ v) :=
  ⟨rfl, rfl, rfl, by simp, fun _ _ => rfl, fun k _ hn => Below.heap_setCell _ _ _ _ (by rintro rfl; exact hn ⟨by simp [hq], by simp [hq]⟩)⟩

theorem ownsRow.zero {w : World} {B e size : Nat} {v : Value} {n : Nat} {xs : List Value} (h : w.ownsRow B e size v n xs) : w.ownsRow 0 e size v n xs :=
  ⟨h.1, h.2.imp id fun ⟨g, cap, cur, h1, _, h2⟩ => ⟨g, cap, cur, h1, Nat.zero_le _, h2⟩⟩

theorem evo_grown {g : Nat → Nat} {p : Nat} {w w' : World} {r : Option Nat} (hg : w.grownBy w' r) (hr : ∀ k, r = some k → g k = p) : Evo p (p + 1) g (extc g w p) w w' :=
  ⟨hg.os, hg.tape, hg.output, hg.size, fun _ h => extc_old h, fun k hk hn => hg.block k hk (by rintro rfl; have := hr k rfl; exact hn ⟨by omega, by omega⟩)⟩

theorem LocC.set {w : World} {g : Nat → Nat} {q b : Nat} {T : TypeId} {cs : List Value} (h : LocC w g q b T cs) (i : Nat) (v : Value) : LocC (w.setCell ⟨b, i, none⟩ v) g q b T (cs.set i v) := ⟨h.1.set i v, h.2⟩

theorem evo_drewN {lo hi : Nat} {g g' : Nat → Nat} {w w' : World} (h : Evo lo hi g g' w w') (n : Nat) : Evo lo hi g g' w (w'.drewN n) := ⟨h.os, h.tape, h.output, h.size, h.col, h.same⟩

theorem LocC.drewN {w : World} {g : Nat → Nat} {q b : Nat} {T : TypeId} {cs : List Value} (h : LocC w g q b T cs) (n : Nat) : LocC (w.drewN n) g q b T cs := h

end Go.Proofs.YtoiobhcgpajogabGreatDoor
/- Plain laws of versions: no program. -/
namespace Go.Proofs.YtoiobhcgpajogabGreatDoor
open Go.RowKit

def Sorted (m : List Ent) : Prop := m ≠ [] ∧ m.Pairwise (fun x y => x.n < y.n) ∧ 0 ≤ firstN m

theorem Sorted.start : Sorted [⟨0, Val.zero⟩] := ⟨by simp, by simp, by simp [firstN]⟩

theorem lastN_ge {m : List Ent} (h : m.Pairwise (fun x y => x.n < y.n)) : ∀ e ∈ m, e.n ≤ lastN m := by
  induction m with
  | nil => intro e he; cases he
  | cons a l ih =>
    intro e he
    rw [List.pairwise_cons] at h
    cases l with
    | nil =>
      rw [List.mem_singleton] at he
      subst he
      simp [lastN]
    | cons b l =>
      have hl : lastN (a :: b :: l) = lastN (b :: l) := by simp [lastN, List.getLast?_cons_cons]
      rw [hl]
      rcases List.mem_cons.1 he with rfl | he
      · have h1 := h.1 b (by simp)
        have h2 := ih h.2 b (by simp)
        omega
      · exact ih h.2 e he

theorem Sorted.put {m : List Ent} (h : Sorted m) (a : Int) (v : Val) : Sorted (putC m a v).2 := by
  unfold putC
  split
  · exact h
  · split
    · exact h
    · rename_i hlt
      refine ⟨by simp, ?_, ?_⟩
      · rw [List.pairwise_append]
        refine ⟨h.2.1, by simp, fun x hx y hy => ?_⟩
        rw [List.mem_singleton] at hy
        subst hy
        have := lastN_ge h.2.1 x hx
        show x.n < a
        omega
      · have h3 := h.2.2
        have h1 := h.1
        cases m with
        | nil => exact absurd rfl h1
        | cons e l => simpa [firstN] using h3

theorem Sorted.drop {m : List Ent} (h : Sorted m) (k : Nat) (hk : k < m.length) : Sorted (m.drop k) := by
  refine ⟨by intro e; have := congrArg List.length e; simp at this; omega, h.2.1.sublist (List.drop_sublist k m), ?_⟩
  have hmem : (m.drop k).headD default ∈ m := by
    cases hd : m.drop k with
    | nil => have := congrArg List.length hd; simp at this; omega
    | cons e l => exact (List.drop_sublist k m).subset (by rw [hd]; simp)
  obtain ⟨h1, h2, h3⟩ := h
  cases m with
  | nil => exact absurd rfl h1
  | cons e l =>
    have h0 : 0 ≤ e.n := h3
    show 0 ≤ ((e :: l).drop k |>.headD default).n
    rcases List.mem_cons.1 hmem with he | he
    · rw [he]; exact h0
    · have := (List.pairwise_cons.1 h2).1 _ he
      omega

theorem clear_last {m : List Ent} (k : Nat) (hk : k < m.length) : lastN (m.drop k) = lastN m := by
  unfold lastN
  rw [List.getLastD_eq_getLast?, List.getLastD_eq_getLast?, List.getLast?_drop, if_neg (by omega)]

theorem put_read {m : List Ent} (h : m ≠ []) (a x : Int) (v : Val) (hax : x < a) : readC (putC m a v).2 x = readC m x := by
  unfold putC
  split
  · rfl
  · split
    · rfl
    · have hf : firstN (m ++ [⟨a, v⟩]) = firstN m := by
        cases m with
        | nil => exact absurd rfl h
        | cons e l => rfl
      unfold readC
      simp only [hf, lastLe_snoc]
      rw [if_neg (show ¬ a ≤ x by omega)]

theorem put_ne {m : List Ent} (h : m ≠ []) (a : Int) (v : Val) : (putC m a v).2 ≠ [] := by
  unfold putC
  split
  · exact h
  · split
    · exact h
    · simp

end Go.Proofs.YtoiobhcgpajogabGreatDoor
/- The walk of has. -/
namespace Go.Proofs.YtoiobhcgpajogabGreatDoor
open Go.RowKit
end Go.Proofs.YtoiobhcgpajogabGreatDoor
/- The walk of SameVersions, where both are the same. -/
namespace Go.Proofs.YtoiobhcgpajogabGreatDoor
open Go.RowKit
end Go.Proofs.YtoiobhcgpajogabGreatDoor
/- append of whatever slice is read, nil or not, onto a row of the call's own: as an operation of a region, and as one step of a region that draws. -/
namespace Go.Proofs.YtoiobhcgpajogabGreatDoor
open Go.RowKit

section
variable {P : Program} {ops : Array Oper} {rest : List Oper} {o : Oper} {a : Act} {w : World} {K : Act → World → Prop} {Q : Exit → Act → World → Prop}

theorem sliceAt_none {w : World} {cells : List Value} (h : SliceAt w none cells) : cells = [] := by
  rcases h with h | ⟨_, _, h, _⟩
  · exact h
  · cases h

theorem wp_app (s x : Operand) (t : TypeId) (hop : o.op = Op.call { callee := Callee.builtin Builtin.append, args := #[s, x], argTypes := #[t, t] })
    (base : Nat) (e : TypeId) (i : TypeInfo) (z : Value) (size bytes : Nat) (ht : P.underlying t = some (.slice e)) (hi : P.info? e = some i) (hz : i.zero = some z)
    (hsize : i.size = size) (hby : i.bytes = bytes) (hzs : z.cells.size = size) (hsz : 0 < size)
    (v : Value) (n : Nat) (xs : List Value) (hs : a.eval s = v) (hown : w.ownsRow base e size v n xs)
    (ad : Option Addr) (m c : Nat) (news : List Value) (hx : a.eval x = .slice ad m c) (hl : news.length = m * size) (hnews : SliceAt w ad news) (hnone : ad = none → c = 0) (h1 : ∀ u ∈ news, u.oneCell' = true)
    (h63 : n + m ≤ maxLen) (hbytes : (n + m) * bytes ≤ 140737488355328) (hbase : base ≤ w.heap.size)
    (hK : ∀ v' w', w'.ownsRow base e size v' (n + m) (xs ++ news) → w.grownBy w' v.ownBlock → K (a.put o.dst v') w') : o.wp P a w K Q := by
  cases ad with
  | none =>
    have hn := sliceAt_none hnews
    subst hn
    have hm : m = 0 := by
      rcases Nat.mul_eq_zero.1 hl.symm with h | h
      · exact h
      · omega
    have hc := hnone rfl
    subst hm
    subst hc
    have hrun := run_append_owned_none (P := P) (w := w) base t o.type e i size ht hi v n xs hown
    unfold Oper.wp execOp
    simp only [hop, resolve, invoke, builtin, Sem.run_bind, Sem.run_pure, Result.andThen_ok, List.map_toArray, List.map_cons, List.map_nil, hs, hx, hrun]
    exact hK _ _ (by simpa using hown) (World.grownBy.refl _ _)
  | some ad =>
    have hcs : ∀ j u, news[j]? = some u → w.cell? (ad.add j) = some u := by
      intro j u hu
      rcases hnews with h | ⟨b, off, h, hc⟩
      · rw [h] at hu; simp at hu
      · cases h
        have e1 : (⟨b, off, none⟩ : Addr).add j = ⟨b, off + j, none⟩ := by unfold Addr.add; split <;> simp_all
        rw [e1]
        exact hc j u hu
    obtain ⟨v', w', hr, h2, h3, -⟩ := run_append_own (P := P) w base t o.type e i z size bytes ht hi hz hsize hby hzs hsz v n xs hown ad m c news hl hcs h1 h63 hbytes hbase
    unfold Oper.wp execOp
    simp only [hop, resolve, invoke, builtin, Sem.run_bind, Sem.run_pure, Result.andThen_ok, List.map_toArray, List.map_cons, List.map_nil, hs, hx, hr]
    exact hK _ _ h2 h3

theorem wpList_app (hgd : o.guard = none) (s x : Operand) (t : TypeId) (hop : o.op = Op.call { callee := Callee.builtin Builtin.append, args := #[s, x], argTypes := #[t, t] })
    (base : Nat) (e : TypeId) (i : TypeInfo) (z : Value) (size bytes : Nat) (ht : P.underlying t = some (.slice e)) (hi : P.info? e = some i) (hz : i.zero = some z)
    (hsize : i.size = size) (hby : i.bytes = bytes) (hzs : z.cells.size = size) (hsz : 0 < size)
    (v : Value) (n : Nat) (xs : List Value) (hs : a.eval s = v) (hown : w.ownsRow base e size v n xs)
    (ad : Option Addr) (m c : Nat) (news : List Value) (hx : a.eval x = .slice ad m c) (hl : news.length = m * size) (hnews : SliceAt w ad news) (hnone : ad = none → c = 0) (h1 : ∀ u ∈ news, u.oneCell' = true)
    (h63 : n + m ≤ maxLen) (hbytes : (n + m) * bytes ≤ 140737488355328) (hbase : base ≤ w.heap.size)
    (hK : ∀ v' w', w'.ownsRow base e size v' (n + m) (xs ++ news) → w.grownBy w' v.ownBlock → wpList P ops Q rest (a.put o.dst v') w') : wpList P ops Q (o :: rest) a w :=
  wpList_plain hgd fun _ hK' => wp_app s x t hop base e i z size bytes ht hi hz hsize hby hzs hsz v n xs hs hown ad m c news hx hl hnews hnone h1 h63 hbytes hbase fun v' w' h2 h3 => hK' _ _ (hK v' w' h2 h3)

end

theorem SliceAt.take {w : World} {a : Option Addr} {cells : List Value} (h : SliceAt w a cells) (j : Nat) : SliceAt w a (cells.take j) := by
  rcases h with h | ⟨b, off, e, h⟩
  · subst h; exact .inl (by simp)
  · refine .inr ⟨b, off, e, fun k u hu => ?_⟩
    rw [List.getElem?_take] at hu
    split at hu
    · exact h _ _ hu
    · cases hu

end Go.Proofs.YtoiobhcgpajogabGreatDoor
