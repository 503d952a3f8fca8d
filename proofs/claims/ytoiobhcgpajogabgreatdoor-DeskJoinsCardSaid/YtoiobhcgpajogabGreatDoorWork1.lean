/- The document's deed (Work), in plain words and in memory. -/
import Derived.Test.YtoiobhcgpajogabGreatDoorDeed3
import Derived.Test.YtoiobhcgpajogabGreatDoorTab6
namespace Go.Proofs.YtoiobhcgpajogabGreatDoor
open Go.RowKit

def lastW (l : List Ent) (k : Int) : Option Val := l.foldl (fun o x => if x.n = k then some x.v else o) none

theorem lastW_snoc (l : List Ent) (x : Ent) (k : Int) : lastW (l ++ [x]) k = if x.n = k then some x.v else lastW l k := by simp [lastW]

theorem lastW_take (l : List Ent) (k : Int) (i : Nat) (h : i < l.length) : lastW (l.take (i + 1)) k = if l[i].n = k then some l[i].v else lastW (l.take i) k := by
  rw [List.take_succ_eq_append_getElem h, lastW_snoc]

structure Wk where
  mode : Int
  beg : Int
  reads : List Nat
  wrote : List Ent

/-- The deed that it tells of. -/
def absW (W : Wk) : Ded := ⟨W.mode, W.beg, fun (k : Nat) => W.reads.any (fun (x : Nat) => (x : Int) == (k : Int)), fun (k : Nat) => lastW W.wrote k⟩

theorem absW_read (W : Wk) (k : Nat) : absW ⟨W.mode, W.beg, W.reads ++ [k], W.wrote⟩ = ⟨W.mode, W.beg, upd (absW W).read k true, (absW W).wrote⟩ := by
  unfold absW
  congr 1
  funext j
  unfold upd
  by_cases e : j = k
  · subst e; simp
  · rw [if_neg e, List.any_append]
    have : ([k].any fun (x : Nat) => (x : Int) == (j : Int)) = false := by simp; omega
    rw [this, Bool.or_false]

theorem absW_wrote (W : Wk) (k : Nat) (v : Val) : absW ⟨W.mode, W.beg, W.reads, W.wrote ++ [⟨k, v⟩]⟩ = ⟨W.mode, W.beg, (absW W).read, upd (absW W).wrote k (some v)⟩ := by
  unfold absW
  congr 1
  funext j
  simp only [lastW_snoc, upd]
  by_cases e : j = k
  · subst e; simp
  · rw [if_neg e, if_neg (by omega)]

theorem absW_new (mode beg : Int) : absW ⟨mode, beg, [], []⟩ = Ded.new mode beg := rfl

theorem RowC.below {w w' : World} {g : Nat → Nat} {q e size : Nat} {v : Value} {n : Nat} {cells : List Value} (h : RowC w g q e size v n cells) (k : Below w.heap.size w w') : RowC w' g q e size v n cells :=
  ⟨ownsRow.lift h.1 (fun r hr => k.block r (h.1.lt r hr).2), h.2⟩

/-- A row of a colour that grew. -/
theorem RowC.grown {w w' : World} {g : Nat → Nat} {q e size : Nat} {v v' : Value} {n n' : Nat} {cells cells' : List Value} (h : RowC w g q e size v n cells)
    (ho : w'.ownsRow 0 e size v' n' cells') (hg : w.grownBy w' v.ownBlock) (hf : v'.ownBlock = v.ownBlock ∨ ∀ k, v'.ownBlock = some k → w.heap.size ≤ k) :
    RowC w' (extc g w q) q e size v' n' cells' ∧ Evo q (q + 1) g (extc g w q) w w' := by
  refine ⟨⟨ho, fun r hr => ?_⟩, evo_grown hg h.2⟩
  rcases hf with hf | hf
  · have hr' : v.ownBlock = some r := hf ▸ hr
    rw [extc_old (h.1.lt r hr').2]
    exact h.2 r hr'
  · exact extc_new (hf r hr)

theorem RowC.store {w : World} {g : Nat → Nat} {q e size : Nat} {v : Value} {n : Nat} {cells : List Value} (h : RowC w g q e size v n cells) {b i : Nat} (hb : g b ≠ q) (u : Value) : RowC (w.setCell ⟨b, i, none⟩ u) g q e size v n cells := by
  refine ⟨ownsRow_setCell_other h.1 (a := ⟨b, i, none⟩) (by intro e; exact hb (h.2 b (by simpa using e))) u, h.2⟩

end Go.Proofs.YtoiobhcgpajogabGreatDoor

/- The walks of the document's deed: last, Get, Put. -/
namespace Go.Proofs.YtoiobhcgpajogabGreatDoor
open Go.RowKit

def LastPost (o : Option Val) (w : World) (e : Ending) (w' : World) : Prop :=
  e = .returned (.tuple #[.agg #[.bool (o.getD Val.zero).there, .string (o.getD Val.zero).bytes], .bool o.isSome]) ∧ Below w.heap.size w w'

end Go.Proofs.YtoiobhcgpajogabGreatDoor

/- The walks of the document's deed: Writes, May. -/
namespace Go.Proofs.YtoiobhcgpajogabGreatDoor
open Go.RowKit
theorem clash_at {D : Ded} {T : Tab} {k : Nat} {v : Val} (hk : k < 8) (h : D.wrote k = some v) (hs : D.beg < lastN (T.l k)) : clashD D T = true := by
  unfold clashD
  rw [List.any_eq_true]
  refine ⟨⟨k, v⟩, mem_writesTo.2 ⟨k, hk, rfl, h⟩, ?_⟩
  simp only [decide_eq_true_eq]
  unfold sinceT; rw [if_neg (by omega)]; exact hs

theorem clash_none {D : Ded} {T : Tab} (h : ∀ (k : Nat) v, k < 8 → D.wrote k = some v → lastN (T.l k) ≤ D.beg) : clashD D T = false := by
  rw [Bool.eq_false_iff]
  intro hc
  unfold clashD at hc
  rw [List.any_eq_true] at hc
  obtain ⟨x, hx, hd⟩ := hc
  obtain ⟨k, hk, h1, h2⟩ := mem_writesTo.1 hx
  have := h k x.v hk h2
  rw [h1] at hd
  simp only [decide_eq_true_eq] at hd
  unfold sinceT at hd
  rw [if_neg (by omega), Int.toNat_natCast] at hd
  omega

theorem stale_at {D : Ded} {T : Tab} {k : Nat} (hk : k < 8) (h : D.read k = true) (hs : D.beg < lastN (T.l k)) : staleD D T = true := by
  unfold staleD
  rw [List.any_eq_true]
  refine ⟨k, mem_readsTo.2 ⟨hk, h⟩, ?_⟩
  simp only [decide_eq_true_eq]
  unfold sinceT; rw [if_neg (by omega)]; exact hs

theorem stale_none {D : Ded} {T : Tab} (h : ∀ (k : Nat), k < 8 → D.read k = true → lastN (T.l k) ≤ D.beg) : staleD D T = false := by
  rw [Bool.eq_false_iff]
  intro hc
  unfold staleD at hc
  rw [List.any_eq_true] at hc
  obtain ⟨k, hx, hd⟩ := hc
  obtain ⟨hk, h1⟩ := mem_readsTo.1 hx
  have := h k hk h1
  simp only [decide_eq_true_eq] at hd
  unfold sinceT at hd
  rw [if_neg (by omega), Int.toNat_natCast] at hd
  omega

theorem below_dN {B : Nat} {w w' : World} (h : Below B w w') (n : Nat) : Below B w (w'.drewN n) := ⟨h.os, h.tape, h.output, h.size, h.block⟩

end Go.Proofs.YtoiobhcgpajogabGreatDoor
