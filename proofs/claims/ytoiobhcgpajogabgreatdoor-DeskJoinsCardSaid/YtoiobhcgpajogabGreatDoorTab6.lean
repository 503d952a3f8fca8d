/- The walks of the document's sheet that only read: Read, Since, First, List. -/
import Derived.Test.YtoiobhcgpajogabGreatDoorTab1
import Derived.Test.YtoiobhcgpajogabGreatDoorKit
namespace Go.Proofs.YtoiobhcgpajogabGreatDoor
open Go.RowKit
end Go.Proofs.YtoiobhcgpajogabGreatDoor
/- The walks of the document's sheet that make or turn it: NewSheet, Write, Clear. -/
namespace Go.Proofs.YtoiobhcgpajogabGreatDoor
open Go.RowKit

theorem Stored.evoq {a : Addr} {u : Value} {g g' : Nat → Nat} {p : Nat} {w w' : World} (h : Stored a u w w') (ha : g a.block = p) (hc : ∀ b, b < w.heap.size → g' b = g b) (hi : Nat) (hp : p < hi) : Evo p hi g g' w w' :=
  ⟨h.os, h.tape, h.output, h.size, hc, fun k hk hn => h.old hk (by rintro rfl; exact hn ⟨by omega, by omega⟩)⟩

theorem map8_set (v : Nat → Value) (x y : Value) (n : Nat) (hn : n < 8) : ((List.range 8).map v ++ [x]).set n y = (List.range 8).map (upd v n y) ++ [x] := by
  rw [List.set_append_left _ _ (by simp; omega)]
  congr 1
  apply List.ext_getElem?
  intro i
  rw [List.getElem?_set]
  by_cases hi : i < 8
  · by_cases e : n = i
    · subst e
      simp [hi, upd]
    · rw [if_neg e]
      simp [hi, upd_other _ _ (Ne.symm e)]
  · have h8 : (List.range 8).length ≤ i := by simp; omega
    rw [List.getElem?_map, List.getElem?_map, List.getElem?_eq_none h8]
    split
    · rw [if_neg (by simp; omega)]; rfl
    · rfl

end Go.Proofs.YtoiobhcgpajogabGreatDoor
/- The walk of NewSheet. -/
namespace Go.Proofs.YtoiobhcgpajogabGreatDoor
open Go.RowKit

def zeroC (z : Value) (v : Nat → Value) (n : Nat) : Nat → Value := fun k => if k < n then v k else z

theorem zeroC_set (z y : Value) (v : Nat → Value) (n : Nat) : upd (zeroC z v n) n y = zeroC z (upd v n y) (n + 1) := by
  funext k
  unfold zeroC upd
  by_cases e : k = n
  · subst e; simp
  · by_cases h : k < n
    · simp [e, h, show k < n + 1 by omega]
    · simp [e, h, show ¬ k < n + 1 by omega]

theorem zeroC_all (z : Value) (v : Nat → Value) (x : Value) : (List.range 8).map (zeroC z v 8) ++ [x] = (List.range 8).map v ++ [x] := rfl

end Go.Proofs.YtoiobhcgpajogabGreatDoor
