/- The walk of SerialSure. -/
import Derived.Test.YtoiobhcgpajogadGreatSer4
import Derived.Test.YtoiobhcgpajogadGreatHall6
namespace Go.Proofs.YtoiobhcgpajogadGreat
open Go.RowKit

theorem Tryz.infoRDone : (Tryz.prog.info? 39).map (fun i => (i.zero, i.size, i.bytes)) = some (some (.agg #[.int .i64 0, .int .i64 0, .int .i64 0, .slice none 0 0]), 4, 48) := by kernel_rfl

/-- What is told to the document: the deeds, with acts of its own. -/
structure LstR (w wr : World) (H : Nat) (g : Nat → Nat) (v : Value) (U : List Dnx) : Prop where
  evo : Evo 1 H (fun _ => 0) g w wr
  row : RowC wr g 1 39 4 v U.length (encDones U)
  acts : ∀ j (hj : j < U.length), FixC wr g (5 + j) U[j].ad (encActs U[j].acts)

theorem LstR.quiet {w wr wr' : World} {H : Nat} {g g' : Nat → Nat} {v : Value} {U : List Dnx} (h : LstR w wr H g v U) (e : Evo 0 0 g g' wr wr') : LstR w wr' H g' v U :=
  ⟨h.evo.trans (e.none (Nat.le_refl _)), h.row.frame e (by omega), fun j hj => (h.acts j hj).frame e (by omega)⟩

theorem LstR.snoc {w w8 w9 : World} {H : Nat} {g8 g9 : Nat → Nat} {v : Value} {U : List Dnx} {Y : Dnx} {a9 : Option Addr} {c9 : Nat} (h : LstR w w8 H g8 v U) (hH : 5 + U.length ≤ H) (hX : FixC w8 g8 (5 + U.length) Y.ad (encActs Y.acts))
    (hR : RowC w9 g9 1 39 4 (.slice a9 (U.length + 1) c9) (U.length + 1) (encDones U ++ encDnx Y)) (hE : Evo 1 (1 + 1) g8 g9 w8 w9) : LstR w w9 H g9 (.slice a9 (U ++ [Y]).length c9) (U ++ [Y]) := by
  refine ⟨h.evo.trans (hE.wide (Nat.le_refl _) (by omega)), ?_, fun j hj => ?_⟩
  · rw [encDones_append, List.length_append]
    simpa [encDones] using hR
  · by_cases hj2 : j < U.length
    · rw [List.getElem_append_left hj2]
      exact (h.acts j hj2).frame hE (by omega)
    · have hje : j = U.length := by simp at hj; omega
      subst hje
      rw [List.getElem_append_right (Nat.le_refl _)]
      simp only [Nat.sub_self, List.getElem_singleton]
      exact hX.frame hE (by omega)

end Go.Proofs.YtoiobhcgpajogadGreat
