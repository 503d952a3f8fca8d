/- A region that draws: the condition held may grow on the way; worlds and variables that ways through it share. Nothing of the program. -/
import Derived.Test.YtoiobhcgpajogadVals
import Derived.Deep.RegionHeld3
import Derived.Deep.MidRow
namespace Go.Proofs.Ytoiobhcgpajogad
open Go.RowKit

theorem wpAnyH_growAux {P : Program} {ops : Array Oper} {Q : Exit → Act → World → Prop} {md : Region.Mode} {S S' : World → Prop} (hs : ∀ w, S' w → S w) :
    ∀ (fuel : Nat) (listed : Array Bool) (a : Act) (w : World), wpAnyH P md ops Q S' fuel listed a w → wpAnyH P md ops Q S fuel listed a w
  | 0, _, _, _, h => h
  | fuel + 1, _, _, _, h => ⟨h.1, fun i hi => wpOp_mono (fun a' w' h' => ⟨hs w' h'.1, wpAnyH_growAux hs fuel _ a' w' h'.2⟩) (h.2 i hi)⟩

theorem wpAnyH_grow {P : Program} {ops : Array Oper} {Q : Exit → Act → World → Prop} {md : Region.Mode} {S S' : World → Prop} {fuel : Nat} {listed : Array Bool} {a : Act} {w : World} (hs : ∀ w, S' w → S w)
    (h : wpAnyH P md ops Q S' fuel listed a w) : wpAnyH P md ops Q S fuel listed a w := wpAnyH_growAux hs fuel listed a w h

theorem join1 {Goal : Prop} (Facts Φ : World → Prop) (h2 : (∀ w, Facts w → Φ w) → Goal) (h1 : ∀ w, Facts w → Φ w) : Goal := h2 h1
theorem join2 {α : Type} {Goal : Prop} (Facts Φ : α → World → Prop) (h2 : (∀ a w, Facts a w → Φ a w) → Goal) (h1 : ∀ a w, Facts a w → Φ a w) : Goal := h2 h1
theorem join3 {α β : Type} {Goal : Prop} (Facts Φ : α → β → World → Prop) (h2 : (∀ a c w, Facts a c w → Φ a c w) → Goal) (h1 : ∀ a c w, Facts a c w → Φ a c w) : Goal := h2 h1

theorem upd_upd {α : Type} (f : Nat → α) (k : Nat) (x y : α) : upd (upd f k x) k y = upd f k y := by
  funext j; unfold upd; split <;> rfl

end Go.Proofs.Ytoiobhcgpajogad
