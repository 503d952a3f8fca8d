/- A region that draws: the condition held may grow on the way; worlds and variables that ways through it share. Nothing of the program. -/
import Derived.Test.YtoiobhcgpajogadGreatVals
import Derived.Deep.RegionHeld3
import Derived.Deep.MidRow
namespace Go.Proofs.YtoiobhcgpajogadGreat
open Go.RowKit

theorem join2 {α : Type} {Goal : Prop} (Facts Φ : α → World → Prop) (h2 : (∀ a w, Facts a w → Φ a w) → Goal) (h1 : ∀ a w, Facts a w → Φ a w) : Goal := h2 h1
theorem join4 {α β γ : Type} {Goal : Prop} (Facts Φ : α → β → γ → World → Prop) (h2 : (∀ a b c w, Facts a b c w → Φ a b c w) → Goal) (h1 : ∀ a b c w, Facts a b c w → Φ a b c w) : Goal := h2 h1

theorem upd_upd {α : Type} (f : Nat → α) (k : Nat) (x y : α) : upd (upd f k x) k y = upd f k y := by
  funext j; unfold upd; split <;> rfl

end Go.Proofs.YtoiobhcgpajogadGreat
