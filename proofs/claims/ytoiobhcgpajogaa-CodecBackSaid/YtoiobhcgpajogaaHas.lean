/- The walk of has. -/
import Derived.Test.YtoiobhcgpajogaaKit
namespace Go.Proofs.Ytoiobhcgpajogaa
open Go.RowKit

theorem law_has (s : ByteArray) (w : World) : Calls Try.prog 38 #[.string s] w (AggPost ⟨true, s⟩ w) := by
  go_enter Try.func38, Try.ntmps38
  go_wp2
  exact bodyPost_ret (v := .agg #[.bool true, .string s]) (by simp [results, Try.results38, go_sem]) rfl ⟨rfl, (Below.refl _ _).alloc (Nat.le_refl _) _⟩

end Go.Proofs.Ytoiobhcgpajogaa
