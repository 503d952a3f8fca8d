/- The walk of has. -/
import Derived.Test.YtoiobhcgpajogabKit
namespace Go.Proofs.Ytoiobhcgpajogab
open Go.RowKit

theorem law_has (s : ByteArray) (w : World) : Calls Try.prog 52 #[.string s] w (AggPost ⟨true, s⟩ w) := by
  go_enter Try.func52, Try.ntmps52
  go_wp2
  exact bodyPost_ret (v := .agg #[.bool true, .string s]) (by simp [results, Try.results52, go_sem]) rfl ⟨rfl, (Below.refl _ _).alloc (Nat.le_refl _) _⟩

end Go.Proofs.Ytoiobhcgpajogab
