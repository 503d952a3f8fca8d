/- The house of a vault's law: step. -/
import Derived.Test.YtoiobhcgpajogacHouse7
import Derived.Test.YtoiobhcgpajogacHouse8
import Derived.Test.YtoiobhcgpajogacHouse9
import Derived.Test.YtoiobhcgpajogacHouse10
namespace Go.Proofs.Ytoiobhcgpajogac
open Go.RowKit

theorem house_step (g : Nat → Nat) (p h N : Nat) (V : Vt) (y : Vst) (w : World) (hp : 1 ≤ p) (hN : N + 8 < 1000000) (hy : y.v.bytes.size ≤ maxLen) (hH : HouseAt w g p h N V) :
    Calls Try.prog 43 #[.pointer (some ⟨h, 0, none⟩), .agg #[.int .i64 y.op, .int .i64 y.k, .int .i64 y.mode, .int .i64 y.at_, .int .i64 y.key, .int .i64 y.keep, .bool y.v.there, .string y.v.bytes]] w (StepPost g p h N V w) := by
  by_cases h0 : y.op = 0
  · exact house_begin g p h N V y w hp hN hy hH h0
  by_cases h1 : y.op = 1
  · exact house_get g p h N V y w hp hN hy hH h1
  by_cases h2 : y.op = 2
  · exact house_put g p h N V y w hp hN hy hH h2
  by_cases h3 : y.op = 3
  · exact house_commit g p h N V y w hp hN hy hH h3
  by_cases h4 : y.op = 4
  · exact house_tear g p h N V y w hp hN hy hH h4
  by_cases h5 : y.op = 5
  · exact house_crash g p h N V y w hp hN hy hH h5
  by_cases h6 : y.op = 6
  · exact house_clear g p h N V y w hp hN hy hH h6
  exact house_else g p h N V y w hp hN hy hH ⟨h0, h1, h2, h3, h4, h5, h6⟩

end Go.Proofs.Ytoiobhcgpajogac
