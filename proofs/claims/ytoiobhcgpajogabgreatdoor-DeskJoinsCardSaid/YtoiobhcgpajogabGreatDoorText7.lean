/- The walk of Meant. -/
import Derived.Test.YtoiobhcgpajogabGreatDoorText6
import Derived.Laws.IdiomStrings
namespace Go.Proofs.YtoiobhcgpajogabGreatDoor
open Go.RowKit

def hasP (t : List UInt8) (k : Nat) (c : Nat) : Prop := showByte (UInt8.ofNat c) <+: t.drop k

theorem conv_one (n : Nat) (hn : n < 256) (w : World) : (convert 36 9 (.slice (some ⟨w.heap.size, 0, none⟩) 1 1)).run Tryz.prog (w.alloc (.cells #[.int .u8 n] 5)) = .ok (.string ⟨#[UInt8.ofNat n]⟩) (w.alloc (.cells #[.int .u8 n] 5)) := by
  refine run_convert_bytes_back _ _ _ 5 ⟨w.heap.size, 0, none⟩ 1 [UInt8.ofNat n] Tryz.underlying36 Tryz.underlying5 Tryz.underlying9 ?_
  intro j hj
  obtain rfl : j = 0 := by simpa using hj
  have e : (UInt8.ofNat n).toNat = n := by simp; omega
  refine (World.cell?_alloc_new w _ _ 0).trans ?_
  simp only [List.getElem_cons_zero, e]
  rfl

theorem pre_of_take {t u : List UInt8} (k : Nat) (h : (t.drop k).take u.length = u) : u <+: t.drop k :=
  ⟨(t.drop k).drop u.length, (congrArg (· ++ (t.drop k).drop u.length) h.symm).trans (List.take_append_drop _ _)⟩

theorem take_of_pre {t u : List UInt8} (k : Nat) (h : u <+: t.drop k) : (t.drop k).take u.length = u := by
  obtain ⟨v, hv⟩ := h
  rw [← hv]
  simp

end Go.Proofs.YtoiobhcgpajogabGreatDoor
