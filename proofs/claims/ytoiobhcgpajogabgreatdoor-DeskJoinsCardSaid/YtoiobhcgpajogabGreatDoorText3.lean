/- The walks of the document's Shown and ValueText. -/
import Derived.Test.YtoiobhcgpajogabGreatDoorText2
namespace Go.Proofs.YtoiobhcgpajogabGreatDoor
open Go.RowKit

theorem ext_one (s : ByteArray) (k : Nat) (h : k < s.size) : s.extract k (k + 1) = ⟨#[s[k]]⟩ := by
  apply Go.WideShapes.bytes_inj
  have h' : k < s.data.toList.length := by simpa using h
  simp only [ByteArray.data_extract, Array.toList_extract, List.extract_eq_take_drop]
  rw [List.drop_eq_getElem_cons h']
  simp
  rfl

theorem hex_ext (n : Nat) (h : n < 16) : (⟨#[48, 49, 50, 51, 52, 53, 54, 55, 56, 57, 97, 98, 99, 100, 101, 102]⟩ : ByteArray).extract n (n + 1) = ⟨#[hexD n]⟩ := by
  rw [ext_one _ n (show n < ByteArray.size ⟨#[48, 49, 50, 51, 52, 53, 54, 55, 56, 57, 97, 98, 99, 100, 101, 102]⟩ from h), hex_get n h]

end Go.Proofs.YtoiobhcgpajogabGreatDoor
