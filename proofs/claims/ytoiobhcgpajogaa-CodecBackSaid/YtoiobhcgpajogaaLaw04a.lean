/- The walk of codecBegun. -/
import Derived.Test.YtoiobhcgpajogaaHas
import Derived.Test.YtoiobhcgpajogaaApp
import Derived.Test.YtoiobhcgpajogaaCodec10
namespace Go.Proofs.Ytoiobhcgpajogaa
open Go.RowKit

def cbL : List Ent := [⟨1, ⟨true, ⟨#[120]⟩⟩⟩, ⟨3, Val.zero⟩]
theorem cbL_ok : ckPs (-1) cbL = 0 := by
  have h1 : ckV ⟨true, ⟨#[120]⟩⟩ = 0 := ckV_there (by decide)
  have h2 : ckV Val.zero = 0 := ckV_none rfl
  simp [cbL, ckPs, h1, h2]
theorem cbL_enc : encL cbL = [7, 2, 1, 1, 120, 3, 255] := by decide

theorem decL_nil : decL [] = ([], 0, 6) := rfl

set_option maxHeartbeats 1000000 in
set_option maxRecDepth 100000 in
theorem law_codecBegun (w : World) : Calls Try.prog 39 #[] w (TruePost w) := by
  obtain ⟨i0, hi, hz0, hz1, hz2⟩ := info_parts Try.infoU8
  go_enter Try.func39, Try.ntmps39
  go_wp2_with fail
  (with_reducible refine (law_has _ _).mono ?_)
  rintro e w1 ⟨rfl, hb⟩
  have HB1 := hid hb
  clear hb
  go_wp2_with fail
  have HE := hid (codec_Encode (some ⟨w1.heap.size, 0, none⟩) 2 cbL (w1.alloc (.cells (encEnts cbL).toArray 70)) (by decide) (by intro x hx; simp [cbL] at hx; rcases hx with rfl | rfl <;> decide) (.inr ⟨_, 0, rfl, fun j u hu => by rw [Nat.zero_add, World.cell?_alloc_new]; simpa using hu⟩))
  refine HE.out.mono ?_
  rintro e w2 ⟨v, n, rfl, hown, hb⟩
  rw [cbL_ok, if_pos rfl, cbL_enc] at hown
  have HB2 := hid ((HB1.out.alloc HB1.out.size _).trans (hb.mono (by have := HB1.out.size; simp; omega)))
  obtain ⟨a, cap, rfl, hx, hnone, -⟩ := BytesIn.of_row hown
  have HX := hid hx
  have HN := hid hnone
  have hn : n = 7 := by have := hown.1; simpa [Lib.byteCells] using this.symm
  subst hn
  clear hb hown hx hnone
  rw [cbL_ok]
  go_wp2_with (refine wpList_app rfl (.const (.slice none 0 0)) (.tmp 18) 56 rfl w2.heap.size 5 i0 (.int .u8 0) 1 1 Try.underlying56 hi hz0 hz1 hz2 rfl (by decide) (.slice none 0 0) 0 [] rfl (World.ownsRow_nil _ _ _ _) a 7 cap (Lib.byteCells [7, 2, 1, 1, 120, 3, 255]) rfl rfl HX.out.2 HN.out (oneCell_bytes _) (by decide) (by decide) (Nat.le_refl _) ?_)
  intro v3 w3 ho3 hg3
  have HB3 := hid ((Below.refl w2.heap.size w2).grown hg3 (Nat.le_refl _) (by intro j hj; cases hj))
  have HO3 := hid ho3
  clear ho3 hg3
  go_wp2_with (refine wpList_app rfl (.tmp 19) (.tmp 20) 56 rfl w2.heap.size 5 i0 (.int .u8 0) 1 1 Try.underlying56 hi hz0 hz1 hz2 rfl (by decide) v3 7 (Lib.byteCells [7, 2, 1, 1, 120, 3, 255]) rfl (HO3.out.alloc _) (some ⟨w3.heap.size, 0, none⟩) 1 1 [.int .u8 9] rfl rfl (.inr ⟨_, 0, rfl, fun j u hu => by rw [Nat.zero_add, World.cell?_alloc_new]; simpa using hu⟩) (fun h => by cases h) (by intro u hu; simp at hu; subst hu; rfl) (by decide) (by decide) ?c5 ?_)
  case c5 => have := HB3.out.size; simp; omega
  intro v4 w4 ho4 hg4
  have HB4 := hid ((HB3.out.alloc HB3.out.size (.cells #[.int .u8 9] 5)).grown hg4 (by have := HB3.out.size; simp; omega) (fun j hj => (HO3.out.lt j hj).1))
  have ho5 : w4.ownsRow w2.heap.size 5 1 v4 8 (Lib.byteCells (encL cbL ++ [9])) := by rw [cbL_enc]; exact ho4
  obtain ⟨a5, cap5, rfl, hx5, -, -⟩ := BytesIn.of_row ho5
  have HD := hid (codec_Decode a5 cap5 (encL cbL ++ [9]) w4 (by rw [cbL_enc]; decide) hx5)
  rw [decL_encL cbL [9] cbL_ok] at HD
  clear ho4 hg4 ho5 hx5
  go_wp2_with fail
  refine HD.out.mono ?_
  rintro e w5 ⟨a6, cap6, rfl, hs6, hb6⟩
  have HB5 := hid (HB4.out.trans (hb6.mono HB4.out.size))
  clear hb6 hs6 HD
  have HD2 := hid (codec_Decode none 0 [] w5 (by decide) ⟨Nat.le_refl _, .inl rfl⟩)
  rw [decL_nil] at HD2
  go_wp2_with fail
  refine HD2.out.mono ?_
  rintro e w6 ⟨a7, cap7, rfl, -, hb7⟩
  have HB6 := hid (HB5.out.trans (hb7.mono HB5.out.size))
  clear HD2
  have e7 : ((encL cbL).length : Int) = 7 := by rw [cbL_enc]; rfl
  have e8 : cbL.length = 2 := rfl
  rw [e7, e8]
  have kc : (convert 56 9 (.slice a 7 cap)).run Try.prog w6 = .ok (.string ⟨#[7, 2, 1, 1, 120, 3, 255]⟩) w6 := conv_sliceAt w6 a cap [7, 2, 1, 1, 120, 3, 255] (HX.out.below HB6.out).2
  clear e7 e8 hb7
  go_wp2
  go_ret
  exact ⟨rfl, HB2.out.trans (HB6.out.mono HB2.out.size)⟩

end Go.Proofs.Ytoiobhcgpajogaa
