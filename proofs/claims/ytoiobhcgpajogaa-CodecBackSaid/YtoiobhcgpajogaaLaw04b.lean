/- The walk of CodecDoes. -/
import Derived.Test.YtoiobhcgpajogaaLaw04a
import Derived.Test.YtoiobhcgpajogaaCodec11
namespace Go.Proofs.Ytoiobhcgpajogaa
open Go.RowKit

theorem decL_few8 (b : List UInt8) : (decL b).1.length ≤ 8 := by
  obtain ⟨⟨l, n, c⟩, h⟩ : ∃ x, decL b = x := ⟨_, rfl⟩
  rw [h]
  show l.length ≤ 8
  by_cases hc : c = 0
  · subst hc
    exact (ok_of (decL_inv h).1).2.1
  · have := (decL_bad h hc).1
    simp [this]

theorem true_ret {w w' : World} (h : Below w.heap.size w w') : TruePost w (.returned (.bool true)) w' := ⟨rfl, h⟩

set_option maxHeartbeats 2000000 in
set_option maxRecDepth 100000 in
theorem walk_CodecDoes (a : Option Addr) (cap : Nat) (l : List Ent) (a2 : Option Addr) (cap2 : Nat) (b : List UInt8) (w : World) (hl : l.length ≤ 9223372036854775807) (hA : PairsAt w a l) (hl2 : b.length ≤ 9223372036854775807) (hB : BytesIn w a2 cap2 b ∧ (a2 = none → cap2 = 0)) :
    Calls Try.prog 9 #[.slice a l.length cap, .slice a2 b.length cap2] w (TruePost w) := by
  have HA := hid hA
  have HB := hid hB.1
  clear hA hB
  go_enter Try.func9, Try.ntmps9
  go_wp2_with fail
  (with_reducible refine (law_codecBegun w).mono ?_)
  rintro e w1 ⟨rfl, hb⟩
  have B1 := hid hb
  clear hb
  go_wp2_with fail
  (with_reducible refine (law_greatPairs a cap l w1 hl (HA.out.below B1.out).sl).mono ?_)
  rintro e w2 ⟨rfl, hb⟩
  have B2 := hid (B1.out.trans (hb.mono B1.out.size))
  clear hb
  cases hg : greatP l with
  | true =>
    clear hg
    go_wp2
    go_ret
    exact true_ret B2.out
  | false =>
    obtain ⟨hl50, hsz⟩ := greatP_false hg
    have HSZ := hid (fun (x : Ent) (hx : x ∈ l) => (show x.v.bytes.size ≤ maxLen by have := hsz x hx; unfold maxLen; omega))
    have h6 : l.length ≤ 1000000 := by omega
    clear hg hsz
    by_cases h5 : (5000 : Int) < (b.length : Int)
    · go_wp2
      go_ret
      exact true_ret B2.out
    · have h56 : b.length ≤ 1000000 := by omega
      have h5' : (b.length : Int) ≤ 5000 := by omega
      have HE := hid (codec_Encode a cap l w2 h6 HSZ.out (HA.out.below B2.out).sl)
      go_wp2_with fail
      (with_reducible refine HE.out.mono ?_)
      rintro e w3 ⟨v, n, rfl, hown, hb⟩
      have B3 := hid (B2.out.trans (hb.mono B2.out.size))
      have HO := hid hown
      clear hb hown HE
      have HF := hid (ref_PairsFault a cap l w3 h6 HSZ.out (HA.out.below B3.out).sl)
      go_wp2_with fail
      (with_reducible refine HF.out.mono ?_)
      rintro e w4 ⟨rfl, hb⟩
      have HO4 := hid (ownsRow.lift HO.out (fun r hr => hb.block r (HO.out.lt r hr).2))
      have B4 := hid (B3.out.trans (hb.mono B3.out.size))
      clear hb HF HO
      by_cases hc : ckPs (-1) l = 0
      · rw [if_pos hc] at HO4
        rw [hc]
        have HBO := hid (ref_BytesOf a cap l w4 hc (HA.out.below B4.out).sl)
        have HC := hid hc
        clear hc
        go_wp2_with fail
        (with_reducible refine HBO.out.mono ?_)
        rintro e w5 ⟨v5, n5, rfl, hown5, hb⟩
        have HO5 := hid (ownsRow.lift HO4.out (fun r hr => hb.block r (HO4.out.lt r hr).2))
        have B5 := hid (B4.out.trans (hb.mono B4.out.size))
        have kc5 := conv_row w5 _ _ _ _ hown5
        clear hb hown5 HBO HO4
        have HD := hid (codec_Decode a2 cap2 b w5 h56 (HB.out.below B5.out))
        go_wp2_with fail
        (with_reducible refine HD.out.mono ?_)
        rintro e w6 ⟨a6, c6, rfl, hs6, hb⟩
        have HO6 := hid (ownsRow.lift HO5.out (fun r hr => hb.block r (HO5.out.lt r hr).2))
        have B6 := hid (B5.out.trans (hb.mono B5.out.size))
        have HS6 := hid hs6
        clear hb hs6 HD HO5 kc5
        have HD := hid (ref_PairsOf a2 cap2 b w6 h56 (HB.out.below B6.out))
        have h8 := decL_few8 b
        generalize decL b = x at *
        obtain ⟨x, xn, xc⟩ := x
        have h8 : x.length ≤ 1000000 := Nat.le_trans h8 (by decide)
        go_wp2_with fail
        (with_reducible refine HD.out.mono ?_)
        rintro e w7 ⟨a7, c7, rfl, hs7, hb⟩
        have HO7 := hid (ownsRow.lift HO6.out (fun r hr => hb.block r (HO6.out.lt r hr).2))
        have B7 := hid (B6.out.trans (hb.mono B6.out.size))
        have HSP := hid (ref_SamePairs a6 a7 c6 c7 x x w7 h8 h8 (sliceAt_below HS6.out hb) hs7)
        clear hb hs7 HD HO6 HS6
        have kc7 := conv_row w7 _ _ _ _ HO7.out
        go_wp2_with fail
        (with_reducible refine HSP.out.mono ?_)
        rintro e w8 ⟨bb, rfl, hbb, hb⟩
        obtain rfl : bb = true := hbb.2 rfl
        have B8 := hid (B7.out.trans (hb.mono B7.out.size))
        clear hb hbb
        go_wp2
        go_ret
        exact true_ret B8.out
      · rw [if_neg hc] at HO4
        have hc0 : (ckPs (-1) l == 0) = false := by simpa using hc
        clear hc
        generalize ckPs (-1) l = code at *
        have HD := hid (codec_Decode a2 cap2 b w4 h56 (HB.out.below B4.out))
        go_wp2_with fail
        (with_reducible refine HD.out.mono ?_)
        rintro e w6 ⟨a6, c6, rfl, hs6, hb⟩
        have HO6 := hid (ownsRow.lift HO4.out (fun r hr => hb.block r (HO4.out.lt r hr).2))
        have B6 := hid (B4.out.trans (hb.mono B4.out.size))
        have HS6 := hid hs6
        clear hb hs6 HD HO4
        have HD := hid (ref_PairsOf a2 cap2 b w6 h56 (HB.out.below B6.out))
        have h8 := decL_few8 b
        generalize decL b = x at *
        obtain ⟨x, xn, xc⟩ := x
        have h8 : x.length ≤ 1000000 := Nat.le_trans h8 (by decide)
        go_wp2_with fail
        (with_reducible refine HD.out.mono ?_)
        rintro e w7 ⟨a7, c7, rfl, hs7, hb⟩
        have HO7 := hid (ownsRow.lift HO6.out (fun r hr => hb.block r (HO6.out.lt r hr).2))
        have B7 := hid (B6.out.trans (hb.mono B6.out.size))
        have HSP := hid (ref_SamePairs a6 a7 c6 c7 x x w7 h8 h8 (sliceAt_below HS6.out hb) hs7)
        clear hb hs7 HD HO6 HS6
        have kc7 := conv_row w7 _ _ _ _ HO7.out
        go_wp2_with fail
        (with_reducible refine HSP.out.mono ?_)
        rintro e w8 ⟨bb, rfl, hbb, hb⟩
        obtain rfl : bb = true := hbb.2 rfl
        have B8 := hid (B7.out.trans (hb.mono B7.out.size))
        clear hb hbb
        go_wp2
        go_ret
        exact true_ret B8.out

end Go.Proofs.Ytoiobhcgpajogaa
