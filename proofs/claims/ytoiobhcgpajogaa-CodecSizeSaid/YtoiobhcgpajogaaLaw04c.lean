/- The walk of CodecSize. -/
import Derived.Test.YtoiobhcgpajogaaLaw04a
namespace Go.Proofs.Ytoiobhcgpajogaa
open Go.RowKit

set_option maxHeartbeats 2000000 in
set_option maxRecDepth 100000 in
theorem walk_CodecSize (a : Option Addr) (cap : Nat) (l : List Ent) (w : World) (hl : l.length ≤ 9223372036854775807) (hA : PairsAt w a l) :
    Calls Try.prog 12 #[.slice a l.length cap] w (TruePost w) := by
  have HA := hid hA
  clear hA
  go_enter Try.func12, Try.ntmps12
  go_wp2_with fail
  (with_reducible refine (law_codecBegun w).mono ?_)
  rintro e w1 ⟨rfl, hb⟩
  have B1 := hid hb
  clear hb
  go_wp2_with fail
  (with_reducible refine (law_greatPairs a cap l w1 hl (HA.out.below B1.out).sl).mono ?_)
  rintro e w2 ⟨rfl, hb⟩
  have B2 := hid (B1.out.trans (hb.mono B1.out.size))
  clear hb
  cases hg : greatP l with
  | true =>
    clear hg
    go_wp2
    go_ret
    exact ⟨rfl, B2.out⟩
  | false =>
    obtain ⟨hl50, hsz⟩ := greatP_false hg
    have HSZ := hid (fun (x : Ent) (hx : x ∈ l) => (show x.v.bytes.size ≤ maxLen by have := hsz x hx; unfold maxLen; omega))
    have h6 : l.length ≤ 1000000 := by omega
    clear hg hsz
    have HE := hid (codec_Encode a cap l w2 h6 HSZ.out (HA.out.below B2.out).sl)
    go_wp2_with fail
    (with_reducible refine HE.out.mono ?_)
    rintro e w3 ⟨v, n, rfl, hown, hb⟩
    have B3 := hid (B2.out.trans (hb.mono B2.out.size))
    clear hb HE
    by_cases hc : ckPs (-1) l = 0
    · rw [if_pos hc] at hown
      rw [hc]
      obtain ⟨hok, hl8, hbl⟩ := ok_of hc
      have hsl := sizeL_body hok
      have hel := encL_length l
      have hn : n = (encL l).length := by have := hown.1; simp [Lib.byteCells] at this; omega
      obtain ⟨g, bcap, rfl, hbc, hgl⟩ := ownsRow.some hown (by omega)
      have e0 : (Lib.byteCells (encL l))[0]? = some (.int .u8 ((encL l).length : Int)) := by
        have : (UInt8.ofNat (2 + (bodyL l).length)).toNat = (encL l).length := by rw [hel]; simp; omega
        simp only [← this]
        rfl
      have e1 : (Lib.byteCells (encL l))[1]? = some (.int .u8 (l.length : Int)) := by
        have : (UInt8.ofNat l.length).toNat = l.length := by simp; omega
        simp only [encL, Lib.byteCells, List.map_cons, List.getElem?_cons_succ, List.getElem?_cons_zero, this]
      have c0 := (hown.cellAt 0 (by omega)).trans e0
      have c1 := (hown.cellAt 1 (by omega)).trans e1
      have hlt := (encL_bound hc)
      have hS := hid (fun k => (show sizeL (l.take k) ≤ 112 by
        rw [sizeL_body (fun x hx => hok x (List.mem_of_mem_take hx))]
        have := bodyL_length (fun x hx => hok x (List.mem_of_mem_take (i := k) hx))
        have : (l.take k).length ≤ 8 := by rw [List.length_take]; omega
        omega))
      have hNN : 2 + sizeL l = n := by omega
      have HN := hid hNN
      rw [← hn] at c0 hlt
      clear hc hok hsl hel hn hown e0 e1 hNN
      have hlt1 := hlt.1
      have hlt2 := hlt.2
      clear hlt
      go_wp2_with fail
      go_loop [5, 6] (fun s i => ∃ k : Nat, k ≤ l.length ∧ s = .int .i64 ((2 + sizeL (l.take k) : Nat) : Int) ∧ i = .int .i64 k) (fun _ i => l.length - (intOf i).toNat)
      case atStart => exact ⟨0, Nat.zero_le _, rfl, rfl⟩
      case round =>
        obtain ⟨k, hk, hs5, rfl⟩ := hrel
        by_cases hlt : k < l.length
        · subst hs5
          have hst : sizeL (l.take (k + 1)) = sizeL (l.take k) + 2 + l[k].v.bytes.size := by rw [List.take_succ_eq_append_getElem hlt, sizeL_snoc]
          have hb1 := hS.out k
          have hb2 := hS.out (k + 1)
          have hx12 : l[k].v.bytes.size ≤ 112 := by omega
          obtain ⟨b1, o1, rfl, v1⟩ := (HA.out.below B3.out).sl.ents (by omega)
          obtain ⟨-, -, p3⟩ := v1 k hlt
          have HST := hid hst
          clear v1 hst
          generalize l[k] = x at *
          generalize sizeL (l.take k) = s at *
          go_wp2
          go_round
          case rel => exact ⟨k + 1, by omega, by rw [HST.out]; go_num, by go_num⟩
          case measure => simp [intOf]; omega
        · obtain rfl : k = l.length := by omega
          rw [List.take_length, HN.out] at hs5
          subst hs5
          go_wp2
          go_ret
          exact ⟨rfl, B3.out⟩
    · rw [if_neg hc] at hown
      have hc0 : (ckPs (-1) l != 0) = true := by simpa using hc
      clear hc
      generalize ckPs (-1) l = code at *
      obtain ⟨a3, cap3, rfl, -, -, -⟩ := BytesIn.of_row hown
      clear hown
      go_wp2
      go_ret
      exact ⟨rfl, B3.out⟩

end Go.Proofs.Ytoiobhcgpajogaa
