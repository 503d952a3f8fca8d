/- The walk of CodecCut. -/
import Derived.Test.YtoiobhcgpajogaaLaw04a
namespace Go.Proofs.Ytoiobhcgpajogaa
open Go.RowKit

set_option maxHeartbeats 2000000 in
set_option maxRecDepth 100000 in
theorem walk_CodecCut (a : Option Addr) (cap : Nat) (l : List Ent) (a2 : Option Addr) (cap2 : Nat) (q : List Ent) (x : Int) (w : World) (hl : l.length ≤ 9223372036854775807) (hA : PairsAt w a l) (hl2 : q.length ≤ 9223372036854775807) (hA2 : PairsAt w a2 q) (_ : (Lit.int .i64 x).wf = true) :
    Calls Try.prog 11 #[.slice a l.length cap, .slice a2 q.length cap2, .int .i64 x] w (TruePost w) := by
  have HA := hid hA
  have HA2 := hid hA2
  clear hA hA2
  obtain ⟨i0, hi, hz0, hz1, hz2⟩ := info_parts Try.infoU8
  go_enter Try.func11, Try.ntmps11
  go_wp2_with fail
  (with_reducible refine (law_codecBegun w).mono ?_)
  rintro e w1 ⟨rfl, hb⟩
  have B1 := hid hb
  clear hb
  go_wp2_with fail
  (with_reducible refine (law_greatPairs a cap l w1 hl (HA.out.below B1.out).sl).mono ?_)
  rintro e w2 ⟨rfl, hb⟩
  have B2 := hid (B1.out.trans (hb.mono B1.out.size))
  clear hb
  cases hg : greatP l with
  | true =>
    clear hg
    go_wp2
    go_ret
    exact ⟨rfl, B2.out⟩
  | false =>
    obtain ⟨hl50, hsz⟩ := greatP_false hg
    have HSZ := hid (fun (x : Ent) (hx : x ∈ l) => (show x.v.bytes.size ≤ maxLen by have := hsz x hx; unfold maxLen; omega))
    have h6 : l.length ≤ 1000000 := by omega
    clear hg hsz
    go_wp2_with fail
    (with_reducible refine (law_greatPairs a2 cap2 q w2 hl2 (HA2.out.below B2.out).sl).mono ?_)
    rintro e w2' ⟨rfl, hb⟩
    have B2' := hid (B2.out.trans (hb.mono B2.out.size))
    clear hb B2
    cases hg : greatP q with
    | true =>
      clear hg
      go_wp2
      go_ret
      exact ⟨rfl, B2'.out⟩
    | false =>
      obtain ⟨hl50', hsz⟩ := greatP_false hg
      have HSZ2 := hid (fun (x : Ent) (hx : x ∈ q) => (show x.v.bytes.size ≤ maxLen by have := hsz x hx; unfold maxLen; omega))
      have h62 : q.length ≤ 1000000 := by omega
      clear hg hsz
      have HE := hid (codec_Encode a cap l w2' h6 HSZ.out (HA.out.below B2'.out).sl)
      go_wp2_with fail
      (with_reducible refine HE.out.mono ?_)
      rintro e w3 ⟨v, n, rfl, hown, hb⟩
      have B3 := hid (B2'.out.trans (hb.mono B2'.out.size))
      have HO := hid hown
      have HE2 := hid (codec_Encode a2 cap2 q w3 h62 HSZ2.out (HA2.out.below B3.out).sl)
      clear hb hown HE
      go_wp2_with fail
      (with_reducible refine HE2.out.mono ?_)
      rintro e w4 ⟨v4, n4, rfl, hown4, hb⟩
      have B4 := hid (B3.out.trans (hb.mono B3.out.size))
      have HO4 := hid hown4
      have HO3 := hid (ownsRow.lift HO.out (fun r hr => hb.block r (HO.out.lt r hr).2))
      clear hb hown4 HO HE2
      by_cases hc : ckPs (-1) l = 0
      case neg =>
        have hc0 : (ckPs (-1) l != 0) = true := by simpa using hc
        clear hc HO3 HO4
        generalize ckPs (-1) l = code at *
        go_wp2
        go_ret
        exact ⟨rfl, B4.out⟩
      case pos =>
        rw [if_pos hc] at HO3
        rw [hc]
        by_cases hcq : ckPs (-1) q = 0
        case neg =>
          have hc0 : (ckPs (-1) q != 0) = true := by simpa using hcq
          clear hc hcq HO3 HO4
          generalize ckPs (-1) q = code at *
          go_wp2
          go_ret
          exact ⟨rfl, B4.out⟩
        case pos =>
          rw [if_pos hcq] at HO4
          rw [hcq]
          have hlt := encL_bound hc
          have hltq := encL_bound hcq
          obtain ⟨a5, cap5, rfl, hx5, hn5, -⟩ := BytesIn.of_row HO3.out
          obtain ⟨a6, cap6, rfl, hx6, hn6, -⟩ := BytesIn.of_row HO4.out
          have HC := hid hc
          have HCQ := hid hcq
          have HX5 := hid hx5
          have HN5 := hid hn5
          have HX6 := hid hx6
          have HN6 := hid hn6
          have HCUT := True.intro
          have hz : ((((encL l).length : Nat) : Int) == 0) = false := by rw [beq_eq_false_iff_ne]; omega
          have hr1 := umod_nat x (encL l).length
          have hr2 := Nat.mod_lt (IntKind.u64.wrap x).toNat (show 0 < (encL l).length by omega)
          generalize (IntKind.u64.wrap x).toNat % (encL l).length = r at *
          have hr3 : (r : Int) < (((encL l).length : Nat) : Int) := by omega
          have hr4 : (0 : Int) ≤ (r : Int) := by omega
          have hcp5 := hx5.1
          have hcp6 := hx6.1
          have hr5 : (r : Int) ≤ (cap5 : Int) := by omega
          have HD := codec_Decode a5 cap5 ((encL l).take r) w4 (by rw [List.length_take]; omega) ⟨by rw [List.length_take]; omega, by rw [Lib.byteCells, List.map_take]; exact hx5.2.take r⟩
          rw [show ((encL l).take r).length = r by rw [List.length_take]; omega, decL_cut l hc r hr2] at HD
          have HDH := hid HD
          have HR1 := hid hr1
          clear hc hcq hx5 hn5 hx6 hn6 HO3 HO4 HD
          go_wp2_with fail
          (with_reducible refine HDH.out.mono ?_)
          rintro e w5 ⟨a7, cap7, rfl, -, hb⟩
          have B5 := hid (B4.out.trans (hb.mono B4.out.size))
          have HX5 := hid (HX5.out.below hb)
          have HX6 := hid (HX6.out.below hb)
          clear hb hr1 HDH HCUT hr2 hr3 hr4 hr5 HR1
          have hNl := hlt.1
          have hNu := hlt.2
          have hQl := hltq.1
          have hQu := hltq.2
          clear hlt hltq
          have HB5 := hid (Below.refl w5.heap.size w5)
          generalize hel : encL l = el at *
          generalize heq : encL q = eq at *
          have HEL := hid hel
          have HEQ := hid heq
          clear hel heq
          have t1 : 0 + el.length ≤ maxLen := by unfold maxLen; omega
          have t2 : (0 + el.length) * 1 ≤ 140737488355328 := by omega
          have t3 : 0 + el.length + eq.length ≤ maxLen := by unfold maxLen; omega
          have t4 : (0 + el.length + eq.length) * 1 ≤ 140737488355328 := by omega
          go_wp2_with (first
            | (refine wpList_app rfl (.const (.slice none 0 0)) (.tmp 76) 56 rfl w5.heap.size 5 i0 (.int .u8 0) 1 1 Try.underlying56 hi hz0 hz1 hz2 rfl (by decide) (.slice none 0 0) 0 [] rfl (World.ownsRow_nil _ _ _ _) a5 el.length cap5 (Lib.byteCells el) rfl (by rw [byteCells_length]; simp) HX5.out.2 HN5.out (oneCell_bytes _) t1 t2 (Nat.le_refl _) ?_; intro v6 w6 ho6 hg6; have hB6 := hid (HB5.out.grown hg6 (Nat.le_refl _) (by intro j hj; cases hj)); have HO6 := hid ho6; clear ho6 hg6)
            | (refine wpList_app rfl (.tmp 77) (.tmp 78) 56 rfl w5.heap.size 5 i0 (.int .u8 0) 1 1 Try.underlying56 hi hz0 hz1 hz2 rfl (by decide) v6 (0 + el.length) _ rfl HO6.out a6 eq.length cap6 (Lib.byteCells eq) rfl (by rw [byteCells_length]; simp) (HX6.out.below hB6.out).2 HN6.out (oneCell_bytes _) t3 t4 hB6.out.size ?_; intro v7 w7 ho7 hg7; have hB7 := hid (hB6.out.grown hg7 hB6.out.size (fun j hj => (HO6.out.lt j hj).1)); have HO7 := hid ho7; clear ho7 hg7))
          have ho8 : w7.ownsRow w5.heap.size 5 1 v7 (0 + el.length + eq.length) (Lib.byteCells (el ++ eq)) := by
            have := HO7.out
            rw [byteCells_append]
            simpa using this
          obtain ⟨a8, cap8, rfl, hx8, hn8, hg8⟩ := BytesIn.of_row ho8
          have hlen8 : (el ++ eq).length = el.length + eq.length := List.length_append
          have hd8 : decL (el ++ eq) = (l, (el.length : Int), 0) := by rw [← HEL.out]; exact decL_encL l _ HC.out
          have hd9 : decL eq = (q, (eq.length : Int), 0) := by
            have := decL_encL q [] HCQ.out
            rw [List.append_nil, HEQ.out] at this
            exact this
          have hne8 : a8 ≠ none := by
            rintro rfl
            have := hn8 rfl
            have := hx8.1
            omega
          obtain ⟨ad8, rfl⟩ := Option.ne_none_iff_exists'.1 hne8
          obtain ⟨g8, o8, s8⟩ := ad8
          have ho80 := (hg8 _ rfl).2
          simp only at ho80
          have hs8 : s8 = none := by
            rcases hx8.2 with h | ⟨b, off, h, -⟩
            · exfalso
              have := congrArg List.length h
              rw [byteCells_length] at this
              simp only [List.length_nil] at this
              omega
            · cases h; rfl
          subst ho80
          subst hs8
          have hc8 : el.length + eq.length ≤ cap8 := by have := hx8.1; omega
          have HD8 := codec_Decode (some ⟨g8, 0, none⟩) cap8 (el ++ eq) w7 (by omega) hx8
          rw [hd8] at HD8
          have HX8 := hid hx8
          have HD8h := hid HD8
          have HD9 := hid hd9
          rw [hlen8] at HD8h ⊢
          have HL8 := hid hlen8
          clear hlen8 hd8 hne8 hg8 hn8 hx8 HD8 ho8 hd9 HO7 HO6
          go_wp2_with fail
          (with_reducible refine HD8h.out.mono ?_)
          rintro e w9 ⟨a9, cap9, rfl, hs9, hb⟩
          have B9 := hid (B5.out.trans ((hB7.out.trans (hb.mono hB7.out.size)).mono B5.out.size))
          have HX9 := hid (HX8.out.below hb)
          have HSP := hid (ref_SamePairs a9 a cap9 cap l l w9 h6 h6 hs9 (HA.out.below B9.out).sl)
          clear hb hs9 HX8 HD8h
          go_wp2_with fail
          (with_reducible refine HSP.out.mono ?_)
          rintro e w10 ⟨bb, rfl, hbb, hb⟩
          obtain rfl : bb = true := hbb.2 rfl
          have B10 := hid (B9.out.trans (hb.mono B9.out.size))
          have HX10 := hid (HX9.out.below hb)
          have hcn : ¬ cap8 = el.length := by omega
          have hcn2 : (el.length : Int) ≤ (cap8 : Int) := by omega
          have hin : BytesIn w10 (some ⟨g8, el.length, none⟩) (cap8 - el.length) eq := by
            refine ⟨by omega, ?_⟩
            have := HX10.out.2.part el.length (el.length + eq.length)
            rw [Nat.zero_add] at this
            have e : ((Lib.byteCells (el ++ eq)).take (el.length + eq.length)).drop el.length = Lib.byteCells eq := by
              rw [byteCells_append, List.take_of_length_le (by simp [byteCells_length]), List.drop_left' (byteCells_length el)]
            rwa [e] at this
          have HD11 := codec_Decode (some ⟨g8, el.length, none⟩) (cap8 - el.length) eq w10 (by omega) hin
          rw [HD9.out] at HD11
          have HD11h := hid HD11
          clear hb hbb HSP HX9 HD11 hin HX10
          go_wp2_with fail
          (with_reducible refine HD11h.out.mono ?_)
          rintro e w11 ⟨a11, cap11, rfl, hs11, hb⟩
          have B11 := hid (B10.out.trans (hb.mono B10.out.size))
          have HSP := hid (ref_SamePairs a11 a2 cap11 cap2 q q w11 h62 h62 hs11 (HA2.out.below B11.out).sl)
          clear hb hs11 HD11h
          go_wp2_with fail
          (with_reducible refine HSP.out.mono ?_)
          rintro e w12 ⟨bb, rfl, hbb, hb⟩
          obtain rfl : bb = true := hbb.2 rfl
          have B12 := hid (B11.out.trans (hb.mono B11.out.size))
          clear hb hbb
          go_wp2
          go_ret
          exact ⟨rfl, B12.out⟩

end Go.Proofs.Ytoiobhcgpajogaa
