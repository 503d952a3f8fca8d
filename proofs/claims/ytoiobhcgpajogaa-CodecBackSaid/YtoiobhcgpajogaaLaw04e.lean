/- The walk of CodecBack. -/
import Derived.Test.YtoiobhcgpajogaaLaw04b
import Derived.Test.YtoiobhcgpajogaaSameQ
import Derived.Deep.RegionHeld3
namespace Go.Proofs.Ytoiobhcgpajogaa
open Go.RowKit

theorem same_bytes {l q : List Ent} (h : ckPs (-1) l = 0) (h' : ckPs (-1) q = 0) : ((⟨(encL l).toArray⟩ : ByteArray).toList == (⟨(encL q).toArray⟩ : ByteArray).toList) = decide (l = q) := by
  rw [toList_beq]
  refine decide_eq_decide.2 ⟨fun e => encL_inj h h' ?_, fun e => by rw [e]⟩
  have := congrArg ByteArray.data e
  simpa using this

theorem same_list {l q : List Ent} (h : ckPs (-1) l = 0) (h' : ckPs (-1) q = 0) : (encL l == encL q) = decide (l = q) := by
  rw [show (encL l == encL q) = decide (encL l = encL q) from by by_cases e : encL l = encL q <;> simp [e]]
  exact decide_eq_decide.2 ⟨fun e => encL_inj h h' e, fun e => by rw [e]⟩

theorem same_dec {l q : List Ent} (h : ckPs (-1) l = 0) (h' : ckPs (-1) q = 0) : decide (encL l = encL q) = decide (l = q) :=
  decide_eq_decide.2 ⟨fun e => encL_inj h h' e, fun e => by rw [e]⟩

theorem ckPs_cases (l : List Ent) : ∀ pv : Int, ckPs pv l = 0 ∨ ckPs pv l = 1 ∨ ckPs pv l = 2 ∨ ckPs pv l = 4 ∨ ckPs pv l = 5 := by
  induction l with
  | nil => intro pv; exact .inl rfl
  | cons x l ih =>
    intro pv
    rw [ckPs]
    have h1 := ih x.n
    rcases ckV_cases x.v with hc | hc | hc <;> rw [hc] <;> (repeat' split) <;> first | omega | simp_all

set_option maxHeartbeats 2000000 in
set_option maxRecDepth 100000 in
theorem walk_CodecBack (a : Option Addr) (cap : Nat) (l : List Ent) (a2 : Option Addr) (cap2 : Nat) (q : List Ent) (a3 : Option Addr) (cap3 : Nat) (b : List UInt8) (w : World) (hl : l.length ≤ 9223372036854775807) (hA : PairsAt w a l) (hl2 : q.length ≤ 9223372036854775807) (hA2 : PairsAt w a2 q) (hl3 : b.length ≤ 9223372036854775807) (hB : BytesIn w a3 cap3 b ∧ (a3 = none → cap3 = 0)) :
    Calls Try.prog 10 #[.slice a l.length cap, .slice a2 q.length cap2, .slice a3 b.length cap3] w (TruePost w) := by
  have HA := hid hA
  have HA2 := hid hA2
  have HB := hid hB.1
  have HBN := hid hB.2
  clear hA hA2 hB
  obtain ⟨i0, hi, hz0, hz1, hz2⟩ := info_parts Try.infoU8
  go_enter Try.func10, Try.ntmps10
  go_wp2_with fail
  (with_reducible refine (law_codecBegun w).mono ?_)
  rintro e w1 ⟨rfl, hb⟩
  have B1 := hid hb
  clear hb
  go_wp2_with fail
  (with_reducible refine (law_greatPairs a cap l w1 hl (HA.out.below B1.out).sl).mono ?_)
  rintro e w2 ⟨rfl, hb⟩
  have B2 := hid (B1.out.trans (hb.mono B1.out.size))
  clear hb
  cases hg : greatP l with
  | true =>
    clear hg
    go_wp2
    go_ret
    exact ⟨rfl, B2.out⟩
  | false =>
    obtain ⟨hl50, hsz⟩ := greatP_false hg
    have HSZ := hid (fun (x : Ent) (hx : x ∈ l) => (show x.v.bytes.size ≤ maxLen by have := hsz x hx; unfold maxLen; omega))
    have h6 : l.length ≤ 1000000 := by omega
    clear hg hsz
    go_wp2_with fail
    (with_reducible refine (law_greatPairs a2 cap2 q w2 hl2 (HA2.out.below B2.out).sl).mono ?_)
    rintro e w2' ⟨rfl, hb⟩
    have B2' := hid (B2.out.trans (hb.mono B2.out.size))
    clear hb B2
    cases hg : greatP q with
    | true =>
      clear hg
      go_wp2
      go_ret
      exact ⟨rfl, B2'.out⟩
    | false =>
      obtain ⟨hl50', hsz⟩ := greatP_false hg
      have HSZ2 := hid (fun (x : Ent) (hx : x ∈ q) => (show x.v.bytes.size ≤ maxLen by have := hsz x hx; unfold maxLen; omega))
      have h62 : q.length ≤ 1000000 := by omega
      clear hg hsz
      by_cases h5 : (5000 : Int) < (b.length : Int)
      · go_wp2
        go_ret
        exact ⟨rfl, B2'.out⟩
      · have h5' : (b.length : Int) ≤ 5000 := by omega
        have h56 : b.length ≤ 1000000 := by omega
        clear h5
        have HE := hid (codec_Encode a cap l w2' h6 HSZ.out (HA.out.below B2'.out).sl)
        go_wp2_with fail
        (with_reducible refine HE.out.mono ?_)
        rintro e w3 ⟨v, n, rfl, hown, hb⟩
        have B3 := hid (B2'.out.trans (hb.mono B2'.out.size))
        have HO := hid hown
        have HE2 := hid (codec_Encode a2 cap2 q w3 h62 HSZ2.out (HA2.out.below B3.out).sl)
        clear hb hown HE
        go_wp2_with fail
        (with_reducible refine HE2.out.mono ?_)
        rintro e w4 ⟨v4, n4, rfl, hown4, hb⟩
        have B4 := hid (B3.out.trans (hb.mono B3.out.size))
        have HO4 := hid hown4
        have HO3 := hid (ownsRow.lift HO.out (fun r hr => hb.block r (HO.out.lt r hr).2))
        clear hb hown4 HO HE2
        -- what is decoded of b, in whatever world
        have D := hid (fun (wz : World) (hz : Below w.heap.size w wz) => codec_Decode a3 cap3 b wz h56 (HB.out.below hz))
        have h8 := decL_few8 b
        have hbad := fun hc => decL_bad (b := b) (l := (decL b).1) (n := (decL b).2.1) (c := (decL b).2.2) rfl hc
        have hinv := fun (h : (decL b).2.2 = 0) => decL_inv (b := b) (l := (decL b).1) (n := (decL b).2.1) (by rw [← h])
        generalize decL b = y at *
        obtain ⟨z, zn, zc⟩ := y
        have BAD := hid hbad
        have INV := hid hinv
        have h8' : z.length ≤ 1000000 := Nat.le_trans h8 (by decide)
        clear hbad hinv h8
        by_cases hc : ckPs (-1) l = 0
        case' neg =>
          have hc0 : (ckPs (-1) l == 0) = false := by simpa using hc
          clear hc HO3 HO4
          generalize ckPs (-1) l = code at *
          go_wp2_with fail
          have BZ := B4
        case' pos =>
          rw [if_pos hc] at HO3
          rw [hc]
          have hlt := encL_bound hc
          obtain ⟨a5, cap5, rfl, hx5, hn5, -⟩ := BytesIn.of_row HO3.out
          have HC := hid hc
          have HX5 := hid hx5
          have HN5 := hid hn5
          have HDEC := hid (decL_encL l b hc)
          have hNl := hlt.1
          have hNu := hlt.2
          clear hc hx5 hn5 HO3 hlt
          have HB4 := hid (Below.refl w4.heap.size w4)
          generalize hel : encL l = el at *
          have HEL := hid hel
          clear hel
          have t1 : 0 + el.length ≤ maxLen := by unfold maxLen; omega
          have t2 : (0 + el.length) * 1 ≤ 140737488355328 := by omega
          have t3 : 0 + el.length + b.length ≤ maxLen := by unfold maxLen; omega
          have t4 : (0 + el.length + b.length) * 1 ≤ 140737488355328 := by omega
          go_wp2_with (first
            | (refine wpList_app rfl (.const (.slice none 0 0)) (.tmp 45) 56 rfl w4.heap.size 5 i0 (.int .u8 0) 1 1 Try.underlying56 hi hz0 hz1 hz2 rfl (by decide) (.slice none 0 0) 0 [] rfl (World.ownsRow_nil _ _ _ _) a5 el.length cap5 (Lib.byteCells el) rfl (by rw [byteCells_length]; simp) HX5.out.2 HN5.out (oneCell_bytes _) t1 t2 (Nat.le_refl _) ?_; intro v6 w6 ho6 hg6; have hB6 := hid (HB4.out.grown hg6 (Nat.le_refl _) (by intro j hj; cases hj)); have HO6 := hid ho6; clear ho6 hg6)
            | (refine wpList_app rfl (.tmp 46) (.tmp 47) 56 rfl w4.heap.size 5 i0 (.int .u8 0) 1 1 Try.underlying56 hi hz0 hz1 hz2 rfl (by decide) v6 (0 + el.length) _ rfl HO6.out a3 b.length cap3 (Lib.byteCells b) rfl (by rw [byteCells_length]; simp) (HB.out.below (B4.out.trans (hB6.out.mono B4.out.size))).2 HBN.out (oneCell_bytes _) t3 t4 hB6.out.size ?_; intro v7 w7 ho7 hg7; have hB7 := hid (hB6.out.grown hg7 hB6.out.size (fun j hj => (HO6.out.lt j hj).1)); have HO7 := hid ho7; clear ho7 hg7))
          have ho8 : w7.ownsRow w4.heap.size 5 1 v7 (0 + el.length + b.length) (Lib.byteCells (el ++ b)) := by
            have := HO7.out
            rw [byteCells_append]
            simpa using this
          obtain ⟨a8, cap8, rfl, hx8, -, -⟩ := BytesIn.of_row ho8
          have HD8 := hid (codec_Decode a8 cap8 (el ++ b) w7 (by rw [List.length_append]; omega) hx8)
          rw [HDEC.out] at HD8
          have HX7 := hid (HX5.out.below hB7.out)
          have HO47 := hid (ownsRow.lift HO4.out (fun r hr => hB7.out.block r (HO4.out.lt r hr).2))
          have B7 := hid (B4.out.trans (hB7.out.mono B4.out.size))
          clear hx8 ho8 HO7 HO6
          go_wp2_with fail
          (with_reducible refine HD8.out.mono ?_)
          rintro e w9 ⟨a9, cap9, rfl, hs9, hb⟩
          have B9 := hid (B7.out.trans (hb.mono B7.out.size))
          have HX9 := hid (HX7.out.below hb)
          have HO49 := hid (ownsRow.lift HO47.out (fun r hr => hb.block r (HO47.out.lt r hr).2))
          have HS9 := hid hs9
          clear hb hs9 HX7 HD8 HX5
          by_cases hcq : ckPs (-1) q = 0
          case' pos =>
            rw [if_pos hcq] at HO49
            have hsb := same_bytes HC.out hcq
            have hsb2 := same_list HC.out hcq
            have hsb3 := same_dec HC.out hcq
            obtain ⟨a6, cap6, rfl, hx6, -, -⟩ := BytesIn.of_row HO49.out
            rw [HEL.out] at hsb hsb2 hsb3
            rw [hcq]
            clear hcq HO49 HO47 HO4
            generalize encL q = eq at *
            generalize hdd : decide (l = q) = dd at *
            have HDD := hid hdd
            clear hdd
            have keep : ∀ W', Below w9.heap.size w9 W' → (Below w9.heap.size w9 W' ∧ (convert 56 9 (.slice a5 el.length cap5)).run Try.prog W' = .ok (.string ⟨el.toArray⟩) W' ∧ (convert 56 9 (.slice a6 eq.length cap6)).run Try.prog W' = .ok (.string ⟨eq.toArray⟩) W') :=
              fun W' hW => ⟨hW, conv_sliceAt W' a5 cap5 el (HX9.out.below hW).2, conv_sliceAt W' a6 cap6 eq (hx6.below hW).2⟩
            have KS := hid keep
            clear keep hx6
            go_wp2_with fail
            go_region_held3 (fun W' : World => Below w9.heap.size w9 W' ∧ (convert 56 9 (.slice a5 el.length cap5)).run Try.prog W' = .ok (.string ⟨el.toArray⟩) W' ∧ (convert 56 9 (.slice a6 eq.length cap6)).run Try.prog W' = .ok (.string ⟨eq.toArray⟩) W')
              (first | assumption | exact KS.out _ (Below.refl _ _).drew)
              (first
                | (go_at_call 46; have hS := ‹Below w9.heap.size w9 _ ∧ _›.1; (with_reducible refine (ref_SamePairs a9 a cap9 cap l l _ h6 h6 (sliceAt_below HS9.out hS) (HA.out.below (B9.out.trans (hS.mono B9.out.size))).sl).mono ?_); rintro e w' ⟨bb, rfl, hbb, hb⟩; obtain rfl : bb = true := hbb.2 rfl; have hS' := KS.out _ (hS.trans (hb.mono hS.size)); clear hb hS hbb)
                | (go_at_call 46; have hS := ‹Below w9.heap.size w9 _ ∧ _›.1; (with_reducible refine (ref_SamePairs a a2 cap cap2 l q _ h6 h62 (HA.out.below (B9.out.trans (hS.mono B9.out.size))).sl (HA2.out.below (B9.out.trans (hS.mono B9.out.size))).sl).mono ?_); rintro e w' ⟨bb, rfl, hbb, hb⟩; obtain rfl : bb = dd := (by rw [← HDD.out]; cases bb <;> simp_all); have hS' := KS.out _ (hS.trans (hb.mono hS.size)); clear hb hS hbb))
            have hS := ‹Below w9.heap.size w9 _ ∧ _›.1
            have BZ := hid (B9.out.trans (hS.mono B9.out.size))
            go_wp2_with fail
          case' neg =>
            have hcd := ckPs_cases q (-1)
            clear HO49 HO47 HO4
            generalize ckPs (-1) q = code at *
            have hcd' : code = 1 ∨ code = 2 ∨ code = 4 ∨ code = 5 := by omega
            clear hcd hcq
            rcases hcd' with rfl | rfl | rfl | rfl
            all_goals
              go_wp2_with fail
              go_quiet ((go_at_call 46; exact Calls.quiet_of ((ref_SamePairsQ a9 a cap9 cap l l _ h6 h6 (sliceAt_below HS9.out (below_drewN _ _)) (HA.out.below (B9.out.trans ((below_drewN w9 _).mono B9.out.size))).sl).mono (fun e w' h => ⟨by rw [h.1, decide_eq_true rfl], h.2⟩))))
              have BZ := hid (B9.out.trans ((below_drewN w9 nq).mono B9.out.size))
              go_wp2_with fail
        all_goals
          (with_reducible refine (D.out _ BZ.out).mono ?_)
          rintro e w20 ⟨a20, cap20, rfl, hs20, hb⟩
          have B20 := hid (BZ.out.trans (hb.mono BZ.out.size))
          have HS20 := hid hs20
          clear hb hs20
          by_cases hzc : zc = 0
          · subst hzc
            obtain ⟨i1, i2, i3, i4⟩ := INV.out rfl
            subst i2
            have HE20 := hid (codec_Encode a20 cap20 z w20 h8' (fun x hx => by have := ((ok_of i1).1 x hx).2.2.1; unfold maxLen; omega) HS20.out)
            go_wp2_with fail
            (with_reducible refine HE20.out.mono ?_)
            rintro e w21 ⟨v21, n21, rfl, hown21, hb⟩
            have B21 := hid (B20.out.trans (hb.mono B20.out.size))
            rw [i1, if_pos rfl] at hown21
            rw [i1]
            obtain ⟨a22, cap22, rfl, hx22, -, -⟩ := BytesIn.of_row hown21
            have hlz := encL_bound i1
            have hcb := (HB.out).1
            have hbs : SliceAt w21 a3 (Lib.byteCells ((b.take (encL z).length))) := by
              rw [Lib.byteCells, List.map_take]
              exact (HB.out.below B21.out).2.take _
            have keep : ∀ W', Below w21.heap.size w21 W' → (Below w21.heap.size w21 W' ∧ (convert 56 9 (.slice a22 (encL z).length cap22)).run Try.prog W' = .ok (.string ⟨(encL z).toArray⟩) W' ∧ (convert 56 9 (.slice a3 (encL z).length cap3)).run Try.prog W' = .ok (.string ⟨(encL z).toArray⟩) W') := by
              intro W' hW
              have := conv_sliceAt W' a3 cap3 _ (sliceAt_below hbs hW)
              rw [i4] at this
              exact ⟨hW, conv_sliceAt W' a22 cap22 _ (hx22.below hW).2, this⟩
            have KS := hid keep
            have g1 : (((encL z).length : Nat) : Int) ≤ (b.length : Int) := by omega
            have g2 : (((encL z).length : Nat) : Int) ≤ (cap3 : Int) := by omega
            have g3 : (0 : Int) ≤ (((encL z).length : Nat) : Int) := by omega
            clear keep hbs i1 i3 i4 hb hown21 hx22 HE20
            generalize encL z = ez at *
            generalize ez.length = ezn at *
            go_wp2_with fail
            go_region_held3 (fun W' : World => Below w21.heap.size w21 W' ∧ (convert 56 9 (.slice a22 ezn cap22)).run Try.prog W' = .ok (.string ⟨ez.toArray⟩) W' ∧ (convert 56 9 (.slice a3 ezn cap3)).run Try.prog W' = .ok (.string ⟨ez.toArray⟩) W')
              (first | assumption | exact KS.out _ (Below.refl _ _).drew)
              (fail)
            have hS := ‹Below w21.heap.size w21 _ ∧ _›.1
            go_wp2
            go_ret
            exact ⟨rfl, B21.out.trans (hS.mono B21.out.size)⟩
          · obtain ⟨i1, i2⟩ := BAD.out hzc
            subst i1
            subst i2
            have hz1 : (zc != 0) = true := by simpa using hzc
            clear hzc
            go_wp2
            go_ret
            exact ⟨rfl, B20.out⟩

end Go.Proofs.Ytoiobhcgpajogaa
