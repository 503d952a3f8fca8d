/- The walk of the law DeskJoins. -/
import Derived.Test.YtoiobhcgpajogabGreatDoorDesk11
namespace Go.Proofs.YtoiobhcgpajogabGreatDoor
open Go.RowKit

theorem faultD_zero {L : List (List UInt8)} (h : ¬ 150 < L.length) : (faultD L).1 = 0 ↔ ∀ x ∈ L, nlD x = false := by
  unfold faultD
  rw [if_neg h]
  cases e : L.findIdx? nlD with
  | none => exact ⟨fun _ => List.findIdx?_eq_none_iff.1 e, fun _ => rfl⟩
  | some i =>
    obtain ⟨hi, h1, -⟩ := List.findIdx?_eq_some_iff_getElem.1 e
    constructor
    · intro h; simp at h
    · intro h
      have := h _ (List.getElem_mem hi)
      rw [this] at h1
      cases h1

theorem faultD_eq {L : List (List UInt8)} (h : (faultD L).1 = 0) : faultD L = (0, 0) := by
  unfold faultD at h ⊢
  split
  · rename_i h1; rw [if_pos h1] at h; simp at h
  · rename_i h1
    rw [if_neg h1] at h
    cases e : L.findIdx? nlD with
    | none => rfl
    | some i => rw [e] at h; simp at h

theorem joins_bad {L : List (List UInt8)} (hl : L.length ≤ 150) (k : Nat) (h : (faultD L).1 ≠ 0) : (faultD (L.take k)).1 ≠ 0 ∨ (faultD (L.drop k)).1 ≠ 0 := by
  have l1 : ¬ 150 < (L.take k).length := by simp; omega
  have l2 : ¬ 150 < (L.drop k).length := by simp; omega
  refine Classical.byContradiction fun hn => h ?_
  rw [not_or, Classical.not_not, Classical.not_not] at hn
  rw [faultD_zero (by omega)]
  intro x hx
  rw [← List.take_append_drop k L] at hx
  rcases List.mem_append.1 hx with hx | hx
  · exact (faultD_zero l1).1 hn.1 x hx
  · exact (faultD_zero l2).1 hn.2 x hx

theorem joins_good {L : List (List UInt8)} (hl : L.length ≤ 150) (k : Nat) (h : (faultD L).1 = 0) : faultD L = (0, 0) ∧ faultD (L.take k) = (0, 0) ∧ faultD (L.drop k) = (0, 0) := by
  have l1 : ¬ 150 < (L.take k).length := by simp; omega
  have l2 : ¬ 150 < (L.drop k).length := by simp; omega
  have h0 := (faultD_zero (by omega)).1 h
  exact ⟨faultD_eq h, faultD_eq ((faultD_zero l1).2 fun x hx => h0 x (List.mem_of_mem_take hx)), faultD_eq ((faultD_zero l2).2 fun x hx => h0 x (List.mem_of_mem_drop hx))⟩

theorem joins_told {L : List (List UInt8)} (hl : L.length ≤ 150) (k : Nat) (h : (faultD L).1 = 0) (H : Ht) : (doD H (L.take k)).1 ++ (doD (doD H (L.take k)).2 (L.drop k)).1 = (doD H L).1 := by
  obtain ⟨h0, h1, h2⟩ := joins_good hl k h
  rw [doD_fine h0, doD_fine h1, doD_fine h2]
  conv => rhs; rw [← List.take_append_drop k L, linesD_append]
  have := linesD_told (linesD ([], H) (L.take k)).2 (linesD ([], H) (L.take k)).1 (L.drop k)
  rw [show ((linesD ([], H) (L.take k)).1, (linesD ([], H) (L.take k)).2) = linesD ([], H) (L.take k) from rfl] at this
  rw [this]

theorem LinesAt.take {w : World} {g : Nat → Nat} {a : Option Addr} {xs : List ByteArray} (h : LinesAt w g a xs) (k : Nat) : LinesAt w g a (xs.take k) := by
  rcases h with rfl | ⟨b, o, rfl, hb, hg, hc⟩
  · exact .inl (by simp)
  · exact .inr ⟨b, o, rfl, hb, hg, fun j x hj => hc j x (by
      rw [List.getElem?_take] at hj
      split at hj
      · exact hj
      · cases hj)⟩

theorem LinesAt.drop {w : World} {g : Nat → Nat} {a : Option Addr} {xs : List ByteArray} (h : LinesAt w g a xs) (k : Nat) : LinesAt w g (a.map (fun x => x.add k)) (xs.drop k) := by
  rcases h with rfl | ⟨b, o, rfl, hb, hg, hc⟩
  · exact .inl (by simp)
  · refine .inr ⟨b, o + k, ?_, hb, hg, fun j x hj => ?_⟩
    · rw [Option.map_some, show (⟨b, o, none⟩ : Addr).add k = ⟨b, o + k, none⟩ by unfold Addr.add; split <;> simp_all]
    · rw [List.getElem?_drop] at hj
      have := hc (k + j) x hj
      rwa [show o + (k + j) = o + k + j by omega] at this

/-- And at the very end, where the slice has no place of its own. -/
theorem LinesAt.end {w : World} {g : Nat → Nat} {a' : Option Addr} {xs : List ByteArray} (k : Nat) (hk : xs.length ≤ k) : LinesAt w g a' (xs.drop k) := .inl (by simp [hk])

theorem cut_nat (cut : Int) (n : Nat) (hn : n ≤ 150) : ∃ k : Nat, wrap64 ((IntKind.u64.wrap cut).tmod ((n : Int) + 1)) = (k : Int) ∧ k ≤ n := by
  have h0 : 0 ≤ IntKind.u64.wrap cut := by
    have := Int.emod_nonneg cut (show (2 ^ IntKind.u64.bits : Int) ≠ 0 by decide)
    unfold IntKind.wrap
    exact this
  have h1 := Int.tmod_nonneg ((n : Int) + 1) h0
  have h2 := Int.tmod_lt_of_pos (IntKind.u64.wrap cut) (show (0 : Int) < (n : Int) + 1 by omega)
  refine ⟨((IntKind.u64.wrap cut).tmod ((n : Int) + 1)).toNat, ?_, by omega⟩
  rw [Int.toNat_of_nonneg h1]
  unfold wrap64; omega

set_option maxHeartbeats 4000000 in
set_option maxRecDepth 100000 in
theorem walk_DeskJoins (a : Option Addr) (cap : Nat) (xs : List ByteArray) (cut : Int) (w : World) (hn : xs.length ≤ maxLen) (hcap : xs.length ≤ cap) (hx : ∀ x ∈ xs, x.size ≤ 140737488355328) (hA : LinesAt w (fun _ => 0) a xs) (_ : (Lit.int .i64 cut).wf = true) (hG : GlobC w (fun _ => 0)) :
    Calls Tryz.prog 3 #[.slice a xs.length cap, .int .i64 cut] w fun e w' => e = .returned (.bool true) ∧ Below w.heap.size w w' := by
  have CB := hid (law_begun w hG)
  have HA := hid hA
  have HG := hid hG
  have HX := hid hx
  have hn2 : (xs.length : Int) ≤ 9223372036854775807 := by unfold maxLen at hn; omega
  clear hA hG hx
  go_enter Tryz.func3, Tryz.ntmps3
  go_wp2_with fail
  refine CB.out.mono ?_
  rintro e w1 ⟨rfl, hb1⟩
  have A1 := hid (HA.out.below hb1)
  have G1 := hid (HG.out.below hb1)
  have B1 := hid hb1
  clear hb1 CB HA HG
  by_cases h150 : 150 < xs.length
  · have h1 : (150 : Int) < (xs.length : Int) := by omega
    clear h150
    go_wp2
    go_ret
    exact ⟨rfl, B1.out⟩
  · have hle : xs.length ≤ 150 := by omega
    have hle2 : (xs.length : Int) ≤ 150 := by omega
    have CS := hid (law_slow (fun _ => 0) a cap xs w1 A1.out hn HX.out)
    clear h150 HX hn
    go_wp2_with fail
    refine CS.out.mono ?_
    rintro e w2 ⟨hb2, bs, rfl, hsl⟩
    have A2 := hid (A1.out.below hb2)
    have G2 := hid (G1.out.below hb2)
    have B2 := hid (B1.out.trans (hb2.mono B1.out.size))
    clear hb2 CS A1 G1 B1
    cases bs with
    | true =>
      go_wp2
      go_ret
      exact ⟨rfl, B2.out⟩
    | false =>
      have HS := hid (hsl rfl)
      clear hsl
      go_upto_region 6 with (fail)
      obtain ⟨k, hk, hkl⟩ := cut_nat cut xs.length hle
      rw [hk]
      clear hk
      have CN := hid (desk_New (fun _ => 0) 1 w2 G2.out)
      go_wp2_with fail
      refine CN.out.mono ?_
      rintro e w3 ⟨d, hh, g3, rfl, hE3, -, hK3⟩
      have E3 := hid hE3
      have K3 := hid hK3
      have G3 := hid (G2.out.frame hE3 (by omega))
      have A3 := hid (A2.out.evo hE3 (by omega))
      have CM := hid (desk_New g3 23 w3 G3.out)
      clear hE3 hK3 CN
      go_wp2_with fail
      refine CM.out.mono ?_
      rintro e w4 ⟨d', h', g4, rfl, hE4, -, hK4⟩
      have E4 := hid (show Evo 1 100 (fun _ => 0) g4 w2 w4 from (E3.out.trans hE4).none (by omega))
      have K4 := hid (K3.out.fresh hE4).self
      have M4 := hid hK4
      have A4 := hid (A3.out.evo hE4 (by omega))
      clear hE4 hK4 CM E3 K3 G3 A3
      have hk0 : (0 : Int) ≤ (k : Int) := by omega
      have hkn : (k : Int) ≤ (xs.length : Int) := by omega
      have hkc : (k : Int) ≤ (cap : Int) := by omega
      have hkc2 : k ≤ cap := by omega
      have hnc : (xs.length : Int) ≤ (cap : Int) := by omega
      have CD := desk_Do g4 1 d hh Ht.new w4 (by omega) K4.out GoodD.new a cap (xs.take k) (A4.out.take k) (fun x hx => Nat.le_trans (HS.out x (List.mem_of_mem_take hx)) (by omega)) (by simp; omega)
      rw [show (xs.take k).length = k by simp; omega, List.map_take] at CD
      generalize hL : xs.map (·.data.toList) = L at *
      have HL := hid hL
      clear hL
      have CD := hid CD
      generalize hF1 : faultD (L.take k) = F1 at *
      have HF1 := hid hF1
      generalize hD1 : doD Ht.new (L.take k) = D1 at *
      have HD1 := hid hD1
      clear hF1 hD1
      go_wp2_with fail
      refine CD.out.mono ?_
      rintro e w5 ⟨rfl, hg5, hz5, g5, hK5⟩
      rw [HF1.out, HD1.out]
      rw [HD1.out] at hg5 hz5 hK5
      have Z1 := hid hz5
      clear hz5
      go_upto_region 8 with (fail)
      have hA6 := Evo.alloc g5 0 w5 (.cells #[.int .i64 F1.1, .int .i64 F1.2] 29)
      have L6 := hid (LocC.new g5 0 w5 29 [.int .i64 F1.1, .int .i64 F1.2])
      have GD1 := hid hg5
      have K6 := hid (hK5.fresh hA6).self
      have M6 := hid (((M4.out.apart hK5.evo (by omega) (by omega)).fresh hA6).self)
      have A6 := hid ((A4.out.evo hK5.evo (by omega)).evo hA6 (by omega))
      have E6 := hid ((E4.out.trans (hK5.evo.wide (by omega) (by omega))).trans (hA6.none (by omega)))
      clear hg5 hK5 hA6 CD K4 M4 A4 E4
      generalize w5.alloc (.cells #[.int .i64 F1.1, .int .i64 F1.2] 29) = w6 at *
      generalize extc g5 w5 0 = g6 at *
      generalize w5.heap.size = b9 at *
      have CD := desk_Do g6 23 d' h' Ht.new w6 (by omega) M6.out GoodD.new a cap xs A6.out (fun x hx => Nat.le_trans (HS.out x hx) (by omega)) (by omega)
      rw [HL.out] at CD
      have CD := hid CD
      go_wp2_with fail
      refine CD.out.mono ?_
      rintro e w7 ⟨rfl, -, hz7, g7, hK7⟩
      have Z2 := hid hz7
      clear hz7
      generalize hF2 : faultD L = F2 at *
      have HF2 := hid hF2
      generalize hD2 : doD Ht.new L = D2 at *
      have HD2 := hid hD2
      clear hF2 hD2
      go_upto_region 9 with (fail)
      have hA8 := Evo.alloc g7 0 w7 (.cells #[.int .i64 F2.1, .int .i64 F2.2] 29)
      have L8 := hid (LocC.new g7 0 w7 29 [.int .i64 F2.1, .int .i64 F2.2])
      have P8 := hid ((L6.out.frame hK7.evo (by omega)).frame hA8 (by omega))
      have K8 := hid (((K6.out.apart hK7.evo (by omega) (by omega)).fresh hA8).self)
      have A8 := hid ((A6.out.evo hK7.evo (by omega)).evo hA8 (by omega))
      have E8 := hid ((E6.out.trans (hK7.evo.wide (by omega) (by omega))).trans (hA8.none (by omega)))
      clear hK7 hA8 CD K6 M6 A6 E6 L6
      generalize w7.alloc (.cells #[.int .i64 F2.1, .int .i64 F2.2] 29) = w8 at *
      generalize extc g7 w7 0 = g8 at *
      generalize w7.heap.size = b11 at *
      have hsl : LinesAt w8 g8 (if cap = k then a else Option.map (fun x => x.add k) a) (xs.drop k) := by
        split
        · exact LinesAt.end k (by omega)
        · exact A8.out.drop k
      have CD := desk_Do g8 1 d hh D1.2 w8 (by omega) K8.out GD1.out (if cap = k then a else Option.map (fun x => x.add k) a) (cap - k) (xs.drop k) hsl (fun x hx => Nat.le_trans (HS.out x (List.mem_of_mem_drop hx)) (by omega)) (by simp; omega)
      rw [List.length_drop, List.map_drop, HL.out] at CD
      clear hsl
      by_cases hck : cap = k
      case' pos =>
        have hck' := hck.symm
        subst hck'
        clear hck
        rw [if_pos rfl, Nat.sub_self, show xs.length - k = 0 by omega] at CD
      case' neg => rw [if_neg hck] at CD
      all_goals
        have CD := hid CD
        go_wp2_with fail
        refine CD.out.mono ?_
        rintro e w9 ⟨rfl, -, hz9, g9, hK9⟩
        have Z3 := hid hz9
        clear hz9
        generalize hF3 : faultD (L.drop k) = F3 at *
        have HF3 := hid hF3
        generalize hD3 : doD D1.2 (L.drop k) = D3 at *
        have HD3 := hid hD3
        clear hF3 hD3
        go_upto_region 10 with (fail)
        have hA0 := Evo.alloc g9 0 w9 (.cells #[.int .i64 F3.1, .int .i64 F3.2] 29)
        have L10 := hid (LocC.new g9 0 w9 29 [.int .i64 F3.1, .int .i64 F3.2])
        have P10 := hid ((P8.out.frame hK9.evo (by omega)).frame hA0 (by omega))
        have Q10 := hid ((L8.out.frame hK9.evo (by omega)).frame hA0 (by omega))
        have G10 := hid (hK9.glob.frame hA0 (by omega))
        have A10 := hid ((A8.out.evo hK9.evo (by omega)).evo hA0 (by omega))
        have E10 := hid ((E8.out.trans (hK9.evo.wide (by omega) (by omega))).trans (hA0.none (by omega)))
        clear hK9 hA0 CD K8 A8 E8 L8 P8
        generalize w9.alloc (.cells #[.int .i64 F3.1, .int .i64 F3.2] 29) = w10 at *
        generalize extc g9 w9 0 = g10 at *
        generalize w9.heap.size = b13 at *
        have c9 := P10.out.1.cell 0
        have c11 := Q10.out.1.cell 0
        have c13 := L10.out.1.cell 0
        simp only [List.getElem?_cons_zero] at c9 c11 c13
        have hLl : L.length ≤ 150 := by rw [← HL.out]; simpa using hle
        by_cases hz : F2.1 = 0
        · obtain ⟨hj0, hj1, hj2⟩ := joins_good hLl k (by rw [HF2.out]; exact hz)
          have HJ := hid (joins_told hLl k (by rw [HF2.out]; exact hz) Ht.new)
          rw [HF2.out] at hj0
          rw [HF1.out] at hj1
          rw [HF3.out] at hj2
          subst hj0 hj1 hj2
          simp only at c9 c11 c13
          have CN := hid (desk_New g10 45 w10 G10.out)
          rw [HD1.out, HD3.out, HD2.out] at HJ
          clear hz hLl Q10
          go_wp2_with fail
          refine CN.out.mono ?_
          rintro e w11 ⟨d2, h2, g11, rfl, hE11, -, hK11⟩
          have CD := fun cap' => desk_Do g11 45 d2 h2 Ht.new w11 (by omega) hK11 GoodD.new a cap' xs (A10.out.evo hE11 (by omega)) (fun x hx => Nat.le_trans (HS.out x hx) (by omega)) (by omega)
          simp only [HL.out] at CD
          have CD := hid CD
          have P11 := hid (P10.out.frame hE11 (by omega))
          have L11 := hid (L10.out.frame hE11 (by omega))
          have E11 := hid (E10.out.trans (hE11.none (by omega)))
          clear hE11 hK11 CN c9 c11 c13 P10 L10 E10 G10 A10
          go_wp2_with fail
          refine (CD.out _).mono ?_
          rintro e w12 ⟨rfl, -, -, g12, hK12⟩
          rw [HF2.out, HD2.out]
          have P12 := (P11.out.frame hK12.evo (by omega))
          have L12 := (L11.out.frame hK12.evo (by omega))
          have hA13 := Evo.alloc g12 0 w12 (.cells #[.int .i64 0, .int .i64 0] 29)
          have c9 : (w12.alloc (.cells #[.int .i64 0, .int .i64 0] 29)).cell? ⟨b9, 0, none⟩ = some (.int .i64 0) := (P12.frame hA13 (by omega)).1.cell 0
          have c13 : (w12.alloc (.cells #[.int .i64 0, .int .i64 0] 29)).cell? ⟨b13, 0, none⟩ = some (.int .i64 0) := (L12.frame hA13 (by omega)).1.cell 0
          have HBF := hid (B2.out.trans (((E11.out.trans (hK12.evo.wide (by omega) (by omega))).trans (hA13.none (by omega))).none0.mono B2.out.size))
          have hcat : (⟨D1.1.toArray⟩ : ByteArray) ++ ⟨D3.1.toArray⟩ = ⟨D2.1.toArray⟩ := by rw [← HJ.out]; exact ba_append _ _
          have l1 : (⟨D1.1.toArray⟩ : ByteArray).size = D1.1.length := by simp [ByteArray.size]
          have l3 : (⟨D3.1.toArray⟩ : ByteArray).size = D3.1.length := by simp [ByteArray.size]
          have z1 := Z1.out
          have z3 := Z3.out
          rw [← l1] at z1
          rw [← l3] at z3
          clear hK12 CD P12 L12 hA13 P11 L11 E11 l1 l3
          generalize (⟨D1.1.toArray⟩ : ByteArray) = s1 at *
          generalize (⟨D3.1.toArray⟩ : ByteArray) = s3 at *
          generalize (⟨D2.1.toArray⟩ : ByteArray) = s2 at *
          have hq : ((s1 ++ s3).toList == s2.toList) = true := by rw [hcat]; simp
          have HC := hid hcat
          clear hcat
          go_wp2
          go_ret
          exact ⟨rfl, HBF.out⟩
        · have hjb := joins_bad hLl k (by rw [HF2.out]; exact hz)
          rw [HF1.out, HF3.out] at hjb
          have hz2 : (F2.1 != 0) = true := by simpa using hz
          have HBF := hid (B2.out.trans (E10.out.none0.mono B2.out.size))
          clear hLl P10 Q10 L10
          by_cases hz1 : F1.1 = 0
          · have hz3 : (F3.1 != 0) = true := by
              rcases hjb with h | h
              · exact absurd hz1 h
              · simpa using h
            have hz4 : (F1.1 != 0) = false := by simp [hz1]
            clear hjb hz
            go_wp2
            go_ret
            exact ⟨rfl, HBF.out⟩
          · have hz4 : (F1.1 != 0) = true := by simpa using hz1
            clear hjb hz
            go_wp2
            go_ret
            exact ⟨rfl, HBF.out⟩

end Go.Proofs.YtoiobhcgpajogabGreatDoor
