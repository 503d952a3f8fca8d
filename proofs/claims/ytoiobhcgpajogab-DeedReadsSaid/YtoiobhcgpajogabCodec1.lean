/- The walks of table.Check and PairsFault. -/
import Derived.Test.YtoiobhcgpajogabKit
namespace Go.Proofs.Ytoiobhcgpajogab
open Go.RowKit

def ckPs (prev : Int) : List Ent → Int
  | [] => 0
  | x :: l => if x.n < 0 ∨ 8 ≤ x.n then 1 else if x.n ≤ prev then 5 else if ckV x.v ≠ 0 then ckV x.v else ckPs x.n l

def prevAt (l : List Ent) (k : Nat) : Int := match k with | 0 => -1 | k + 1 => (l.getD k default).n

theorem ckV_cases (v : Val) : ckV v = 0 ∨ ckV v = 2 ∨ ckV v = 4 := by
  unfold ckV
  split
  · exact .inr (.inl rfl)
  · split
    · exact .inr (.inr rfl)
    · exact .inl rfl

theorem chain_Key_in (k : Int) (w : World) (h : 0 ≤ k ∧ k < 8) : Calls Try.prog 58 #[.int .i64 k] w fun e w' => e = .returned (.bool true) ∧ w = w' := by
  refine (chain_Key k w).mono ?_
  rintro e w' ⟨rfl, rfl⟩
  exact ⟨by simp [h.1, h.2], rfl⟩
theorem chain_Key_out (k : Int) (w : World) (h : k < 0 ∨ 8 ≤ k) : Calls Try.prog 58 #[.int .i64 k] w fun e w' => e = .returned (.bool false) ∧ w = w' := by
  refine (chain_Key k w).mono ?_
  rintro e w' ⟨rfl, rfl⟩
  exact ⟨by simp; omega, rfl⟩
theorem ref_IsKey_in (k : Int) (w : World) (h : 0 ≤ k ∧ k < 8) : Calls Try.prog 21 #[.int .i64 k] w fun e w' => e = .returned (.bool true) ∧ w = w' := by
  refine (ref_IsKey k w).mono ?_
  rintro e w' ⟨rfl, rfl⟩
  exact ⟨by simp [h.1, h.2], rfl⟩
theorem ref_IsKey_out (k : Int) (w : World) (h : k < 0 ∨ 8 ≤ k) : Calls Try.prog 21 #[.int .i64 k] w fun e w' => e = .returned (.bool false) ∧ w = w' := by
  refine (ref_IsKey k w).mono ?_
  rintro e w' ⟨rfl, rfl⟩
  exact ⟨by simp; omega, rfl⟩

theorem loc_three {w : World} {b : Nat} {T : TypeId} {x y z : Value} (h : Loc w b T [x, y, z]) : w.cell? ⟨b, 0, none⟩ = some x ∧ w.cell? ⟨b, 1, none⟩ = some y ∧ w.cell? ⟨b, 2, none⟩ = some z := ⟨h.cell 0, h.cell 1, h.cell 2⟩

theorem ckPs_step (pv : Int) (x : Ent) (l : List Ent) (h : 0 ≤ x.n ∧ x.n < 8) (h2 : pv < x.n) : ckPs pv (x :: l) = if ckV x.v ≠ 0 then ckV x.v else ckPs x.n l := by
  rw [ckPs, if_neg (by omega), if_neg (by omega)]
theorem ckPs_range (pv : Int) (x : Ent) (l : List Ent) (h : x.n < 0 ∨ 8 ≤ x.n) : ckPs pv (x :: l) = 1 := by rw [ckPs, if_pos h]
theorem ckPs_order (pv : Int) (x : Ent) (l : List Ent) (h : 0 ≤ x.n ∧ x.n < 8) (h2 : x.n ≤ pv) : ckPs pv (x :: l) = 5 := by rw [ckPs, if_neg (by omega), if_pos h2]

set_option maxHeartbeats 2000000 in
set_option maxRecDepth 100000 in
theorem table_Check (a : Option Addr) (cap : Nat) (l : List Ent) (w : World) (hn : l.length ≤ 1000000) (hv : ∀ x ∈ l, x.v.bytes.size ≤ maxLen) (h : SliceAt w a (encEnts l)) :
    Calls Try.prog 54 #[.slice a l.length cap] w (ValPost (ckPs (-1) l) w) := by
  have H := hid h
  have HV := hid hv
  have fin : ∀ x, ckPs (-1) l = x → ∀ w' : World, Below w.heap.size w w' → ValPost (ckPs (-1) l) w (.returned (.int .i64 x)) w' := fun x hx w' hb => ⟨by rw [hx], hb⟩
  have F := hid fin
  clear h hv fin
  go_enter Try.func54, Try.ntmps54
  go_wp2
  go_loopw [8] (fun i wr => ∃ k : Nat, k ≤ l.length ∧ i = .int .i64 k ∧ Hid (ckPs (-1) l = ckPs (prevAt l k) (l.drop k)) ∧ Below w.heap.size w wr) (fun i _ => l.length - (intOf i).toNat)
  case atStart => exact ⟨0, Nat.zero_le _, rfl, hid rfl, Below.refl _ _⟩
  case round =>
    obtain ⟨k, hk, rfl, HR, hb⟩ := hrel
    by_cases hlt : k < l.length
    · have hd := List.drop_eq_getElem_cons hlt
      rw [hd] at HR
      have hnx : prevAt l (k + 1) = l[k].n := by simp [prevAt, List.getD, List.getElem?_eq_getElem hlt]
      have hsz := HV.out l[k] (List.getElem_mem _)
      obtain ⟨b1, o1, rfl, v1⟩ := H.out.ents (by omega)
      obtain ⟨p1, p2, p3⟩ := v1 k hlt
      have l1 := World.block_lt_of_cell? w _ p1
      simp only at l1
      have P1 := (below_cell hb l1).trans p1
      have P2 := (below_cell hb l1).trans p2
      have P3 := (below_cell hb l1).trans p3
      have PP : 0 < k → w.cell? ⟨b1, o1 + (k - 1) * 3, none⟩ = some (.int .i64 (prevAt l k)) := by
        intro h0
        obtain ⟨j, rfl⟩ : ∃ j, k = j + 1 := ⟨k - 1, by omega⟩
        have := (v1 j (by omega)).1
        simpa [prevAt, List.getD, List.getElem?_eq_getElem (show j < l.length by omega)] using this
      have hp0 : k = 0 → prevAt l k = -1 := by rintro rfl; rfl
      have HP := hid PP
      have HP0 := hid hp0
      have HB := hid hb
      have HN := hid hnx
      have HS := hid hsz
      have hbb : b1 ≠ wr.heap.size := by have := hb.size; omega
      clear v1 p1 p2 p3 hb hd hnx PP hp0 hsz
      generalize l[k] = x at *
      generalize prevAt l k = pv at *
      have hki : (k : Int) < (l.length : Int) := by omega
      have hk0 : (0 : Int) ≤ (k : Int) := by omega
      go_wp2_with fail
      have L1 := hid (Loc.new wr 42 [.int .i64 x.n, .bool x.v.there, .string x.v.bytes])
      have HB1 := hid (HB.out.alloc HB.out.size (.cells #[.int .i64 x.n, .bool x.v.there, .string x.v.bytes] 42))
      have P1q : 0 < k → (wr.alloc (.cells #[.int .i64 x.n, .bool x.v.there, .string x.v.bytes] 42)).cell? ⟨b1, o1 + (k - 1) * 3, none⟩ = some (.int .i64 pv) := fun h0 => (HB1.out.cell (p := ⟨b1, o1 + (k - 1) * 3, none⟩) l1).trans (HP.out h0)
      generalize wr.alloc (.cells #[.int .i64 x.n, .bool x.v.there, .string x.v.bytes] 42) = W1 at *
      obtain ⟨Q1, Q2, Q3⟩ := loc_three L1.out
      by_cases hr : 0 ≤ x.n ∧ x.n < 8
      · have CK := hid (chain_Key_in x.n W1 hr)
        refine CK.out.mono ?_
        rintro e w' ⟨rfl, rfl⟩
        have HR0 := hid hr
        by_cases h0 : k = 0
        · have hpv := HP0.out h0
          have z0 : decide ((0 : Int) < (k : Int)) = false := by simp [h0]
          clear P1q
          have P1q := True.intro
          have d1 : ckPs (-1) l = if ckV x.v ≠ 0 then ckV x.v else ckPs x.n (l.drop (k + 1)) := by rw [HR.out, ckPs_step _ _ _ hr (by omega)]
          have D1 := hid d1
          clear d1
          go_wp2_with fail
          go_quiet (fail)
          have HBq := hid (HB1.out.trans ((below_drewN W1 nq).mono HB1.out.size))
          have Lq := hid (L1.out.drewN nq)
          generalize W1.drewN nq = W2 at *
          obtain ⟨t0, t1, t2⟩ := loc_three Lq.out
          clear Q1 Q2 Q3 P1q
          go_wp2_with fail
          refine (chain_Check _ _ _ HS.out).mono ?_
          rintro e w2 ⟨rfl, hb2⟩
          have HB2 := hid (HBq.out.trans (hb2.mono HBq.out.size))
          clear hb2 t0 t1 t2
          rcases ckV_cases x.v with hc | hc | hc
          · have hc2 := hc
            rw [show ckV ⟨x.v.there, x.v.bytes⟩ = 0 from hc]
            have HR2 := hid (show ckPs (-1) l = ckPs (prevAt l (k + 1)) (l.drop (k + 1)) by rw [D1.out, hc, HN.out]; rfl)
            clear hc hc2
            go_wp2
            go_roundw
            case rel => exact ⟨k + 1, by omega, by go_num, HR2, HB2.out⟩
            case measure => simp [intOf]; omega
          · rw [show ckV ⟨x.v.there, x.v.bytes⟩ = 2 from hc]
            have HR2 := hid (show ckPs (-1) l = 2 by rw [D1.out, hc]; rfl)
            clear hc
            go_wp2
            go_ret
            exact F.out _ HR2.out _ HB2.out
          · rw [show ckV ⟨x.v.there, x.v.bytes⟩ = 4 from hc]
            have HR2 := hid (show ckPs (-1) l = 4 by rw [D1.out, hc]; rfl)
            clear hc
            go_wp2
            go_ret
            exact F.out _ HR2.out _ HB2.out
        · have h0' : 0 < k := by omega
          have z0 : (0 : Int) < (k : Int) := by omega
          have z1 : IntKind.i64.wrap ((k : Int) - 1) = (k : Int) - 1 := IntWalk.i64_in _ ⟨by omega, by omega⟩
          have z2 : ((k : Int) - 1).toNat = k - 1 := by omega
          have z3 : (0 : Int) ≤ (k : Int) - 1 := by omega
          have z4 : (k : Int) - 1 < (l.length : Int) := by omega
          have P1q := P1q h0'
          by_cases ho : x.n ≤ pv
          · have HF := hid (show ckPs (-1) l = 5 by rw [HR.out, ckPs_order _ _ _ hr ho])
            clear hr
            go_wp2_with fail
            go_quiet (fail)
            have HBq := hid (HB1.out.trans ((below_drewN W1 nq).mono HB1.out.size))
            go_wp2
            go_ret
            exact F.out _ HF.out _ HBq.out
          · have ho2 : pv < x.n := by omega
            have d1 : ckPs (-1) l = if ckV x.v ≠ 0 then ckV x.v else ckPs x.n (l.drop (k + 1)) := by rw [HR.out, ckPs_step _ _ _ hr (by omega)]
            have D1 := hid d1
            clear d1
            go_wp2_with fail
            go_quiet (fail)
            have HBq := hid (HB1.out.trans ((below_drewN W1 nq).mono HB1.out.size))
            have Lq := hid (L1.out.drewN nq)
            generalize W1.drewN nq = W2 at *
            obtain ⟨t0, t1, t2⟩ := loc_three Lq.out
            clear Q1 Q2 Q3 P1q
            go_wp2_with fail
            refine (chain_Check _ _ _ HS.out).mono ?_
            rintro e w2 ⟨rfl, hb2⟩
            have HB2 := hid (HBq.out.trans (hb2.mono HBq.out.size))
            clear hb2 t0 t1 t2
            rcases ckV_cases x.v with hc | hc | hc
            · have hc2 := hc
              rw [show ckV ⟨x.v.there, x.v.bytes⟩ = 0 from hc]
              have HR2 := hid (show ckPs (-1) l = ckPs (prevAt l (k + 1)) (l.drop (k + 1)) by rw [D1.out, hc, HN.out]; rfl)
              clear hc hc2
              go_wp2
              go_roundw
              case rel => exact ⟨k + 1, by omega, by go_num, HR2, HB2.out⟩
              case measure => simp [intOf]; omega
            · rw [show ckV ⟨x.v.there, x.v.bytes⟩ = 2 from hc]
              have HR2 := hid (show ckPs (-1) l = 2 by rw [D1.out, hc]; rfl)
              clear hc
              go_wp2
              go_ret
              exact F.out _ HR2.out _ HB2.out
            · rw [show ckV ⟨x.v.there, x.v.bytes⟩ = 4 from hc]
              have HR2 := hid (show ckPs (-1) l = 4 by rw [D1.out, hc]; rfl)
              clear hc
              go_wp2
              go_ret
              exact F.out _ HR2.out _ HB2.out
      · have hr2 : x.n < 0 ∨ 8 ≤ x.n := by omega
        have HF := hid (show ckPs (-1) l = 1 by rw [HR.out, ckPs_range _ _ _ hr2])
        have CK := hid (chain_Key_out x.n W1 hr2)
        refine CK.out.mono ?_
        rintro e w' ⟨rfl, rfl⟩
        clear hr hr2 P1q
        go_wp2
        go_ret
        exact F.out _ HF.out _ HB1.out
    · obtain rfl : k = l.length := by omega
      have hf : ckPs (-1) l = 0 := by rw [HR.out, List.drop_eq_nil_of_le (Nat.le_refl _)]; rfl
      have HF := hid hf
      have HB := hid hb
      clear hb hf
      go_wp2
      go_ret
      exact F.out _ HF.out _ HB.out

end Go.Proofs.Ytoiobhcgpajogab
