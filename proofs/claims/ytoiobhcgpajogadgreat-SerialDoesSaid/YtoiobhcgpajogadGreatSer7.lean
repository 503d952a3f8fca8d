/- The walk of SerialDoes. -/
import Derived.Test.YtoiobhcgpajogadGreatDkA
import Derived.Test.YtoiobhcgpajogadGreatReg
namespace Go.Proofs.YtoiobhcgpajogadGreat
open Go.RowKit

theorem ActsAt.f7 {w : World} {a : Option Addr} {l : List Acx} (h : ActsAt w a l) : ActsF w a l := ⟨h.1, fun z hz => (h.2 z hz).1.sl⟩
theorem DonesAt.f7 {w : World} {a : Option Addr} {l : List Dnx} (h : DonesAt w a l) : DonesF w a l := ⟨h.1, fun y hy => (h.2 y hy).1.f7⟩

theorem Tryz.infoArr7 : (Tryz.prog.info? 25).map (·.size) = some 16 := by kernel_rfl

theorem eq_valsA (f : Nat → Val) (w : World) : (Op.equalIn 10000 25 (.agg (vals8 f).toArray) (.agg (vals8 f).toArray)).run Tryz.prog w = .ok true w := by
  obtain ⟨h0, h1, h2⟩ := Tryz.infoVal2
  obtain ⟨info, hinfo⟩ := Option.ne_none_iff_exists'.1 h0
  rw [run_equalIn_array (P := Tryz.prog) w 9999 _ _ Tryz.underlying25 hinfo, h1]
  exact eqItems_self _ (fun i hi => ⟨_, part_val f w i (by simpa using hi), eq_val (f i) 9997 w⟩)

theorem run_eqVA (f : Nat → Val) (w : World) : (binOp .eql 25 (.agg (vals8 f).toArray) (.agg (vals8 f).toArray)).run Tryz.prog w = .ok (.bool true) w := by
  rw [run_eql_struct, eq_valsA]; rfl

section
variable {ops : Array Oper} {rest : List Oper} {o : Oper} {a : Act} {w : World} {Q : Exit → Act → World → Prop}
theorem wpList_eq_valsA (hw : Region.wanted o (yielded ops a.tmps) = true) (x y : Operand) (r : TypeId) (ho : o.op = .binOp .eql 25 x y r) (f : Nat → Val) (hx : a.eval x = .agg (vals8 f).toArray) (hy : a.eval y = .agg (vals8 f).toArray)
    (hK : wpList Tryz.prog ops Q rest (a.put o.dst (.bool true)) w) : wpList Tryz.prog ops Q (o :: rest) a w := by
  refine wpList_val hw _ ?_ hK
  unfold execOp
  simp only [ho, hx, hy, Sem.run_bind]
  rw [run_eqGuard_agg w .eql 25 x y _ _ (by kernel_rfl)]
  simp [run_eqVA]
end

/-- Two lists that tell the same. -/
theorem same_dones {M1 M2 : List Dnx} (h : M1.map Dnx.d = M2.map Dnx.d) : M1.length = M2.length ∧ ∀ i (h1 : i < M1.length) (h2 : i < M2.length), M1[i].n = M2[i].n ∧ M1[i].at_ = M2[i].at_ ∧ M1[i].mode = M2[i].mode ∧ M1[i].acts.map (·.a) = M2[i].acts.map (·.a) := by
  have hl : M1.length = M2.length := by have := congrArg List.length h; simpa using this
  refine ⟨hl, fun i h1 h2 => ?_⟩
  have e : (M1.map Dnx.d)[i]? = (M2.map Dnx.d)[i]? := by rw [h]
  rw [List.getElem?_map, List.getElem?_map, List.getElem?_eq_getElem h1, List.getElem?_eq_getElem h2] at e
  have e2 : M1[i].d = M2[i].d := by simpa using e
  exact ⟨congrArg Dn.n e2, congrArg Dn.at_ e2, congrArg Dn.mode e2, congrArg Dn.acts e2⟩

theorem same_acts {A1 A2 : List Acx} (h : A1.map (·.a) = A2.map (·.a)) : A1.length = A2.length ∧ ∀ i (h1 : i < A1.length) (h2 : i < A2.length), A1[i].a = A2[i].a := by
  have hl : A1.length = A2.length := by have := congrArg List.length h; simpa using this
  refine ⟨hl, fun i h1 h2 => ?_⟩
  have e : (A1.map (·.a))[i]? = (A2.map (·.a))[i]? := by rw [h]
  rw [List.getElem?_map, List.getElem?_map, List.getElem?_eq_getElem h1, List.getElem?_eq_getElem h2] at e
  simpa using e

set_option maxHeartbeats 8000000 in
set_option maxRecDepth 100000 in
theorem walk_SerialDoes (a : Option Addr) (cap : Nat) (l : List St) (f : Nat → Val) (am : Option Addr) (capm : Nat) (m : List Acx) (ad : Option Addr) (capd : Nat) (d : List Dnx) (w : World) (hl : l.length ≤ 9223372036854775807) (hA : StepsAt w a l)
    (hm : m.length ≤ 9223372036854775807) (hM : ActsAt w am m) (hd : d.length ≤ 9223372036854775807) (hD : DonesAt w ad d) :
    Calls Tryz.prog 3 #[.slice a l.length cap, .agg (vals8 f).toArray, .slice am m.length capm, .slice ad d.length capd] w (TruePost w) := by
  have HA := hid hA
  have HM := hid hM
  have HD := hid hD
  clear hA hM hD
  obtain ⟨i0, hi, hz0, hz1, hz2⟩ := info_parts Tryz.infoRDone
  go_enter Tryz.func3, Tryz.ntmps3
  go_wp2_with fail
  have hB0 := (Below.refl w.heap.size w).alloc (Nat.le_refl _) (.cells (vals8 f).toArray 25)
  have X0 := hid (Loc.new w 25 (vals8 f))
  (with_reducible refine (law_serialBegun _).mono ?_)
  rintro e w1 ⟨rfl, hb⟩
  have B1 := hid (hB0.trans (hb.mono hB0.size))
  have X1 := hid (X0.out.keep hb)
  clear hB0 X0 hb
  go_wp2_with fail
  (with_reducible refine (law_greatSteps a cap l w1 hl (HA.out.below B1.out)).mono ?_)
  rintro e w1' ⟨rfl, rfl⟩
  cases hg : greatS l with
  | true =>
    clear hg
    go_wp2
    go_ret
    exact ⟨rfl, B1.out⟩
  | false =>
  obtain ⟨h200, h100⟩ := greatS_false hg
  have HL100 := hid (show ∀ x ∈ l, x.bytes.size ≤ maxLen from fun x hx => by have := h100 x hx; unfold maxLen; omega)
  clear hg h100
  go_wp2_with fail
  (with_reducible refine (law_greatActs am capm m w1 hm (HM.out.below B1.out)).mono ?_)
  rintro e w2 ⟨rfl, hb⟩
  have B2 := hid (B1.out.trans (hb.mono B1.out.size))
  have X2 := hid (X1.out.keep hb)
  clear hb B1 X1
  cases hg : greatA m with
  | true =>
    clear hg
    go_wp2
    go_ret
    exact ⟨rfl, B2.out⟩
  | false =>
  obtain ⟨hm150, hmz⟩ := greatA_false hg
  have HMZ := hid (show ∀ z ∈ m, z.a.l.length ≤ 1000000 from fun z hz => by have := (hmz z hz).2; omega)
  clear hg hmz
  go_wp2_with fail
  (with_reducible refine (law_greatDone ad capd d w2 hd (HD.out.below B2.out)).mono ?_)
  rintro e w3 ⟨rfl, hb⟩
  have B3 := hid (B2.out.trans (hb.mono B2.out.size))
  have X3 := hid (X2.out.keep hb)
  clear hb B2 X2
  cases hg : greatDl d with
  | true =>
    clear hg
    go_wp2
    go_ret
    exact ⟨rfl, B3.out⟩
  | false =>
  obtain ⟨hd60, hdz⟩ := greatDl_false hg
  have HDL := hid (show ∀ y ∈ d, y.acts.length ≤ 1000000 ∧ ∀ z ∈ y.acts, z.a.l.length ≤ 1000000 from fun y hy => by
    obtain ⟨h1, h2⟩ := greatA_false (hdz y hy).1
    exact ⟨by omega, fun z hz => by have := (h2 z hz).2; omega⟩)
  have HDN := hid (show ∀ y ∈ d, y.n ≤ 1000000 from fun y hy => by have := (hdz y hy).2.1; omega)
  clear hg hdz
  go_wp2_with fail
  refine (law_noted a cap l w3 (by omega) HL100.out (HA.out.below B3.out)).mono ?_
  rintro e w4 ⟨a4, c4, M1, rfl, hD1, hM1, hb, hn1, hl1, -, -⟩
  have B4 := hid (B3.out.trans (hb.mono B3.out.size))
  have X4 := hid (X3.out.keep hb)
  clear hb B3 X3
  go_wp2_with fail
  refine (ref_Deeds a cap l w4 (by omega) HL100.out (HA.out.below B4.out)).mono ?_
  rintro e w5 ⟨a5, c5, M2, rfl, hD2, hM2, hb, hn2, hl2⟩
  have B5 := hid (B4.out.trans (hb.mono B4.out.size))
  have X5 := hid (X4.out.keep hb)
  have D1 := hid (hD1.below hb)
  have D2 := hid hD2
  have SD := hid (same_dones (hM1.trans hM2.symm))
  have L1 := hid (show ∀ y ∈ M1, y.acts.length ≤ 1000000 ∧ ∀ z ∈ y.acts, z.a.l.length ≤ 1000000 from fun y hy => ⟨by have := (hl1 y hy).1; omega, fun z hz => by have := (hl1 y hy).2 z hz; omega⟩)
  clear hb B4 X4 hD1 hD2 hM1 hM2 hl1 hl2
  have hlen := SD.out.1
  have hlz : ((M1.length : Int) != (M2.length : Int)) = false := by simp [hlen]
  have hM63 : (M1.length : Int) ≤ 9223372036854775807 := by omega
  have HLEN := hid hlen
  clear hlen
  go_wp2
  clear hlz
  go_loopw [11] (fun i wr => ∃ k : Nat, k ≤ M1.length ∧ i = .int .i64 k ∧ Hid (Below w5.heap.size w5 wr)) (fun i _ => M1.length - (intOf i).toNat)
  case atStart => exact ⟨0, Nat.zero_le _, rfl, hid (Below.refl _ _)⟩
  case round =>
    obtain ⟨k, hk, rfl, HB⟩ := hrel
    by_cases hlt : k < M1.length
    · have hlt2 : k < M2.length := by have := HLEN.out; omega
      obtain ⟨sb, off, rfl, hsb, hf⟩ := D1.out.facts (by omega)
      obtain ⟨e0, e1, e2, e3, hAF1⟩ := hf k hlt
      obtain ⟨tb, tof, rfl, htb, hf2⟩ := D2.out.facts (by omega)
      obtain ⟨q0, q1, q2, q3, hAF2⟩ := hf2 k hlt2
      obtain ⟨s0, s1, s2, s3⟩ := SD.out.2 k hlt hlt2
      rw [← s0] at q0
      rw [← s1] at q1
      rw [← s2] at q2
      obtain ⟨sl, sz⟩ := same_acts s3
      rw [← sl] at q3
      have HAF1 := hid hAF1
      have HAF2 := hid hAF2
      have SZ := hid sz
      have SL := hid sl
      have HE := hid (fun W (h : Below w5.heap.size w5 W) => And.intro ((below_cell h hsb).trans e3) ((below_cell h htb).trans q3))
      have HL := hid (L1.out M1[k] (List.getElem_mem _))
      have e0 := (below_cell HB.out hsb).trans e0
      have e1 := (below_cell HB.out hsb).trans e1
      have e2 := (below_cell HB.out hsb).trans e2
      have e3 := (below_cell HB.out hsb).trans e3
      have q0 := (below_cell HB.out htb).trans q0
      have q1 := (below_cell HB.out htb).trans q1
      have q2 := (below_cell HB.out htb).trans q2
      have q3 := (below_cell HB.out htb).trans q3
      clear hf hf2 hAF1 hAF2 s0 s1 s2 s3 sz sl
      generalize M2[k] = y2 at *
      generalize M1[k] = y1 at *
      have ha63 : (y1.acts.length : Int) ≤ 9223372036854775807 := by have := HL.out.1; omega
      have hki : (k : Int) < (M1.length : Int) := by omega
      have hki2 : (k : Int) < (M2.length : Int) := by omega
      have hk0 : (0 : Int) ≤ (k : Int) := by omega
      have z0 : (y1.n != y1.n) = false := by simp
      have z1 : (y1.at_ != y1.at_) = false := by simp
      have z2 : (y1.mode != y1.mode) = false := by simp
      have z3 : ((y1.acts.length : Int) != (y1.acts.length : Int)) = false := by simp
      go_wp2_with fail
      go_quiet (fail)
      have HBq := hid (HB.out.trans ((below_drewN wr nq).mono HB.out.size))
      clear e0 e1 e2 e3 q0 q1 q2 q3 z0 z1 z2 z3 HB
      generalize wr.drewN nq = wq at *
      go_wp2
      go_loopw [12] (fun i wr => ∃ j : Nat, j ≤ y1.acts.length ∧ i = .int .i64 j ∧ Hid (Below w5.heap.size w5 wr)) (fun i _ => y1.acts.length - (intOf i).toNat)
      case atStart => exact ⟨0, Nat.zero_le _, rfl, HBq⟩
      case round =>
        clear HBq
        obtain ⟨j, hj, rfl, HB⟩ := hrel
        obtain ⟨E3, Q3⟩ := HE.out _ HB.out
        by_cases hltj : j < y1.acts.length
        · have hltj2 : j < y2.acts.length := by have := SL.out; omega
          obtain ⟨b3, o3, hs3, hb3, hv3⟩ := HAF1.out.facts (by omega)
          obtain ⟨b4, o4, hs4, hb4, hv4⟩ := HAF2.out.facts (by omega)
          rw [hs3] at E3
          rw [hs4] at Q3
          obtain ⟨f0, f1, f2, f3, f4, f5, fl⟩ := hv3 j hltj
          obtain ⟨g0, g1, g2, g3, g4, g5, gl⟩ := hv4 j hltj2
          have hz := SZ.out j hltj hltj2
          have hz8 := HL.out.2 y1.acts[j] (List.getElem_mem _)
          clear hv3 hv4 hs3 hs4
          generalize y2.acts[j] = z2 at *
          generalize y1.acts[j] = z1 at *
          rw [← hz] at g0 g1 g2 g3 g4 g5 gl
          have FL := hid fl
          have GL := hid gl
          have hji : (j : Int) < (y1.acts.length : Int) := by omega
          have hj0 : (0 : Int) ≤ (j : Int) := by omega
          go_upto_region 16 with (fail)
          have HBd := hid (HB.out.trans ((Below.refl wr.heap.size wr).drew.mono HB.out.size))
          have hS0 : wr.drew.cell? ⟨sb, off + k * 4 + 3, none⟩ = some (.slice (some ⟨b3, o3, none⟩) y1.acts.length y1.cap) ∧ wr.drew.cell? ⟨tb, tof + k * 4 + 3, none⟩ = some (.slice (some ⟨b4, o4, none⟩) y1.acts.length y2.cap) ∧ wr.drew.cell? ⟨b3, o3 + j * 6, none⟩ = some (.int .i64 z1.a.kind) ∧ wr.drew.cell? ⟨b3, o3 + j * 6 + 1, none⟩ = some (.int .i64 z1.a.key) ∧ wr.drew.cell? ⟨b3, o3 + j * 6 + 2, none⟩ = some (.int .i64 z1.a.to_) ∧ wr.drew.cell? ⟨b3, o3 + j * 6 + 3, none⟩ = some (.bool z1.a.v.there) ∧ wr.drew.cell? ⟨b3, o3 + j * 6 + 4, none⟩ = some (.string z1.a.v.bytes) ∧ wr.drew.cell? ⟨b3, o3 + j * 6 + 5, none⟩ = some (.slice z1.ad z1.a.l.length z1.cap) ∧ wr.drew.cell? ⟨b4, o4 + j * 6, none⟩ = some (.int .i64 z1.a.kind) ∧ wr.drew.cell? ⟨b4, o4 + j * 6 + 1, none⟩ = some (.int .i64 z1.a.key) ∧ wr.drew.cell? ⟨b4, o4 + j * 6 + 2, none⟩ = some (.int .i64 z1.a.to_) ∧ wr.drew.cell? ⟨b4, o4 + j * 6 + 3, none⟩ = some (.bool z1.a.v.there) ∧ wr.drew.cell? ⟨b4, o4 + j * 6 + 4, none⟩ = some (.string z1.a.v.bytes) ∧ wr.drew.cell? ⟨b4, o4 + j * 6 + 5, none⟩ = some (.slice z2.ad z1.a.l.length z2.cap) := ⟨E3, Q3, (below_cell HB.out hb3).trans f0, (below_cell HB.out hb3).trans f1, (below_cell HB.out hb3).trans f2, (below_cell HB.out hb3).trans f3, (below_cell HB.out hb3).trans f4, (below_cell HB.out hb3).trans f5, (below_cell HB.out hb4).trans g0, (below_cell HB.out hb4).trans g1, (below_cell HB.out hb4).trans g2, (below_cell HB.out hb4).trans g3, (below_cell HB.out hb4).trans g4, (below_cell HB.out hb4).trans g5⟩
          have KS := hid (fun W (h : Below wr.drew.heap.size wr.drew W) => (show W.cell? ⟨sb, off + k * 4 + 3, none⟩ = some (.slice (some ⟨b3, o3, none⟩) y1.acts.length y1.cap) ∧ W.cell? ⟨tb, tof + k * 4 + 3, none⟩ = some (.slice (some ⟨b4, o4, none⟩) y1.acts.length y2.cap) ∧ W.cell? ⟨b3, o3 + j * 6, none⟩ = some (.int .i64 z1.a.kind) ∧ W.cell? ⟨b3, o3 + j * 6 + 1, none⟩ = some (.int .i64 z1.a.key) ∧ W.cell? ⟨b3, o3 + j * 6 + 2, none⟩ = some (.int .i64 z1.a.to_) ∧ W.cell? ⟨b3, o3 + j * 6 + 3, none⟩ = some (.bool z1.a.v.there) ∧ W.cell? ⟨b3, o3 + j * 6 + 4, none⟩ = some (.string z1.a.v.bytes) ∧ W.cell? ⟨b3, o3 + j * 6 + 5, none⟩ = some (.slice z1.ad z1.a.l.length z1.cap) ∧ W.cell? ⟨b4, o4 + j * 6, none⟩ = some (.int .i64 z1.a.kind) ∧ W.cell? ⟨b4, o4 + j * 6 + 1, none⟩ = some (.int .i64 z1.a.key) ∧ W.cell? ⟨b4, o4 + j * 6 + 2, none⟩ = some (.int .i64 z1.a.to_) ∧ W.cell? ⟨b4, o4 + j * 6 + 3, none⟩ = some (.bool z1.a.v.there) ∧ W.cell? ⟨b4, o4 + j * 6 + 4, none⟩ = some (.string z1.a.v.bytes) ∧ W.cell? ⟨b4, o4 + j * 6 + 5, none⟩ = some (.slice z2.ad z1.a.l.length z2.cap) from ⟨(below_cell h (by exact Nat.lt_of_lt_of_le hsb HB.out.size)).trans hS0.1, (below_cell h (by exact Nat.lt_of_lt_of_le htb HB.out.size)).trans hS0.2.1, (below_cell h (by exact Nat.lt_of_lt_of_le hb3 HB.out.size)).trans hS0.2.2.1, (below_cell h (by exact Nat.lt_of_lt_of_le hb3 HB.out.size)).trans hS0.2.2.2.1, (below_cell h (by exact Nat.lt_of_lt_of_le hb3 HB.out.size)).trans hS0.2.2.2.2.1, (below_cell h (by exact Nat.lt_of_lt_of_le hb3 HB.out.size)).trans hS0.2.2.2.2.2.1, (below_cell h (by exact Nat.lt_of_lt_of_le hb3 HB.out.size)).trans hS0.2.2.2.2.2.2.1, (below_cell h (by exact Nat.lt_of_lt_of_le hb3 HB.out.size)).trans hS0.2.2.2.2.2.2.2.1, (below_cell h (by exact Nat.lt_of_lt_of_le hb4 HB.out.size)).trans hS0.2.2.2.2.2.2.2.2.1, (below_cell h (by exact Nat.lt_of_lt_of_le hb4 HB.out.size)).trans hS0.2.2.2.2.2.2.2.2.2.1, (below_cell h (by exact Nat.lt_of_lt_of_le hb4 HB.out.size)).trans hS0.2.2.2.2.2.2.2.2.2.2.1, (below_cell h (by exact Nat.lt_of_lt_of_le hb4 HB.out.size)).trans hS0.2.2.2.2.2.2.2.2.2.2.2.1, (below_cell h (by exact Nat.lt_of_lt_of_le hb4 HB.out.size)).trans hS0.2.2.2.2.2.2.2.2.2.2.2.2.1, (below_cell h (by exact Nat.lt_of_lt_of_le hb4 HB.out.size)).trans hS0.2.2.2.2.2.2.2.2.2.2.2.2.2⟩))
          clear E3 Q3 f0 f1 f2 f3 f4 f5 g0 g1 g2 g3 g4 g5 fl gl hz HB
          -- REGION 16
          refine wp_region_noPanic ?_
          refine wp_region_held_drew (S := (fun W : World => W.cell? ⟨sb, off + k * 4 + 3, none⟩ = some (.slice (some ⟨b3, o3, none⟩) y1.acts.length y1.cap) ∧ W.cell? ⟨tb, tof + k * 4 + 3, none⟩ = some (.slice (some ⟨b4, o4, none⟩) y1.acts.length y2.cap) ∧ W.cell? ⟨b3, o3 + j * 6, none⟩ = some (.int .i64 z1.a.kind) ∧ W.cell? ⟨b3, o3 + j * 6 + 1, none⟩ = some (.int .i64 z1.a.key) ∧ W.cell? ⟨b3, o3 + j * 6 + 2, none⟩ = some (.int .i64 z1.a.to_) ∧ W.cell? ⟨b3, o3 + j * 6 + 3, none⟩ = some (.bool z1.a.v.there) ∧ W.cell? ⟨b3, o3 + j * 6 + 4, none⟩ = some (.string z1.a.v.bytes) ∧ W.cell? ⟨b3, o3 + j * 6 + 5, none⟩ = some (.slice z1.ad z1.a.l.length z1.cap) ∧ W.cell? ⟨b4, o4 + j * 6, none⟩ = some (.int .i64 z1.a.kind) ∧ W.cell? ⟨b4, o4 + j * 6 + 1, none⟩ = some (.int .i64 z1.a.key) ∧ W.cell? ⟨b4, o4 + j * 6 + 2, none⟩ = some (.int .i64 z1.a.to_) ∧ W.cell? ⟨b4, o4 + j * 6 + 3, none⟩ = some (.bool z1.a.v.there) ∧ W.cell? ⟨b4, o4 + j * 6 + 4, none⟩ = some (.string z1.a.v.bytes) ∧ W.cell? ⟨b4, o4 + j * 6 + 5, none⟩ = some (.slice z2.ad z1.a.l.length z2.cap))) (by kernel_rfl) ?_ (fun hH0 => ?_)
          · (try dsimp only); (first | assumption | exact hS0)
          refine wpAnyH_take (i := 0) (v := ?_) (by simp only [List.getElem?_toArray, List.getElem?_cons_zero]; rfl) (by kernel_rfl) (by kernel_rfl) (by kernel_rfl) (fun _ _ _ h => h) (Or.inl ⟨by rfl, ?_⟩) (by assumption) ?_
          rotate_left
          · intro w hSw; (try dsimp only at hSw); go_simp; (try with_reducible rfl)
          try simp only [Act.put, List.setIfInBounds_toArray, List.set_cons_zero, List.set_cons_succ]
          refine wpAnyH_take (i := 1) (v := ?_) (by simp only [List.getElem?_toArray, List.getElem?_cons_zero, List.getElem?_cons_succ]; rfl) (by kernel_rfl) (by kernel_rfl) (by kernel_rfl) (fun _ _ _ h => h) (Or.inl ⟨by rfl, ?_⟩) (by assumption) ?_
          rotate_left
          · intro w hSw; (try dsimp only at hSw); go_simp; (try with_reducible rfl)
          try simp only [Act.put, List.setIfInBounds_toArray, List.set_cons_zero, List.set_cons_succ]
          refine wpAnyH_take (i := 2) (v := ?_) (by simp only [List.getElem?_toArray, List.getElem?_cons_zero, List.getElem?_cons_succ]; rfl) (by kernel_rfl) (by kernel_rfl) (by kernel_rfl) (fun _ _ _ h => h) (Or.inl ⟨by rfl, ?_⟩) (by assumption) ?_
          rotate_left
          · intro w hSw; (try dsimp only at hSw); go_simp; (try with_reducible rfl)
          try simp only [Act.put, List.setIfInBounds_toArray, List.set_cons_zero, List.set_cons_succ]
          refine wpAnyH_take (i := 3) (v := ?_) (by simp only [List.getElem?_toArray, List.getElem?_cons_zero, List.getElem?_cons_succ]; rfl) (by kernel_rfl) (by kernel_rfl) (by kernel_rfl) (fun _ _ _ h => h) (Or.inl ⟨by rfl, ?_⟩) (by assumption) ?_
          rotate_left
          · intro w hSw; (try dsimp only at hSw); go_simp; (try with_reducible rfl)
          try simp only [Act.put, List.setIfInBounds_toArray, List.set_cons_zero, List.set_cons_succ]
          refine wpAnyH_take (i := 4) (v := ?_) (by simp only [List.getElem?_toArray, List.getElem?_cons_zero, List.getElem?_cons_succ]; rfl) (by kernel_rfl) (by kernel_rfl) (by kernel_rfl) (fun _ _ _ h => h) (Or.inl ⟨by rfl, ?_⟩) (by assumption) ?_
          rotate_left
          · intro w hSw; (try dsimp only at hSw); go_simp; (try with_reducible rfl)
          try simp only [Act.put, List.setIfInBounds_toArray, List.set_cons_zero, List.set_cons_succ]
          refine wpAnyH_take (i := 5) (v := ?_) (by simp only [List.getElem?_toArray, List.getElem?_cons_zero, List.getElem?_cons_succ]; rfl) (by kernel_rfl) (by kernel_rfl) (by kernel_rfl) (fun _ _ _ h => h) (Or.inl ⟨by rfl, ?_⟩) (by assumption) ?_
          rotate_left
          · intro w hSw; (try dsimp only at hSw); go_simp; (try with_reducible rfl)
          try simp only [Act.put, List.setIfInBounds_toArray, List.set_cons_zero, List.set_cons_succ]
          refine wpAnyH_take (i := 6) (v := ?_) (by simp only [List.getElem?_toArray, List.getElem?_cons_zero, List.getElem?_cons_succ]; rfl) (by kernel_rfl) (by kernel_rfl) (by kernel_rfl) (fun _ _ _ h => h) (Or.inl ⟨by rfl, ?_⟩) (by assumption) ?_
          rotate_left
          · intro w hSw; (try dsimp only at hSw); go_simp; (try with_reducible rfl)
          try simp only [Act.put, List.setIfInBounds_toArray, List.set_cons_zero, List.set_cons_succ]
          refine wpAnyH_take (i := 7) (v := ?_) (by simp only [List.getElem?_toArray, List.getElem?_cons_zero, List.getElem?_cons_succ]; rfl) (by kernel_rfl) (by kernel_rfl) (by kernel_rfl) (fun _ _ _ h => h) (Or.inl ⟨by rfl, ?_⟩) (by assumption) ?_
          rotate_left
          · intro w hSw; (try dsimp only at hSw); go_simp; (try with_reducible rfl)
          try simp only [Act.put, List.setIfInBounds_toArray, List.set_cons_zero, List.set_cons_succ]
          refine wpAnyH_take (i := 8) (v := ?_) (by simp only [List.getElem?_toArray, List.getElem?_cons_zero, List.getElem?_cons_succ]; rfl) (by kernel_rfl) (by kernel_rfl) (by kernel_rfl) (fun _ _ _ h => h) (Or.inl ⟨by rfl, ?_⟩) (by assumption) ?_
          rotate_left
          · intro w hSw; (try dsimp only at hSw); go_simp; (try with_reducible rfl)
          try simp only [Act.put, List.setIfInBounds_toArray, List.set_cons_zero, List.set_cons_succ]
          refine wpAnyH_take (i := 9) (v := ?_) (by simp only [List.getElem?_toArray, List.getElem?_cons_zero, List.getElem?_cons_succ]; rfl) (by kernel_rfl) (by kernel_rfl) (by kernel_rfl) (fun _ _ _ h => h) (Or.inl ⟨by rfl, ?_⟩) (by assumption) ?_
          rotate_left
          · intro w hSw; (try dsimp only at hSw); go_simp; (try with_reducible rfl)
          try simp only [Act.put, List.setIfInBounds_toArray, List.set_cons_zero, List.set_cons_succ]
          refine wpAnyH_take (i := 10) (v := ?_) (by simp only [List.getElem?_toArray, List.getElem?_cons_zero, List.getElem?_cons_succ]; rfl) (by kernel_rfl) (by kernel_rfl) (by kernel_rfl) (fun _ _ _ h => h) (Or.inl ⟨by rfl, ?_⟩) (by assumption) ?_
          rotate_left
          · intro w hSw; (try dsimp only at hSw); go_simp; (try with_reducible rfl)
          try simp only [Act.put, List.setIfInBounds_toArray, List.set_cons_zero, List.set_cons_succ]
          refine wpAnyH_take (i := 11) (v := ?_) (by simp only [List.getElem?_toArray, List.getElem?_cons_zero, List.getElem?_cons_succ]; rfl) (by kernel_rfl) (by kernel_rfl) (by kernel_rfl) (fun _ _ _ h => h) (Or.inl ⟨by rfl, ?_⟩) (by assumption) ?_
          rotate_left
          · intro w hSw; (try dsimp only at hSw); go_simp; (try with_reducible rfl)
          try simp only [Act.put, List.setIfInBounds_toArray, List.set_cons_zero, List.set_cons_succ]
          refine wpAnyH_take (i := 12) (v := ?_) (by simp only [List.getElem?_toArray, List.getElem?_cons_zero, List.getElem?_cons_succ]; rfl) (by kernel_rfl) (by kernel_rfl) (by kernel_rfl) (fun _ _ _ h => h) (Or.inl ⟨by rfl, ?_⟩) (by assumption) ?_
          rotate_left
          · intro w hSw; (try dsimp only at hSw); go_simp; (try with_reducible rfl)
          try simp only [Act.put, List.setIfInBounds_toArray, List.set_cons_zero, List.set_cons_succ]
          refine wpAnyH_take (i := 13) (v := ?_) (by simp only [List.getElem?_toArray, List.getElem?_cons_zero, List.getElem?_cons_succ]; rfl) (by kernel_rfl) (by kernel_rfl) (by kernel_rfl) (fun _ _ _ h => h) (Or.inl ⟨by rfl, ?_⟩) (by assumption) ?_
          rotate_left
          · intro w hSw; (try dsimp only at hSw); go_simp; (try with_reducible rfl)
          try simp only [Act.put, List.setIfInBounds_toArray, List.set_cons_zero, List.set_cons_succ]
          refine wpAnyH_take (i := 14) (v := ?_) (by simp only [List.getElem?_toArray, List.getElem?_cons_zero, List.getElem?_cons_succ]; rfl) (by kernel_rfl) (by kernel_rfl) (by kernel_rfl) (fun _ _ _ h => h) (Or.inl ⟨by rfl, ?_⟩) (by assumption) ?_
          rotate_left
          · intro w hSw; (try dsimp only at hSw); go_simp; (try with_reducible rfl)
          try simp only [Act.put, List.setIfInBounds_toArray, List.set_cons_zero, List.set_cons_succ]
          refine wpAnyH_take (i := 15) (v := ?_) (by simp only [List.getElem?_toArray, List.getElem?_cons_zero, List.getElem?_cons_succ]; rfl) (by kernel_rfl) (by kernel_rfl) (by kernel_rfl) (fun _ _ _ h => h) (Or.inl ⟨by rfl, ?_⟩) (by assumption) ?_
          rotate_left
          · intro w hSw; (try dsimp only at hSw); go_simp; (try with_reducible rfl)
          try simp only [Act.put, List.setIfInBounds_toArray, List.set_cons_zero, List.set_cons_succ]
          refine wpAnyH_ready (rs := [16]) (by kernel_rfl) (by simp) ?_
          refine AllReadyH.cons (by simp only [List.getElem?_toArray, List.getElem?_cons_zero, List.getElem?_cons_succ]; rfl) (fun K hK => ?_) AllReadyH.nil
          go_simp
          go_at_call 10
          refine (law_sameAct z1.a z1.ad z2.ad z1.cap z2.cap wr.drew hz8 (sliceAt_below FL.out HBd.out) (sliceAt_below GL.out HBd.out)).mono ?_
          rintro e w9 ⟨rfl, hb9⟩
          have HB9 := hid (HBd.out.trans (hb9.mono HBd.out.size))
          have hS' := KS.out _ hb9
          clear hb9
          try go_wp2_with fail
          refine hK.out _ _ ?_ (fun hH1 => ?_)
          · (try dsimp only); (first | assumption | exact hS0)
          clear hK K hH0
          try simp only [Act.put, List.setIfInBounds_toArray, List.set_cons_zero, List.set_cons_succ]
          refine wpAnyH_take (i := 17) (v := ?_) (by simp only [List.getElem?_toArray, List.getElem?_cons_zero, List.getElem?_cons_succ]; rfl) (by kernel_rfl) (by kernel_rfl) (by kernel_rfl) (fun _ _ _ h => h) (Or.inl ⟨by rfl, ?_⟩) (by assumption) ?_
          rotate_left
          · intro w hSw; (try dsimp only at hSw); go_simp; (try with_reducible rfl)
          try simp only [Act.put, List.setIfInBounds_toArray, List.set_cons_zero, List.set_cons_succ]
          refine wpAnyH_done (by kernel_rfl) ?_ _
          refine NoPanic.normal ?_
          rotate_left
          -- END 16
          go_wp2
          go_roundw
          case rel => exact ⟨j + 1, by omega, by go_num, HB9⟩
          case measure => simp [intOf]; omega
        · obtain rfl : j = y1.acts.length := by omega
          go_wp2
          go_roundw
          case rel => exact ⟨k + 1, by omega, by go_num, HB⟩
          case measure => simp [intOf]; omega
    · obtain rfl : k = M1.length := by omega
      have hge : (M1.length : Int) ≤ (M1.length : Int) := Int.le_refl _
      have BW := hid (B5.out.trans (HB.out.mono B5.out.size))
      have XW := hid (X5.out.keep HB.out)
      have hm6 : m.length ≤ 1000000 := by omega
      clear HB B5 X5 D1 D2 SD L1 HLEN hM63
      go_wp2_with (refine wpList_load_all rfl _ (.tmp 5) rfl w.heap.size 0 rfl (vals8 f) _ XW.out.range Tryz.underlying25 rfl Tryz.infoArr7 ?_)
      refine (serial_Replay f am capm m wr hm6 HMZ.out ((HM.out.below BW.out).f7)).mono ?_
      rintro e w7 ⟨rfl, hb⟩
      have B7 := hid (BW.out.trans (hb.mono BW.out.size))
      have X7 := hid (XW.out.keep hb)
      clear hb BW XW
      have HR := hid (show replay f (m.map (·.a)) = replay f (m.map (·.a)) from rfl)
      generalize hR1 : replay f (m.map (·.a)) = R1 at *
      have HR1 := hid hR1
      clear hR1 HR
      go_upto_region 19 with (refine wpList_new_valsS w7 rfl (.tmp 13) (.tmp 130) rfl R1.1 rfl rfl ?_; intro w8 hL hb8; have L8 := hid hL; have B8 := hid (B7.out.trans (hb8.mono B7.out.size)); have X8 := hid (X7.out.keep hb8))
      generalize w7.heap.size = b13 at *
      clear B7 X7
      refine' join4 (fun (b : Nat) (_ : Option Addr) (_ : Nat) W => Below w8.heap.size w8 W ∧ Loc W b 48 (vals8 R1.1)) _ (fun HJ => ?_) (fun b15 ad7 c7 w9 hS9 => ?_)
      rotate_left
      · skip
        have AC := hid (fun W (h : Below w8.heap.size w8 W) => law_acts am capm m W hm6 ((HM.out.below (B8.out.trans (h.mono B8.out.size))).f7))
        have RR := hid (fun W (h : Below w8.heap.size w8 W) ad7 c7 (hA7 : ActsF W ad7 m) => (show Calls Tryz.prog 12 #[.agg (vals8 f).toArray, .slice ad7 m.length c7] W (SheetPost R1.1 R1.2 W) from by
          have := ref_Replay f ad7 c7 m W hm6 HMZ.out hA7
          rw [HR1.out] at this
          exact this))
        have KS := hid (fun W (h : Below w8.heap.size w8 W) => (show Below w8.heap.size w8 W ∧ W.rangeAt w.heap.size 0 (vals8 f) from ⟨h, (X8.out.keep h).range⟩))
        -- REGION 19
        refine wp_region_noPanic ?_
        refine wp_region_held_drew (S := (fun W' : World => Below w8.heap.size w8 W' ∧ W'.rangeAt w.heap.size 0 (vals8 f))) (by kernel_rfl) ?_ (fun hH0 => ?_)
        · (try dsimp only); (first | assumption | exact KS.out _ (Below.refl w8.heap.size w8).drew)
        refine wpAnyH_take (i := 0) (v := .agg (vals8 f).toArray) (by simp only [List.getElem?_toArray, List.getElem?_cons_zero]; rfl) (by kernel_rfl) (by kernel_rfl) (by kernel_rfl) (fun _ _ _ h => h) (yieldsIf_load_mid (by rfl) 25 _ rfl w.heap.size 0 rfl (vals8 f) _ (fun w h => h.2) Tryz.underlying25 rfl Tryz.infoArr7) (by assumption) ?_
        try simp only [Act.put, List.setIfInBounds_toArray, List.set_cons_zero, List.set_cons_succ]
        refine wpAnyH_take (i := 1) (v := ?_) (by simp only [List.getElem?_toArray, List.getElem?_cons_zero, List.getElem?_cons_succ]; rfl) (by kernel_rfl) (by kernel_rfl) (by kernel_rfl) (fun _ _ _ h => h) (Or.inl ⟨by rfl, ?_⟩) (by assumption) ?_
        rotate_left
        · intro w hSw; (try dsimp only at hSw); go_simp; (try with_reducible rfl)
        try simp only [Act.put, List.setIfInBounds_toArray, List.set_cons_zero, List.set_cons_succ]
        refine wpAnyH_ready (rs := [2, 7]) (by kernel_rfl) (by simp) ?_
        refine AllReadyH.cons (by simp only [List.getElem?_toArray, List.getElem?_cons_zero, List.getElem?_cons_succ]; rfl) (fun K hK => ?_) ?_
        · skip
          go_simp
          go_at_call 13
          have hS := (‹Below _ w8 _ ∧ _›).1
          (with_reducible refine (AC.out _ hS).mono ?_)
          rintro e w7 ⟨ad7, c7, rfl, hA7, hb7, -⟩
          have hS' := KS.out _ (hS.trans (hb7.mono (by first | exact hS.size | (have h1 := hS.size; have h2 := HB6.out; omega))))
          have AF7 := hid hA7
          try (have hLZ := LZ.out.keep hb7; clear LZ; have LZ := hid hLZ; clear hLZ)
          clear hb7 hS hA7
          try go_wp2_with fail
          refine hK.out _ _ ?_ (fun hH1 => ?_)
          · (try dsimp only); (first | assumption | exact KS.out _ (Below.refl w8.heap.size w8).drew)
          clear hK K hH0
          try simp only [Act.put, List.setIfInBounds_toArray, List.set_cons_zero, List.set_cons_succ]
          refine wpAnyH_ready (rs := [3, 7]) (by kernel_rfl) (by simp) ?_
          refine AllReadyH.cons (by simp only [List.getElem?_toArray, List.getElem?_cons_zero, List.getElem?_cons_succ]; rfl) (fun K hK => ?_) ?_
          · skip
            go_simp
            go_at_call 12
            have hS := (‹Below _ w8 _ ∧ _›).1
            (with_reducible refine (RR.out _ hS _ _ AF7.out).mono ?_)
            rintro e w7 ⟨rfl, hb7⟩
            have hS' := KS.out _ (hS.trans (hb7.mono (by first | exact hS.size | (have h1 := hS.size; have h2 := HB6.out; omega))))
            try (have hLZ := LZ.out.keep hb7; clear LZ; have LZ := hid hLZ; clear hLZ)
            clear hb7 hS AF7
            try go_wp2_with fail
            refine hK.out _ _ ?_ (fun hH2 => ?_)
            · (try dsimp only); (first | assumption | exact KS.out _ (Below.refl w8.heap.size w8).drew)
            clear hK K hH1
            try simp only [Act.put, List.setIfInBounds_toArray, List.set_cons_zero, List.set_cons_succ]
            refine wpAnyH_take (i := 4) (v := ?_) (by simp only [List.getElem?_toArray, List.getElem?_cons_zero, List.getElem?_cons_succ]; rfl) (by kernel_rfl) (by kernel_rfl) (by kernel_rfl) (fun _ _ _ h => h) (Or.inl ⟨by rfl, ?_⟩) (by assumption) ?_
            rotate_left
            · intro w hSw; (try dsimp only at hSw); go_simp; (try with_reducible rfl)
            try simp only [Act.put, List.setIfInBounds_toArray, List.set_cons_zero, List.set_cons_succ]
            refine wpAnyH_take (i := 5) (v := ?_) (by simp only [List.getElem?_toArray, List.getElem?_cons_zero, List.getElem?_cons_succ]; rfl) (by kernel_rfl) (by kernel_rfl) (by kernel_rfl) (fun _ _ _ h => h) (Or.inl ⟨by rfl, ?_⟩) (by assumption) ?_
            rotate_left
            · intro w hSw; (try dsimp only at hSw); go_simp; (try with_reducible rfl)
            try simp only [Act.put, List.setIfInBounds_toArray, List.set_cons_zero, List.set_cons_succ]
            refine wpAnyH_take (i := 6) (v := ?_) (by simp only [List.getElem?_toArray, List.getElem?_cons_zero, List.getElem?_cons_succ]; rfl) (by kernel_rfl) (by kernel_rfl) (by kernel_rfl) (fun _ _ _ h => h) (Or.inl ⟨by rfl, ?_⟩) (by assumption) ?_
            rotate_left
            · intro w hSw; (try dsimp only at hSw); go_simp; (try with_reducible rfl)
            try simp only [Act.put, List.setIfInBounds_toArray, List.set_cons_zero, List.set_cons_succ]
            refine wpAnyH_ready (rs := [7]) (by kernel_rfl) (by simp) ?_
            refine AllReadyH.cons (by simp only [List.getElem?_toArray, List.getElem?_cons_zero, List.getElem?_cons_succ]; rfl) (fun K hK => ?_) AllReadyH.nil
            go_simp
            have hS := (‹Below _ w8 _ ∧ _›).1
            first
              | (have LZ : Hid (Loc (w7.alloc (.cells #[.bool false, .string ⟨#[]⟩, .bool false, .string ⟨#[]⟩, .bool false, .string ⟨#[]⟩, .bool false, .string ⟨#[]⟩, .bool false, .string ⟨#[]⟩, .bool false, .string ⟨#[]⟩, .bool false, .string ⟨#[]⟩, .bool false, .string ⟨#[]⟩] 48)) w7.heap.size 48 (vals8 fun _ => Val.zero)) := hid (Loc.new w7 48 (vals8 fun _ => Val.zero)); have HBN := hid hS.size; have hS' := KS.out (w7.alloc (.cells #[.bool false, .string ⟨#[]⟩, .bool false, .string ⟨#[]⟩, .bool false, .string ⟨#[]⟩, .bool false, .string ⟨#[]⟩, .bool false, .string ⟨#[]⟩, .bool false, .string ⟨#[]⟩, .bool false, .string ⟨#[]⟩, .bool false, .string ⟨#[]⟩] 48)) (hS.alloc hS.size _); (try (have hAF := AF7.out.below ((Below.refl w7.heap.size w7).alloc (Nat.le_refl _) (.cells #[.bool false, .string ⟨#[]⟩, .bool false, .string ⟨#[]⟩, .bool false, .string ⟨#[]⟩, .bool false, .string ⟨#[]⟩, .bool false, .string ⟨#[]⟩, .bool false, .string ⟨#[]⟩, .bool false, .string ⟨#[]⟩, .bool false, .string ⟨#[]⟩] 48)); clear AF7; have AF7 := hid hAF; clear hAF)); clear hS; generalize w7.alloc (.cells #[.bool false, .string ⟨#[]⟩, .bool false, .string ⟨#[]⟩, .bool false, .string ⟨#[]⟩, .bool false, .string ⟨#[]⟩, .bool false, .string ⟨#[]⟩, .bool false, .string ⟨#[]⟩, .bool false, .string ⟨#[]⟩, .bool false, .string ⟨#[]⟩] 48) = w6 at *; generalize w7.heap.size = b6 at *)
              | (have LZ : Hid (Loc (w8.alloc (.cells #[.bool false, .string ⟨#[]⟩, .bool false, .string ⟨#[]⟩, .bool false, .string ⟨#[]⟩, .bool false, .string ⟨#[]⟩, .bool false, .string ⟨#[]⟩, .bool false, .string ⟨#[]⟩, .bool false, .string ⟨#[]⟩, .bool false, .string ⟨#[]⟩] 48)).drew w8.heap.size 48 (vals8 fun _ => Val.zero)) := hid (Loc.new w8 48 (vals8 fun _ => Val.zero)); have HBN := hid (Nat.le_refl w8.heap.size); have hS' := KS.out (w8.alloc (.cells #[.bool false, .string ⟨#[]⟩, .bool false, .string ⟨#[]⟩, .bool false, .string ⟨#[]⟩, .bool false, .string ⟨#[]⟩, .bool false, .string ⟨#[]⟩, .bool false, .string ⟨#[]⟩, .bool false, .string ⟨#[]⟩, .bool false, .string ⟨#[]⟩] 48)).drew (((Below.refl w8.heap.size w8).alloc (Nat.le_refl _) _).drew); clear hS; generalize (w8.alloc (.cells #[.bool false, .string ⟨#[]⟩, .bool false, .string ⟨#[]⟩, .bool false, .string ⟨#[]⟩, .bool false, .string ⟨#[]⟩, .bool false, .string ⟨#[]⟩, .bool false, .string ⟨#[]⟩, .bool false, .string ⟨#[]⟩, .bool false, .string ⟨#[]⟩] 48)).drew = w6 at *; generalize hb6 : w8.heap.size = b6 at *; have HB6 := hid hb6; clear hb6)
            try go_wp2_with fail
            refine hK.out _ _ ?_ (fun hH3 => ?_)
            · (try dsimp only); (first | assumption | exact KS.out _ (Below.refl w8.heap.size w8).drew)
            clear hK K hH2
            try simp only [Act.put, List.setIfInBounds_toArray, List.set_cons_zero, List.set_cons_succ]
            refine wpAnyH_ready (rs := [8]) (by kernel_rfl) (by simp) ?_
            refine AllReadyH.cons (by simp only [List.getElem?_toArray, List.getElem?_cons_zero, List.getElem?_cons_succ]; rfl) (fun K hK => ?_) AllReadyH.nil
            have hS := (‹Below _ w8 _ ∧ _›).1
            refine wp_store_mid 48 _ _ rfl _ 0 (vals8 R1.1).toArray rfl rfl (LZ.out.there8 R1.1) Tryz.infoWorld (vals8_one R1.1) ?_
            have hS' := KS.out _ (Below.setCells' HBN.out (vals8 R1.1) 0 hS)
            have LN := hid (LZ.out.setAll (vs := vals8 R1.1) rfl)
            clear hS
            first
              | (generalize w7.setCells b6 0 (vals8 R1.1) = wz at *; have LN2 : Hid (Loc wz b6 48 (vals8 R1.1)) := by with_reducible exact LN)
              | (generalize w6.setCells b6 0 (vals8 R1.1) = wz at *; have LN2 : Hid (Loc wz b6 48 (vals8 R1.1)) := by with_reducible exact LN)
            refine hK.out _ _ ?_ (fun hH4 => ?_)
            · (try dsimp only); (first | assumption | exact KS.out _ (Below.refl w8.heap.size w8).drew)
            clear hK K hH3
            try simp only [Act.put]
            refine wpAnyH_take (i := 9) (v := ?_) (by simp only [List.getElem?_toArray, List.getElem?_cons_zero, List.getElem?_cons_succ]; rfl) (by kernel_rfl) (by kernel_rfl) (by kernel_rfl) (fun _ _ _ h => h) (Or.inl ⟨by rfl, ?_⟩) (by assumption) ?_
            rotate_left
            · intro w hSw; (try dsimp only at hSw); go_simp; (try with_reducible rfl)
            try simp only [Act.put, List.setIfInBounds_toArray, List.set_cons_zero, List.set_cons_succ]
            refine wpAnyH_done (by kernel_rfl) ?_ _
            refine NoPanic.normal ?_
            exact HJ b6 ad7 c7 wz ⟨(‹Below _ w8 wz ∧ _›).1, LN2.out⟩
          refine AllReadyH.cons (by simp only [List.getElem?_toArray, List.getElem?_cons_zero, List.getElem?_cons_succ]; rfl) (fun K hK => ?_) AllReadyH.nil
          go_simp
          have hS := (‹Below _ w8 _ ∧ _›).1
          first
            | (have LZ : Hid (Loc (w7.alloc (.cells #[.bool false, .string ⟨#[]⟩, .bool false, .string ⟨#[]⟩, .bool false, .string ⟨#[]⟩, .bool false, .string ⟨#[]⟩, .bool false, .string ⟨#[]⟩, .bool false, .string ⟨#[]⟩, .bool false, .string ⟨#[]⟩, .bool false, .string ⟨#[]⟩] 48)) w7.heap.size 48 (vals8 fun _ => Val.zero)) := hid (Loc.new w7 48 (vals8 fun _ => Val.zero)); have HBN := hid hS.size; have hS' := KS.out (w7.alloc (.cells #[.bool false, .string ⟨#[]⟩, .bool false, .string ⟨#[]⟩, .bool false, .string ⟨#[]⟩, .bool false, .string ⟨#[]⟩, .bool false, .string ⟨#[]⟩, .bool false, .string ⟨#[]⟩, .bool false, .string ⟨#[]⟩, .bool false, .string ⟨#[]⟩] 48)) (hS.alloc hS.size _); (try (have hAF := AF7.out.below ((Below.refl w7.heap.size w7).alloc (Nat.le_refl _) (.cells #[.bool false, .string ⟨#[]⟩, .bool false, .string ⟨#[]⟩, .bool false, .string ⟨#[]⟩, .bool false, .string ⟨#[]⟩, .bool false, .string ⟨#[]⟩, .bool false, .string ⟨#[]⟩, .bool false, .string ⟨#[]⟩, .bool false, .string ⟨#[]⟩] 48)); clear AF7; have AF7 := hid hAF; clear hAF)); clear hS; generalize w7.alloc (.cells #[.bool false, .string ⟨#[]⟩, .bool false, .string ⟨#[]⟩, .bool false, .string ⟨#[]⟩, .bool false, .string ⟨#[]⟩, .bool false, .string ⟨#[]⟩, .bool false, .string ⟨#[]⟩, .bool false, .string ⟨#[]⟩, .bool false, .string ⟨#[]⟩] 48) = w6 at *; generalize w7.heap.size = b6 at *)
            | (have LZ : Hid (Loc (w8.alloc (.cells #[.bool false, .string ⟨#[]⟩, .bool false, .string ⟨#[]⟩, .bool false, .string ⟨#[]⟩, .bool false, .string ⟨#[]⟩, .bool false, .string ⟨#[]⟩, .bool false, .string ⟨#[]⟩, .bool false, .string ⟨#[]⟩, .bool false, .string ⟨#[]⟩] 48)).drew w8.heap.size 48 (vals8 fun _ => Val.zero)) := hid (Loc.new w8 48 (vals8 fun _ => Val.zero)); have HBN := hid (Nat.le_refl w8.heap.size); have hS' := KS.out (w8.alloc (.cells #[.bool false, .string ⟨#[]⟩, .bool false, .string ⟨#[]⟩, .bool false, .string ⟨#[]⟩, .bool false, .string ⟨#[]⟩, .bool false, .string ⟨#[]⟩, .bool false, .string ⟨#[]⟩, .bool false, .string ⟨#[]⟩, .bool false, .string ⟨#[]⟩] 48)).drew (((Below.refl w8.heap.size w8).alloc (Nat.le_refl _) _).drew); clear hS; generalize (w8.alloc (.cells #[.bool false, .string ⟨#[]⟩, .bool false, .string ⟨#[]⟩, .bool false, .string ⟨#[]⟩, .bool false, .string ⟨#[]⟩, .bool false, .string ⟨#[]⟩, .bool false, .string ⟨#[]⟩, .bool false, .string ⟨#[]⟩, .bool false, .string ⟨#[]⟩] 48)).drew = w6 at *; generalize hb6 : w8.heap.size = b6 at *; have HB6 := hid hb6; clear hb6)
          try go_wp2_with fail
          refine hK.out _ _ ?_ (fun hH5 => ?_)
          · (try dsimp only); (first | assumption | exact KS.out _ (Below.refl w8.heap.size w8).drew)
          clear hK K hH1
          try simp only [Act.put, List.setIfInBounds_toArray, List.set_cons_zero, List.set_cons_succ]
          refine wpAnyH_ready (rs := [3]) (by kernel_rfl) (by simp) ?_
          refine AllReadyH.cons (by simp only [List.getElem?_toArray, List.getElem?_cons_zero, List.getElem?_cons_succ]; rfl) (fun K hK => ?_) AllReadyH.nil
          go_simp
          go_at_call 12
          have hS := (‹Below _ w8 _ ∧ _›).1
          (with_reducible refine (RR.out _ hS _ _ AF7.out).mono ?_)
          rintro e w7 ⟨rfl, hb7⟩
          have hS' := KS.out _ (hS.trans (hb7.mono (by first | exact hS.size | (have h1 := hS.size; have h2 := HB6.out; omega))))
          try (have hLZ := LZ.out.keep hb7; clear LZ; have LZ := hid hLZ; clear hLZ)
          clear hb7 hS AF7
          try go_wp2_with fail
          refine hK.out _ _ ?_ (fun hH6 => ?_)
          · (try dsimp only); (first | assumption | exact KS.out _ (Below.refl w8.heap.size w8).drew)
          clear hK K hH5
          try simp only [Act.put, List.setIfInBounds_toArray, List.set_cons_zero, List.set_cons_succ]
          refine wpAnyH_take (i := 4) (v := ?_) (by simp only [List.getElem?_toArray, List.getElem?_cons_zero, List.getElem?_cons_succ]; rfl) (by kernel_rfl) (by kernel_rfl) (by kernel_rfl) (fun _ _ _ h => h) (Or.inl ⟨by rfl, ?_⟩) (by assumption) ?_
          rotate_left
          · intro w hSw; (try dsimp only at hSw); go_simp; (try with_reducible rfl)
          try simp only [Act.put, List.setIfInBounds_toArray, List.set_cons_zero, List.set_cons_succ]
          refine wpAnyH_take (i := 5) (v := ?_) (by simp only [List.getElem?_toArray, List.getElem?_cons_zero, List.getElem?_cons_succ]; rfl) (by kernel_rfl) (by kernel_rfl) (by kernel_rfl) (fun _ _ _ h => h) (Or.inl ⟨by rfl, ?_⟩) (by assumption) ?_
          rotate_left
          · intro w hSw; (try dsimp only at hSw); go_simp; (try with_reducible rfl)
          try simp only [Act.put, List.setIfInBounds_toArray, List.set_cons_zero, List.set_cons_succ]
          refine wpAnyH_take (i := 6) (v := ?_) (by simp only [List.getElem?_toArray, List.getElem?_cons_zero, List.getElem?_cons_succ]; rfl) (by kernel_rfl) (by kernel_rfl) (by kernel_rfl) (fun _ _ _ h => h) (Or.inl ⟨by rfl, ?_⟩) (by assumption) ?_
          rotate_left
          · intro w hSw; (try dsimp only at hSw); go_simp; (try with_reducible rfl)
          try simp only [Act.put, List.setIfInBounds_toArray, List.set_cons_zero, List.set_cons_succ]
          refine wpAnyH_ready (rs := [8]) (by kernel_rfl) (by simp) ?_
          refine AllReadyH.cons (by simp only [List.getElem?_toArray, List.getElem?_cons_zero, List.getElem?_cons_succ]; rfl) (fun K hK => ?_) AllReadyH.nil
          have hS := (‹Below _ w8 _ ∧ _›).1
          refine wp_store_mid 48 _ _ rfl _ 0 (vals8 R1.1).toArray rfl rfl (LZ.out.there8 R1.1) Tryz.infoWorld (vals8_one R1.1) ?_
          have hS' := KS.out _ (Below.setCells' HBN.out (vals8 R1.1) 0 hS)
          have LN := hid (LZ.out.setAll (vs := vals8 R1.1) rfl)
          clear hS
          first
            | (generalize w7.setCells b6 0 (vals8 R1.1) = wz at *; have LN2 : Hid (Loc wz b6 48 (vals8 R1.1)) := by with_reducible exact LN)
            | (generalize w6.setCells b6 0 (vals8 R1.1) = wz at *; have LN2 : Hid (Loc wz b6 48 (vals8 R1.1)) := by with_reducible exact LN)
          refine hK.out _ _ ?_ (fun hH7 => ?_)
          · (try dsimp only); (first | assumption | exact KS.out _ (Below.refl w8.heap.size w8).drew)
          clear hK K hH6
          try simp only [Act.put]
          refine wpAnyH_take (i := 9) (v := ?_) (by simp only [List.getElem?_toArray, List.getElem?_cons_zero, List.getElem?_cons_succ]; rfl) (by kernel_rfl) (by kernel_rfl) (by kernel_rfl) (fun _ _ _ h => h) (Or.inl ⟨by rfl, ?_⟩) (by assumption) ?_
          rotate_left
          · intro w hSw; (try dsimp only at hSw); go_simp; (try with_reducible rfl)
          try simp only [Act.put, List.setIfInBounds_toArray, List.set_cons_zero, List.set_cons_succ]
          refine wpAnyH_done (by kernel_rfl) ?_ _
          refine NoPanic.normal ?_
          exact HJ b6 ad7 c7 wz ⟨(‹Below _ w8 wz ∧ _›).1, LN2.out⟩
        refine AllReadyH.cons (by simp only [List.getElem?_toArray, List.getElem?_cons_zero, List.getElem?_cons_succ]; rfl) (fun K hK => ?_) AllReadyH.nil
        go_simp
        have hS := (‹Below _ w8 _ ∧ _›).1
        first
          | (have LZ : Hid (Loc (w7.alloc (.cells #[.bool false, .string ⟨#[]⟩, .bool false, .string ⟨#[]⟩, .bool false, .string ⟨#[]⟩, .bool false, .string ⟨#[]⟩, .bool false, .string ⟨#[]⟩, .bool false, .string ⟨#[]⟩, .bool false, .string ⟨#[]⟩, .bool false, .string ⟨#[]⟩] 48)) w7.heap.size 48 (vals8 fun _ => Val.zero)) := hid (Loc.new w7 48 (vals8 fun _ => Val.zero)); have HBN := hid hS.size; have hS' := KS.out (w7.alloc (.cells #[.bool false, .string ⟨#[]⟩, .bool false, .string ⟨#[]⟩, .bool false, .string ⟨#[]⟩, .bool false, .string ⟨#[]⟩, .bool false, .string ⟨#[]⟩, .bool false, .string ⟨#[]⟩, .bool false, .string ⟨#[]⟩, .bool false, .string ⟨#[]⟩] 48)) (hS.alloc hS.size _); (try (have hAF := AF7.out.below ((Below.refl w7.heap.size w7).alloc (Nat.le_refl _) (.cells #[.bool false, .string ⟨#[]⟩, .bool false, .string ⟨#[]⟩, .bool false, .string ⟨#[]⟩, .bool false, .string ⟨#[]⟩, .bool false, .string ⟨#[]⟩, .bool false, .string ⟨#[]⟩, .bool false, .string ⟨#[]⟩, .bool false, .string ⟨#[]⟩] 48)); clear AF7; have AF7 := hid hAF; clear hAF)); clear hS; generalize w7.alloc (.cells #[.bool false, .string ⟨#[]⟩, .bool false, .string ⟨#[]⟩, .bool false, .string ⟨#[]⟩, .bool false, .string ⟨#[]⟩, .bool false, .string ⟨#[]⟩, .bool false, .string ⟨#[]⟩, .bool false, .string ⟨#[]⟩, .bool false, .string ⟨#[]⟩] 48) = w6 at *; generalize w7.heap.size = b6 at *)
          | (have LZ : Hid (Loc (w8.alloc (.cells #[.bool false, .string ⟨#[]⟩, .bool false, .string ⟨#[]⟩, .bool false, .string ⟨#[]⟩, .bool false, .string ⟨#[]⟩, .bool false, .string ⟨#[]⟩, .bool false, .string ⟨#[]⟩, .bool false, .string ⟨#[]⟩, .bool false, .string ⟨#[]⟩] 48)).drew w8.heap.size 48 (vals8 fun _ => Val.zero)) := hid (Loc.new w8 48 (vals8 fun _ => Val.zero)); have HBN := hid (Nat.le_refl w8.heap.size); have hS' := KS.out (w8.alloc (.cells #[.bool false, .string ⟨#[]⟩, .bool false, .string ⟨#[]⟩, .bool false, .string ⟨#[]⟩, .bool false, .string ⟨#[]⟩, .bool false, .string ⟨#[]⟩, .bool false, .string ⟨#[]⟩, .bool false, .string ⟨#[]⟩, .bool false, .string ⟨#[]⟩] 48)).drew (((Below.refl w8.heap.size w8).alloc (Nat.le_refl _) _).drew); clear hS; generalize (w8.alloc (.cells #[.bool false, .string ⟨#[]⟩, .bool false, .string ⟨#[]⟩, .bool false, .string ⟨#[]⟩, .bool false, .string ⟨#[]⟩, .bool false, .string ⟨#[]⟩, .bool false, .string ⟨#[]⟩, .bool false, .string ⟨#[]⟩, .bool false, .string ⟨#[]⟩] 48)).drew = w6 at *; generalize hb6 : w8.heap.size = b6 at *; have HB6 := hid hb6; clear hb6)
        try go_wp2_with fail
        refine hK.out _ _ ?_ (fun hH8 => ?_)
        · (try dsimp only); (first | assumption | exact KS.out _ (Below.refl w8.heap.size w8).drew)
        clear hK K hH0
        try simp only [Act.put, List.setIfInBounds_toArray, List.set_cons_zero, List.set_cons_succ]
        refine wpAnyH_ready (rs := [2]) (by kernel_rfl) (by simp) ?_
        refine AllReadyH.cons (by simp only [List.getElem?_toArray, List.getElem?_cons_zero, List.getElem?_cons_succ]; rfl) (fun K hK => ?_) AllReadyH.nil
        go_simp
        go_at_call 13
        have hS := (‹Below _ w8 _ ∧ _›).1
        (with_reducible refine (AC.out _ hS).mono ?_)
        rintro e w7 ⟨ad7, c7, rfl, hA7, hb7, -⟩
        have hS' := KS.out _ (hS.trans (hb7.mono (by first | exact hS.size | (have h1 := hS.size; have h2 := HB6.out; omega))))
        have AF7 := hid hA7
        try (have hLZ := LZ.out.keep hb7; clear LZ; have LZ := hid hLZ; clear hLZ)
        clear hb7 hS hA7
        try go_wp2_with fail
        refine hK.out _ _ ?_ (fun hH9 => ?_)
        · (try dsimp only); (first | assumption | exact KS.out _ (Below.refl w8.heap.size w8).drew)
        clear hK K hH8
        try simp only [Act.put, List.setIfInBounds_toArray, List.set_cons_zero, List.set_cons_succ]
        refine wpAnyH_ready (rs := [3]) (by kernel_rfl) (by simp) ?_
        refine AllReadyH.cons (by simp only [List.getElem?_toArray, List.getElem?_cons_zero, List.getElem?_cons_succ]; rfl) (fun K hK => ?_) AllReadyH.nil
        go_simp
        go_at_call 12
        have hS := (‹Below _ w8 _ ∧ _›).1
        (with_reducible refine (RR.out _ hS _ _ AF7.out).mono ?_)
        rintro e w7 ⟨rfl, hb7⟩
        have hS' := KS.out _ (hS.trans (hb7.mono (by first | exact hS.size | (have h1 := hS.size; have h2 := HB6.out; omega))))
        try (have hLZ := LZ.out.keep hb7; clear LZ; have LZ := hid hLZ; clear hLZ)
        clear hb7 hS AF7
        try go_wp2_with fail
        refine hK.out _ _ ?_ (fun hH10 => ?_)
        · (try dsimp only); (first | assumption | exact KS.out _ (Below.refl w8.heap.size w8).drew)
        clear hK K hH9
        try simp only [Act.put, List.setIfInBounds_toArray, List.set_cons_zero, List.set_cons_succ]
        refine wpAnyH_take (i := 4) (v := ?_) (by simp only [List.getElem?_toArray, List.getElem?_cons_zero, List.getElem?_cons_succ]; rfl) (by kernel_rfl) (by kernel_rfl) (by kernel_rfl) (fun _ _ _ h => h) (Or.inl ⟨by rfl, ?_⟩) (by assumption) ?_
        rotate_left
        · intro w hSw; (try dsimp only at hSw); go_simp; (try with_reducible rfl)
        try simp only [Act.put, List.setIfInBounds_toArray, List.set_cons_zero, List.set_cons_succ]
        refine wpAnyH_take (i := 5) (v := ?_) (by simp only [List.getElem?_toArray, List.getElem?_cons_zero, List.getElem?_cons_succ]; rfl) (by kernel_rfl) (by kernel_rfl) (by kernel_rfl) (fun _ _ _ h => h) (Or.inl ⟨by rfl, ?_⟩) (by assumption) ?_
        rotate_left
        · intro w hSw; (try dsimp only at hSw); go_simp; (try with_reducible rfl)
        try simp only [Act.put, List.setIfInBounds_toArray, List.set_cons_zero, List.set_cons_succ]
        refine wpAnyH_take (i := 6) (v := ?_) (by simp only [List.getElem?_toArray, List.getElem?_cons_zero, List.getElem?_cons_succ]; rfl) (by kernel_rfl) (by kernel_rfl) (by kernel_rfl) (fun _ _ _ h => h) (Or.inl ⟨by rfl, ?_⟩) (by assumption) ?_
        rotate_left
        · intro w hSw; (try dsimp only at hSw); go_simp; (try with_reducible rfl)
        try simp only [Act.put, List.setIfInBounds_toArray, List.set_cons_zero, List.set_cons_succ]
        refine wpAnyH_ready (rs := [8]) (by kernel_rfl) (by simp) ?_
        refine AllReadyH.cons (by simp only [List.getElem?_toArray, List.getElem?_cons_zero, List.getElem?_cons_succ]; rfl) (fun K hK => ?_) AllReadyH.nil
        have hS := (‹Below _ w8 _ ∧ _›).1
        refine wp_store_mid 48 _ _ rfl _ 0 (vals8 R1.1).toArray rfl rfl (LZ.out.there8 R1.1) Tryz.infoWorld (vals8_one R1.1) ?_
        have hS' := KS.out _ (Below.setCells' HBN.out (vals8 R1.1) 0 hS)
        have LN := hid (LZ.out.setAll (vs := vals8 R1.1) rfl)
        clear hS
        first
          | (generalize w7.setCells b6 0 (vals8 R1.1) = wz at *; have LN2 : Hid (Loc wz b6 48 (vals8 R1.1)) := by with_reducible exact LN)
          | (generalize w6.setCells b6 0 (vals8 R1.1) = wz at *; have LN2 : Hid (Loc wz b6 48 (vals8 R1.1)) := by with_reducible exact LN)
        refine hK.out _ _ ?_ (fun hH11 => ?_)
        · (try dsimp only); (first | assumption | exact KS.out _ (Below.refl w8.heap.size w8).drew)
        clear hK K hH10
        try simp only [Act.put]
        refine wpAnyH_take (i := 9) (v := ?_) (by simp only [List.getElem?_toArray, List.getElem?_cons_zero, List.getElem?_cons_succ]; rfl) (by kernel_rfl) (by kernel_rfl) (by kernel_rfl) (fun _ _ _ h => h) (Or.inl ⟨by rfl, ?_⟩) (by assumption) ?_
        rotate_left
        · intro w hSw; (try dsimp only at hSw); go_simp; (try with_reducible rfl)
        try simp only [Act.put, List.setIfInBounds_toArray, List.set_cons_zero, List.set_cons_succ]
        refine wpAnyH_done (by kernel_rfl) ?_ _
        refine NoPanic.normal ?_
        exact HJ b6 ad7 c7 wz ⟨(‹Below _ w8 wz ∧ _›).1, LN2.out⟩
        -- END 19
      · skip
        have L13 := hid (L8.out.keep hS9.1)
        have B9 := hid (B8.out.trans (hS9.1.mono B8.out.size))
        have L15 := hid hS9.2
        have HD9 := hid ((HD.out.below B9.out).f7)
        have hd6 : d.length ≤ 1000000 := by omega
        have hd63 : (d.length : Int) ≤ 9223372036854775807 := by omega
        clear hS9 L8 B8 X8 HR1
        go_wp2
        go_loopw [17, 18] (fun o i wr => ∃ (k : Nat) (g : Nat → Nat) (U : List Dnx), k ≤ d.length ∧ i = .int .i64 k ∧ Hid (U.map Dnx.d = (d.take k).map Dnx.d) ∧ Hid (∀ y ∈ U, ∃ q ∈ d, y.acts = q.acts ∧ y.n = q.n) ∧ Hid (LstR w9 wr (5 + d.length) g o U)) (fun _ i _ => d.length - (intOf i).toNat)
        case atStart => exact ⟨0, fun _ => 0, [], Nat.zero_le _, rfl, hid rfl, hid nofun, hid ⟨Evo.refl _ _ _ _, ⟨World.ownsRow_nil _ 0 _ _, nofun⟩, nofun⟩⟩
        case round =>
          obtain ⟨k, g, U, hk, rfl, HU, HQ, HI⟩ := hrel
          have hUL : U.length = k := by have := congrArg List.length HU.out; simp at this; omega
          have HUL := hid hUL
          obtain ⟨ao, co, rfl, -, -⟩ := ownsRow.sliceAt HI.out.row.1
          by_cases hlt : k < d.length
          · obtain ⟨sb, off, rfl, hsb, hf⟩ := HD9.out.facts (by omega)
            obtain ⟨e0, e1, e2, e3, hAF⟩ := hf k hlt
            have HAF := hid hAF
            have HZ := hid (HDL.out d[k] (List.getElem_mem _))
            have HMK := hid (List.getElem_mem hlt)
            have HU2 := hid (show (d.take (k + 1)).map Dnx.d = U.map Dnx.d ++ [d[k].d] from by rw [List.take_succ_eq_append_getElem hlt, List.map_append, HU.out]; rfl)
            have hki : (k : Int) < (d.length : Int) := by omega
            have hk0 : (0 : Int) ≤ (k : Int) := by omega
            have KS := hid (fun W (h : Below w9.heap.size w9 W) => And.intro ((below_cell h hsb).trans e0) (And.intro ((below_cell h hsb).trans e1) (And.intro ((below_cell h hsb).trans e2) ((below_cell h hsb).trans e3))))
            have q1 : U.length + 1 ≤ maxLen := by unfold maxLen; omega
            have q2 : (U.length + 1) * 48 ≤ 140737488355328 := by omega
            have hH : 5 + U.length ≤ 5 + d.length := by omega
            clear hf hAF hUL e0 e1 e2 e3
            generalize d[k] = y at *
            go_upto_region 24 with (fail)
            have ID := hid (HI.out.quiet (Evo.drew 0 0 g wr))
            have hS0 := KS.out _ ID.out.evo.zeroed
            clear HI
            -- REGION 24
            refine wp_region_noPanic ?_
            refine wp_region_held_drew (S := (fun W : World => W.cell? ⟨sb, off + k * 4, none⟩ = some (.int .i64 y.n) ∧ W.cell? ⟨sb, off + k * 4 + 1, none⟩ = some (.int .i64 y.at_) ∧ W.cell? ⟨sb, off + k * 4 + 2, none⟩ = some (.int .i64 y.mode) ∧ W.cell? ⟨sb, off + k * 4 + 3, none⟩ = some (.slice y.ad y.acts.length y.cap))) (by kernel_rfl) ?_ (fun hH0 => ?_)
            · (try dsimp only); (first | assumption | exact hS0)
            refine wpAnyH_take (i := 0) (v := ?_) (by simp only [List.getElem?_toArray, List.getElem?_cons_zero]; rfl) (by kernel_rfl) (by kernel_rfl) (by kernel_rfl) (fun _ _ _ h => h) (Or.inl ⟨by rfl, ?_⟩) (by assumption) ?_
            rotate_left
            · intro w hSw; (try dsimp only at hSw); go_simp; (try with_reducible rfl)
            try simp only [Act.put, List.setIfInBounds_toArray, List.set_cons_zero, List.set_cons_succ]
            refine wpAnyH_take (i := 1) (v := ?_) (by simp only [List.getElem?_toArray, List.getElem?_cons_zero, List.getElem?_cons_succ]; rfl) (by kernel_rfl) (by kernel_rfl) (by kernel_rfl) (fun _ _ _ h => h) (Or.inl ⟨by rfl, ?_⟩) (by assumption) ?_
            rotate_left
            · intro w hSw; (try dsimp only at hSw); go_simp; (try with_reducible rfl)
            try simp only [Act.put, List.setIfInBounds_toArray, List.set_cons_zero, List.set_cons_succ]
            refine wpAnyH_take (i := 2) (v := ?_) (by simp only [List.getElem?_toArray, List.getElem?_cons_zero, List.getElem?_cons_succ]; rfl) (by kernel_rfl) (by kernel_rfl) (by kernel_rfl) (fun _ _ _ h => h) (Or.inl ⟨by rfl, ?_⟩) (by assumption) ?_
            rotate_left
            · intro w hSw; (try dsimp only at hSw); go_simp; (try with_reducible rfl)
            try simp only [Act.put, List.setIfInBounds_toArray, List.set_cons_zero, List.set_cons_succ]
            refine wpAnyH_take (i := 3) (v := ?_) (by simp only [List.getElem?_toArray, List.getElem?_cons_zero, List.getElem?_cons_succ]; rfl) (by kernel_rfl) (by kernel_rfl) (by kernel_rfl) (fun _ _ _ h => h) (Or.inl ⟨by rfl, ?_⟩) (by assumption) ?_
            rotate_left
            · intro w hSw; (try dsimp only at hSw); go_simp; (try with_reducible rfl)
            try simp only [Act.put, List.setIfInBounds_toArray, List.set_cons_zero, List.set_cons_succ]
            refine wpAnyH_take (i := 4) (v := ?_) (by simp only [List.getElem?_toArray, List.getElem?_cons_zero, List.getElem?_cons_succ]; rfl) (by kernel_rfl) (by kernel_rfl) (by kernel_rfl) (fun _ _ _ h => h) (Or.inl ⟨by rfl, ?_⟩) (by assumption) ?_
            rotate_left
            · intro w hSw; (try dsimp only at hSw); go_simp; (try with_reducible rfl)
            try simp only [Act.put, List.setIfInBounds_toArray, List.set_cons_zero, List.set_cons_succ]
            refine wpAnyH_take (i := 5) (v := ?_) (by simp only [List.getElem?_toArray, List.getElem?_cons_zero, List.getElem?_cons_succ]; rfl) (by kernel_rfl) (by kernel_rfl) (by kernel_rfl) (fun _ _ _ h => h) (Or.inl ⟨by rfl, ?_⟩) (by assumption) ?_
            rotate_left
            · intro w hSw; (try dsimp only at hSw); go_simp; (try with_reducible rfl)
            try simp only [Act.put, List.setIfInBounds_toArray, List.set_cons_zero, List.set_cons_succ]
            refine wpAnyH_take (i := 6) (v := ?_) (by simp only [List.getElem?_toArray, List.getElem?_cons_zero, List.getElem?_cons_succ]; rfl) (by kernel_rfl) (by kernel_rfl) (by kernel_rfl) (fun _ _ _ h => h) (Or.inl ⟨by rfl, ?_⟩) (by assumption) ?_
            rotate_left
            · intro w hSw; (try dsimp only at hSw); go_simp; (try with_reducible rfl)
            try simp only [Act.put, List.setIfInBounds_toArray, List.set_cons_zero, List.set_cons_succ]
            refine wpAnyH_take (i := 7) (v := ?_) (by simp only [List.getElem?_toArray, List.getElem?_cons_zero, List.getElem?_cons_succ]; rfl) (by kernel_rfl) (by kernel_rfl) (by kernel_rfl) (fun _ _ _ h => h) (Or.inl ⟨by rfl, ?_⟩) (by assumption) ?_
            rotate_left
            · intro w hSw; (try dsimp only at hSw); go_simp; (try with_reducible rfl)
            try simp only [Act.put, List.setIfInBounds_toArray, List.set_cons_zero, List.set_cons_succ]
            refine wpAnyH_take (i := 8) (v := ?_) (by simp only [List.getElem?_toArray, List.getElem?_cons_zero, List.getElem?_cons_succ]; rfl) (by kernel_rfl) (by kernel_rfl) (by kernel_rfl) (fun _ _ _ h => h) (Or.inl ⟨by rfl, ?_⟩) (by assumption) ?_
            rotate_left
            · intro w hSw; (try dsimp only at hSw); go_simp; (try with_reducible rfl)
            try simp only [Act.put, List.setIfInBounds_toArray, List.set_cons_zero, List.set_cons_succ]
            refine wpAnyH_take (i := 9) (v := ?_) (by simp only [List.getElem?_toArray, List.getElem?_cons_zero, List.getElem?_cons_succ]; rfl) (by kernel_rfl) (by kernel_rfl) (by kernel_rfl) (fun _ _ _ h => h) (Or.inl ⟨by rfl, ?_⟩) (by assumption) ?_
            rotate_left
            · intro w hSw; (try dsimp only at hSw); go_simp; (try with_reducible rfl)
            try simp only [Act.put, List.setIfInBounds_toArray, List.set_cons_zero, List.set_cons_succ]
            refine wpAnyH_take (i := 10) (v := ?_) (by simp only [List.getElem?_toArray, List.getElem?_cons_zero, List.getElem?_cons_succ]; rfl) (by kernel_rfl) (by kernel_rfl) (by kernel_rfl) (fun _ _ _ h => h) (Or.inl ⟨by rfl, ?_⟩) (by assumption) ?_
            rotate_left
            · intro w hSw; (try dsimp only at hSw); go_simp; (try with_reducible rfl)
            try simp only [Act.put, List.setIfInBounds_toArray, List.set_cons_zero, List.set_cons_succ]
            refine wpAnyH_take (i := 11) (v := ?_) (by simp only [List.getElem?_toArray, List.getElem?_cons_zero, List.getElem?_cons_succ]; rfl) (by kernel_rfl) (by kernel_rfl) (by kernel_rfl) (fun _ _ _ h => h) (Or.inl ⟨by rfl, ?_⟩) (by assumption) ?_
            rotate_left
            · intro w hSw; (try dsimp only at hSw); go_simp; (try with_reducible rfl)
            try simp only [Act.put, List.setIfInBounds_toArray, List.set_cons_zero, List.set_cons_succ]
            refine wpAnyH_take (i := 12) (v := ?_) (by simp only [List.getElem?_toArray, List.getElem?_cons_zero, List.getElem?_cons_succ]; rfl) (by kernel_rfl) (by kernel_rfl) (by kernel_rfl) (fun _ _ _ h => h) (Or.inl ⟨by rfl, ?_⟩) (by assumption) ?_
            rotate_left
            · intro w hSw; (try dsimp only at hSw); go_simp; (try with_reducible rfl)
            try simp only [Act.put, List.setIfInBounds_toArray, List.set_cons_zero, List.set_cons_succ]
            refine wpAnyH_take (i := 13) (v := ?_) (by simp only [List.getElem?_toArray, List.getElem?_cons_zero, List.getElem?_cons_succ]; rfl) (by kernel_rfl) (by kernel_rfl) (by kernel_rfl) (fun _ _ _ h => h) (Or.inl ⟨by rfl, ?_⟩) (by assumption) ?_
            rotate_left
            · intro w hSw; (try dsimp only at hSw); go_simp; (try with_reducible rfl)
            try simp only [Act.put, List.setIfInBounds_toArray, List.set_cons_zero, List.set_cons_succ]
            refine wpAnyH_take (i := 14) (v := ?_) (by simp only [List.getElem?_toArray, List.getElem?_cons_zero, List.getElem?_cons_succ]; rfl) (by kernel_rfl) (by kernel_rfl) (by kernel_rfl) (fun _ _ _ h => h) (Or.inl ⟨by rfl, ?_⟩) (by assumption) ?_
            rotate_left
            · intro w hSw; (try dsimp only at hSw); go_simp; (try with_reducible rfl)
            try simp only [Act.put, List.setIfInBounds_toArray, List.set_cons_zero, List.set_cons_succ]
            refine wpAnyH_take (i := 15) (v := ?_) (by simp only [List.getElem?_toArray, List.getElem?_cons_zero, List.getElem?_cons_succ]; rfl) (by kernel_rfl) (by kernel_rfl) (by kernel_rfl) (fun _ _ _ h => h) (Or.inl ⟨by rfl, ?_⟩) (by assumption) ?_
            rotate_left
            · intro w hSw; (try dsimp only at hSw); go_simp; (try with_reducible rfl)
            try simp only [Act.put, List.setIfInBounds_toArray, List.set_cons_zero, List.set_cons_succ]
            refine wpAnyH_take (i := 16) (v := ?_) (by simp only [List.getElem?_toArray, List.getElem?_cons_zero, List.getElem?_cons_succ]; rfl) (by kernel_rfl) (by kernel_rfl) (by kernel_rfl) (fun _ _ _ h => h) (Or.inl ⟨by rfl, ?_⟩) (by assumption) ?_
            rotate_left
            · intro w hSw; (try dsimp only at hSw); go_simp; (try with_reducible rfl)
            try simp only [Act.put, List.setIfInBounds_toArray, List.set_cons_zero, List.set_cons_succ]
            refine wpAnyH_take (i := 17) (v := ?_) (by simp only [List.getElem?_toArray, List.getElem?_cons_zero, List.getElem?_cons_succ]; rfl) (by kernel_rfl) (by kernel_rfl) (by kernel_rfl) (fun _ _ _ h => h) (Or.inl ⟨by rfl, ?_⟩) (by assumption) ?_
            rotate_left
            · intro w hSw; (try dsimp only at hSw); go_simp; (try with_reducible rfl)
            try simp only [Act.put, List.setIfInBounds_toArray, List.set_cons_zero, List.set_cons_succ]
            refine wpAnyH_take (i := 18) (v := ?_) (by simp only [List.getElem?_toArray, List.getElem?_cons_zero, List.getElem?_cons_succ]; rfl) (by kernel_rfl) (by kernel_rfl) (by kernel_rfl) (fun _ _ _ h => h) (Or.inl ⟨by rfl, ?_⟩) (by assumption) ?_
            rotate_left
            · intro w hSw; (try dsimp only at hSw); go_simp; (try with_reducible rfl)
            try simp only [Act.put, List.setIfInBounds_toArray, List.set_cons_zero, List.set_cons_succ]
            refine wpAnyH_take (i := 19) (v := ?_) (by simp only [List.getElem?_toArray, List.getElem?_cons_zero, List.getElem?_cons_succ]; rfl) (by kernel_rfl) (by kernel_rfl) (by kernel_rfl) (fun _ _ _ h => h) (Or.inl ⟨by rfl, ?_⟩) (by assumption) ?_
            rotate_left
            · intro w hSw; (try dsimp only at hSw); go_simp; (try with_reducible rfl)
            try simp only [Act.put, List.setIfInBounds_toArray, List.set_cons_zero, List.set_cons_succ]
            refine wpAnyH_take (i := 20) (v := ?_) (by simp only [List.getElem?_toArray, List.getElem?_cons_zero, List.getElem?_cons_succ]; rfl) (by kernel_rfl) (by kernel_rfl) (by kernel_rfl) (fun _ _ _ h => h) (Or.inl ⟨by rfl, ?_⟩) (by assumption) ?_
            rotate_left
            · intro w hSw; (try dsimp only at hSw); go_simp; (try with_reducible rfl)
            try simp only [Act.put, List.setIfInBounds_toArray, List.set_cons_zero, List.set_cons_succ]
            refine wpAnyH_ready (rs := [21]) (by kernel_rfl) (by simp) ?_
            refine AllReadyH.cons (by simp only [List.getElem?_toArray, List.getElem?_cons_zero, List.getElem?_cons_succ]; rfl) (fun K hK => ?_) AllReadyH.nil
            go_simp
            go_at_call 13
            refine (law_acts y.ad y.cap y.acts wr.drew HZ.out.1 (HAF.out.below ID.out.evo.zeroed)).mono ?_
            rintro e w7 ⟨ad7, c7, rfl, hA7, hb7, hn7⟩
            have E7 : Evo 0 0 g (extc g wr.drew (5 + U.length)) wr.drew w7 := Evo.of_below g (5 + U.length) hb7
            have I7 := hid (ID.out.quiet E7)
            have X7 : Hid (FixC w7 (extc g wr.drew (5 + U.length)) (5 + U.length) ad7 (encActs y.acts)) := hid (FixC.fresh hA7.1 hn7)
            have hS' := KS.out _ I7.out.evo.zeroed
            clear hA7 hb7 hn7 E7
            generalize extc g wr.drew (5 + U.length) = g7 at *
            try go_wp2_with fail
            refine hK.out _ _ ?_ (fun hH1 => ?_)
            · (try dsimp only); (first | assumption | exact hS0)
            clear hK K hH0
            try simp only [Act.put, List.setIfInBounds_toArray, List.set_cons_zero, List.set_cons_succ]
            refine wpAnyH_take (i := 22) (v := ?_) (by simp only [List.getElem?_toArray, List.getElem?_cons_zero, List.getElem?_cons_succ]; rfl) (by kernel_rfl) (by kernel_rfl) (by kernel_rfl) (fun _ _ _ h => h) (Or.inl ⟨by rfl, ?_⟩) (by assumption) ?_
            rotate_left
            · intro w hSw; (try dsimp only at hSw); go_simp; (try with_reducible rfl)
            try simp only [Act.put, List.setIfInBounds_toArray, List.set_cons_zero, List.set_cons_succ]
            refine wpAnyH_ready (rs := [23]) (by kernel_rfl) (by simp) ?_
            refine AllReadyH.cons (by simp only [List.getElem?_toArray, List.getElem?_cons_zero, List.getElem?_cons_succ]; rfl) (fun K hK => ?_) AllReadyH.nil
            go_simp
            have E8 := Evo.alloc g7 0 w7 (.cells #[.int .i64 y.n, .int .i64 y.at_, .int .i64 y.mode, .slice ad7 y.acts.length c7] 39)
            have I8 := hid (I7.out.quiet E8)
            have X8 := hid (X7.out.frame E8 (by omega))
            have C8 := hid (cells_new w7 (encDnx (⟨y.n, y.at_, y.mode, y.acts, ad7, c7, 0⟩ : Dnx)) 39)
            have hS' := KS.out _ I8.out.evo.zeroed
            clear E8
            generalize extc g7 w7 0 = g8 at *
            try go_wp2_with fail
            refine hK.out _ _ ?_ (fun hH2 => ?_)
            · (try dsimp only); (first | assumption | exact hS0)
            clear hK K hH1
            try simp only [Act.put, List.setIfInBounds_toArray, List.set_cons_zero, List.set_cons_succ]
            refine wpAnyH_ready (rs := [24]) (by kernel_rfl) (by simp) ?_
            refine AllReadyH.cons (by simp only [List.getElem?_toArray, List.getElem?_cons_zero, List.getElem?_cons_succ]; rfl) (fun K hK => ?_) AllReadyH.nil
            refine wp_append2 (.tmp 145) (.tmp 168) 33 rfl 39 i0 (.agg #[.int .i64 0, .int .i64 0, .int .i64 0, .slice none 0 0]) 4 48 Tryz.underlying33 hi hz0 hz1 hz2 rfl (by decide) (.slice ao U.length co) U.length (encDones U) rfl I8.out.row.1 ⟨w7.heap.size, 0, none⟩ 1 1 (encDnx (⟨y.n, y.at_, y.mode, y.acts, ad7, c7, 0⟩ : Dnx)) rfl rfl C8.out (encDnx_one _) q1 q2 ?_
            intro v9 w9 ho hg hf
            obtain ⟨a9, c9, rfl, -, -⟩ := ownsRow.sliceAt ho
            obtain ⟨g9, hR, hE⟩ : ∃ g9, RowC w9 g9 1 39 4 (.slice a9 (U.length + 1) c9) (U.length + 1) (encDones U ++ encDnx (⟨y.n, y.at_, y.mode, y.acts, ad7, c7, 0⟩ : Dnx)) ∧ Evo 1 (1 + 1) g8 g9 _ w9 := ⟨_, I8.out.row.grown ho hg hf⟩
            have J9 := hid (I8.out.snoc hH (Y := (⟨y.n, y.at_, y.mode, y.acts, ad7, c7, 0⟩ : Dnx)) X8.out hR hE)
            have hS' := KS.out _ J9.out.evo.zeroed
            clear ho hg hf hR hE
            refine hK.out _ _ ?_ (fun hH3 => ?_)
            · (try dsimp only); (first | assumption | exact hS0)
            clear hK K hH2
            try simp only [Act.put]
            refine wpAnyH_take (i := 25) (v := ?_) (by simp only [List.getElem?_toArray, List.getElem?_cons_zero, List.getElem?_cons_succ]; rfl) (by kernel_rfl) (by kernel_rfl) (by kernel_rfl) (fun _ _ _ h => h) (Or.inl ⟨by rfl, ?_⟩) (by assumption) ?_
            rotate_left
            · intro w hSw; (try dsimp only at hSw); go_simp; (try with_reducible rfl)
            try simp only [Act.put, List.setIfInBounds_toArray, List.set_cons_zero, List.set_cons_succ]
            refine wpAnyH_done (by kernel_rfl) ?_ _
            refine NoPanic.normal ?_
            rotate_left
            -- END 24
            go_wp2
            go_roundw
            case rel =>
              refine ⟨k + 1, g9, U ++ [(⟨y.n, y.at_, y.mode, y.acts, ad7, c7, 0⟩ : Dnx)], by omega, by go_num, hid (by rw [HU2.out, List.map_append]; rfl), hid (fun y' hy' => ?_), hid (by have := J9.out; rw [List.length_append] at this; exact this)⟩
              rcases List.mem_append.1 hy' with hy' | hy'
              · exact HQ.out y' hy'
              · rw [List.mem_singleton] at hy'; subst hy'
                exact ⟨y, HMK.out, rfl, rfl⟩
            case measure => simp [intOf]; omega
          · obtain rfl : k = d.length := by omega
            have hBW := HI.out.evo.zeroed
            have BW := hid (B9.out.trans (hBW.mono B9.out.size))
            have HDU := hid (show DonesF wr ao U from by
              refine ⟨HI.out.row.fix.1, fun y hy => ⟨?_, fun z hz => ?_⟩⟩
              · obtain ⟨j, hj, rfl⟩ := List.mem_iff_getElem.1 hy
                exact (HI.out.acts j hj).1
              · obtain ⟨q, hq, e, -⟩ := HQ.out y hy
                rw [e] at hz
                exact sliceAt_below ((HD9.out.2 q hq).2 z hz) hBW)
            have HDM := hid (HD9.out.below hBW)
            have HLU := hid (show ∀ y ∈ U, y.acts.length ≤ 1000000 ∧ ∀ z ∈ y.acts, z.a.l.length ≤ 1000000 from fun y hy => by
              obtain ⟨q, hq, e, -⟩ := HQ.out y hy
              rw [e]; exact HDL.out q hq)
            have HNU := hid (show ∀ y ∈ U, y.n ≤ 1000000 from fun y hy => by
              obtain ⟨q, hq, -, e⟩ := HQ.out y hy
              rw [e]; exact HDN.out q hq)
            have HTU := hid (show serialS (U.map Dnx.d) = serialS (d.map Dnx.d) from by rw [HU.out, List.take_length])
            have hU6 : U.length ≤ 1000000 := by omega
            have L13w := hid (L13.out.keep hBW)
            have L15w := hid (L15.out.keep hBW)
            have hge : (d.length : Int) ≤ (d.length : Int) := Int.le_refl _
            clear HI HQ HU hBW hUL hlt hk L13 L15
            obtain ⟨fr, br⟩ := R1
            simp only at L13w L15w
            cases br
            all_goals (
              go_wp2_with (first
                | refine wpList_load_valsS rfl (.tmp 13) rfl b13 rfl fr L13w.out ?_
                | refine wpList_load_vals rfl (.tmp 15) rfl b15 rfl fr L15w.out ?_
                | refine wpList_eq_valsA rfl (.tmp 170) (.tmp 171) _ rfl fr rfl rfl ?_)
              (with_reducible refine (serial_Serial ad capd d wr hd6 HDL.out HDN.out HDM.out).mono ?_)
              rintro e w6 ⟨rfl, hb6⟩
              have B6 := hid (BW.out.trans (hb6.mono BW.out.size))
              have P2 := ref_Serial ao co U w6 hU6 HLU.out HNU.out (HDU.out.below hb6)
              rw [HTU.out] at P2
              have P2 := hid P2
              clear hb6
              generalize serialS (d.map Dnx.d) = sb9 at *
              have hsb9 : (sb9 == sb9) = true := by simp
              go_wp2_with fail
              (with_reducible refine P2.out.mono ?_)
              rintro e w10 ⟨rfl, hb7⟩
              have B10 := hid (B6.out.trans (hb7.mono B6.out.size))
              clear hb7 P2
              go_wp2
              go_ret
              exact ⟨rfl, B10.out⟩)

end Go.Proofs.YtoiobhcgpajogadGreat
