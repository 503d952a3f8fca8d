/- The walks of a vault that turn it: Commit, Crash, Tear. -/
import Derived.Test.YtoiobhcgpajogaaGreatDoorVault1
import Derived.Deep.RegionHeld3
namespace Go.Proofs.YtoiobhcgpajogaaGreatDoor
open Go.RowKit

def VTurnPost (g : Nat → Nat) (p v : Nat) (x : (Int × Int) × Vt) (w : World) (e : Ending) (w' : World) : Prop :=
  e = .returned (.tuple #[.int .i64 x.1.1, .int .i64 x.1.2]) ∧ ∃ g', VaultAt w' g' p v x.2 ∧ Evo p (p + 11) g g' w w'

theorem VTurnPost.same {g : Nat → Nat} {p v : Nat} {a c : Int} {V : Vt} {w w' : World} (h : VaultAt w g p v V) (hb : Below w.heap.size w w') : VTurnPost g p v ((a, c), V) w (.returned (.tuple #[.int .i64 a, .int .i64 c])) w' :=
  ⟨rfl, extc g w p, h.frame (Evo.of_below (lo := 0) (hi := 0) g p hb) (by omega), Evo.of_below g p hb⟩

theorem writesD_facts {D : Ded} (h : D.Ok) : (writesD D).length ≤ 1000000 ∧ ∀ x ∈ writesD D, x.v.bytes.size ≤ maxLen := by
  have h1 := writesTo_length D 8
  have hc := writesD_ck h
  obtain ⟨i1, -, -⟩ := ok_of hc
  exact ⟨by unfold writesD; omega, fun x hx => by have := (i1 x hx).2.2.1; unfold maxLen; omega⟩

/-- Pairs in new memory, of the colour p. -/
theorem sliceC_new {w w' : World} {g : Nat → Nat} {p lo hi : Nat} {a : Option Addr} {l : List Ent} (hs : SliceAt w' a (encEnts l)) (hn : ∀ ad, a = some ad → w.heap.size ≤ ad.block ∧ ad.block < w'.heap.size) (hp : p < lo ∨ hi ≤ p) : SliceC w' (extc g w p) lo hi a (encEnts l) := by
  rcases hs with h | ⟨b, off, rfl, h⟩
  · exact .inl h
  · exact .inr ⟨b, off, rfl, (hn _ rfl).2, by rw [extc_new (hn _ rfl).1]; exact hp, h⟩

theorem SliceC.frame2 {w w' : World} {g g' : Nat → Nat} {lo hi lo' hi' : Nat} {a : Option Addr} {cells : List Value} (h : SliceC w g lo hi a cells) (k : Evo lo' hi' g g' w w') (h1 : lo ≤ lo') (h2 : hi' ≤ hi) : SliceC w' g' lo hi a cells := h.frame (k.wide h1 h2)

set_option maxHeartbeats 4000000 in
set_option maxRecDepth 100000 in
theorem vault_Commit (g : Nat → Nat) (p v : Nat) (V : Vt) (q d : Nat) (D : Ded) (w : World) (hV : VaultAt w g p v V) (hD : DeedAt w g q d D) :
    Calls Tryz.prog 160 #[.pointer (some ⟨v, 0, none⟩), .pointer (some ⟨d, 0, none⟩)] w (VTurnPost g p v (commitV V D) w) := by
  have HV := hid hV
  obtain ⟨t, b, hC⟩ := hV
  obtain ⟨c0, c1, f0, hlt⟩ := hC.cells
  have HC := hid hC
  have HM := hid (deed_May g q d D g (p + 1) t V.tab w hD hC.2.2.1)
  have HW := hid (fun W (h : Below w.heap.size w W) => deed_Writes g q d D W (hD.below h))
  have hwf := writesD_facts hD.1
  have hlw := hwf.1
  have HWF := hid hwf
  have EX : commitV V D = if mayD D V.tab ≠ 0 then ((0, mayD D V.tab), V) else if writesD D = [] then ((0, 0), V) else if (putG V.log (writesD D)).1 ≠ 0 then ((0, (putG V.log (writesD D)).1), V) else ((writeT V.tab (writesD D)).1, ⟨(writeT V.tab (writesD D)).2, (putG V.log (writesD D)).2⟩) := rfl
  have HOK := hid (commitV_ok hC.1 D)
  generalize commitV V D = x at *
  have HX := hid EX
  clear EX hC hD hwf
  generalize writesD D = l at *
  go_enter Tryz.func160, Tryz.ntmps160
  go_wp2_with fail
  refine HM.out.mono ?_
  rintro e w1 ⟨rfl, hb⟩
  have B1 := hid hb
  clear hb HM
  by_cases hm : mayD D V.tab = 0
  · have X1 := hid (HX.out.trans (if_neg (by rw [hm]; simp)))
    rw [hm]
    clear hm HX
    go_wp2_with fail
    refine (HW.out w1 B1.out).mono ?_
    rintro e w2 ⟨a2, c2, rfl, hs, hb, hn, -⟩
    have hB2 := B1.out.trans (hb.mono B1.out.size)
    have B2 := hid hB2
    have S2 := hid (sliceC_new (g := g) (p := p) (lo := p + 1) (hi := p + 11) hs (fun ad e => ⟨Nat.le_trans B1.out.size (hn ad e).1, (hn ad e).2⟩) (by omega))
    have E2 := hid (Evo.of_below (lo := 0) (hi := 0) g p hB2)
    have C2 := hid (HC.out.frame E2.out (by omega))
    obtain ⟨k0, k1, -, -⟩ := C2.out.cells
    generalize extc g w p = g2 at *
    clear hs hb hn hB2 HW c0 c1 f0
    by_cases hl0 : l = []
    · have X2 := hid (X1.out.trans (if_pos hl0))
      subst hl0
      clear X1
      go_wp2
      go_ret2
      rw [X2.out]
      exact VTurnPost.same HV.out B2.out
    · have X2 := hid (X1.out.trans (if_neg hl0))
      have hpos : 0 < l.length := List.length_pos_iff.2 hl0
      have hlen0 : ((l.length : Int) == 0) = false := by rw [beq_eq_false_iff_ne]; omega
      have hlenN : (l.length == 0) = false := by rw [beq_eq_false_iff_ne]; omega
      clear X1 hl0
      have HP := hid (log_Put g2 (p + 10) b V.log a2 c2 l w2 hlw HWF.out.2 C2.out.1.1 C2.out.1.2.1 C2.out.2.2.2 S2.out.at)
      have hbad := hid (fun (h : (putG V.log l).1 ≠ 0) => (show (putG V.log l).2 = V.log by
        unfold putG at h ⊢
        split
        · rfl
        · rename_i h1
          split
          · rfl
          · rename_i h2; rw [if_neg h1, if_neg h2] at h; exact absurd rfl h))
      generalize putG V.log l = y at *
      obtain ⟨yc, G2⟩ := y
      go_wp2_with fail
      refine HP.out.mono ?_
      rintro e w3 ⟨rfl, g3, hL, hE⟩
      have E3 := hid (E2.out.none (Nat.le_refl _) |>.trans (hE.wide (lo' := p) (hi' := p + 11) (by omega) (by omega)))
      have L3 := hid hL
      have P3 := hid (C2.out.2.1.frame hE (by omega))
      have T3 := hid (C2.out.2.2.1.frame hE (by omega))
      have S3 := hid (S2.out.frame2 hE (by omega) (by omega))
      clear hL hE HP k0 k1
      by_cases hc : yc = 0
      · have X3 := hid (X2.out.trans (if_neg (by simp [hc])))
        subst hc
        obtain ⟨k0, k1, -, -⟩ := P3.out.1.two
        have S3' : Hid (SliceC w3 g3 (p + 1) (p + 1 + 9) a2 (encEnts l)) := hid (by
          rcases S3.out with h | ⟨b', off, h1, h2, h3, h4⟩
          · exact .inl h
          · exact .inr ⟨b', off, h1, h2, by omega, h4⟩)
        clear X2 hbad
        go_wp2_with fail
        (with_reducible refine (table_Write g3 (p + 1) t V.tab a2 c2 l w3 hlw HWF.out.2 T3.out S3'.out).mono ?_)
        rintro e w4 ⟨rfl, g4, hT, hE⟩
        have T4 := hid hT
        have E4 := hid (E3.out.trans (hE.wide (lo' := p) (hi' := p + 11) (by omega) (by omega)))
        have P4 := hid (P3.out.frame hE (by omega))
        have L4 := hid (L3.out.frame hE (by omega))
        clear hT hE k0 k1
        generalize writeT V.tab l = z at *
        go_wp2
        go_ret2
        rw [X3.out] at HOK ⊢
        exact ⟨rfl, g4, ⟨t, b, HOK.out, P4.out, T4.out, L4.out⟩, E4.out⟩
      · have X3 := hid (X2.out.trans (if_pos hc))
        have hG := hbad.out hc
        have hc' : (yc != 0) = true := by simpa using hc
        subst hG
        clear hc X2 hbad
        go_wp2
        go_ret2
        rw [X3.out]
        exact ⟨rfl, g3, ⟨t, b, HC.out.1, P3.out, T3.out, L3.out⟩, E3.out⟩
  · have X1 := hid (HX.out.trans (if_pos hm))
    have hm' : (mayD D V.tab != 0) = true := by simpa using hm
    clear hm HX
    generalize mayD D V.tab = code at *
    go_wp2
    go_ret2
    rw [X1.out]
    exact VTurnPost.same HV.out B1.out

/-- A vault whose log may be torn. -/
def VaultL (w : World) (g : Nat → Nat) (p v t b : Nat) (T : Tab) (G : Lg) : Prop :=
  G.Ok ∧ LocC w g p v 82 [.pointer (some ⟨t, 0, none⟩), .pointer (some ⟨b, 0, none⟩)] ∧ TableAt w g (p + 1) t T ∧ LogAt w g (p + 10) b G

theorem VaultC.l {w : World} {g : Nat → Nat} {p v t b : Nat} {V : Vt} (h : VaultC w g p v t b V) : VaultL w g p v t b V.tab V.log := ⟨h.1.1, h.2⟩

set_option maxHeartbeats 2000000 in
set_option maxRecDepth 100000 in
theorem vault_Crash (g : Nat → Nat) (p v t b : Nat) (T : Tab) (G : Lg) (w : World) (h : VaultL w g p v t b T G) :
    Calls Tryz.prog 120 #[.pointer (some ⟨v, 0, none⟩)] w (fun e w' => e = .returned (.tuple #[]) ∧ ∃ g', VaultAt w' g' p v (crashV G) ∧ Evo p (p + 11) g g' w w') := by
  obtain ⟨hok, hL, hT, hG⟩ := h
  have HOK := hid hok
  have HM := hid (log_Mend g (p + 10) b G w hok hG)
  have HL := hid hL
  obtain ⟨c0, c1, -, -⟩ := hL.1.two
  have hlen := (mendG_ok hok).2.2.1
  have htab := hid ((mendG_ok hok).tab)
  have HCO := hid (crashV_ok hok)
  have HCE := hid (show crashV G = ⟨writeAll Tab.new G.l, mendG G⟩ from rfl)
  clear hok hL hT hG
  go_enter Tryz.func120, Tryz.ntmps120
  go_wp2_with fail
  refine HM.out.mono ?_
  rintro e w1 ⟨rfl, g1, hL1, hE1⟩
  have E1 := hid (hE1.wide (lo' := p) (hi' := p + 11) (by omega) (by omega))
  have P1 := hid (HL.out.frame hE1 (by omega))
  have L1 := hid hL1
  clear hL1 hE1 HM c0 c1 HL
  obtain ⟨k0, k1, -, -⟩ := P1.out.1.two
  have HB := hid (log_Bytes g1 (p + 10) b (mendG G) w1 L1.out (by omega))
  go_wp2_with fail
  refine HB.out.mono ?_
  rintro e w2 ⟨a2, c2, rfl, hx, hb, -⟩
  have HT := hid (log_TableA a2 c2 (mendG G).bytes w2 (by omega) hx)
  rw [htab.out] at HT
  have hE2 := Evo.of_below (lo := 0) (hi := 0) g1 p hb
  have E2 := hid (E1.out.trans (hE2.none (Nat.le_refl _)))
  have P2 := hid (P1.out.frame hE2 (by omega))
  have L2 := hid (L1.out.frame hE2 (by omega))
  generalize extc g1 w1 p = g2 at *
  clear hx hb hE2 k0 k1 P1 L1 E1 HB htab
  go_wp2_with fail
  refine HT.out.mono ?_
  rintro e w3 ⟨t3, gT, rfl, hb, hz, hT3⟩
  have hE3 : Evo 0 0 g2 (fun k => if k < w2.heap.size then g2 k else p + gT k) w2 w3 := ⟨hb.os, hb.tape, hb.output, hb.size, fun k hk => if_pos hk, fun k hk _ => hb.block k hk⟩
  have E3 := hid (E2.out.trans (hE3.none (Nat.le_refl _)))
  have P3 := hid (P2.out.frame hE3 (by omega))
  have L3 := hid (L2.out.frame hE3 (by omega))
  have T3 := hid (hT3.recolor (g' := fun k => if k < w2.heap.size then g2 k else p + gT k) (p' := p + 1) (fun k j _ hk => by
    have : ¬ k < w2.heap.size := fun h => by rw [hz k h] at hk; omega
    show (if k < w2.heap.size then g2 k else p + gT k) = p + 1 + j
    rw [if_neg this, hk]; omega))
  generalize (fun k => if k < w2.heap.size then g2 k else p + gT k) = g3 at *
  clear hb hz hT3 hE3 E2 P2 L2 HT
  obtain ⟨k0, k1, kf, -⟩ := P3.out.1.two
  go_wp2
  have ES : Evo p (p + 1) g3 g3 w3 (w3.setCell ⟨v, 0, none⟩ (.pointer (some ⟨t3, 0, none⟩))) := evo_store _ P3.out.2
  refine bodyPost_end (v := .tuple #[]) (by simp [results, Tryz.results120, go_sem]) rfl ⟨rfl, g3, ⟨t3, b, HCO.out, P3.out.set 0 _, ?_, ?_⟩, E3.out.trans (ES.wide (Nat.le_refl _) (by omega))⟩
  · rw [HCE.out]; exact T3.out.frame ES (by omega)
  · rw [HCE.out]; exact L3.out.frame ES (by omega)

set_option maxHeartbeats 4000000 in
set_option maxRecDepth 100000 in
theorem vault_Tear (g : Nat → Nat) (p v : Nat) (V : Vt) (q d : Nat) (D : Ded) (keep : Int) (w : World) (hV : VaultAt w g p v V) (hD : DeedAt w g q d D) :
    Calls Tryz.prog 144 #[.pointer (some ⟨v, 0, none⟩), .pointer (some ⟨d, 0, none⟩), .int .i64 keep] w (VTurnPost g p v (tearV V D keep) w) := by
  obtain ⟨t, b, hC⟩ := hV
  obtain ⟨c0, c1, f0, hlt⟩ := hC.cells
  have HC := hid hC
  have HM := hid (fun W (h : Below w.heap.size w W) => deed_May g q d D g (p + 1) t V.tab W (hD.below h) (hC.2.2.1.below h))
  have HLs := hid (fun W (h : Below w.heap.size w W) => table_Last g (p + 1) t V.tab W (hC.2.2.1.below h))
  have HW := hid (fun W (h : Below w.heap.size w W) => deed_Writes g q d D W (hD.below h))
  have KS := hid (fun W (h : Below w.heap.size w W) => (⟨h, (hC.below h).cells.1⟩ : Below w.heap.size w W ∧ W.cell? ⟨v, 0, none⟩ = some (.pointer (some ⟨t, 0, none⟩))))
  have hwf := writesD_facts hD.1
  have hlw := hwf.1
  have HWF := hid hwf
  have TX := hid (show tornV V D keep = if mayD D V.tab = 0 ∧ writesD D ≠ [] then tearG V.log (writesD D) keep else (mayD D V.tab, V.log) from rfl)
  have HX := hid (show tearV V D keep = ((if (tornV V D keep).2.l.length = V.tab.last then 0 else ((tornV V D keep).2.l.length : Int), (tornV V D keep).1), crashV (tornV V D keep).2) from rfl)
  have HTO := hid (tornV_ok hC.1 D keep)
  generalize tearV V D keep = x at *
  generalize tornV V D keep = y at *
  clear hC hD hwf
  generalize writesD D = l at *
  generalize mayD D V.tab = may at *
  go_enter Tryz.func144, Tryz.ntmps144
  go_wp2_with fail
  go_region_held3 (fun W' : World => Below w.heap.size w W' ∧ W'.cell? ⟨v, 0, none⟩ = some (.pointer (some ⟨t, 0, none⟩)))
    (first | assumption | exact KS.out _ (Below.refl _ _).drew)
    (first
      | (go_at_call 31; have hS := (‹Below w.heap.size w _ ∧ _›).1; (with_reducible refine (HLs.out _ hS).mono ?_); rintro e w' ⟨rfl, rfl⟩)
      | (go_at_call 161; have hS := (‹Below w.heap.size w _ ∧ _›).1; (with_reducible refine (HM.out _ hS).mono ?_); rintro e w1 ⟨rfl, hb⟩; have hS' := KS.out _ (hS.trans (hb.mono hS.size)); clear hb hS))
  all_goals
    have B1 := hid (‹Below w.heap.size w _ ∧ _›).1
    clear HM
    go_wp2_with fail
    refine (HW.out _ B1.out).mono ?_
    rintro e w2 ⟨a2, c2, rfl, hs, hb, hn, -⟩
    have hB2 := B1.out.trans (hb.mono B1.out.size)
    have S2 := hid (sliceC_new (g := g) (p := p) (lo := p + 1) (hi := p + 11) hs (fun ad e => ⟨Nat.le_trans B1.out.size (hn ad e).1, (hn ad e).2⟩) (by omega))
    have E2 := hid (Evo.of_below (lo := 0) (hi := 0) g p hB2)
    have C2 := hid (HC.out.frame E2.out (by omega))
    obtain ⟨k0, k1, -, -⟩ := C2.out.cells
    generalize extc g w p = g2 at *
    clear hs hb hn hB2 HW c0 c1 f0 HLs KS
    by_cases hcond : may = 0 ∧ l ≠ []
    case pos =>
      obtain ⟨hm, hl0⟩ := hcond
      have TX2 := hid (TX.out.trans (if_pos ⟨hm, hl0⟩))
      subst hm
      have hpos : 0 < l.length := List.length_pos_iff.2 hl0
      have hpos' : (0 : Int) < (l.length : Int) := by omega
      clear hl0 TX
      have HP := hid (log_Tear g2 (p + 10) b V.log a2 c2 l keep w2 hlw HWF.out.2 C2.out.1.1 C2.out.1.2.1 C2.out.2.2.2 S2.out.at)
      rw [← TX2.out] at HP
      go_wp2_with fail
      refine HP.out.mono ?_
      rintro e w3 ⟨rfl, g3, hL, hE⟩
      have E3 := hid (E2.out.none (Nat.le_refl _) |>.trans (hE.wide (lo' := p) (hi' := p + 11) (by omega) (by omega)))
      have VL := hid (show VaultL w3 g3 p v t b V.tab y.2 from ⟨HTO.out, C2.out.2.1.frame hE (by omega), C2.out.2.2.1.frame hE (by omega), hL⟩)
      clear hL hE HP k0 k1 TX2 C2 E2
      go_wp2_with fail
      refine (vault_Crash g3 p v t b V.tab y.2 w3 VL.out).mono ?_
      rintro e w4 ⟨rfl, g4, hV4, hE4⟩
      have E4 := hid (E3.out.trans hE4)
      have hlast := HTO.out.last
      obtain ⟨t4, b4, hC4⟩ := hV4
      have C4 := hid hC4
      obtain ⟨k0, k1, -, -⟩ := hC4.cells
      have HL4 := hid (table_Last g4 (p + 1) t4 _ w4 hC4.2.2.1)
      rw [show (crashV y.2).tab.last = y.2.l.length from hlast] at HL4
      clear hE4 VL hC4 hlast E3
      go_wp2_with fail
      refine HL4.out.mono ?_
      rintro e w5 ⟨rfl, rfl⟩
      by_cases hsame : y.2.l.length = V.tab.last
      · have X := hid (HX.out.trans (by rw [if_pos hsame]))
        rw [hsame]
        clear HX hsame HL4
        go_wp2
        go_ret2
        rw [X.out]
        exact ⟨rfl, g4, ⟨t4, b4, C4.out⟩, E4.out⟩
      · have X := hid (HX.out.trans (by rw [if_neg hsame]))
        have hs' : ((y.2.l.length : Int) == (V.tab.last : Int)) = false := by rw [beq_eq_false_iff_ne]; omega
        have hsN : (y.2.l.length == V.tab.last) = false := by rw [beq_eq_false_iff_ne]; omega
        clear HX hsame
        go_wp2_with fail
        refine HL4.out.mono ?_
        rintro e w5 ⟨rfl, rfl⟩
        go_wp2
        go_ret2
        rw [X.out]
        exact ⟨rfl, g4, ⟨t4, b4, C4.out⟩, E4.out⟩
    case neg =>
      have TX2 := hid (TX.out.trans (if_neg hcond))
      have hy1 : y.1 = may := by rw [TX2.out]
      have hy2 : y.2 = V.log := by rw [TX2.out]
      have E3 := hid (E2.out.none (lo' := p) (hi' := p + 11) (Nat.le_refl _))
      have VL := hid (show VaultL w2 g2 p v t b V.tab y.2 by rw [hy2]; exact C2.out.l)
      have hcc : y.1 ≠ 0 ∨ l = [] := by
        rw [hy1]
        by_cases h : may = 0
        · exact .inr (by by_cases h2 : l = []; exact h2; exact absurd ⟨h, h2⟩ hcond)
        · exact .inl h
      rw [← hy1]
      clear hcond TX TX2 hy2 C2 E2 k0 k1 hy1
      rcases hcc with hcc | hcc
      · have hc' : (y.1 == 0) = false := by simpa using hcc
        clear hcc
        generalize w2 = w3 at *
        generalize g2 = g3 at *
        go_wp2_with fail
        refine (vault_Crash g3 p v t b V.tab y.2 w3 VL.out).mono ?_
        rintro e w4 ⟨rfl, g4, hV4, hE4⟩
        have E4 := hid (E3.out.trans hE4)
        have hlast := HTO.out.last
        obtain ⟨t4, b4, hC4⟩ := hV4
        have C4 := hid hC4
        obtain ⟨k0, k1, -, -⟩ := hC4.cells
        have HL4 := hid (table_Last g4 (p + 1) t4 _ w4 hC4.2.2.1)
        rw [show (crashV y.2).tab.last = y.2.l.length from hlast] at HL4
        clear hE4 VL hC4 hlast E3
        go_wp2_with fail
        refine HL4.out.mono ?_
        rintro e w5 ⟨rfl, rfl⟩
        by_cases hsame : y.2.l.length = V.tab.last
        · have X := hid (HX.out.trans (by rw [if_pos hsame]))
          rw [hsame]
          clear HX hsame HL4
          go_wp2
          go_ret2
          rw [X.out]
          exact ⟨rfl, g4, ⟨t4, b4, C4.out⟩, E4.out⟩
        · have X := hid (HX.out.trans (by rw [if_neg hsame]))
          have hs' : ((y.2.l.length : Int) == (V.tab.last : Int)) = false := by rw [beq_eq_false_iff_ne]; omega
          have hsN : (y.2.l.length == V.tab.last) = false := by rw [beq_eq_false_iff_ne]; omega
          clear HX hsame
          go_wp2_with fail
          refine HL4.out.mono ?_
          rintro e w5 ⟨rfl, rfl⟩
          go_wp2
          go_ret2
          rw [X.out]
          exact ⟨rfl, g4, ⟨t4, b4, C4.out⟩, E4.out⟩
      · subst hcc
        generalize w2 = w3 at *
        generalize g2 = g3 at *
        by_cases hcc : y.1 = 0
        · have hcN := hid hcc
          generalize hyc : y.1 = yc at *
          subst hcc
          go_wp2_with fail
          refine (vault_Crash g3 p v t b V.tab y.2 w3 VL.out).mono ?_
          rintro e w4 ⟨rfl, g4, hV4, hE4⟩
          have E4 := hid (E3.out.trans hE4)
          have hlast := HTO.out.last
          obtain ⟨t4, b4, hC4⟩ := hV4
          have C4 := hid hC4
          obtain ⟨k0, k1, -, -⟩ := hC4.cells
          have HL4 := hid (table_Last g4 (p + 1) t4 _ w4 hC4.2.2.1)
          rw [show (crashV y.2).tab.last = y.2.l.length from hlast] at HL4
          clear hE4 VL hC4 hlast E3
          go_wp2_with fail
          refine HL4.out.mono ?_
          rintro e w5 ⟨rfl, rfl⟩
          by_cases hsame : y.2.l.length = V.tab.last
          · have X := hid (HX.out.trans (by rw [if_pos hsame]))
            rw [hsame]
            clear HX hsame HL4
            go_wp2
            go_ret2
            rw [X.out]
            exact ⟨rfl, g4, ⟨t4, b4, C4.out⟩, E4.out⟩
          · have X := hid (HX.out.trans (by rw [if_neg hsame]))
            have hs' : ((y.2.l.length : Int) == (V.tab.last : Int)) = false := by rw [beq_eq_false_iff_ne]; omega
            have hsN : (y.2.l.length == V.tab.last) = false := by rw [beq_eq_false_iff_ne]; omega
            clear HX hsame
            go_wp2_with fail
            refine HL4.out.mono ?_
            rintro e w5 ⟨rfl, rfl⟩
            go_wp2
            go_ret2
            rw [X.out]
            exact ⟨rfl, g4, ⟨t4, b4, C4.out⟩, E4.out⟩
        · have hc' : (y.1 == 0) = false := by simpa using hcc
          clear hcc
          go_wp2_with fail
          refine (vault_Crash g3 p v t b V.tab y.2 w3 VL.out).mono ?_
          rintro e w4 ⟨rfl, g4, hV4, hE4⟩
          have E4 := hid (E3.out.trans hE4)
          have hlast := HTO.out.last
          obtain ⟨t4, b4, hC4⟩ := hV4
          have C4 := hid hC4
          obtain ⟨k0, k1, -, -⟩ := hC4.cells
          have HL4 := hid (table_Last g4 (p + 1) t4 _ w4 hC4.2.2.1)
          rw [show (crashV y.2).tab.last = y.2.l.length from hlast] at HL4
          clear hE4 VL hC4 hlast E3
          go_wp2_with fail
          refine HL4.out.mono ?_
          rintro e w5 ⟨rfl, rfl⟩
          by_cases hsame : y.2.l.length = V.tab.last
          · have X := hid (HX.out.trans (by rw [if_pos hsame]))
            rw [hsame]
            clear HX hsame HL4
            go_wp2
            go_ret2
            rw [X.out]
            exact ⟨rfl, g4, ⟨t4, b4, C4.out⟩, E4.out⟩
          · have X := hid (HX.out.trans (by rw [if_neg hsame]))
            have hs' : ((y.2.l.length : Int) == (V.tab.last : Int)) = false := by rw [beq_eq_false_iff_ne]; omega
            have hsN : (y.2.l.length == V.tab.last) = false := by rw [beq_eq_false_iff_ne]; omega
            clear HX hsame
            go_wp2_with fail
            refine HL4.out.mono ?_
            rintro e w5 ⟨rfl, rfl⟩
            go_wp2
            go_ret2
            rw [X.out]
            exact ⟨rfl, g4, ⟨t4, b4, C4.out⟩, E4.out⟩

end Go.Proofs.YtoiobhcgpajogaaGreatDoor
