/- The walk of DeedReads. -/
import Derived.Test.YtoiobhcgpajogabLaw03c
namespace Go.Proofs.Ytoiobhcgpajogab
open Go.RowKit

def ints8 (f : Nat → Int) : List Value := [.int .i64 (f 0), .int .i64 (f 1), .int .i64 (f 2), .int .i64 (f 3), .int .i64 (f 4), .int .i64 (f 5), .int .i64 (f 6), .int .i64 (f 7)]
theorem ints8_get (f : Nat → Int) (n : Nat) (hn : n < 8) : (ints8 f)[n]? = some (.int .i64 (f n)) := by
  have h : n = 0 ∨ n = 1 ∨ n = 2 ∨ n = 3 ∨ n = 4 ∨ n = 5 ∨ n = 6 ∨ n = 7 := by omega
  rcases h with rfl | rfl | rfl | rfl | rfl | rfl | rfl | rfl <;> rfl
theorem ints8_set (f : Nat → Int) (n : Nat) (hn : n < 8) (v : Int) : (ints8 f).set n (.int .i64 v) = ints8 (upd f n v) := by
  have h : n = 0 ∨ n = 1 ∨ n = 2 ∨ n = 3 ∨ n = 4 ∨ n = 5 ∨ n = 6 ∨ n = 7 := by omega
  rcases h with rfl | rfl | rfl | rfl | rfl | rfl | rfl | rfl <;> rfl

/-- What 'first' says of a deed. -/
def Inv3 (D : Ded) (f : Nat → Int) : Prop := ∀ k, k < 8 → (f k = 0 ∧ D.read k = false ∧ D.wrote k = none) ∨ (f k = 1 ∧ D.read k = true) ∨ (f k = 2 ∧ D.read k = false ∧ D.wrote k ≠ none)

section
variable {D : Ded} {T : Tab} {f : Nat → Int} {n : Nat} {v : Val}
theorem getD_in (hn : n < 8) : (∃ v, D.wrote n = some v ∧ getD D T n = ((v, 0), D)) ∨ D.wrote n = none ∧ ((getD D T n).1.2 = 0 ∧ (getD D T n).2 = ⟨D.mode, D.beg, upd D.read n true, D.wrote⟩ ∨ (getD D T n).1.2 ≠ 0 ∧ (getD D T n).2 = D) := by
  unfold getD
  rw [if_neg (by omega), Int.toNat_natCast]
  cases hw : D.wrote n with
  | some v => exact .inl ⟨v, rfl, rfl⟩
  | none =>
    refine .inr ⟨rfl, ?_⟩
    simp only
    split
    · rename_i h; exact .inl ⟨h, rfl⟩
    · rename_i h; exact .inr ⟨h, rfl⟩
theorem getD_out {k : Int} (h : k < 0 ∨ 8 ≤ k) : getD D T k = ((Val.zero, 1), D) := by unfold getD; rw [if_pos h]
theorem putD_out {k : Int} (h : k < 0 ∨ 8 ≤ k) : putD D k v = (1, D) := by unfold putD; rw [if_pos h]
theorem putD_in (hn : n < 8) : (putD D n v).1 = 0 ∧ (putD D n v).2 = ⟨D.mode, D.beg, D.read, upd D.wrote n (some v)⟩ ∨ (putD D n v).1 ≠ 0 ∧ (putD D n v).2 = D := by
  unfold putD
  rw [if_neg (by omega), Int.toNat_natCast]
  split
  · exact .inr ⟨(by decide : (3 : Int) ≠ 0), rfl⟩
  · split
    · rename_i h; exact .inr ⟨h, rfl⟩
    · exact .inl ⟨rfl, rfl⟩
theorem Inv3.get1 (h : Inv3 D f) (hn : n < 8) (hf : f n = 0) (hc : (getD D T n).1.2 = 0) : Inv3 (getD D T n).2 (upd f n 1) := by
  rcases getD_in (D := D) (T := T) hn with ⟨v, hw, -⟩ | ⟨hw, ⟨-, e⟩ | ⟨hne, -⟩⟩
  · rcases h n hn with ⟨-, -, h3⟩ | ⟨h1, -⟩ | ⟨h1, -⟩
    · rw [hw] at h3; cases h3
    · rw [hf] at h1; cases h1
    · rw [hf] at h1; cases h1
  · rw [e]
    intro k hk
    by_cases ek : k = n
    · subst ek; exact .inr (.inl ⟨upd_same _ _ _, upd_same _ _ _⟩)
    · simp only [upd_other _ _ ek]; exact h k hk
  · exact absurd hc hne
theorem Inv3.get2 (h : Inv3 D f) (hn : n < 8) (hf : f n = 0 → (getD D T n).1.2 ≠ 0) : Inv3 (getD D T n).2 f := by
  rcases getD_in (D := D) (T := T) hn with ⟨v, hw, e⟩ | ⟨hw, ⟨hc, e⟩ | ⟨hne, e⟩⟩
  · rw [e]; exact h
  · rw [e]
    intro k hk
    by_cases ek : k = n
    · subst ek
      rcases h k hk with ⟨h1, -⟩ | ⟨h1, h2⟩ | ⟨h1, -, h3⟩
      · exact absurd hc (hf h1)
      · exact .inr (.inl ⟨h1, upd_same _ _ _⟩)
      · exact absurd hw h3
    · simp only [upd_other _ _ ek]; exact h k hk
  · rw [e]; exact h
theorem Inv3.put1 (h : Inv3 D f) (hn : n < 8) (hf : f n = 0) (hc : (putD D n v).1 = 0) : Inv3 (putD D n v).2 (upd f n 2) := by
  rcases putD_in (D := D) (v := v) hn with ⟨-, e⟩ | ⟨hne, -⟩
  · rw [e]
    intro k hk
    by_cases ek : k = n
    · subst ek
      refine .inr (.inr ⟨upd_same _ _ _, ?_, by simp only [upd_same]; simp⟩)
      rcases h k hk with ⟨-, h2, -⟩ | ⟨h1, -⟩ | ⟨-, h2, -⟩
      · exact h2
      · rw [hf] at h1; cases h1
      · exact h2
    · simp only [upd_other _ _ ek]; exact h k hk
  · exact absurd hc hne
theorem Inv3.put2 (h : Inv3 D f) (hn : n < 8) (hf : f n = 0 → (putD D n v).1 ≠ 0) : Inv3 (putD D n v).2 f := by
  rcases putD_in (D := D) (v := v) hn with ⟨hc, e⟩ | ⟨-, e⟩
  · rw [e]
    intro k hk
    by_cases ek : k = n
    · subst ek
      rcases h k hk with ⟨h1, -⟩ | ⟨h1, h2⟩ | ⟨h1, h2, h3⟩
      · exact absurd hc (hf h1)
      · exact .inr (.inl ⟨h1, h2⟩)
      · exact .inr (.inr ⟨h1, h2, by simp only [upd_same]; simp⟩)
    · simp only [upd_other _ _ ek]; exact h k hk
  · rw [e]; exact h
end

set_option maxHeartbeats 1000000 in
set_option maxRecDepth 100000 in
theorem deed_Get_own (g : Nat → Nat) (p d : Nat) (D : Ded) (t n : Nat) (v : Val) (w : World) (hn : n < 8) (hD : DeedAt w g p d D) (hw : D.wrote n = some v) :
    Calls Try.prog 39 #[.pointer (some ⟨d, 0, none⟩), .pointer (some ⟨t, 0, none⟩), .int .i64 n] w (fun e w' => e = .returned (.tuple #[.agg #[.bool v.there, .string v.bytes], .int .i64 0]) ∧ Below w.heap.size w w') := by
  have CK := hid (fun w => chain_Key_in n w ⟨by omega, by omega⟩)
  obtain ⟨c0, c1, hlt⟩ := hD.cells
  obtain ⟨x1, x2, x3, x4⟩ := hD.at hn
  have hne : d ≠ w.heap.size := by omega
  have HD := hid hD
  have hn0 : (0 : Int) ≤ (n : Int) := by omega
  have hn8 : (n : Int) < 8 := by omega
  have hh : hasD D n = v := by unfold hasD; rw [hw]; rfl
  rw [hw] at x2
  rw [hh] at x3 x4
  clear hD hw hh
  go_enter Try.func39, Try.ntmps39
  go_wp2_with fail
  refine (CK.out _).mono ?_
  rintro e w1 ⟨rfl, rfl⟩
  have D6 := hid (HD.out.frame (Evo.alloc g p w (.cells #[.bool false, .string ByteArray.empty] 32)) (by omega))
  obtain ⟨y1, y2, y3, y4⟩ := D6.out.at hn
  go_wp2
  exact bodyPost_ret (v := .tuple #[.agg #[.bool v.there, .string v.bytes], .int .i64 0]) (by simp [results, Try.results39, go_sem]) rfl ⟨rfl, (Below.refl _ _).alloc (Nat.le_refl _) _⟩

theorem isKeyQ (n : Nat) (w : World) (hn : n < 8) : Calls Try.prog 21 #[.int .i64 n] w (fun e w' => e = .returned (.bool true) ∧ ∃ m, w' = w.drewN m) :=
  (ref_IsKey_in n w ⟨by omega, by omega⟩).mono (fun _ _ h => ⟨h.1, 0, h.2.symm⟩)

theorem readsD_facts {D : Ded} {f : Nat → Int} (h : Inv3 D f) : (∀ i (hi : i < (readsD D).length), (readsD D)[i] < 8 ∧ f (readsD D)[i] = 1) ∧ (∀ i (hi : i < (readsD D).length), 0 < i → (readsD D)[i - 1] < (readsD D)[i]) ∧
    (∀ k, k < 8 → f k = 1 → (readsD D).any (fun (z : Nat) => (z : Int) == (k : Int)) = true) := by
  refine ⟨fun i hi => ?_, fun i hi h0 => ?_, fun k hk hf => ?_⟩
  · obtain ⟨h1, h2⟩ := mem_readsTo.1 (show (readsD D)[i] ∈ readsTo D 8 from List.getElem_mem _)
    refine ⟨h1, ?_⟩
    rcases h _ h1 with ⟨-, e, -⟩ | ⟨e, -⟩ | ⟨-, e, -⟩
    · rw [h2] at e; cases e
    · exact e
    · rw [h2] at e; cases e
  · have hp : (readsD D).Pairwise (· < ·) := List.Pairwise.filter _ List.pairwise_lt_range
    exact List.pairwise_iff_getElem.1 hp (i - 1) i (by omega) hi (by omega)
  · rw [List.any_eq_true]
    refine ⟨k, mem_readsTo.2 ⟨hk, ?_⟩, by simp⟩
    rcases h k hk with ⟨e, -, -⟩ | ⟨-, e⟩ | ⟨e, -, -⟩
    · rw [hf] at e; cases e
    · exact e
    · rw [hf] at e; cases e

theorem writesD_facts {D : Ded} (h : D.Ok) : (∀ i (hi : i < (writesD D).length), ∃ n : Nat, n < 8 ∧ (writesD D)[i].n = n ∧ D.wrote n = some (writesD D)[i].v) ∧ (∀ i (hi : i < (writesD D).length), 0 < i → (writesD D)[i - 1].n < (writesD D)[i].n) ∧
    (D.mode = 3 → (writesD D).length = 0) := by
  refine ⟨fun i hi => ?_, fun i hi h0 => ?_, fun hm => ?_⟩
  · obtain ⟨n, h1, h2, h3⟩ := mem_writesTo.1 (show (writesD D)[i] ∈ writesTo D 8 from List.getElem_mem _)
    exact ⟨n, h1, h2, h3⟩
  · have hp := (ckPs_rise (writesD_ck h)).2
    exact List.pairwise_iff_getElem.1 hp (i - 1) i (by omega) hi (by omega)
  · cases hw : writesD D with
    | nil => rfl
    | cons x l =>
      obtain ⟨n, h1, h2, h3⟩ := mem_writesTo.1 (show x ∈ writesTo D 8 from by rw [show writesTo D 8 = writesD D from rfl, hw]; exact List.mem_cons_self ..)
      rw [h.2 hm n] at h3; cases h3

set_option maxHeartbeats 8000000 in
set_option maxRecDepth 100000 in
theorem walk_DeedReads (a : Option Addr) (cap : Nat) (l : List TStep) (mode : Int) (a2 : Option Addr) (cap2 : Nat) (m : List DStep) (w : World) (hl : l.length ≤ 9223372036854775807) (hA : TStepsAt w a l) (_ : (Lit.int .i64 mode).wf = true) (hl2 : m.length ≤ 9223372036854775807) (hA2 : DStepsAt w a2 m) :
    Calls Try.prog 11 #[.slice a l.length cap, .int .i64 mode, .slice a2 m.length cap2] w (TruePost w) := by
  have HA := hid hA
  have HA2 := hid hA2
  clear hA hA2
  go_enter Try.func11, Try.ntmps11
  go_wp2_with fail
  (with_reducible refine (law_deedBegun w).mono ?_)
  rintro e w1 ⟨rfl, hb⟩
  have B1 := hid hb
  clear hb
  go_wp2_with fail
  (with_reducible refine (law_greatTable a cap l w1 hl (HA.out.below B1.out)).mono ?_)
  rintro e w2 ⟨rfl, hb⟩
  have B2 := hid (B1.out.trans (hb.mono B1.out.size))
  clear hb
  cases hg : greatT l with
  | true =>
    clear hg
    go_wp2
    go_ret
    exact ⟨rfl, B2.out⟩
  | false =>
  obtain ⟨h80, h50⟩ := greatT_false hg
  have H50 := hid h50
  clear hg h50
  go_wp2_with fail
  (with_reducible refine (law_greatDeeds a2 cap2 m w2 hl2 (HA2.out.below B2.out)).mono ?_)
  rintro e w2a ⟨rfl, hb⟩
  have B2a := hid (B2.out.trans (hb.mono B2.out.size))
  clear hb B2
  cases hg : greatDs m with
  | true =>
    clear hg
    go_wp2
    go_ret
    exact ⟨rfl, B2a.out⟩
  | false =>
  obtain ⟨hm60, h50⟩ := greatDs_false hg
  have M50 := hid h50
  clear hg h50
  by_cases hm1 : mode < 1
  · go_wp2
    go_ret
    exact ⟨rfl, B2a.out⟩
  by_cases hm3 : 3 < mode
  · go_wp2
    go_ret
    exact ⟨rfl, B2a.out⟩
  have hmd' : 1 ≤ mode ∧ mode ≤ 3 := by omega
  have ND := hid (fun g W (b : Int) => deed_New_in g 12 mode b W hmd')
  clear hmd'
  go_wp2_with fail
  (with_reducible refine (law_tables a cap l w2a h80 H50.out (HA.out.below B2a.out)).mono ?_)
  rintro e w3 ⟨g, t, s, rfl, h3⟩
  have H3 := hid h3
  generalize runT l = T at *
  have HOK := hid h3.tab.1
  have h40 := h3.tab.1.2
  clear h3
  go_wp2_with fail
  (with_reducible refine (table_Last _ 1 t T w3 H3.out.tab).mono ?_)
  rintro e w4' ⟨rfl, rfl⟩
  go_wp2_with fail
  refine (ND.out g w3 T.last).mono ?_
  rintro e w5 ⟨d, rfl, hb, -, hD⟩
  have H5 : Hid (TD w2a (extc g w3 12) w5 t d T (Ded.new mode T.last)) := hid ⟨H3.out.base.step (Evo.of_below (lo := 0) (hi := 0) g 12 hb) (by omega), H3.out.tab.frame (Evo.of_below (lo := 0) (hi := 0) g 12 hb) (by omega), hD⟩
  have E5 : Hid ((Ded.new mode T.last).mode = mode) := hid rfl
  have J5 : Hid (Inv3 (Ded.new mode T.last) (fun _ => 0)) := hid (fun k _ => .inl ⟨rfl, rfl, rfl⟩)
  generalize extc g w3 12 = g5 at *
  generalize Ded.new mode T.last = D0 at *
  have MA := hid (HA2.out.below B2a.out)
  clear hb hD H3 ND HA HA2
  go_upto_region 12 with (fail)
  have L6 := hid (LocC.new g5 0 w5 81 (ints8 (fun _ => 0)))
  have H6 := hid (H5.out.alloc (.cells (ints8 (fun _ => 0)).toArray 81))
  have hB4 : w2a.heap.size ≤ w5.heap.size := H5.out.base.size
  change Hid (LocC (w5.alloc (.cells #[.int .i64 0, .int .i64 0, .int .i64 0, .int .i64 0, .int .i64 0, .int .i64 0, .int .i64 0, .int .i64 0] 81)) _ _ _ _ _) at L6
  change Hid (TD _ _ (w5.alloc (.cells #[.int .i64 0, .int .i64 0, .int .i64 0, .int .i64 0, .int .i64 0, .int .i64 0, .int .i64 0, .int .i64 0] 81)) _ _ _ _) at H6
  generalize extc g5 w5 0 = g6 at *
  generalize w5.alloc (.cells #[.int .i64 0, .int .i64 0, .int .i64 0, .int .i64 0, .int .i64 0, .int .i64 0, .int .i64 0, .int .i64 0] 81) = w6 at *
  generalize hb4 : w5.heap.size = b4 at *
  clear H5 hb4
  go_wp2_with fail
  go_loopw [12] (fun i wr => ∃ (k : Nat) (g : Nat → Nat) (D : Ded) (f : Nat → Int), k ≤ m.length ∧ i = .int .i64 k ∧ Hid (TD w2a g wr t d T D) ∧ Hid (D.mode = mode) ∧ Hid (Inv3 D f) ∧ Hid (LocC wr g 0 b4 81 (ints8 f))) (fun i _ => m.length - (intOf i).toNat)
  case atStart => exact ⟨0, g6, D0, fun _ => 0, Nat.zero_le _, rfl, H6, E5, J5, L6⟩
  case round =>
    clear H6 E5 J5 L6
    obtain ⟨k, g, D, f, hk, rfl, H, E, J, L⟩ := hrel
    by_cases hlt : k < m.length
    · obtain ⟨b1, o1, rfl, hbb, v1⟩ := MA.out.facts (by omega)
      obtain ⟨p1, p2, p3, p4, p5, p6, p7, -, hvs⟩ := v1 k hlt
      have P1 := (H.out.base.cell (p := ⟨b1, _, none⟩) hbb).trans p1
      have P2 := (H.out.base.cell (p := ⟨b1, _, none⟩) hbb).trans p2
      have P3 := (H.out.base.cell (p := ⟨b1, _, none⟩) hbb).trans p3
      have P4 := (H.out.base.cell (p := ⟨b1, _, none⟩) hbb).trans p4
      have P5 := (H.out.base.cell (p := ⟨b1, _, none⟩) hbb).trans p5
      have P6 := (H.out.base.cell (p := ⟨b1, _, none⟩) hbb).trans p6
      have hki : (k : Int) < (m.length : Int) := by omega
      have hk0 : (0 : Int) ≤ (k : Int) := by omega
      generalize m[k] = x at *
      have HVS := hid hvs
      clear v1 p1 p2 p3 p4 p5 p6 p7 hvs
      go_upto_region 16 with (fail)
      clear P1 P2 P3 P4 P5 P6
      have M1 := hid (LocC.new g 0 wr 70 [.int .i64 x.do_, .int .i64 x.k, .int .i64 x.to_, .bool x.v.there, .string x.v.bytes, .slice x.a x.w.length x.cap])
      have H1 := hid (H.out.alloc (.cells #[.int .i64 x.do_, .int .i64 x.k, .int .i64 x.to_, .bool x.v.there, .string x.v.bytes, .slice x.a x.w.length x.cap] 70))
      have L1 := hid (L.out.alloc 0 (.cells #[.int .i64 x.do_, .int .i64 x.k, .int .i64 x.to_, .bool x.v.there, .string x.v.bytes, .slice x.a x.w.length x.cap] 70))
      generalize extc g wr 0 = g1 at *
      generalize wr.alloc (.cells #[.int .i64 x.do_, .int .i64 x.k, .int .i64 x.to_, .bool x.v.there, .string x.v.bytes, .slice x.a x.w.length x.cap] 70) = w5 at *
      generalize hbx : wr.heap.size = bx at *
      clear H L hbx
      have m0 : w5.cell? ⟨bx, 0, none⟩ = some (.int .i64 x.do_) := M1.out.1.cell 0
      have m1 : w5.cell? ⟨bx, 1, none⟩ = some (.int .i64 x.k) := M1.out.1.cell 1
      have m3 : w5.cell? ⟨bx, 3, none⟩ = some (.bool x.v.there) := M1.out.1.cell 3
      have m4 : w5.cell? ⟨bx, 4, none⟩ = some (.string x.v.bytes) := M1.out.1.cell 4
      by_cases h0 : x.k < 0 ∨ 8 ≤ x.k
      · have CK := hid (fun W => ref_IsKey_out x.k W h0)
        have eg := getD_out (D := D) (T := T) h0
        have ep := putD_out (D := D) (v := x.v) h0
        have PG := deed_Get g1 12 d D g1 1 t T x.k w5 H1.out.ded H1.out.tab
        have PP := deed_Put g1 12 d D x.k x.v w5 HVS.out H1.out.ded
        rw [eg] at PG
        rw [ep] at PP
        have PG' := hid PG
        have PP' := hid PP
        clear eg ep PG PP h0
        go_wp2_with fail
        refine (CK.out _).mono ?_
        rintro e W ⟨rfl, rfl⟩
        by_cases hd : x.do_ = 0
        · rw [hd] at m0
          clear hd
          go_wp2_with fail
          (with_reducible refine PG'.out.mono ?_)
          rintro e w6 ⟨rfl, g6, hD, hE⟩
          have H6 := hid (H1.out.evoD hE hD)
          have L6 := hid (L1.out.frame hE (by omega))
          clear hD hE H1 L1 M1 m0 m1 m3 m4
          go_upto_region 20 with (fail)
          have H7 := hid (H6.out.alloc (.cells #[.bool Val.zero.there, .string Val.zero.bytes] 32))
          have L7 := hid (L6.out.alloc 0 (.cells #[.bool Val.zero.there, .string Val.zero.bytes] 32))
          go_wp2
          go_roundw
          case rel => exact ⟨k + 1, _, D, f, by omega, by go_num, H7, E, J, L7⟩
          case measure => simp [intOf]; omega
        · have z0 : (x.do_ == 0) = false := by simpa using hd
          by_cases hd1 : x.do_ = 1
          · rw [hd1] at m0
            clear hd hd1 z0
            go_wp2_with fail
            (with_reducible refine PP'.out.mono ?_)
            rintro e w6 ⟨rfl, g6, hD, hE⟩
            have H6 := hid (H1.out.evoD hE hD)
            have L6 := hid (L1.out.frame hE (by omega))
            clear hD hE H1 L1 M1 m0 m1 m3 m4
            go_wp2
            go_roundw
            case rel => exact ⟨k + 1, g6, D, f, by omega, by go_num, H6, E, J, L6⟩
            case measure => simp [intOf]; omega
          · have z1 : (x.do_ == 1) = false := by simpa using hd1
            clear hd hd1
            go_wp2
            go_roundw
            case rel => exact ⟨k + 1, g1, D, f, by omega, by go_num, H1, E, J, L1⟩
            case measure => simp [intOf]; omega
      · obtain ⟨n, hn8, hxn⟩ := key_nat h0
        rw [hxn] at m1 M1
        have hn0 : (0 : Int) ≤ (n : Int) := by omega
        have hn8' : (n : Int) < 8 := by omega
        have CK := hid (fun W => ref_IsKey_in n W ⟨hn0, hn8'⟩)
        clear h0 hxn
        go_wp2_with fail
        refine (CK.out _).mono ?_
        rintro e W ⟨rfl, rfl⟩
        by_cases hd : x.do_ = 0
        · rw [hd] at m0
          clear hd
          have G1 := hid (fun h1 h2 => J.out.get1 (T := T) hn8 h1 h2)
          have G2 := hid (fun h => J.out.get2 (T := T) hn8 h)
          have ES := hid ((getD_same D T n).1.trans E.out)
          go_wp2_with fail
          (with_reducible refine (deed_Get g1 12 d D g1 1 t T n w5 H1.out.ded H1.out.tab).mono ?_)
          rintro e w6 ⟨rfl, g6, hD, hE⟩
          have H6 := hid (H1.out.evoD hE hD)
          have L6 := hid (L1.out.frame hE (by omega))
          have M6 := hid (M1.out.frame hE (by omega))
          clear hD hE H1 L1 M1 m0 m1 m3 m4
          generalize getD D T n = y at *
          obtain ⟨⟨u, c⟩, D2⟩ := y
          go_upto_region 20 with (fail)
          have H7 := hid (H6.out.alloc (.cells #[.bool u.there, .string u.bytes] 32))
          have L7 := hid (L6.out.alloc 0 (.cells #[.bool u.there, .string u.bytes] 32))
          have M7 := hid (M6.out.alloc 0 (.cells #[.bool u.there, .string u.bytes] 32))
          generalize extc g6 w6 0 = g7 at *
          generalize w6.alloc (.cells #[.bool u.there, .string u.bytes] 32) = w7 at *
          clear H6 L6 M6
          have m1 : w7.cell? ⟨bx, 1, none⟩ = some (.int .i64 n) := M7.out.1.cell 1
          have y1 := (L7.out.1.cell n).trans (ints8_get _ n hn8)
          have r1 := L7.out.1.free n
          by_cases hc : c = 0
          · by_cases hf : f n = 0
            · have J2 := hid (G1.out hf hc)
              rw [hf] at y1
              subst hc
              clear hf G1 G2
              go_wp2
              have H9 : Hid (TD w2a g7 (w7.setCell ⟨b4, n, none⟩ (.int .i64 1)) t d T D2) := hid (H7.out.store0 _ hB4 L7.out.2)
              have L9 : Hid (LocC (w7.setCell ⟨b4, n, none⟩ (.int .i64 1)) g7 0 b4 81 (ints8 (upd f n 1))) := hid ⟨by rw [← ints8_set f n hn8]; exact L7.out.1.set n _, L7.out.2⟩
              go_roundw
              case rel => exact ⟨k + 1, g7, D2, _, by omega, by go_num, H9, ES, J2, L9⟩
              case measure => simp [intOf]; omega
            · have J2 := hid (G2.out (fun h => absurd h hf))
              have hf' : (f n == 0) = false := by simpa using hf
              subst hc
              clear hf G1 G2
              go_wp2
              go_roundw
              case rel => exact ⟨k + 1, g7, D2, f, by omega, by go_num, H7, ES, J2, L7⟩
              case measure => simp [intOf]; omega
          · have J2 := hid (G2.out (fun _ => hc))
            have hc' : (c == 0) = false := by simpa using hc
            clear hc G1 G2
            go_wp2
            go_roundw
            case rel => exact ⟨k + 1, g7, D2, f, by omega, by go_num, H7, ES, J2, L7⟩
            case measure => simp [intOf]; omega
        · have z0 : (x.do_ == 0) = false := by simpa using hd
          by_cases hd1 : x.do_ = 1
          · rw [hd1] at m0
            clear hd hd1 z0
            have G1 := hid (fun h1 h2 => J.out.put1 (v := x.v) hn8 h1 h2)
            have G2 := hid (fun h => J.out.put2 (v := x.v) hn8 h)
            have ES := hid ((putD_same D n x.v).1.trans E.out)
            go_wp2_with fail
            (with_reducible refine (deed_Put g1 12 d D n x.v w5 HVS.out H1.out.ded).mono ?_)
            rintro e w7 ⟨rfl, g7, hD, hE⟩
            have H7 := hid (H1.out.evoD hE hD)
            have L7 := hid (L1.out.frame hE (by omega))
            have M7 := hid (M1.out.frame hE (by omega))
            clear hD hE H1 L1 M1 m0 m1 m3 m4
            generalize putD D n x.v = y at *
            obtain ⟨c, D2⟩ := y
            have m1 : w7.cell? ⟨bx, 1, none⟩ = some (.int .i64 n) := M7.out.1.cell 1
            have y1 := (L7.out.1.cell n).trans (ints8_get _ n hn8)
            have r1 := L7.out.1.free n
            by_cases hc : c = 0
            · by_cases hf : f n = 0
              · have J2 := hid (G1.out hf hc)
                rw [hf] at y1
                subst hc
                clear hf G1 G2
                go_wp2
                have H9 : Hid (TD w2a g7 (w7.setCell ⟨b4, n, none⟩ (.int .i64 2)) t d T D2) := hid (H7.out.store0 _ hB4 L7.out.2)
                have L9 : Hid (LocC (w7.setCell ⟨b4, n, none⟩ (.int .i64 2)) g7 0 b4 81 (ints8 (upd f n 2))) := hid ⟨by rw [← ints8_set f n hn8]; exact L7.out.1.set n _, L7.out.2⟩
                go_roundw
                case rel => exact ⟨k + 1, g7, D2, _, by omega, by go_num, H9, ES, J2, L9⟩
                case measure => simp [intOf]; omega
              · have J2 := hid (G2.out (fun h => absurd h hf))
                have hf' : (f n == 0) = false := by simpa using hf
                subst hc
                clear hf G1 G2
                go_wp2
                go_roundw
                case rel => exact ⟨k + 1, g7, D2, f, by omega, by go_num, H7, ES, J2, L7⟩
                case measure => simp [intOf]; omega
            · have J2 := hid (G2.out (fun _ => hc))
              have hc' : (c == 0) = false := by simpa using hc
              clear hc G1 G2
              go_wp2
              go_roundw
              case rel => exact ⟨k + 1, g7, D2, f, by omega, by go_num, H7, ES, J2, L7⟩
              case measure => simp [intOf]; omega
          · have z1 : (x.do_ == 1) = false := by simpa using hd1
            clear hd hd1
            go_wp2
            go_roundw
            case rel => exact ⟨k + 1, g1, D, f, by omega, by go_num, H1, E, J, L1⟩
            case measure => simp [intOf]; omega
    · obtain rfl : k = m.length := by omega
      clear MA
      have HWr := hid (fun W' (h : DeedAt W' g 12 d D) => deed_Writes g 12 d D W' h)
      have HRe := hid (fun W' (h : DeedAt W' g 12 d D) => deed_Reads g 12 d D W' h)
      obtain ⟨R, hR, HR8, RF1, RF2, RF3⟩ : ∃ R : List Nat, readsD D = R ∧ R.length ≤ 8 ∧ (∀ i (hi : i < R.length), R[i] < 8 ∧ f R[i] = 1) ∧ (∀ i (hi : i < R.length), 0 < i → R[i - 1] < R[i]) ∧ (∀ k, k < 8 → f k = 1 → R.any (fun (z : Nat) => (z : Int) == (k : Int)) = true) :=
        ⟨_, rfl, readsTo_length D 8, readsD_facts J.out⟩
      obtain ⟨W, hW, HW8, WF1, WF2, WF3⟩ : ∃ W : List Ent, writesD D = W ∧ W.length ≤ 8 ∧ (∀ i (hi : i < W.length), ∃ n : Nat, n < 8 ∧ W[i].n = n ∧ D.wrote n = some W[i].v) ∧ (∀ i (hi : i < W.length), 0 < i → W[i - 1].n < W[i].n) ∧ (D.mode = 3 → W.length = 0) :=
        ⟨_, rfl, writesTo_length D 8, writesD_facts H.out.ded.1⟩
      rw [E.out] at WF3
      rw [hW] at HWr
      rw [hR] at HRe
      have RF1h := hid RF1
      have RF2h := hid RF2
      have RF3h := hid RF3
      have WF1h := hid WF1
      have WF2h := hid WF2
      have WF3h := hid WF3
      clear RF1 RF2 RF3 WF1 WF2 WF3 J E hR hW
      go_wp2_with fail
      (with_reducible refine (HRe.out wr H.out.ded).mono ?_)
      rintro e w8 ⟨ar, cr, rfl, hs, hb⟩
      have H8 := hid (H.out.below hb)
      have L8 := hid (L.out.below hb)
      have SR := hid hs
      clear hb hs H L HRe
      go_wp2_with fail
      (with_reducible refine (HWr.out w8 H8.out.ded).mono ?_)
      rintro e w9 ⟨aw, cw, rfl, hs, hb, -, -⟩
      have H9 := hid (H8.out.below hb)
      have L9 := hid (L8.out.below hb)
      have SR9 := hid (sliceAt_below SR.out hb)
      have SW9 := hid hs
      clear hb hs H8 L8 HWr SR
      go_wp2_with fail
      go_loopw [19] (fun i wr => ∃ k : Nat, k ≤ R.length ∧ i = .int .i64 k ∧ Hid (Below w9.heap.size w9 wr)) (fun i _ => R.length - (intOf i).toNat)
      case atStart => exact ⟨0, Nat.zero_le _, rfl, hid (Below.refl _ _)⟩
      case round =>
        obtain ⟨k, hk, rfl, HB⟩ := hrel
        by_cases hlt : k < R.length
        · obtain ⟨bq, oq, haq, vq⟩ := (sliceAt_below SR9.out HB.out).ints (by omega)
          have q1 := vq k hlt
          have q0 := vq (k - 1) (by omega)
          obtain ⟨hx8, hfx⟩ := RF1h.out k hlt
          have hr := RF2h.out k hlt
          have hki : (k : Int) < (R.length : Int) := by omega
          have hk0 : (0 : Int) ≤ (k : Int) := by omega
          generalize R[k] = x at *
          generalize R[k - 1] = x0 at *
          have y1 := ((L9.out.below HB.out).1.cell x).trans (ints8_get _ x hx8)
          rw [hfx] at y1
          have hxi0 : (0 : Int) ≤ (x : Int) := by omega
          have hxi8 : (x : Int) < 8 := by omega
          have HB' := hid (fun n => HB.out.trans ((below_drewN wr n).mono HB.out.size))
          clear vq hfx
          by_cases hk00 : k = 0
          · subst hk00
            subst haq
            rw [Nat.add_zero] at q1
            clear hr q0
            go_upto_region 29 with (fail)
            go_quiet ((go_at_call 21; exact Calls.quiet_of (isKeyQ _ _ hx8)))
            go_wp2
            go_roundw
            case rel => exact ⟨0 + 1, by omega, by go_num, hid (HB'.out _)⟩
            case measure => simp [intOf]; omega
          · have hr := hr (by omega)
            have h0' : 0 < k := by omega
            have z0 : (0 : Int) < (k : Int) := by omega
            have z1 : IntKind.i64.wrap ((k : Int) - 1) = (k : Int) - 1 := IntWalk.i64_in _ ⟨by omega, by omega⟩
            have z2 : ((k : Int) - 1).toNat = k - 1 := by omega
            have z3 : (0 : Int) ≤ (k : Int) - 1 := by omega
            have z4 : (k : Int) - 1 < (R.length : Int) := by omega
            have z5 : ¬ ((x : Int) ≤ (x0 : Int)) := by omega
            subst haq
            go_upto_region 29 with (fail)
            go_quiet ((go_at_call 21; exact Calls.quiet_of (isKeyQ _ _ hx8)))
            go_wp2
            go_roundw
            case rel => exact ⟨k + 1, by omega, by go_num, hid (HB'.out _)⟩
            case measure => simp [intOf]; omega
        · clear RF1h RF2h hk
          go_wp2_with fail
          go_loopw [20] (fun i wr => ∃ j : Nat, j ≤ 8 ∧ i = .int .i64 j ∧ Hid (Below w9.heap.size w9 wr)) (fun i _ => 8 - (intOf i).toNat)
          case atStart => exact ⟨0, Nat.zero_le _, rfl, HB⟩
          case round =>
            clear HB
            obtain ⟨j, hj, rfl, HB⟩ := hrel
            by_cases hj8 : j < 8
            · have y1 := ((L9.out.below HB.out).1.cell j).trans (ints8_get _ j hj8)
              have hji0 : (0 : Int) ≤ (j : Int) := by omega
              have hji8 : (j : Int) < 8 := by omega
              by_cases hf : f j = 1
              · have RA := hid (RF3h.out j hj8 hf)
                rw [hf] at y1
                clear hf
                go_wp2_with fail
                have P := ref_In ar cr R j wr (by omega) (sliceAt_below SR9.out HB.out)
                rw [RA.out] at P
                (with_reducible refine P.mono ?_)
                clear P
                rintro e w11 ⟨rfl, hb⟩
                have HB11 := hid (HB.out.trans (hb.mono HB.out.size))
                clear hb HB y1
                go_wp2
                go_roundw
                case rel => exact ⟨j + 1, by omega, by go_num, HB11⟩
                case measure => simp [intOf]; omega
              · have hf' : (f j == 1) = false := by simpa using hf
                clear hf
                go_wp2
                go_roundw
                case rel => exact ⟨j + 1, by omega, by go_num, HB⟩
                case measure => simp [intOf]; omega
            · clear RF3h hj SR9
              go_wp2_with fail
              go_loopw [21] (fun i wr => ∃ k : Nat, k ≤ W.length ∧ i = .int .i64 k ∧ Hid (Below w9.heap.size w9 wr)) (fun i _ => W.length - (intOf i).toNat)
              case atStart => exact ⟨0, Nat.zero_le _, rfl, HB⟩
              case round =>
                clear HB
                obtain ⟨k, hk, rfl, HB⟩ := hrel
                by_cases hlt : k < W.length
                · obtain ⟨bq, oq, haq, vq⟩ := (sliceAt_below SW9.out HB.out).ents (by omega)
                  obtain ⟨q1, q2, q3⟩ := vq k hlt
                  obtain ⟨q0, -, -⟩ := vq (k - 1) (by omega)
                  obtain ⟨n, hn8, hxn, hwr⟩ := WF1h.out k hlt
                  have hr := WF2h.out k hlt
                  have hki : (k : Int) < (W.length : Int) := by omega
                  have hk0 : (0 : Int) ≤ (k : Int) := by omega
                  generalize W[k] = x at *
                  generalize W[k - 1] = x0 at *
                  rw [hxn] at q1 hr
                  have HWR := hid hwr
                  subst haq
                  have hbq := World.block_lt_of_cell? _ _ q0
                  have Q0 := hid q0
                  clear vq hxn hwr q0
                  go_upto_region 40 with (fail)
                  have M1 := hid (Loc.new wr 42 [.int .i64 n, .bool x.v.there, .string x.v.bytes])
                  have B2 := hid (HB.out.alloc HB.out.size (.cells #[.int .i64 n, .bool x.v.there, .string x.v.bytes] 42))
                  have q0 := ((Below.refl wr.heap.size wr).alloc (Nat.le_refl _) (.cells #[.int .i64 n, .bool x.v.there, .string x.v.bytes] 42)).cell (p := ⟨bq, _, none⟩) hbq |>.trans Q0.out
                  generalize wr.alloc (.cells #[.int .i64 n, .bool x.v.there, .string x.v.bytes] 42) = w2 at *
                  generalize hbx : wr.heap.size = bx at *
                  obtain ⟨m1, m2, m3⟩ := loc_three M1.out
                  clear q1 q2 q3 hbx Q0 hbq
                  by_cases hk00 : k = 0
                  · subst hk00
                    clear hr q0
                    go_quiet ((go_at_call 21; exact Calls.quiet_of (isKeyQ _ _ hn8)))
                    have M2 := hid (M1.out.keep (below_drewN w2 nq))
                    have B3 := hid (B2.out.trans ((below_drewN w2 nq).mono B2.out.size))
                    have PO := hid (deed_Get_own g 12 d D t n x.v (w2.drewN nq) hn8 (H9.out.ded.below B3.out) HWR.out)
                    generalize w2.drewN nq = w3 at *
                    obtain ⟨m1, m2, m3⟩ := loc_three M2.out
                    go_wp2_with fail
                    (with_reducible refine PO.out.mono ?_)
                    rintro e w4 ⟨rfl, hb⟩
                    have M4 := hid (M2.out.keep hb)
                    have B4 := hid (B3.out.trans (hb.mono B3.out.size))
                    clear hb m1 m2 m3 PO
                    go_upto_region 43 with (fail)
                    have M5 := hid (M4.out.alloc (.cells #[.bool x.v.there, .string x.v.bytes] 32))
                    have N5 := hid (Loc.new w4 32 [.bool x.v.there, .string x.v.bytes])
                    have B5 := hid (B4.out.alloc B4.out.size (.cells #[.bool x.v.there, .string x.v.bytes] 32))
                    generalize w4.alloc (.cells #[.bool x.v.there, .string x.v.bytes] 32) = w5 at *
                    obtain ⟨m1, m2, m3⟩ := loc_three M5.out
                    obtain ⟨n1, n2, -⟩ := N5.out.two
                    go_wp2
                    go_roundw
                    case rel => exact ⟨0 + 1, by omega, by go_num, B5⟩
                    case measure => simp [intOf]; omega
                  · have hr := hr (by omega)
                    have h0' : 0 < k := by omega
                    have z0 : (0 : Int) < (k : Int) := by omega
                    have z1 : IntKind.i64.wrap ((k : Int) - 1) = (k : Int) - 1 := IntWalk.i64_in _ ⟨by omega, by omega⟩
                    have z2 : ((k : Int) - 1).toNat = k - 1 := by omega
                    have z3 : (0 : Int) ≤ (k : Int) - 1 := by omega
                    have z4 : (k : Int) - 1 < (W.length : Int) := by omega
                    have z5 : ¬ ((n : Int) ≤ x0.n) := by omega
                    go_quiet ((go_at_call 21; exact Calls.quiet_of (isKeyQ _ _ hn8)))
                    have M2 := hid (M1.out.keep (below_drewN w2 nq))
                    have B3 := hid (B2.out.trans ((below_drewN w2 nq).mono B2.out.size))
                    have PO := hid (deed_Get_own g 12 d D t n x.v (w2.drewN nq) hn8 (H9.out.ded.below B3.out) HWR.out)
                    generalize w2.drewN nq = w3 at *
                    obtain ⟨m1, m2, m3⟩ := loc_three M2.out
                    go_wp2_with fail
                    (with_reducible refine PO.out.mono ?_)
                    rintro e w4 ⟨rfl, hb⟩
                    have M4 := hid (M2.out.keep hb)
                    have B4 := hid (B3.out.trans (hb.mono B3.out.size))
                    clear hb m1 m2 m3 PO
                    go_upto_region 43 with (fail)
                    have M5 := hid (M4.out.alloc (.cells #[.bool x.v.there, .string x.v.bytes] 32))
                    have N5 := hid (Loc.new w4 32 [.bool x.v.there, .string x.v.bytes])
                    have B5 := hid (B4.out.alloc B4.out.size (.cells #[.bool x.v.there, .string x.v.bytes] 32))
                    generalize w4.alloc (.cells #[.bool x.v.there, .string x.v.bytes] 32) = w5 at *
                    obtain ⟨m1, m2, m3⟩ := loc_three M5.out
                    obtain ⟨n1, n2, -⟩ := N5.out.two
                    go_wp2
                    go_roundw
                    case rel => exact ⟨k + 1, by omega, by go_num, B5⟩
                    case measure => simp [intOf]; omega
                · obtain rfl : k = W.length := by omega
                  have H10 := hid (H9.out.base.below' HB.out).below
                  clear hlt hk WF1h WF2h
                  by_cases hm3' : mode = 3
                  · have hl0 := WF3h.out hm3'
                    subst hm3'
                    have hz : (W.length : Int) = 0 := by omega
                    have hzb : ((W.length : Int) == 0) = true := by rw [hz]; rfl
                    clear hl0 WF3h hz
                    go_wp2
                    go_ret
                    exact ⟨rfl, B2a.out.trans (H10.out.mono B2a.out.size)⟩
                  · have hz : (mode != 3) = true := by simpa using hm3'
                    clear hm3' WF3h
                    go_wp2
                    go_ret
                    exact ⟨rfl, B2a.out.trans (H10.out.mono B2a.out.size)⟩

end Go.Proofs.Ytoiobhcgpajogab
