/- slices.Equal at pairs. -/
import Derived.Test.YtoiobhcgpajogadBook5
import Derived.Test.YtoiobhcgpajogadVals
namespace Go.Proofs.Ytoiobhcgpajogad
open Go.RowKit

set_option maxHeartbeats 2000000 in
set_option maxRecDepth 100000 in
theorem equal_pairs (a1 a2 : Option Addr) (c1 c2 : Nat) (l1 l2 : List Ent) (w : World) (hn1 : l1.length ≤ 1000000) (hn2 : l2.length ≤ 1000000) (h1 : SliceAt w a1 (encEnts l1)) (h2 : SliceAt w a2 (encEnts l2)) :
    Calls Try.prog 33 #[.slice a1 l1.length c1, .slice a2 l2.length c2] w (SamePost l1 l2 w) := by
  have H1 := hid h1
  have H2 := hid h2
  clear h1 h2
  by_cases hlen : l1.length = l2.length
  · have z : ((l1.length : Int) != (l2.length : Int)) = false := by simp [hlen]
    have HL := hid hlen
    clear hlen
    go_enter Try.func33, Try.ntmps33
    go_wp2
    go_loopw [13] (fun i wr => ∃ k : Nat, k ≤ l1.length ∧ i = .int .i64 k ∧ Hid (l1.take k = l2.take k) ∧ Below w.heap.size w wr) (fun i _ => l1.length - (intOf i).toNat)
    case atStart => exact ⟨0, Nat.zero_le _, rfl, hid rfl, Below.refl _ _⟩
    case round =>
      obtain ⟨k, hk, rfl, HT, hb⟩ := hrel
      by_cases hlt : k < l1.length
      · have hlt2 : k < l2.length := by have := HL.out; omega
        obtain ⟨b1, o1, rfl, v1⟩ := H1.out.ents (by omega)
        obtain ⟨b2, o2, rfl, v2⟩ := H2.out.ents (by omega)
        obtain ⟨p1, p2, p3⟩ := v1 k hlt
        obtain ⟨q1, q2, q3⟩ := v2 k hlt2
        have m1 := World.block_lt_of_cell? w _ p1
        have m2 := World.block_lt_of_cell? w _ q1
        simp only at m1 m2
        have P1 := (below_cell hb m1).trans p1
        have P2 := (below_cell hb m1).trans p2
        have P3 := (below_cell hb m1).trans p3
        have Q1 := (below_cell hb m2).trans q1
        have Q2 := (below_cell hb m2).trans q2
        have Q3 := (below_cell hb m2).trans q3
        have HB := hid hb
        have s1 := hid (List.take_succ_eq_append_getElem hlt)
        have s2 := hid (List.take_succ_eq_append_getElem hlt2)
        have n1 := hid (List.getElem?_eq_getElem hlt)
        have n2 := hid (List.getElem?_eq_getElem hlt2)
        clear v1 v2 p1 p2 p3 q1 q2 q3 hb
        have hki : (k : Int) < (l1.length : Int) := by omega
        have hki2 : (k : Int) < (l2.length : Int) := by omega
        have hk0 : (0 : Int) ≤ (k : Int) := by omega
        generalize l1[k] = x at *
        generalize l2[k] = y at *
        by_cases he : x = y
        · subst he
          go_wp2_with fail
          go_quiet (fail)
          go_wp2
          go_roundw
          case rel => exact ⟨k + 1, by omega, by go_num, hid (by rw [s1.out, s2.out, HT.out]), HB.out.trans ((below_drewN _ _).mono HB.out.size)⟩
          case measure => simp [intOf]; omega
        · have hne : ¬ (l1 = l2) := by
            intro h
            subst h
            have := n1.out.symm.trans n2.out
            exact he (Option.some.inj this)
          have NE := hid hne
          clear hne n1 n2 s1 s2
          obtain ⟨xn, xt, xb⟩ := x
          obtain ⟨yn, yt, yb⟩ := y
          simp only at P1 P2 P3 Q1 Q2 Q3
          by_cases e1 : xn = yn
          · subst e1
            have g1 : (xn == xn) = true := by simp
            by_cases e2 : xt = yt
            · subst e2
              have g2 : (xt == xt) = true := by simp
              have g3 : (xb.toList == yb.toList) = false := by
                rw [toList_beq]
                simp
                rintro rfl
                exact he rfl
              clear he
              go_wp2_with fail
              go_quiet (fail)
              go_wp2
              go_ret
              exact ⟨false, rfl, by simpa using NE.out, HB.out.trans ((below_drewN _ _).mono HB.out.size)⟩
            · have g2 : (xt == yt) = false := by simpa using e2
              clear he e2
              go_wp2_with fail
              go_quiet (fail)
              go_wp2
              go_ret
              exact ⟨false, rfl, by simpa using NE.out, HB.out.trans ((below_drewN _ _).mono HB.out.size)⟩
          · have g1 : (xn == yn) = false := by simpa using e1
            clear he e1
            go_wp2_with fail
            go_quiet (fail)
            go_wp2
            go_ret
            exact ⟨false, rfl, by simpa using NE.out, HB.out.trans ((below_drewN _ _).mono HB.out.size)⟩
      · obtain rfl : k = l1.length := by omega
        have HB := hid hb
        clear hb
        have hq : l1 = l2 := by
          have := HT.out
          rw [List.take_length, HL.out, List.take_length] at this
          exact this
        have HQ := hid hq
        clear hq
        go_wp2
        go_ret
        exact ⟨true, rfl, by simp [HQ.out], HB.out⟩
  · have z : ((l1.length : Int) != (l2.length : Int)) = true := by simp; omega
    have HL := hid hlen
    clear hlen
    go_enter Try.func33, Try.ntmps33
    go_wp2
    go_ret
    exact ⟨false, rfl, by simp; intro h; exact HL.out (by rw [h]), Below.refl _ _⟩

end Go.Proofs.Ytoiobhcgpajogad

/- The walk of Replay. -/
namespace Go.Proofs.Ytoiobhcgpajogad
open Go.RowKit

theorem Try.infoSWorld : (Try.prog.info? 48).map (·.size) = some 16 := by kernel_rfl

/-- What Replay holds: the world's box, the result's. -/
structure RepAt (w wr : World) (f : Nat → Val) : Prop where
  box : Loc wr w.heap.size 48 (vals8 f)
  res : Loc wr (w.heap.size + 1) 48 (vals8 fun _ => Val.zero)
  below : Below w.heap.size w wr

theorem RepAt.keep {w wr wv : World} {f : Nat → Val} (h : RepAt w wr f) (k : Below wr.heap.size wr wv) : RepAt w wv f := ⟨h.box.keep k, h.res.keep k, h.below.trans (k.mono h.below.size)⟩
theorem RepAt.put {w wr : World} {f : Nat → Val} (h : RepAt w wr f) {n : Nat} (hn : n < 8) (v : Val) : RepAt w ((wr.setCell ⟨w.heap.size, n * 2, none⟩ (.bool v.there)).setCell ⟨w.heap.size, n * 2 + 1, none⟩ (.string v.bytes)) (upd f n v) :=
  ⟨h.box.set2 hn v, (h.res.other (by simp) _).other (by simp) _, (h.below.setCell (by simp) _).setCell (by simp) _⟩

theorem listW_start (w : Nat → Val) (n : Nat) (t : Int) : listW w (n : Int) t n = [] := by
  have : ∀ m : Nat, m ≤ n → listW w (n : Int) t m = [] := by
    intro m
    induction m with
    | zero => intro _; rfl
    | succ m ih =>
      intro h
      rw [listW_succ, ih (by omega), if_neg (by omega)]; rfl
  exact this n (Nat.le_refl _)

theorem listW_len (w : Nat → Val) (f t : Int) (m : Nat) : (listW w f t m).length ≤ m := by
  induction m with
  | zero => exact Nat.le_refl _
  | succ m ih =>
    rw [listW_succ, List.length_append]
    split <;> simp <;> omega

theorem listW_stop (w : Nat → Val) (f t : Int) {m : Nat} (hm : m ≤ 8) (h : 8 ≤ m ∨ t < m) : listW w f t 8 = listW w f t m := by
  rcases h with h | h
  · rw [show m = 8 by omega]
  · have : ∀ j : Nat, listW w f t (m + j) = listW w f t m := by
      intro j
      induction j with
      | zero => rfl
      | succ j ih => rw [← Nat.add_assoc, listW_succ, ih, if_neg (by omega), List.append_nil]
    have := this (8 - m)
    rwa [show m + (8 - m) = 8 by omega] at this

set_option maxHeartbeats 4000000 in
set_option maxRecDepth 100000 in
theorem serial_Replay (f : Nat → Val) (a : Option Addr) (cap : Nat) (l : List Acx) (w : World) (hn : l.length ≤ 1000000) (hl : ∀ z ∈ l, z.a.l.length ≤ 1000000) (hA : ActsF w a l) :
    Calls Try.prog 15 #[.agg (vals8 f).toArray, .slice a l.length cap] w (SheetPost (replay f (l.map (·.a))).1 (replay f (l.map (·.a))).2 w) := by
  have F : ∀ r, replay f (l.map (·.a)) = r → ∀ w', Below w.heap.size w w' → SheetPost (replay f (l.map (·.a))).1 (replay f (l.map (·.a))).2 w (.returned (.tuple #[.agg (vals8 r.1).toArray, .bool r.2])) w' := by
    rintro r rfl w' hb
    exact ⟨rfl, hb⟩
  have HF := hid F
  have HR := hid (show replay f (l.map (·.a)) = replayA (f, true) (l.map (·.a)) from rfl)
  have HA := hid hA
  have HL := hid hl
  clear F hA hl
  have hn63 : (l.length : Int) ≤ 9223372036854775807 := by omega
  generalize replay f (l.map (·.a)) = R at *
  go_enter Try.func15, Try.ntmps15
  go_wp2
  have R0 := hid (show RepAt w ((w.alloc (.cells (vals8 f).toArray 48)).alloc (.cells (vals8 fun _ => Val.zero).toArray 48)) f from ⟨(Loc.new w _ _).alloc _, Loc.at (n := w.heap.size + 1) _ _ _ (by simp), ((Below.refl w.heap.size w).alloc (Nat.le_refl _) _).alloc (by simp) _⟩)
  go_loopw [6, 13] (fun o i wr => ∃ (k : Nat) (r : (Nat → Val) × Bool), k ≤ l.length ∧ i = .int .i64 k ∧ o = .bool r.2 ∧ Hid (R = replayA r ((l.drop k).map (·.a))) ∧ Hid (RepAt w wr r.1)) (fun _ i _ => l.length - (intOf i).toNat)
  case atStart => exact ⟨0, (f, true), Nat.zero_le _, rfl, rfl, hid (by rw [HR.out]; rfl), R0⟩
  case round =>
    obtain ⟨k, ⟨rf, rb⟩, hk, rfl, rfl, HQ, H⟩ := hrel
    clear R0 HR
    by_cases hlt : k < l.length
    · obtain ⟨sb, off, rfl, hsb, hf⟩ := (HA.out.below H.out.below).facts (by omega)
      obtain ⟨f0, f1, f2, f3, f4, f5, hfl⟩ := hf k hlt
      have hst : R = if l[k].a.key < 0 ∨ 8 ≤ l[k].a.key then (rf, false) else replayA (stepA (rf, rb) l[k].a) ((l.drop (k + 1)).map (·.a)) := by
        rw [HQ.out, List.drop_eq_getElem_cons hlt, List.map_cons, replayA]
      have hz8 := HL.out l[k] (List.getElem_mem _)
      clear hf
      generalize l[k] = z at *
      have HFL := hid hfl
      have HST := hid hst
      have hki : (k : Int) < (l.length : Int) := by omega
      have hk0 : (0 : Int) ≤ (k : Int) := by omega
      clear hfl hst HQ
      simp only at H
      go_upto_region 5 with (fail)
      have H1 := hid (H.out.keep ((Below.refl _ _).alloc (Nat.le_refl _) (.cells #[.int .i64 z.a.kind, .int .i64 z.a.key, .int .i64 z.a.to_, .bool z.a.v.there, .string z.a.v.bytes, .slice z.ad z.a.l.length z.cap] 62)))
      have Z1 : Hid (Loc (wr.alloc (.cells #[.int .i64 z.a.kind, .int .i64 z.a.key, .int .i64 z.a.to_, .bool z.a.v.there, .string z.a.v.bytes, .slice z.ad z.a.l.length z.cap] 62)) wr.heap.size 62 [.int .i64 z.a.kind, .int .i64 z.a.key, .int .i64 z.a.to_, .bool z.a.v.there, .string z.a.v.bytes, .slice z.ad z.a.l.length z.cap]) := hid (Loc.new wr _ _)
      have S1 := hid (sliceAt_below HFL.out ((Below.refl _ _).alloc (Nat.le_refl _) (.cells #[.int .i64 z.a.kind, .int .i64 z.a.key, .int .i64 z.a.to_, .bool z.a.v.there, .string z.a.v.bytes, .slice z.ad z.a.l.length z.cap] 62)))
      clear H HFL f0 f1 f2 f3 f4 f5
      generalize wr.alloc (.cells #[.int .i64 z.a.kind, .int .i64 z.a.key, .int .i64 z.a.to_, .bool z.a.v.there, .string z.a.v.bytes, .slice z.ad z.a.l.length z.cap] 62) = w1 at *
      generalize wr.heap.size = b8 at *
      obtain ⟨p0, p1, p2, p3, p4, p5⟩ : w1.cell? ⟨b8, 0, none⟩ = some (.int .i64 z.a.kind) ∧ w1.cell? ⟨b8, 1, none⟩ = some (.int .i64 z.a.key) ∧ w1.cell? ⟨b8, 2, none⟩ = some (.int .i64 z.a.to_) ∧ w1.cell? ⟨b8, 3, none⟩ = some (.bool z.a.v.there) ∧ w1.cell? ⟨b8, 4, none⟩ = some (.string z.a.v.bytes) ∧ w1.cell? ⟨b8, 5, none⟩ = some (.slice z.ad z.a.l.length z.cap) :=
        ⟨Z1.out.cell 0, Z1.out.cell 1, Z1.out.cell 2, Z1.out.cell 3, Z1.out.cell 4, Z1.out.cell 5⟩
      by_cases hkey : z.a.key < 0 ∨ 8 ≤ z.a.key
      · have CK := hid (fun W => chain_Key_out z.a.key W hkey)
        have HE := hid (show R = (rf, false) from by rw [HST.out, if_pos hkey])
        clear hkey HST
        go_wp2_with fail
        refine (CK.out _).mono ?_
        rintro e w2 ⟨rfl, rfl⟩
        have H2 := hid H1.out
        clear CK
        go_wp2_with (first
          | refine wpList_load_mid rfl 48 (.tmp 2) rfl w.heap.size 0 rfl (vals8 rf) _ H2.out.box.range Try.underlying48 rfl Try.infoSWorld ?_
          | (refine wpList_store_mid rfl 48 (.tmp 4) (.tmp 21) rfl (w.heap.size + 1) 0 (vals8 rf).toArray rfl rfl (H2.out.res.there8 _) Try.infoSWorld (vals8_one _) ?_
             have L3 := hid (H2.out.res.setAll (vs := (vals8 rf).toArray.toList) rfl)
             have B3 := hid (Below.setCells' (Nat.le_succ w.heap.size) (vals8 rf).toArray.toList 0 H2.out.below)
             generalize w1.setCells (w.heap.size + 1) 0 (vals8 rf).toArray.toList = w3 at *))
        have hr := run_loadVar_mid (P := Try.prog) w3 (w.heap.size + 1) 0 48 (vals8 rf) _ L3.out.range Try.underlying48 rfl Try.infoSWorld
        refine bodyPost_ret (v := .tuple #[.agg (vals8 rf).toArray, .bool false]) (by simp [results, Try.results15, asAddr, hr]) rfl ?_
        exact HF.out _ HE.out _ B3.out
      · obtain ⟨n, hn8, hxn⟩ : ∃ n : Nat, n < 8 ∧ z.a.key = n := ⟨z.a.key.toNat, by omega, by omega⟩
        have CK := hid (fun W => chain_Key_in z.a.key W (by omega))
        have HT := hid (show R = replayA (stepA (rf, rb) z.a) ((l.drop (k + 1)).map (·.a)) from by rw [HST.out, if_neg hkey])
        have hn0 : (0 : Int) ≤ (n : Int) := by omega
        have hn8' : (n : Int) < 8 := by omega
        rw [hxn] at p1 CK
        have HXN := hid hxn
        clear hkey HST hxn
        go_wp2_with fail
        refine (CK.out _).mono ?_
        rintro e w2 ⟨rfl, rfl⟩
        clear CK
        have m1 := (H1.out.box.cell (n * 2)).trans (vals8_get _ n hn8).1
        have m2 := (H1.out.box.cell (n * 2 + 1)).trans (vals8_get _ n hn8).2
        have r1 := H1.out.box.free (n * 2)
        have r2 := H1.out.box.free (n * 2 + 1)
        by_cases h2 : z.a.kind = 2
        · have HT2 := hid (show R = replayA (rf, rb && decide (rf n = z.a.v)) ((l.drop (k + 1)).map (·.a)) from by rw [HT.out]; unfold stepA; rw [if_pos h2, HXN.out]; rfl)
          rw [h2] at p0
          clear h2 HT
          cases rb with
          | false =>
            have HT3 := hid (show R = replayA (rf, false) ((l.drop (k + 1)).map (·.a)) from HT2.out)
            clear HT2
            go_wp2_with fail
            go_quiet (fail)
            go_wp2
            go_roundw
            case rel => exact ⟨k + 1, (rf, false), by omega, by go_num, rfl, HT3, hid (H1.out.keep (below_drewN _ _))⟩
            case measure => simp [intOf]; omega
          | true =>
            by_cases he : rf n = z.a.v
            · have HT3 := hid (show R = replayA (rf, true) ((l.drop (k + 1)).map (·.a)) from by rw [HT2.out, decide_eq_true he]; rfl)
              rw [he] at m1 m2
              clear HT2 he
              go_wp2_with fail
              go_quiet (fail)
              go_wp2
              go_roundw
              case rel => exact ⟨k + 1, (rf, true), by omega, by go_num, rfl, HT3, hid (H1.out.keep (below_drewN _ _))⟩
              case measure => simp [intOf]; omega
            · have HT3 := hid (show R = replayA (rf, false) ((l.drop (k + 1)).map (·.a)) from by rw [HT2.out, decide_eq_false he]; rfl)
              clear HT2
              generalize rf n = y at *
              by_cases e2 : y.there = z.a.v.there
              · have g2 : (z.a.v.there == z.a.v.there) = true := by simp
                have g3 : (y.bytes.toList == z.a.v.bytes.toList) = false := by
                  rw [toList_beq]
                  simp
                  intro hb
                  apply he
                  obtain ⟨yt, yb⟩ := y
                  simp only at e2 hb
                  rw [e2, hb]
                rw [e2] at m1
                clear he e2
                go_wp2_with fail
                go_quiet (fail)
                go_wp2
                go_roundw
                case rel => exact ⟨k + 1, (rf, false), by omega, by go_num, rfl, HT3, hid (H1.out.keep (below_drewN _ _))⟩
                case measure => simp [intOf]; omega
              · have g2 : (y.there == z.a.v.there) = false := by simpa using e2
                clear he e2
                go_wp2_with fail
                go_quiet (fail)
                go_wp2
                go_roundw
                case rel => exact ⟨k + 1, (rf, false), by omega, by go_num, rfl, HT3, hid (H1.out.keep (below_drewN _ _))⟩
                case measure => simp [intOf]; omega
        by_cases h3 : z.a.kind = 3 ∨ z.a.kind = 4
        · have HT2 := hid (show R = replayA (upd rf n z.a.v, rb) ((l.drop (k + 1)).map (·.a)) from by rw [HT.out]; unfold stepA; rw [if_neg h2, if_pos h3, HXN.out]; rfl)
          have o2 : (z.a.kind == 2) = false := by simpa using h2
          clear h2 HT
          rcases h3 with h3 | h3
          all_goals (
            rw [h3] at p0
            clear h3 o2
            go_wp2
            go_roundw
            case rel => exact ⟨k + 1, (upd rf n z.a.v, rb), by omega, by go_num, rfl, HT2, hid (H1.out.put hn8 z.a.v)⟩
            case measure => simp [intOf]; omega)
        by_cases h5 : z.a.kind = 5
        · have HT2 := hid (show R = replayA (rf, rb && decide (listW rf n z.a.to_ 8 = z.a.l)) ((l.drop (k + 1)).map (·.a)) from by rw [HT.out]; unfold stepA; rw [if_neg h2, if_neg h3, if_pos h5, HXN.out])
          rw [h5] at p0
          clear h2 h3 h5 HT m1 m2 r1 r2
          have HT1 := H1.out.box.lt
          have hb8 := Z1.out.lt
          obtain ⟨j0, hj, hy0, hy1, hy2⟩ := info_parts Try.infoPair
          have N0 := hid (World.ownsRow_nil w1 w1.heap.size 85 3)
          go_wp2
          go_loopw [9, 10] (fun o i wr => ∃ m : Nat, n ≤ m ∧ m ≤ 8 ∧ i = .int .i64 m ∧ Hid (wr.ownsRow w1.heap.size 85 3 o (listW rf n z.a.to_ m).length (encEnts (listW rf n z.a.to_ m))) ∧ Hid (Below w1.heap.size w1 wr)) (fun _ i _ => 8 - (intOf i).toNat)
          case atStart => exact ⟨n, Nat.le_refl _, by omega, rfl, hid (by rw [listW_start]; exact N0.out), hid (Below.refl _ _)⟩
          case round =>
            obtain ⟨m, hm1, hm2, rfl, HO, HB⟩ := hrel
            clear N0
            by_cases h7 : z.a.to_ ≤ 7
            all_goals (
              have H2 := hid (H1.out.keep HB.out)
              have Z2 := hid (Z1.out.keep HB.out)
              have z2 : wr.cell? ⟨b8, 2, none⟩ = some (.int .i64 z.a.to_) := Z2.out.cell 2
              by_cases hlt2 : (m : Int) ≤ min z.a.to_ 7
              · have hm8 : m < 8 := by omega
                have m1 := (H2.out.box.cell (m * 2)).trans (vals8_get _ m hm8).1
                have m2 := (H2.out.box.cell (m * 2 + 1)).trans (vals8_get _ m hm8).2
                have hmi : (m : Int) < 8 := by omega
                have hm0 : (0 : Int) ≤ (m : Int) := by omega
                go_upto_region 18 with (fail)
                have hle := listW_len rf n z.a.to_ m
                have hsu := listW_succ rf n z.a.to_ m
                obtain ⟨ao, co, rfl, -, -⟩ := ownsRow.sliceAt HO.out
                cases hw : (rf m).there with
                | false =>
                  have HSU := hid (show listW rf n z.a.to_ (m + 1) = listW rf n z.a.to_ m from by rw [hsu, if_neg (by rw [hw]; simp), List.append_nil])
                  rw [hw] at m1
                  clear hsu hw H2 Z2
                  go_wp2_with fail
                  go_roundw
                  case rel => exact ⟨m + 1, by omega, by omega, by go_num, hid (by rw [HSU.out]; exact HO.out), HB⟩
                  case measure => simp [intOf]; omega
                | true =>
                  have HSU := hid (show listW rf n z.a.to_ (m + 1) = listW rf n z.a.to_ m ++ [⟨(m : Int), rf m⟩] from by rw [hsu, if_pos ⟨by omega, by omega, hw⟩])
                  rw [hw] at m1
                  have hwz := HB.out.size
                  generalize hye : (⟨(m : Int), rf m⟩ : Ent) = ye at *
                  have HYE := hid (show encEnt ye = [.int .i64 m, .bool true, .string (rf m).bytes] from by subst hye; rw [← hw]; rfl)
                  have q1 : (listW rf n z.a.to_ m).length + 1 ≤ maxLen := by unfold maxLen; omega
                  have q2 : ((listW rf n z.a.to_ m).length + 1) * 32 ≤ 140737488355328 := by omega
                  clear hsu hw H2 Z2 hle hye
                  generalize listW rf n z.a.to_ m = out at *
                  go_wp2_with (refine wpList_append_own _ rfl (.tmp 59) (.tmp 65) 41 rfl w1.heap.size 85 j0 (.agg #[.int .i64 0, .bool false, .string ByteArray.empty]) 3 32 Try.underlying41 hj hy0 hy1 hy2 rfl (by decide) (.slice ao out.length co) out.length (encEnts out) rfl (HO.out.alloc _) ⟨wr.heap.size, 0, none⟩ 1 1 (encEnt ye) rfl (by rw [HYE.out]; rfl) ?c1 (encEnt_one _) q1 q2 ?c5 ?_)
                  case c1 => rw [HYE.out]; first | exact cells_new wr [.int .i64 m, .bool true, .string (rf m).bytes] 85 | exact fun _ _ h => h
                  case c5 => first | exact hwz | omega | (simp; omega)
                  intro v' w3 hown' hgrow _
                  have HB2 := hid ((HB.out.alloc HB.out.size (.cells #[.int .i64 m, .bool true, .string (rf m).bytes] 85)).grown hgrow (by simp; omega) (fun j hj => (HO.out.lt j hj).1))
                  have HO2 := hid (show w3.ownsRow w1.heap.size 85 3 v' (out ++ [ye]).length (encEnts (out ++ [ye])) by rw [encEnts_append, List.length_append]; simpa [encEnts] using hown')
                  clear hown' hgrow
                  go_wp2
                  go_roundw
                  case rel => exact ⟨m + 1, by omega, by omega, by go_num, hid (by rw [HSU.out]; exact HO2.out), HB2⟩
                  case measure => simp [intOf]; omega
              · have HLW := hid (listW_stop rf n z.a.to_ hm2 (by omega))
                have hle := listW_len rf n z.a.to_ m
                obtain ⟨ao, co, rfl, hso, -⟩ := ownsRow.sliceAt HO.out
                have HSO := hid hso
                have HSZ := hid (sliceAt_below S1.out HB.out)
                have z5 : wr.cell? ⟨b8, 5, none⟩ = some (.slice z.ad z.a.l.length z.cap) := Z2.out.cell 5
                clear hso HO
                cases rb with
                | false =>
                  have HT3 := hid (show R = replayA (rf, false) ((l.drop (k + 1)).map (·.a)) from HT2.out)
                  clear HT2 Z2
                  have hlt3 : (decide ((m : Int) ≤ min z.a.to_ 7)) = false := decide_eq_false hlt2
                  go_wp2
                  go_roundw
                  case rel => exact ⟨k + 1, (rf, false), by omega, by go_num, rfl, HT3, H2⟩
                  case measure => simp [intOf]; omega
                | true =>
                  have HT3 := hid (show ∀ q : Bool, (q = true ↔ listW rf n z.a.to_ m = z.a.l) → R = replayA (rf, q) ((l.drop (k + 1)).map (·.a)) from fun q hq => by
                    rw [HT2.out, HLW.out]
                    by_cases e : listW rf n z.a.to_ m = z.a.l
                    · rw [decide_eq_true e, hq.2 e]; rfl
                    · rw [decide_eq_false e, show q = false by cases q; rfl; exact absurd (hq.1 rfl) e]; rfl)
                  clear HT2 Z2 HLW
                  have hlt3 : (decide ((m : Int) ≤ min z.a.to_ 7)) = false := decide_eq_false hlt2
                  generalize listW rf n z.a.to_ m = out at *
                  go_wp2_with fail
                  (with_reducible refine (equal_pairs ao z.ad co z.cap out z.a.l wr (by omega) hz8 HSO.out HSZ.out).mono ?_)
                  rintro e w' ⟨bq, rfl, hiff, hb⟩
                  have HQ2 := hid (HT3.out bq hiff)
                  have H3 := hid (H2.out.keep hb)
                  clear hb hiff H2 HT3
                  go_wp2
                  go_roundw
                  case rel => exact ⟨k + 1, (rf, _), by omega, by go_num, rfl, HQ2, H3⟩
                  case measure => simp [intOf]; omega)
        · have HT2 := hid (show R = replayA (rf, rb) ((l.drop (k + 1)).map (·.a)) from by rw [HT.out]; unfold stepA; rw [if_neg h2, if_neg h3, if_neg h5])
          have o2 : (z.a.kind == 2) = false := by simpa using h2
          have o3 : (z.a.kind == 3) = false := by simp; omega
          have o4 : (z.a.kind == 4) = false := by simp; omega
          have o5 : (z.a.kind == 5) = false := by simpa using h5
          clear h2 h3 h5 HT
          go_wp2
          go_roundw
          case rel => exact ⟨k + 1, (rf, rb), by omega, by go_num, rfl, HT2, H1⟩
          case measure => simp [intOf]; omega
    · obtain rfl : k = l.length := by omega
      have HE := hid (show R = (rf, rb) from by rw [HQ.out, List.drop_length]; rfl)
      clear HQ
      simp only at H
      go_wp2_with (first
        | refine wpList_load_mid rfl 48 (.tmp 2) rfl w.heap.size 0 rfl (vals8 rf) _ H.out.box.range Try.underlying48 rfl Try.infoSWorld ?_
        | (refine wpList_store_mid rfl 48 (.tmp 4) (.tmp 75) rfl (w.heap.size + 1) 0 (vals8 rf).toArray rfl rfl (H.out.res.there8 _) Try.infoSWorld (vals8_one _) ?_
           have L3 := hid (H.out.res.setAll (vs := (vals8 rf).toArray.toList) rfl)
           have B3 := hid (Below.setCells' (Nat.le_succ w.heap.size) (vals8 rf).toArray.toList 0 H.out.below)
           generalize wr.setCells (w.heap.size + 1) 0 (vals8 rf).toArray.toList = w3 at *))
      have hr := run_loadVar_mid (P := Try.prog) w3 (w.heap.size + 1) 0 48 (vals8 rf) _ L3.out.range Try.underlying48 rfl Try.infoSWorld
      refine bodyPost_ret (v := .tuple #[.agg (vals8 rf).toArray, .bool rb]) (by simp [results, Try.results15, asAddr, hr]) rfl ?_
      exact HF.out _ HE.out _ B3.out

end Go.Proofs.Ytoiobhcgpajogad
