/- A desk: the walk of line. -/
import Derived.Test.YtoiobhcgpajogabGreatDoorDesk8
import Derived.Test.YtoiobhcgpajogabGreatDoorHall2
import Derived.Deep.DeepCutAuto
import Derived.Deep.CutRange
namespace Go.Proofs.YtoiobhcgpajogabGreatDoor
open Go.RowKit

def LinePostD (w0 : World) (g0 : Nat → Nat) (p d h : Nat) (t : List UInt8) (H : Ht) (l : List UInt8) (e : Ending) (w' : World) : Prop :=
  e = .returned (.tuple #[]) ∧ ∃ g', DkWide w0 g0 p d h (t ++ (lineD H l).1) (lineD H l).2 g' w'

theorem lineD_step {H : Ht} {l : List UInt8} {x : St} (h : askD (wordsD l) = .step x) : lineD H l = effD H (some x) := by unfold lineD effD; rw [h]
theorem lineD_what {H : Ht} {l : List UInt8} (h : askD (wordsD l) = .what) : lineD H l = (b_what ++ [10], H) := by unfold lineD; rw [h]
theorem lineD_nothing {H : Ht} {l : List UInt8} (h : askD (wordsD l) = .nothing) : lineD H l = ([], H) := by unfold lineD; rw [h]

theorem askD_cons (w : List UInt8) (r : List (List UInt8)) : askD (w :: r) =
    match (if w = b_put then putD3 r else none) with
    | some x => .step x
    | none =>
      match numsD r with
      | none => .what
      | some n =>
        match stepD w n with
        | some x => .step x
        | none =>
          match beginD w n with
          | some x => .step x
          | none => if w = b_last ∧ n = [] then .last else .what := rfl

theorem DkWide.said {w0 w w' : World} {g0 g g' : Nat → Nat} {p d h : Nat} {t t' : List UInt8} {H : Ht} (k : DkWide w0 g0 p d h t H g w) (hp : 1 ≤ p) (e : Evo p (p + 2) g g' w w') (hD : DeskB w' g' p d h t') : DkWide w0 g0 p d h t' H g' w' :=
  ⟨hD, k.hall.frame e (by omega), k.glob.frame e (by omega), k.evo.trans (e.wide (by omega) (by omega))⟩

theorem HallAt.way {w : World} {g : Nat → Nat} {p h : Nat} {H : Ht} (k : HallAt w g p h H) : ∃ vp t, w.cell? ⟨h, 0, none⟩ = some (.pointer (some ⟨vp, 0, none⟩)) ∧ w.cell? ⟨vp, 0, none⟩ = some (.pointer (some ⟨t, 0, none⟩)) ∧ g h = p ∧ g vp = p + 1 ∧ TableAt w g (p + 1 + 1) t H.v.tab := by
  obtain ⟨vp, ds, hC⟩ := k
  obtain ⟨c0, t, b, hV⟩ := hC.top
  exact ⟨vp, t, c0, hV.cells.1, hC.loc.2, hV.2.1.2, hV.2.2.1⟩

theorem DeskB.cell2 {w : World} {g : Nat → Nat} {p d h : Nat} {t : List UInt8} (k : DeskB w g p d h t) : w.cell? ⟨d, 2, none⟩ = some (.pointer (some ⟨h, 0, none⟩)) := by
  obtain ⟨a0, v, -, hL, -⟩ := k
  exact hL.1.cell 2

theorem cell_below {w w' : World} {a : Addr} {v : Value} (h : w.cell? a = some v) (e : Below w.heap.size w w') : w'.cell? a = some v := by
  have hlt := World.block_lt_of_cell? w _ h
  rw [← h]
  unfold World.cell?
  rw [e.block _ hlt]

structure I64 (n : Int) : Prop where
  lo : -9223372036854775808 ≤ n
  hi : n ≤ 9223372036854775807

theorem DkWide.trans {w0 w w' : World} {g0 g g' : Nat → Nat} {p d h : Nat} {t t' : List UInt8} {H H' : Ht} (k : DkWide w0 g0 p d h t H g w) (e : DkWide w g p d h t' H' g' w') : DkWide w0 g0 p d h t' H' g' w' := ⟨e.desk, e.hall, e.glob, k.evo.trans e.evo⟩

theorem askD_put {x : List UInt8} {r : List (List UInt8)} {st : St} (hx : x = b_put) (h : putD3 r = some st) : askD (x :: r) = .step st := by
  rw [askD_cons, if_pos hx, h]

theorem StrsAt.evo {w w' : World} {g g' : Nat → Nat} {lo hi bk o : Nat} {ys : List ByteArray} (h : StrsAt w (some ⟨bk, o, none⟩) ys) (hb : bk < w.heap.size) (e : Evo lo hi g g' w w') (hc : g bk < lo ∨ hi ≤ g bk) : StrsAt w' (some ⟨bk, o, none⟩) ys :=
  SliceAt.lift h (fun ad e' => by cases e'; exact e.same bk hb (fun ⟨h1, h2⟩ => by omega))

theorem StrsAt.tail {w : World} {bk : Nat} {x : ByteArray} {xs : List ByteArray} (h : StrsAt w (some ⟨bk, 0, none⟩) (x :: xs)) : StrsAt w (some ⟨bk, 1, none⟩) xs := by
  rcases h with h | ⟨b, o, e, hc⟩
  · simp at h
  · cases e
    refine .inr ⟨bk, 1, rfl, fun j u hj => ?_⟩
    have := hc (j + 1) u (by simpa using hj)
    rwa [show 0 + (j + 1) = 1 + j by omega] at this

/-- Behind the test of 'put': the line is done, or it goes on. -/
def Put1 (w0 : World) (g0 : Nat → Nat) (p d h : Nat) (t : List UInt8) (H : Ht) (l : List UInt8) (bk : Nat) (ys : List ByteArray) (b : Bool) (w : World) : Prop :=
  if b = true then ∃ g', DkWide w0 g0 p d h (t ++ (lineD H l).1) (lineD H l).2 g' w
  else ∃ g1 x xs, DkWide w0 g0 p d h t H g1 w ∧ StrsAt w (some ⟨bk, 0, none⟩) ys ∧ g1 bk = 0 ∧ bk < w.heap.size ∧ ys = x :: xs ∧ (if x.data.toList = b_put then putD3 (xs.map (·.data.toList)) else none) = none

set_option maxHeartbeats 8000000 in
set_option maxRecDepth 100000 in
theorem desk_line (g : Nat → Nat) (p d h : Nat) (t : List UInt8) (H : Ht) (w : World) (hp : 1 ≤ p) (k : DkAt w g p d h t H g w) (hO : ∀ x, EvOk (doH H x).1) (hB1 : I64 H.v.tab.last) (hB2 : I64 (firstT H.v.tab)) (hB3 : I64 (leastH H)) (ht : t.length ≤ 700000000) (s : ByteArray) (hs : s.size ≤ 9500) :
    Calls Tryz.prog 11 #[.pointer (some ⟨d, 0, none⟩), .string s] w (LinePostD w g p d h t H s.data.toList) := by
  have OK := hid hO
  have HB := hid (And.intro hB1 (And.intro hB2 hB3))
  clear hB1 hB2 hB3
  obtain ⟨m, hm⟩ := k.glob.len
  have CS := hid (Tryz.strings_Split s ⟨#[32]⟩ m w (by omega) hm (by decide))
  have CW := hid (desk_words s w (by omega))
  have HW := hid (wordsB_data s)
  have hcl := count_len s
  have hwl := wordsB_len s
  have HLE := hid (fun x (hx : x ∈ wordsB s) => wordsB_le hx)
  have K0 := hid k
  clear hO k hm
  go_enter Tryz.func11, Tryz.ntmps11
  go_wp2_with fail
  refine CS.out.mono ?_
  rintro e w1 ⟨rfl, hw1⟩
  rw [hw1]
  clear hw1 CS
  go_wp2_with fail
  refine CW.out.mono ?_
  rintro e w2 ⟨rfl, hb2, hS2⟩
  have hE2 : Evo 0 0 g (extc g w 0) w w2 := Evo.of_below g 0 hb2
  have K2 := hid (K0.out.fresh hE2)
  have hg0 : extc g w 0 w.heap.size = 0 := extc_new (Nat.le_refl _)
  clear hE2
  have S2 := hid hS2
  have hbw : w.heap.size < w2.heap.size ∨ (wordsB s).length = 0 := by
    by_cases h0 : (wordsB s).length = 0
    · exact .inr h0
    · left
      obtain ⟨b, o, e, hb⟩ := SliceAt.lt hS2 (by intro e; have := congrArg List.length e; simp at this; rw [this] at h0; exact h0 rfl)
      cases e
      exact hb
  clear hb2 hS2 CW K0
  generalize extc g w 0 = g2 at *
  generalize w.heap.size = bk at *
  generalize Lib.countB s ⟨#[32]⟩ = N at *
  have HQ := hid (show wordsD s.data.toList = (wordsB s).map (·.data.toList) from HW.out.symm)
  clear HW
  generalize wordsB s = ys at *
  obtain ⟨c, hcN⟩ : ∃ c, c = N + 1 := ⟨_, rfl⟩
  rw [← hcN] at hwl ⊢
  have hc63 : c ≤ 9501 := by omega
  clear hcl hcN
  generalize hn : ys.length = n at *
  have HN := hid hn
  have HG0 := hid hg0
  clear hn hg0
  have hnx : (n : Int) ≤ 200000 := by omega
  go_upto_region 1 with (fail)
  go_cut [24] (fun v wx => ∃ b : Bool, v = .bool b ∧ Hid (Put1 w g p d h t H s.data.toList bk ys b wx))
  case first =>
    by_cases h0 : n = 0
    · subst h0
      have hy : ys = [] := List.eq_nil_of_length_eq_zero HN.out
      have HP := hid (show Put1 w g p d h t H s.data.toList bk ys true w2 from ⟨g2, by
        rw [lineD_nothing (by rw [HQ.out, hy]; rfl)]
        show DkWide w g p d h (t ++ []) H g2 w2
        rw [List.append_nil]
        exact K2.out.wide⟩)
      clear HQ HLE S2 K2 hy
      go_wp2
      go_meet
      case rel => exact ⟨true, rfl, HP⟩
    · have hb2 : bk < w2.heap.size := hbw.resolve_right h0
      obtain ⟨x, xs, hy⟩ : ∃ x xs, ys = x :: xs := by
        cases ys with
        | nil => exact absurd HN.out.symm h0
        | cons x xs => exact ⟨x, xs, rfl⟩
      have HY := hid hy
      have c0 : w2.cell? ⟨bk, 0, none⟩ = some (.string x) := sliceAt_get S2.out (j := 0) (by rw [hy]; rfl)
      have hl1 : (1 : Int) ≤ (n : Int) := by omega
      have hl2 : ((n : Int) == 0) = false := by rw [beq_eq_false_iff_ne]; omega
      have hl3 : 0 < n := by omega
      have hl4 : n ≤ c := hwl
      have hl5 : (n : Int) ≤ (c : Int) := by omega
      have hl6 : (1 : Int) ≤ (c : Int) := by omega
      clear hy h0 hbw
      by_cases hput : x.data.toList = b_put
      · have ht1 : (x.toList == [112, 117, 116]) = true := by rw [toList_data, hput]; rfl
        have HPUT := hid hput
        clear hput
        by_cases h3 : n = 4
        · subst h3
          have hc1 : ¬ c = 1 := by omega
          obtain ⟨xa, xb, xc, hxs⟩ : ∃ xa xb xc, xs = [xa, xb, xc] := by
            have h1 := HN.out
            rw [HY.out] at h1
            match xs, h1 with
            | [xa, xb, xc], _ => exact ⟨xa, xb, xc, rfl⟩
          have hS1 := S2.out
          rw [HY.out, hxs] at hS1
          have hxz : ∀ y ∈ [xa, xb, xc], y.size ≤ 100000 := fun y hy => by
            have := HLE.out y (by rw [HY.out, hxs]; exact List.mem_cons_of_mem _ hy)
            omega
          have CP := hid (desk_put w2 g2 g2 p d h t H w2 hp K2.out.self OK.out (by omega) bk 1 (c - 1) xa xb xc (by omega) ⟨hxz xa (by simp), hxz xb (by simp), hxz xc (by simp)⟩ hS1.tail)
          have HXS := hid hxs
          clear hS1 hxz hxs
          go_wp2_with fail
          refine CP.out.mono ?_
          rintro e w3 ⟨rfl, g3, hk3⟩
          have HAL := hid (show (putD3 [xa.data.toList, xb.data.toList, xc.data.toList]) = putD3 (xs.map (·.data.toList)) from by rw [HXS.out]; rfl)
          rw [HAL.out] at hk3 ⊢
          have hb3 : bk < w3.heap.size := Nat.lt_of_lt_of_le hb2 hk3.evo.size
          have hs3 := S2.out.evo hb2 hk3.evo (by rw [HG0.out]; omega)
          have hg3 : g3 bk = 0 := (hk3.evo.col bk hb2).trans HG0.out
          cases ho : putD3 (xs.map (·.data.toList)) with
          | none =>
            rw [ho] at hk3
            have HP := hid (show Put1 w g p d h t H s.data.toList bk ys false w3 from ⟨g3, x, xs, K2.out.wide.trans (by have := hk3; rwa [show (effD H Option.none).1 = [] from rfl, List.append_nil] at this), hs3, hg3, hb3, HY.out, by rw [if_pos HPUT.out]; exact ho⟩)
            clear hk3 hs3 hg3 hb3 ho CP
            go_wp2
            go_meet
            case rel => exact ⟨false, rfl, HP⟩
          | some st =>
            rw [ho] at hk3
            have HP := hid (show Put1 w g p d h t H s.data.toList bk ys true w3 from ⟨g3, by
              rw [lineD_step (by rw [HQ.out, HY.out]; exact askD_put HPUT.out ho)]
              exact K2.out.wide.trans hk3⟩)
            clear hk3 hs3 hg3 hb3 ho CP
            go_wp2
            go_meet
            case rel => exact ⟨true, rfl, HP⟩
        · have NP := hid (fun ad cap => desk_put_few d w2 ad cap (n - 1) (by omega) (by omega))
          have HP := hid (show Put1 w g p d h t H s.data.toList bk ys false w2 from ⟨g2, x, xs, K2.out.wide, S2.out, HG0.out, hb2, HY.out, by
            rw [if_pos HPUT.out]
            have h1 := HN.out
            rw [HY.out] at h1
            match xs, h1 with
            | [], _ => rfl
            | [_], _ => rfl
            | [_, _], _ => rfl
            | [_, _, _], h1 => simp at h1; omega
            | _ :: _ :: _ :: _ :: _, _ => rfl⟩)
          clear h3
          by_cases hc1 : c = 1
          · go_wp2_with fail
            refine (NP.out _ _).mono ?_
            rintro e w3 ⟨rfl, hw3⟩
            rw [← hw3]
            clear hw3 hc1
            go_wp2
            go_meet
            case rel => exact ⟨false, rfl, HP⟩
          · go_wp2_with fail
            refine (NP.out _ _).mono ?_
            rintro e w3 ⟨rfl, hw3⟩
            rw [← hw3]
            clear hw3
            go_wp2
            go_meet
            case rel => exact ⟨false, rfl, HP⟩
      · have ht1 : (x.toList == [112, 117, 116]) = false := by rw [toList_data, beq_eq_false_iff_ne]; exact hput
        have HP := hid (show Put1 w g p d h t H s.data.toList bk ys false w2 from ⟨g2, x, xs, K2.out.wide, S2.out, HG0.out, hb2, HY.out, by rw [if_neg hput]⟩)
        clear hput
        go_wp2
        go_meet
        case rel => exact ⟨false, rfl, HP⟩
  case rest =>
    obtain ⟨bt, rfl, HB⟩ := hcut
    cases bt with
    | true =>
      have HP := hid (show LinePostD w g p d h t H s.data.toList (.returned (.tuple #[])) wc from ⟨rfl, HB.out⟩)
      clear HB
      go_wp2
      go_end0
      exact HP.out
    | false =>
      obtain ⟨g1, x, xs, hk1, hs1, hg1, hb1, hy1, hno1⟩ := HB.out
      have K1 := hid hk1
      have S1 := hid hs1
      have G1 := hid hg1
      have HY := hid hy1
      have NO := hid hno1
      have hx1 : xs.length + 1 = n := by have := HN.out; rw [HY.out] at this; simpa using this
      have CN := hid (fun ad cap (hA : StrsAt wc ad xs) => (show Calls Tryz.prog 19 #[.slice ad (n - 1) cap] wc (NumsAt wc g1 p d h t H (numsD (xs.map (·.data.toList))) g1 wc) from by
        have := desk_nums wc g1 g1 p d h t H wc K1.out.self ad cap xs (by omega) (fun y hy => by have := HLE.out y (by rw [HY.out]; exact List.mem_cons_of_mem _ hy); omega) hA
        rwa [show xs.length = n - 1 by omega] at this))
      have hl1 : (1 : Int) ≤ (n : Int) := by omega
      have hl5 : (n : Int) ≤ (c : Int) := by omega
      have hl6 : (1 : Int) ≤ (c : Int) := by omega
      clear hk1 hs1 hg1 hy1 hno1 HB K2 S2 hbw HG0
      go_upto_region 2 with (fail)
      go_cut [4, 5, 6] (fun v4 v5 v6 wx => ∃ a5 n5 c5 g5, v4 = .slice (some ⟨bk, 0, none⟩) n c ∧ v5 = .slice a5 n5 c5 ∧ v6 = .bool (numsD (xs.map (·.data.toList))).isSome ∧ Hid (DkWide w g p d h t H g5 wx) ∧ Hid (∀ vs, numsD (xs.map (·.data.toList)) = some vs → n5 = vs.length ∧ RowC wx g5 (p + 20) 3 1 (.slice a5 vs.length c5) vs.length (vs.map (Value.int .i64))) ∧ Hid (StrsAt wx (some ⟨bk, 0, none⟩) ys) ∧ bk < wx.heap.size ∧ Hid (g5 bk = 0))
      case first =>
        by_cases hc1 : c = 1
        · have CC := hid (CN.out (some ⟨bk, 0, none⟩) 0 (by
            have : xs = [] := List.eq_nil_of_length_eq_zero (by omega)
            rw [this]; exact .inl rfl))
          have HC1 := hid hc1
          go_wp2_with fail
          refine CC.out.mono ?_
          rintro e w3 ⟨a5, n5, c5, g5, rfl, hk5, hr5, hb5, hE5⟩
          have HP := hid (show DkWide w g p d h t H g5 w3 ∧ StrsAt w3 (some ⟨bk, 0, none⟩) ys ∧ bk < w3.heap.size ∧ g5 bk = 0 from ⟨K1.out.trans hk5.wide, S1.out.below hb5, Nat.lt_of_lt_of_le hb1 hb5.size, (hE5.col bk hb1).trans G1.out⟩)
          have HR := hid hr5
          clear hk5 hr5 hb5 hE5 CC hc1
          go_wp2
          go_meet
          case rel => exact ⟨a5, n5, c5, g5, by rw [HC1.out], rfl, rfl, hid HP.out.1, HR, hid HP.out.2.1, HP.out.2.2.1, hid HP.out.2.2.2⟩
        · have CC := hid (CN.out (some ⟨bk, 1, none⟩) (c - 1) (by have := S1.out; rw [HY.out] at this; exact this.tail))
          go_wp2_with fail
          refine CC.out.mono ?_
          rintro e w3 ⟨a5, n5, c5, g5, rfl, hk5, hr5, hb5, hE5⟩
          have HP := hid (show DkWide w g p d h t H g5 w3 ∧ StrsAt w3 (some ⟨bk, 0, none⟩) ys ∧ bk < w3.heap.size ∧ g5 bk = 0 from ⟨K1.out.trans hk5.wide, S1.out.below hb5, Nat.lt_of_lt_of_le hb1 hb5.size, (hE5.col bk hb1).trans G1.out⟩)
          have HR := hid hr5
          clear hk5 hr5 hb5 hE5 CC hc1
          go_wp2
          go_meet
          case rel => exact ⟨a5, n5, c5, g5, rfl, rfl, rfl, hid HP.out.1, HR, hid HP.out.2.1, HP.out.2.2.1, hid HP.out.2.2.2⟩
      case rest =>
        obtain ⟨a5, n5, c5, g5, rfl, rfl, rfl, K5, R5, S5, hb5, G5⟩ := hcut
        generalize wc = w5 at *
        have c0 : w5.cell? ⟨bk, 0, none⟩ = some (.string x) := sliceAt_get S5.out (j := 0) (by rw [HY.out]; rfl)
        have hl3 : 0 < n := by omega
        have hl4 : n ≤ c := by omega
        clear CN S1 K1 G1
        generalize hm : numsD (xs.map (·.data.toList)) = m at *
        have HM := hid hm
        clear hm
        cases m with
        | none =>
          clear R5 S5
          have HASK := hid (show askD (wordsD s.data.toList) = .what from by
            rw [HQ.out, HY.out]
            show askD (x.data.toList :: xs.map (·.data.toList)) = _
            rw [askD_cons, NO.out]
            rw [HM.out])
          go_wp2_with fail
          have K6 := hid (K5.out.fresh (Evo.alloc g5 0 w5 (.cells #[.string ⟨#[119, 104, 97, 116]⟩] 9)))
          refine (desk_say (extc g5 w5 0) p d h t _ w5.heap.size 1 [⟨#[119, 104, 97, 116]⟩] (cells_strs w5 [⟨#[119, 104, 97, 116]⟩] 9) (by simp) (by simp) (by simp) (by rw [show Lib.join (([⟨#[119, 104, 97, 116]⟩] : List ByteArray).map (·.data.toList)) [32] = b_what from join_one b_what]; decide) (by omega) K6.out.desk).mono ?_
          rintro e w7 ⟨rfl, g7, hD7, hE7⟩
          rw [show Lib.join (([⟨#[119, 104, 97, 116]⟩] : List ByteArray).map (·.data.toList)) [32] = b_what from join_one b_what] at hD7
          have HP := hid (show LinePostD w g p d h t H s.data.toList (.returned (.tuple #[])) w7 from ⟨rfl, g7, by rw [lineD_what HASK.out]; exact K6.out.said hp hE7 hD7⟩)
          clear hD7 hE7 K6
          go_wp2
          go_end0
          exact HP.out
        | some vs =>
          obtain ⟨rfl, hR5⟩ := R5.out vs rfl
          have R6 := hid hR5
          have hv5 := numsD_length _ _ HM.out
          have hvn : vs.length ≤ 10000 := by rw [hv5, List.length_map]; omega
          clear R5 hR5 hv5
          cases hst : stepD x.data.toList vs with
          | some st =>
            have CS := hid (desk_step w5 g5 g5 p d h t H w5 hp K5.out.self OK.out (by omega) x vs a5 c5 R6.out st hst)
            have HASK := hid (show askD (wordsD s.data.toList) = .step st from by
              rw [HQ.out, HY.out]
              show askD (x.data.toList :: xs.map (·.data.toList)) = _
              rw [askD_cons, NO.out]
              simp only [HM.out, hst])
            clear hst
            go_wp2_with fail
            refine CS.out.mono ?_
            rintro e w6 ⟨rfl, g6, hk6⟩
            have HP := hid (show LinePostD w g p d h t H s.data.toList (.returned (.tuple #[])) w6 from ⟨rfl, g6, by rw [lineD_step HASK.out]; exact K5.out.trans hk6⟩)
            clear hk6 CS
            go_wp2
            go_end0
            exact HP.out
          | none =>
            have CS := hid (desk_step_none d w5 x vs a5 c5 hvn hst)
            have HST := hid hst
            clear hst
            cases hbg : beginD x.data.toList vs with
            | some st =>
              have CB := desk_begin w5 g5 g5 p d h t H w5 hp K5.out.self OK.out (by omega) x vs a5 c5 R6.out hvn
              rw [hbg] at CB
              have CB := hid CB
              have HASK := hid (show askD (wordsD s.data.toList) = .step st from by
                rw [HQ.out, HY.out]
                show askD (x.data.toList :: xs.map (·.data.toList)) = _
                rw [askD_cons, NO.out]
                simp only [HM.out, HST.out, hbg])
              clear hbg
              go_wp2_with fail
              refine CS.out.mono ?_
              rintro e w6 ⟨rfl, hw6⟩
              rw [← hw6]
              clear hw6 CS
              go_wp2_with fail
              refine CB.out.mono ?_
              rintro e w6 ⟨rfl, g6, hk6⟩
              have HP := hid (show LinePostD w g p d h t H s.data.toList (.returned (.tuple #[])) w6 from ⟨rfl, g6, by rw [lineD_step HASK.out]; exact K5.out.trans hk6⟩)
              clear hk6 CB
              go_wp2
              go_end0
              exact HP.out
            | none =>
              have CB := desk_begin w5 g5 g5 p d h t H w5 hp K5.out.self OK.out (by omega) x vs a5 c5 R6.out hvn
              rw [hbg] at CB
              have CB := hid CB
              have HBG := hid hbg
              clear hbg
              go_wp2_with fail
              refine CS.out.mono ?_
              rintro e w6 ⟨rfl, hw6⟩
              rw [← hw6]
              clear hw6 CS
              go_wp2_with fail
              refine CB.out.mono ?_
              rintro e w6 ⟨rfl, g6, hk6⟩
              have S6 := hid (S5.out.evo hb5 hk6.evo (by rw [G5.out]; omega))
              have K6 := hid (K5.out.trans (by have := hk6; rwa [show (effD H Option.none).1 = [] from rfl, List.append_nil] at this))
              have c6 : w6.cell? ⟨bk, 0, none⟩ = some (.string x) := sliceAt_get S6.out (j := 0) (by rw [HY.out]; rfl)
              clear hk6 CB c0
              by_cases hla : x.data.toList = b_last ∧ vs = []
              · obtain ⟨hla1, hla0⟩ := hla
                subst hla0
                have hq1 : (x.toList == [108, 97, 115, 116]) = true := by rw [toList_data, hla1]; rfl
                have HASK := hid (show askD (wordsD s.data.toList) = .last from by
                  rw [HQ.out, HY.out]
                  show askD (x.data.toList :: xs.map (·.data.toList)) = _
                  rw [askD_cons, NO.out]
                  simp only [HM.out, HST.out, HBG.out]; rw [if_pos (by first | exact ⟨hla1, rfl⟩ | exact ⟨hla1, trivial⟩)])
                obtain ⟨vp, tb, hs1, hs2, hcH, hcV, hTA⟩ := K6.out.hall.way
                have LT := hid (fun W (hb : Below w6.heap.size w6 W) => table_Last g6 _ tb H.v.tab W (hTA.below hb))
                have LF := hid (fun W (hb : Below w6.heap.size w6 W) => table_First g6 _ tb H.v.tab W (hTA.below hb))
                have LL := hid (fun W (hb : Below w6.heap.size w6 W) => hall_Least g6 _ h H W (K6.out.hall.below hb))
                have KS := hid (fun W (hb : Below w6.heap.size w6 W) => (show W.cell? ⟨d, 2, none⟩ = some (.pointer (some ⟨h, 0, none⟩)) ∧ W.cell? ⟨h, 0, none⟩ = some (.pointer (some ⟨vp, 0, none⟩)) ∧ W.cell? ⟨vp, 0, none⟩ = some (.pointer (some ⟨tb, 0, none⟩)) from ⟨cell_below K6.out.desk.cell2 hb, cell_below hs1 hb, cell_below hs2 hb⟩))
                clear hla1 hs1 hs2 hTA
                go_upto_region 6 with (fail)
                -- REGION 6
                refine wp_region_noPanic ?_
                refine wp_region_held_drew (S := (fun W : World => W.cell? ⟨d, 2, none⟩ = some (.pointer (some ⟨h, 0, none⟩)) ∧ W.cell? ⟨h, 0, none⟩ = some (.pointer (some ⟨vp, 0, none⟩)) ∧ W.cell? ⟨vp, 0, none⟩ = some (.pointer (some ⟨tb, 0, none⟩)))) (by kernel_rfl) ?_ (fun hH0 => ?_)
                · (try dsimp only); (first | assumption | exact KS.out _ (Below.refl w6.heap.size w6).drew)
                refine tk 0 (h := ?_)
                try simp only [Act.put, List.setIfInBounds_toArray, List.set_cons_zero, List.set_cons_succ]
                refine tk 1 (h := ?_)
                try simp only [Act.put, List.setIfInBounds_toArray, List.set_cons_zero, List.set_cons_succ]
                refine tk 2 (h := ?_)
                try simp only [Act.put, List.setIfInBounds_toArray, List.set_cons_zero, List.set_cons_succ]
                refine tk 3 (h := ?_)
                try simp only [Act.put, List.setIfInBounds_toArray, List.set_cons_zero, List.set_cons_succ]
                refine tk 4 (h := ?_)
                try simp only [Act.put, List.setIfInBounds_toArray, List.set_cons_zero, List.set_cons_succ]
                refine tk 5 (h := ?_)
                try simp only [Act.put, List.setIfInBounds_toArray, List.set_cons_zero, List.set_cons_succ]
                refine tk 6 (h := ?_)
                try simp only [Act.put, List.setIfInBounds_toArray, List.set_cons_zero, List.set_cons_succ]
                refine tk 7 (h := ?_)
                try simp only [Act.put, List.setIfInBounds_toArray, List.set_cons_zero, List.set_cons_succ]
                refine tk 8 (h := ?_)
                try simp only [Act.put, List.setIfInBounds_toArray, List.set_cons_zero, List.set_cons_succ]
                refine tk 9 (h := ?_)
                try simp only [Act.put, List.setIfInBounds_toArray, List.set_cons_zero, List.set_cons_succ]
                refine tk 10 (h := ?_)
                try simp only [Act.put, List.setIfInBounds_toArray, List.set_cons_zero, List.set_cons_succ]
                refine tk 13 (h := ?_)
                try simp only [Act.put, List.setIfInBounds_toArray, List.set_cons_zero, List.set_cons_succ]
                refine tk 14 (h := ?_)
                try simp only [Act.put, List.setIfInBounds_toArray, List.set_cons_zero, List.set_cons_succ]
                refine tk 15 (h := ?_)
                try simp only [Act.put, List.setIfInBounds_toArray, List.set_cons_zero, List.set_cons_succ]
                refine tk 16 (h := ?_)
                try simp only [Act.put, List.setIfInBounds_toArray, List.set_cons_zero, List.set_cons_succ]
                refine tk 17 (h := ?_)
                try simp only [Act.put, List.setIfInBounds_toArray, List.set_cons_zero, List.set_cons_succ]
                refine tk 18 (h := ?_)
                try simp only [Act.put, List.setIfInBounds_toArray, List.set_cons_zero, List.set_cons_succ]
                refine tk 19 (h := ?_)
                try simp only [Act.put, List.setIfInBounds_toArray, List.set_cons_zero, List.set_cons_succ]
                refine tk 20 (h := ?_)
                try simp only [Act.put, List.setIfInBounds_toArray, List.set_cons_zero, List.set_cons_succ]
                refine tk 21 (h := ?_)
                try simp only [Act.put, List.setIfInBounds_toArray, List.set_cons_zero, List.set_cons_succ]
                refine tk 22 (h := ?_)
                try simp only [Act.put, List.setIfInBounds_toArray, List.set_cons_zero, List.set_cons_succ]
                refine tk 25 (h := ?_)
                try simp only [Act.put, List.setIfInBounds_toArray, List.set_cons_zero, List.set_cons_succ]
                refine tk 26 (h := ?_)
                try simp only [Act.put, List.setIfInBounds_toArray, List.set_cons_zero, List.set_cons_succ]
                refine tk 27 (h := ?_)
                try simp only [Act.put, List.setIfInBounds_toArray, List.set_cons_zero, List.set_cons_succ]
                refine tk 28 (h := ?_)
                try simp only [Act.put, List.setIfInBounds_toArray, List.set_cons_zero, List.set_cons_succ]
                refine wpAnyH_ready (rs := [11]) (by kernel_rfl) (by simp) ?_
                refine AllReadyH.cons (by simp only [List.getElem?_toArray, List.getElem?_cons_zero, List.getElem?_cons_succ]; rfl) (fun K hK => ?_) AllReadyH.nil
                go_simp
                go_at_call 24
                have hb0 := (Below.refl w6.heap.size w6).drew
                (with_reducible refine (LT.out _ hb0).mono ?_)
                rintro e w7 ⟨rfl, hw7⟩
                rw [← hw7]
                clear hw7 w7
                have hS1 := KS.out _ hb0
                try go_wp2_with fail
                refine hK.out _ _ ?_ (fun hH1 => ?_)
                · (try dsimp only); (first | assumption | exact KS.out _ (Below.refl w6.heap.size w6).drew)
                clear hK K hH0
                try simp only [Act.put, List.setIfInBounds_toArray, List.set_cons_zero, List.set_cons_succ]
                refine wpAnyH_ready (rs := [12]) (by kernel_rfl) (by simp) ?_
                refine AllReadyH.cons (by simp only [List.getElem?_toArray, List.getElem?_cons_zero, List.getElem?_cons_succ]; rfl) (fun K hK => ?_) AllReadyH.nil
                go_simp
                go_at_call 23
                (with_reducible refine (desk_num _ HB.out.1.1 HB.out.1.2 _ (tabIs_below K6.out.glob.tab hb0)).mono ?_)
                rintro e w8 ⟨rfl, hb8⟩
                have hb1 := hb0.trans (hb8.mono hb0.size)
                have hS2 := KS.out _ hb1
                clear hb8
                try go_wp2_with fail
                refine hK.out _ _ ?_ (fun hH2 => ?_)
                · (try dsimp only); (first | assumption | exact KS.out _ (Below.refl w6.heap.size w6).drew)
                clear hK K hH1
                try simp only [Act.put, List.setIfInBounds_toArray, List.set_cons_zero, List.set_cons_succ]
                refine wpAnyH_ready (rs := [23]) (by kernel_rfl) (by simp) ?_
                refine AllReadyH.cons (by simp only [List.getElem?_toArray, List.getElem?_cons_zero, List.getElem?_cons_succ]; rfl) (fun K hK => ?_) AllReadyH.nil
                go_simp
                go_at_call 25
                (with_reducible refine (LF.out _ hb1).mono ?_)
                rintro e w9 ⟨rfl, hb9⟩
                have hb2 := hb1.trans (hb9.mono hb1.size)
                have hS3 := KS.out _ hb2
                clear hb9
                try go_wp2_with fail
                refine hK.out _ _ ?_ (fun hH3 => ?_)
                · (try dsimp only); (first | assumption | exact KS.out _ (Below.refl w6.heap.size w6).drew)
                clear hK K hH2
                try simp only [Act.put, List.setIfInBounds_toArray, List.set_cons_zero, List.set_cons_succ]
                refine wpAnyH_ready (rs := [24]) (by kernel_rfl) (by simp) ?_
                refine AllReadyH.cons (by simp only [List.getElem?_toArray, List.getElem?_cons_zero, List.getElem?_cons_succ]; rfl) (fun K hK => ?_) AllReadyH.nil
                go_simp
                go_at_call 23
                (with_reducible refine (desk_num _ HB.out.2.1.1 HB.out.2.1.2 _ (tabIs_below K6.out.glob.tab hb2)).mono ?_)
                rintro e w10 ⟨rfl, hb10⟩
                have hb3 := hb2.trans (hb10.mono hb2.size)
                have hS4 := KS.out _ hb3
                clear hb10
                try go_wp2_with fail
                refine hK.out _ _ ?_ (fun hH4 => ?_)
                · (try dsimp only); (first | assumption | exact KS.out _ (Below.refl w6.heap.size w6).drew)
                clear hK K hH3
                try simp only [Act.put, List.setIfInBounds_toArray, List.set_cons_zero, List.set_cons_succ]
                refine wpAnyH_ready (rs := [29]) (by kernel_rfl) (by simp) ?_
                refine AllReadyH.cons (by simp only [List.getElem?_toArray, List.getElem?_cons_zero, List.getElem?_cons_succ]; rfl) (fun K hK => ?_) AllReadyH.nil
                go_simp
                go_at_call 26
                (with_reducible refine (LL.out _ hb3).mono ?_)
                rintro e w11 ⟨rfl, hw11⟩
                rw [← hw11]
                clear hw11 w11
                try go_wp2_with fail
                refine hK.out _ _ ?_ (fun hH5 => ?_)
                · (try dsimp only); (first | assumption | exact KS.out _ (Below.refl w6.heap.size w6).drew)
                clear hK K hH4
                try simp only [Act.put, List.setIfInBounds_toArray, List.set_cons_zero, List.set_cons_succ]
                refine wpAnyH_ready (rs := [30]) (by kernel_rfl) (by simp) ?_
                refine AllReadyH.cons (by simp only [List.getElem?_toArray, List.getElem?_cons_zero, List.getElem?_cons_succ]; rfl) (fun K hK => ?_) AllReadyH.nil
                go_simp
                go_at_call 23
                (with_reducible refine (desk_num _ HB.out.2.2.1 HB.out.2.2.2 _ (tabIs_below K6.out.glob.tab hb3)).mono ?_)
                rintro e w12 ⟨rfl, hb12⟩
                have hb4 := hb3.trans (hb12.mono hb3.size)
                have hS5 := KS.out _ hb4
                clear hb12
                try go_wp2_with fail
                refine hK.out _ _ ?_ (fun hH6 => ?_)
                · (try dsimp only); (first | assumption | exact KS.out _ (Below.refl w6.heap.size w6).drew)
                clear hK K hH5
                try simp only [Act.put, List.setIfInBounds_toArray, List.set_cons_zero, List.set_cons_succ]
                refine wpAnyH_ready (rs := [31]) (by kernel_rfl) (by simp) ?_
                refine AllReadyH.cons (by simp only [List.getElem?_toArray, List.getElem?_cons_zero, List.getElem?_cons_succ]; rfl) (fun K hK => ?_) AllReadyH.nil
                go_simp
                have hb5 := hb4.alloc hb4.size (.cells (([(⟨#[108, 97, 115, 116]⟩ : ByteArray), ⟨(Lib.itoa H.v.tab.last).toArray⟩, ⟨(Lib.itoa (firstT H.v.tab)).toArray⟩, ⟨(Lib.itoa (leastH H)).toArray⟩]).map Value.string).toArray 9)
                have hS6 := KS.out _ hb5
                try go_wp2_with fail
                refine hK.out _ _ ?_ (fun hH7 => ?_)
                · (try dsimp only); (first | assumption | exact KS.out _ (Below.refl w6.heap.size w6).drew)
                clear hK K hH6
                try simp only [Act.put, List.setIfInBounds_toArray, List.set_cons_zero, List.set_cons_succ]
                refine wpAnyH_ready (rs := [32]) (by kernel_rfl) (by simp) ?_
                refine AllReadyH.cons (by simp only [List.getElem?_toArray, List.getElem?_cons_zero, List.getElem?_cons_succ]; rfl) (fun K hK => ?_) AllReadyH.nil
                go_simp
                go_at_call 22
                have K7 := hid (K6.out.below hb5)
                have HJN := hid (show Lib.join (([(⟨#[108, 97, 115, 116]⟩ : ByteArray), ⟨(Lib.itoa H.v.tab.last).toArray⟩, ⟨(Lib.itoa (firstT H.v.tab)).toArray⟩, ⟨(Lib.itoa (leastH H)).toArray⟩]).map (·.data.toList)) [32] = b_last ++ 32 :: (Lib.itoa H.v.tab.last ++ 32 :: (Lib.itoa (firstT H.v.tab) ++ 32 :: Lib.itoa (leastH H))) from join_four _ _ _ _)
                have l1 := Lib.itoa_length_le _ HB.out.1.1 HB.out.1.2
                have l2 := Lib.itoa_length_le _ HB.out.2.1.1 HB.out.2.1.2
                have l3 := Lib.itoa_length_le _ HB.out.2.2.1 HB.out.2.2.2
                refine (desk_say g6 p d h t _ w12.heap.size 4 [(⟨#[108, 97, 115, 116]⟩ : ByteArray), ⟨(Lib.itoa H.v.tab.last).toArray⟩, ⟨(Lib.itoa (firstT H.v.tab)).toArray⟩, ⟨(Lib.itoa (leastH H)).toArray⟩] (cells_strs w12 [(⟨#[108, 97, 115, 116]⟩ : ByteArray), ⟨(Lib.itoa H.v.tab.last).toArray⟩, ⟨(Lib.itoa (firstT H.v.tab)).toArray⟩, ⟨(Lib.itoa (leastH H)).toArray⟩] 9) (by simp) (by simp) (by simp) (by rw [HJN.out]; simp only [List.length_append, List.length_cons]; have : b_last.length = 4 := rfl; omega) (by omega) K7.out.desk).mono ?_
                rintro e w13 ⟨rfl, g7, hD7, hE7⟩
                rw [HJN.out] at hD7
                have hk7 := K7.out.said hp hE7 hD7
                have hS7 : w13.cell? ⟨d, 2, none⟩ = some (.pointer (some ⟨h, 0, none⟩)) ∧ w13.cell? ⟨h, 0, none⟩ = some (.pointer (some ⟨vp, 0, none⟩)) ∧ w13.cell? ⟨vp, 0, none⟩ = some (.pointer (some ⟨tb, 0, none⟩)) := ⟨hk7.desk.cell2, hE7.cell hS6.2.1 (by show g6 h < _ ∨ _ ≤ g6 h; omega), hE7.cell hS6.2.2 (by show g6 vp < _ ∨ _ ≤ g6 vp; omega)⟩
                have HP := hid (show LinePostD w g p d h t H s.data.toList (.returned (.tuple #[])) w13 from ⟨rfl, g7, by
                  unfold lineD
                  rw [HASK.out]
                  show DkWide w g p d h (t ++ (b_last ++ 32 :: (Lib.itoa H.v.tab.last ++ 32 :: (Lib.itoa (firstT H.v.tab) ++ 32 :: (Lib.itoa (leastH H) ++ [10]))))) H g7 w13
                  rw [show b_last ++ 32 :: (Lib.itoa H.v.tab.last ++ 32 :: (Lib.itoa (firstT H.v.tab) ++ 32 :: (Lib.itoa (leastH H) ++ [10]))) = (b_last ++ 32 :: (Lib.itoa H.v.tab.last ++ 32 :: (Lib.itoa (firstT H.v.tab) ++ 32 :: Lib.itoa (leastH H)))) ++ [10] from by simp only [List.append_assoc, List.cons_append]]
                  exact hk7⟩)
                clear hD7 hE7 hk7 K7
                try go_wp2_with fail
                refine hK.out _ _ ?_ (fun hH8 => ?_)
                · (try dsimp only); (first | assumption | exact KS.out _ (Below.refl w6.heap.size w6).drew)
                clear hK K hH7
                try simp only [Act.put, List.setIfInBounds_toArray, List.set_cons_zero, List.set_cons_succ]
                refine wpAnyH_done (by kernel_rfl) ?_ _
                refine NoPanic.normal ?_
                clear hS7
                go_wp2
                go_end0
                exact HP.out
                -- END 6
              · have hla2 : ((x.toList == [108, 97, 115, 116]) = false) ∨ ((x.toList == [108, 97, 115, 116]) = true ∧ ((vs.length : Int) == 0) = false) := by
                  by_cases hx : x.data.toList = b_last
                  · right
                    refine ⟨by rw [toList_data, hx]; rfl, ?_⟩
                    rw [beq_eq_false_iff_ne]
                    intro h0
                    exact hla ⟨hx, List.eq_nil_of_length_eq_zero (by omega)⟩
                  · left
                    rw [toList_data, beq_eq_false_iff_ne]; exact hx
                have HLA := hid hla
                clear hla
                have hvi : (vs.length : Int) ≤ 10000 := by omega
                rcases hla2 with hq1 | ⟨hq1, hq2⟩
                all_goals
                  have HASK := hid (show askD (wordsD s.data.toList) = .what from by
                    rw [HQ.out, HY.out]
                    show askD (x.data.toList :: xs.map (·.data.toList)) = _
                    rw [askD_cons, NO.out]
                    simp only [HM.out, HST.out, HBG.out]; rw [if_neg HLA.out])
                  go_wp2_with fail
                  have K7 := hid (K6.out.fresh (Evo.alloc g6 0 w6 (.cells #[.string ⟨#[119, 104, 97, 116]⟩] 9)))
                  refine (desk_say (extc g6 w6 0) p d h t _ w6.heap.size 1 [⟨#[119, 104, 97, 116]⟩] (cells_strs w6 [⟨#[119, 104, 97, 116]⟩] 9) (by simp) (by simp) (by simp) (by rw [show Lib.join (([⟨#[119, 104, 97, 116]⟩] : List ByteArray).map (·.data.toList)) [32] = b_what from join_one b_what]; decide) (by omega) K7.out.desk).mono ?_
                  rintro e w7 ⟨rfl, g7, hD7, hE7⟩
                  rw [show Lib.join (([⟨#[119, 104, 97, 116]⟩] : List ByteArray).map (·.data.toList)) [32] = b_what from join_one b_what] at hD7
                  have HP := hid (show LinePostD w g p d h t H s.data.toList (.returned (.tuple #[])) w7 from ⟨rfl, g7, by rw [lineD_what HASK.out]; exact K7.out.said hp hE7 hD7⟩)
                  clear hD7 hE7 K7
                  go_wp2
                  go_end0
                  exact HP.out

end Go.Proofs.YtoiobhcgpajogabGreatDoor
