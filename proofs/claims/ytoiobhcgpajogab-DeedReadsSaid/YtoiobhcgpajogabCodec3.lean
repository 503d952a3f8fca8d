/- The walk of SamePairs, of any two. -/
import Derived.Test.YtoiobhcgpajogabCodec2
namespace Go.Proofs.Ytoiobhcgpajogab
open Go.RowKit

def SamePost (l1 l2 : List Ent) (w : World) (e : Ending) (w' : World) : Prop := ∃ b, e = .returned (.bool b) ∧ (b = true ↔ l1 = l2) ∧ Below w.heap.size w w'

set_option maxHeartbeats 2000000 in
set_option maxRecDepth 100000 in
theorem ref_SamePairs (a1 a2 : Option Addr) (c1 c2 : Nat) (l1 l2 : List Ent) (w : World) (hn1 : l1.length ≤ 1000000) (hn2 : l2.length ≤ 1000000) (h1 : SliceAt w a1 (encEnts l1)) (h2 : SliceAt w a2 (encEnts l2)) :
    Calls Try.prog 24 #[.slice a1 l1.length c1, .slice a2 l2.length c2] w (SamePost l1 l2 w) := by
  have H1 := hid h1
  have H2 := hid h2
  clear h1 h2
  by_cases hlen : l1.length = l2.length
  · have z : ((l1.length : Int) != (l2.length : Int)) = false := by simp [hlen]
    have HL := hid hlen
    clear hlen
    go_enter Try.func24, Try.ntmps24
    go_wp2
    go_loopw [5] (fun i wr => ∃ k : Nat, k ≤ l1.length ∧ i = .int .i64 k ∧ Hid (l1.take k = l2.take k) ∧ Below w.heap.size w wr) (fun i _ => l1.length - (intOf i).toNat)
    case atStart => exact ⟨0, Nat.zero_le _, rfl, hid rfl, Below.refl _ _⟩
    case round =>
      obtain ⟨k, hk, rfl, HT, hb⟩ := hrel
      by_cases hlt : k < l1.length
      · have hlt2 : k < l2.length := by have := HL.out; omega
        obtain ⟨b1, o1, rfl, v1⟩ := H1.out.ents (by omega)
        obtain ⟨b2, o2, rfl, v2⟩ := H2.out.ents (by omega)
        obtain ⟨p1, p2, p3⟩ := v1 k hlt
        obtain ⟨q1, q2, q3⟩ := v2 k hlt2
        have m1 := World.block_lt_of_cell? w _ p1
        have m2 := World.block_lt_of_cell? w _ q1
        simp only at m1 m2
        have P1 := (below_cell hb m1).trans p1
        have P2 := (below_cell hb m1).trans p2
        have P3 := (below_cell hb m1).trans p3
        have Q1 := (below_cell hb m2).trans q1
        have Q2 := (below_cell hb m2).trans q2
        have Q3 := (below_cell hb m2).trans q3
        have HB := hid hb
        have s1 := hid (List.take_succ_eq_append_getElem hlt)
        have s2 := hid (List.take_succ_eq_append_getElem hlt2)
        have n1 := hid (List.getElem?_eq_getElem hlt)
        have n2 := hid (List.getElem?_eq_getElem hlt2)
        clear v1 v2 p1 p2 p3 q1 q2 q3 hb
        have hki : (k : Int) < (l1.length : Int) := by omega
        have hki2 : (k : Int) < (l2.length : Int) := by omega
        have hk0 : (0 : Int) ≤ (k : Int) := by omega
        generalize l1[k] = x at *
        generalize l2[k] = y at *
        by_cases he : x = y
        · subst he
          go_wp2_with fail
          go_quiet (fail)
          go_wp2
          go_roundw
          case rel => exact ⟨k + 1, by omega, by go_num, hid (by rw [s1.out, s2.out, HT.out]), HB.out.trans ((below_drewN _ _).mono HB.out.size)⟩
          case measure => simp [intOf]; omega
        · have hne : ¬ (l1 = l2) := by
            intro h
            subst h
            have := n1.out.symm.trans n2.out
            exact he (Option.some.inj this)
          have NE := hid hne
          clear hne n1 n2 s1 s2
          obtain ⟨xn, xt, xb⟩ := x
          obtain ⟨yn, yt, yb⟩ := y
          simp only at P1 P2 P3 Q1 Q2 Q3
          by_cases e1 : xn = yn
          · subst e1
            have g1 : (xn == xn) = true := by simp
            by_cases e2 : xt = yt
            · subst e2
              have g2 : (xt == xt) = true := by simp
              have g3 : (xb.toList == yb.toList) = false := by
                rw [toList_beq]
                simp
                rintro rfl
                exact he rfl
              clear he
              go_wp2_with fail
              go_quiet (fail)
              go_wp2
              go_ret
              exact ⟨false, rfl, by simpa using NE.out, HB.out.trans ((below_drewN _ _).mono HB.out.size)⟩
            · have g2 : (xt == yt) = false := by simpa using e2
              clear he e2
              go_wp2_with fail
              go_quiet (fail)
              go_wp2
              go_ret
              exact ⟨false, rfl, by simpa using NE.out, HB.out.trans ((below_drewN _ _).mono HB.out.size)⟩
          · have g1 : (xn == yn) = false := by simpa using e1
            clear he e1
            go_wp2_with fail
            go_quiet (fail)
            go_wp2
            go_ret
            exact ⟨false, rfl, by simpa using NE.out, HB.out.trans ((below_drewN _ _).mono HB.out.size)⟩
      · obtain rfl : k = l1.length := by omega
        have HB := hid hb
        clear hb
        have hq : l1 = l2 := by
          have := HT.out
          rw [List.take_length, HL.out, List.take_length] at this
          exact this
        have HQ := hid hq
        clear hq
        go_wp2
        go_ret
        exact ⟨true, rfl, by simp [HQ.out], HB.out⟩
  · have z : ((l1.length : Int) != (l2.length : Int)) = true := by simp; omega
    have HL := hid hlen
    clear hlen
    go_enter Try.func24, Try.ntmps24
    go_wp2
    go_ret
    exact ⟨false, rfl, by simp; intro h; exact HL.out (by rw [h]), Below.refl _ _⟩

end Go.Proofs.Ytoiobhcgpajogab
