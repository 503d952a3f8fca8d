/- The walk of TableSince. -/
import Derived.Test.YtoiobhcgpajogabLaw02a
import Derived.Test.YtoiobhcgpajogabTStep
namespace Go.Proofs.Ytoiobhcgpajogab
open Go.RowKit

/-- A table alone. -/
structure TA (w0 : World) (g : Nat → Nat) (w : World) (t : Nat) (T : Tab) : Prop where
  base : Base w0.heap.size w0 g w
  tab : TableAt w g 1 t T

section
variable {w0 w w' : World} {g g' : Nat → Nat} {t : Nat} {T T' : Tab}
theorem TA.below (h : TA w0 g w t T) (k : Below w.heap.size w w') : TA w0 g w' t T := ⟨h.base.below' k, h.tab.below k⟩
theorem TA.fresh (h : TA w0 g w t T) (k : Evo 0 0 g g' w w') : TA w0 g' w' t T := ⟨h.base.step k (by omega), h.tab.frame k (by omega)⟩
theorem TA.evo (h : TA w0 g w t T) (hE : Evo 1 (1 + 9) g g' w w') (hT : TableAt w' g' 1 t T') : TA w0 g' w' t T' := ⟨h.base.step hE (by omega), hT⟩
theorem TA.slice (h : TA w0 g w t T) {a : Option Addr} {cells : List Value} (k : SliceAt w0 a cells) (lo hi : Nat) (hl : 1 ≤ lo) : SliceC w g lo hi a cells := SliceC.of_base k rfl h.base hl
end

theorem any_take (l : List Ent) (k : Nat) (h : k < l.length) (n : Int) : (l.take (k + 1)).any (fun x => x.n == n) = ((l.take k).any (fun x => x.n == n) || (l[k].n == n)) := by
  rw [List.take_succ_eq_append_getElem h, List.any_append]
  simp

theorem any_ex (l : List Ent) (n : Int) : l.any (fun x => x.n == n) = true ↔ ∃ x ∈ l, x.n = n := by simp

set_option maxHeartbeats 8000000 in
set_option maxRecDepth 100000 in
theorem walk_TableSince (a : Option Addr) (cap : Nat) (l : List TStep) (key : Int) (w : World) (hl : l.length ≤ 9223372036854775807) (hA : TStepsAt w a l) (_ : (Lit.int .i64 key).wf = true) :
    Calls Try.prog 6 #[.slice a l.length cap, .int .i64 key] w (TruePost w) := by
  have HA := hid hA
  clear hA
  go_enter Try.func6, Try.ntmps6
  go_wp2_with fail
  (with_reducible refine (law_tableBegun w).mono ?_)
  rintro e w1 ⟨rfl, hb⟩
  have B1 := hid hb
  clear hb
  go_wp2_with fail
  (with_reducible refine (law_greatTable a cap l w1 hl (HA.out.below B1.out)).mono ?_)
  rintro e w2 ⟨rfl, hb⟩
  have B2 := hid (B1.out.trans (hb.mono B1.out.size))
  clear hb
  cases hg : greatT l with
  | true =>
    clear hg
    go_wp2
    go_ret
    exact ⟨rfl, B2.out⟩
  | false =>
  obtain ⟨h80, h50⟩ := greatT_false hg
  have H50 := hid h50
  clear hg h50
  by_cases h0 : key < 0 ∨ 8 ≤ key
  · have CK := hid (fun W => ref_IsKey_out key W h0)
    clear h0
    go_wp2_with fail
    refine (CK.out _).mono ?_
    rintro e W ⟨rfl, rfl⟩
    go_wp2
    go_ret
    exact ⟨rfl, B2.out⟩
  · obtain ⟨n, hn8, rfl⟩ := key_nat h0
    have CK := hid (fun W => ref_IsKey_in n W ⟨by omega, by omega⟩)
    clear h0
    go_wp2_with fail
    refine (CK.out _).mono ?_
    rintro e W ⟨rfl, rfl⟩
    go_wp2_with fail
    refine (table_New (fun _ => 0) 1 w2).mono ?_
    rintro e w3 ⟨t, g, rfl, hE, -, hT⟩
    have H3 : Hid (TA w2 g w3 t Tab.new) := hid ⟨(Base.start w2).step hE (by omega), hT⟩
    have LA := hid (HA.out.below B2.out)
    clear hE hT CK HA
    go_wp2_with fail
    go_loopw [6, 7, 8] (fun si ni i wr => ∃ (k : Nat) (g' : Nat → Nat) (T : Tab), k ≤ l.length ∧ i = .int .i64 k ∧ si = .int .i64 (sinceT T n) ∧ ni = .int .i64 T.last ∧ Hid (TA w2 g' wr t T)) (fun _ _ i _ => l.length - (intOf i).toNat)
    case atStart => exact ⟨0, g, Tab.new, Nat.zero_le _, rfl, by unfold sinceT; rw [if_neg (by omega)]; rfl, rfl, H3⟩
    case round =>
      obtain ⟨k, g', T, hk, rfl, rfl, rfl, H⟩ := hrel
      clear H3
      by_cases hlt : k < l.length
      · obtain ⟨b1, o1, rfl, hbb, v1⟩ := LA.out.facts (by omega)
        obtain ⟨p1, p2, p3, p4, -⟩ := v1 k hlt
        have hq50 := H50.out l[k] (List.getElem_mem _)
        have keep : ∀ w2', Below w2.heap.size w2 w2' → (w2'.cell? ⟨b1, o1 + k * 3, none⟩ = some (.int .i64 l[k].do_) ∧ w2'.cell? ⟨b1, o1 + k * 3 + 1, none⟩ = some (.int .i64 l[k].least) ∧ w2'.cell? ⟨b1, o1 + k * 3 + 2, none⟩ = some (.slice l[k].a l[k].w.length l[k].cap)) := by
          intro w2' hW
          exact ⟨(hW.cell (p := ⟨b1, _, none⟩) hbb).trans p1, (hW.cell (p := ⟨b1, _, none⟩) hbb).trans p2, (hW.cell (p := ⟨b1, _, none⟩) hbb).trans p3⟩
        have KS := hid keep
        have hki : (k : Int) < (l.length : Int) := by omega
        have hk0 : (0 : Int) ≤ (k : Int) := by omega
        obtain ⟨P1, P2, P3⟩ := keep _ H.out.base.below
        generalize l[k] = x at *
        have P4 := hid p4
        have hx6 : x.w.length ≤ 1000000 := by omega
        have hok := H.out.tab.1
        have h40 := hok.2
        have HOK := hid hok
        clear v1 p1 p2 p3 p4 keep LA hok
        by_cases hd : x.do_ = 0
        · rw [hd] at P1
          go_wp2_with fail
          (with_reducible refine (table_Write g' 1 t T x.a x.cap x.w wr hx6 P4.out.sz H.out.tab (H.out.slice P4.out.sl 1 (1 + 9) (by omega))).mono ?_)
          rintro e w9 ⟨rfl, g10, hT9, hE9⟩
          have H9 := hid (H.out.evo hE9 hT9)
          obtain ⟨R1, R2, R3⟩ := KS.out _ H9.out.base.below
          have bad := hid (write_bad (T := T) (w := x.w))
          have good := hid (write_good (T := T) (w := x.w))
          have sw := hid (fun h => since_write (w := x.w) HOK.out h hn8)
          clear hE9 hT9 P1 P2 P3 H
          by_cases hc : (writeT T x.w).1.2 = 0
          · obtain ⟨c1, c2, c3⟩ := good.out hc
            have hs := sw.out hc
            have e3 : (writeT T x.w).1 = ((T.last : Int) + 1, 0) := by rw [c3]
            have e4 : (writeT T x.w).2.last = T.last + 1 := by rw [c3]
            rw [e3]
            generalize (writeT T x.w).2 = T1 at *
            have E4 := hid e4
            have HS := hid hs
            have t1 : (T.last : Int) < 40 := by omega
            clear hc c1 c2 c3 e3 e4 hs bad good sw
            go_wp2_with fail
            go_loopw [6, 11] (fun si j wv => ∃ m : Nat, m ≤ x.w.length ∧ j = .int .i64 m ∧ si = .int .i64 (if (x.w.take m).any (fun y => y.n == (n : Int)) then (T.last : Int) + 1 else sinceT T n) ∧ Hid (TA w2 g10 wv t T1)) (fun _ j _ => x.w.length - (intOf j).toNat)
            case atStart => exact ⟨0, Nat.zero_le _, rfl, by simp, H9⟩
            case round =>
              clear H9 R1 R2 R3
              obtain ⟨m, hm, rfl, rfl, H9⟩ := hrel
              obtain ⟨R1, R2, R3⟩ := KS.out _ H9.out.base.below
              by_cases hlm : m < x.w.length
              · have hat := any_take x.w m hlm n
                obtain ⟨b2, o2, hxa, v2⟩ := (H9.out.slice P4.out.sl 1 2 (by omega)).at.ents (by omega)
                rw [hxa] at R3
                obtain ⟨y1, -, -⟩ := v2 m hlm
                have hmi : (m : Int) < (x.w.length : Int) := by omega
                have hm0 : (0 : Int) ≤ (m : Int) := by omega
                generalize x.w[m] = y at *
                clear v2
                by_cases hyn : y.n = (n : Int)
                · have hat2 : (x.w.take (m + 1)).any (fun y => y.n == (n : Int)) = true := by rw [hat]; simp [hyn]
                  rw [hyn] at y1
                  have HAT := hid hat2
                  clear hat hat2
                  go_wp2
                  go_roundw
                  case rel => exact ⟨m + 1, by omega, by go_num, by rw [HAT.out]; simp, H9⟩
                  case measure => simp [intOf]; omega
                · have hyn' : (y.n == (n : Int)) = false := by simpa using hyn
                  have hat2 : (x.w.take (m + 1)).any (fun y => y.n == (n : Int)) = (x.w.take m).any (fun y => y.n == (n : Int)) := by rw [hat, hyn']; simp
                  have HAT := hid hat2
                  clear hat hat2 hyn
                  go_wp2
                  go_roundw
                  case rel => exact ⟨m + 1, by omega, by go_num, by rw [HAT.out], H9⟩
                  case measure => simp [intOf]; omega
              · obtain rfl : m = x.w.length := by omega
                have hsi : (if (x.w.take x.w.length).any (fun y => y.n == (n : Int)) then (T.last : Int) + 1 else sinceT T n) = sinceT T1 n := by
                  rw [List.take_length, HS.out]
                  by_cases he : ∃ y ∈ x.w, y.n = (n : Int)
                  · rw [if_pos ((any_ex _ _).2 he), if_pos he]
                  · rw [if_neg (fun h => he ((any_ex _ _).1 h)), if_neg he]
                rw [hsi]
                have e5 : ((T1.last : Nat) : Int) = (T.last : Int) + 1 := by rw [E4.out]; omega
                have E5 := hid e5
                clear hsi e5
                go_wp2_with fail
                (with_reducible refine (table_Since g10 1 t T1 wr n H9.out.tab).mono ?_)
                rintro e w10 ⟨rfl, hb⟩
                have H10 := hid (H9.out.below hb)
                clear hb
                go_wp2_with fail
                (with_reducible refine (table_Last g10 1 t T1 w10 H10.out.tab).mono ?_)
                rintro e w10' ⟨rfl, rfl⟩
                rw [E5.out]
                go_wp2
                go_roundw
                case rel => exact ⟨k + 1, g10, T1, by omega, by go_num, rfl, by rw [E5.out], H10⟩
                case measure => simp [intOf]; omega
          · obtain ⟨e1, e2⟩ := bad.out hc
            have hc' : ((writeT T x.w).1.2 != 0) = true := by simpa using hc
            rw [e2]
            rw [e1] at H9
            clear hc good sw bad
            generalize (writeT T x.w).1.2 = code at *
            go_wp2_with fail
            (with_reducible refine (table_Since g10 1 t T w9 n H9.out.tab).mono ?_)
            rintro e w10 ⟨rfl, hb⟩
            have H10 := hid (H9.out.below hb)
            clear hb
            go_wp2_with fail
            (with_reducible refine (table_Last g10 1 t T w10 H10.out.tab).mono ?_)
            rintro e w10' ⟨rfl, rfl⟩
            go_wp2
            go_roundw
            case rel => exact ⟨k + 1, g10, T, by omega, by go_num, rfl, rfl, H10⟩
            case measure => simp [intOf]; omega
        · by_cases hd1 : x.do_ = 1
          · rw [hd1] at P1
            have sc := since_clear HOK.out n x.least
            have lc := clearT_last T x.least
            clear hd
            go_wp2_with fail
            (with_reducible refine (table_Clear g' 1 t T wr x.least H.out.tab).mono ?_)
            rintro e w9 ⟨rfl, g10, hT9, hE9⟩
            have H9 := hid (H.out.evo hE9 hT9)
            generalize (clearT T x.least).2 = T1 at *
            have SC := hid sc
            have LC := hid lc
            clear hE9 hT9 H sc lc
            go_wp2_with fail
            (with_reducible refine (table_Since g10 1 t T1 w9 n H9.out.tab).mono ?_)
            rintro e w10 ⟨rfl, hb⟩
            rw [SC.out]
            have H10 := hid (H9.out.below hb)
            clear hb
            go_wp2_with fail
            (with_reducible refine (table_Last g10 1 t T1 w10 H10.out.tab).mono ?_)
            rintro e w10' ⟨rfl, rfl⟩
            rw [LC.out]
            go_wp2
            go_roundw
            case rel => exact ⟨k + 1, g10, T1, by omega, by go_num, by rw [SC.out], by rw [LC.out], H10⟩
            case measure => simp [intOf]; omega
          · have hd0 : (x.do_ == 0) = false := by simpa using hd
            have hd2 : (x.do_ == 1) = false := by simpa using hd1
            clear hd hd1
            go_wp2_with fail
            (with_reducible refine (table_Since g' 1 t T wr n H.out.tab).mono ?_)
            rintro e w10 ⟨rfl, hb⟩
            have H10 := hid (H.out.below hb)
            clear hb
            go_wp2_with fail
            (with_reducible refine (table_Last g' 1 t T w10 H10.out.tab).mono ?_)
            rintro e w10' ⟨rfl, rfl⟩
            go_wp2
            go_roundw
            case rel => exact ⟨k + 1, g', T, by omega, by go_num, rfl, rfl, H10⟩
            case measure => simp [intOf]; omega
      · obtain rfl : k = l.length := by omega
        clear LA
        go_wp2
        go_ret
        exact ⟨rfl, B2.out.trans (H.out.base.below.mono B2.out.size)⟩

end Go.Proofs.Ytoiobhcgpajogab
