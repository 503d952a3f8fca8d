/- The walk of tables: a table and a sheet behind the same steps hold the same. -/
import Derived.Test.YtoiobhcgpajogabTStep
import Derived.Test.YtoiobhcgpajogabTab8
namespace Go.Proofs.Ytoiobhcgpajogab
open Go.RowKit

def stepT (T : Tab) (x : TStep) : Tab := if x.do_ = 0 then (writeT T x.w).2 else if x.do_ = 1 then (clearT T x.least).2 else T
def runT (l : List TStep) : Tab := l.foldl stepT Tab.new

theorem stepT_ok {T : Tab} (h : T.Ok) (x : TStep) : (stepT T x).Ok := by
  unfold stepT
  split
  · exact write_ok h _
  · split
    · exact clear_ok h _
    · exact h

theorem runT_snoc (l : List TStep) (k : Nat) (h : k < l.length) : runT (l.take (k + 1)) = stepT (runT (l.take k)) l[k] := by
  unfold runT
  rw [List.take_succ_eq_append_getElem h, List.foldl_append]; rfl

/-- A table of the colours 1 to 9; a sheet of the colours 10 and 11. -/
structure TS (w0 : World) (g : Nat → Nat) (w : World) (t s : Nat) (T S : Tab) : Prop where
  base : Base w0.heap.size w0 g w
  tab : TableAt w g 1 t T
  sh : SheetAt w g 10 s S

section
variable {w0 w w' : World} {g g' : Nat → Nat} {t s : Nat} {T S T' : Tab}
theorem TS.below (h : TS w0 g w t s T S) (k : Below w.heap.size w w') : TS w0 g w' t s T S := ⟨h.base.below' k, h.tab.below k, h.sh.below k⟩
theorem TS.fresh (h : TS w0 g w t s T S) (k : Evo 0 0 g g' w w') : TS w0 g' w' t s T S := ⟨h.base.step k (by omega), h.tab.frame k (by omega), h.sh.fresh k⟩
theorem TS.drew (h : TS w0 g w t s T S) : TS w0 g w.drew t s T S := h.below (Below.refl _ _).drew
theorem TS.evoT (h : TS w0 g w t s T S) (hE : Evo 1 (1 + 9) g g' w w') (hT : TableAt w' g' 1 t T') : TS w0 g' w' t s T' S := ⟨h.base.step hE (by omega), hT, h.sh.frame hE (by omega)⟩
theorem TS.evoS (h : TS w0 g w t s T S) (hE : Evo 10 (10 + 2) g g' w w') (hS : SheetAt w' g' 10 s T') : TS w0 g' w' t s T T' := ⟨h.base.step hE (by omega), h.tab.frame hE (by omega), hS⟩
theorem TS.slice (h : TS w0 g w t s T S) {a : Option Addr} {cells : List Value} (k : SliceAt w0 a cells) (lo hi : Nat) (hl : 1 ≤ lo) : SliceC w g lo hi a cells := SliceC.of_base k rfl h.base hl
end

def TablesPost (l : List TStep) (w : World) (e : Ending) (w' : World) : Prop :=
  ∃ g t s, e = .returned (.tuple #[.pointer (some ⟨t, 0, none⟩), .pointer (some ⟨s, 0, none⟩), .bool true]) ∧ TS w g w' t s (runT l) (runT l)

set_option maxHeartbeats 4000000 in
set_option maxRecDepth 100000 in
theorem law_tables (a : Option Addr) (cap : Nat) (l : List TStep) (w : World) (hn : l.length ≤ 80) (hw : ∀ x ∈ l, x.w.length ≤ 50) (hA : TStepsAt w a l) :
    Calls Try.prog 17 #[.slice a l.length cap] w (TablesPost l w) := by
  have HW := hid hw
  have HA := hid hA
  clear hw hA
  go_enter Try.func17, Try.ntmps17
  go_wp2_with fail
  refine (table_New (fun _ => 0) 1 w).mono ?_
  rintro e w1 ⟨t, g1, rfl, hE1, -, hT1⟩
  have B1 := hid ((Base.start w).step hE1 (by omega))
  have HT1 := hid hT1
  clear hE1 hT1
  go_wp2_with fail
  refine (sheet_New g1 10 w1).mono ?_
  rintro e w2 ⟨s, g2, rfl, hE2, -, hS2⟩
  have H0 : Hid (TS w g2 w2 t s Tab.new Tab.new) := hid ⟨B1.out.step hE2 (by omega), HT1.out.frame hE2 (by omega), hS2⟩
  clear hE2 hS2 B1 HT1
  go_wp2_with fail
  go_loopw [7, 8] (fun o i wr => o = .bool true ∧ ∃ (k : Nat) (g : Nat → Nat), k ≤ l.length ∧ i = .int .i64 k ∧ TS w g wr t s (runT (l.take k)) (runT (l.take k))) (fun _ i _ => l.length - (intOf i).toNat)
  case atStart => exact ⟨rfl, 0, _, Nat.zero_le _, rfl, H0.out⟩
  case round =>
    obtain ⟨rfl, k, g, hk, rfl, H⟩ := hrel
    clear H0
    by_cases hlt : k < l.length
    · obtain ⟨b, off, rfl, hb, hv⟩ := HA.out.facts (by omega)
      obtain ⟨g1, g2, g3, g4, g5⟩ := hv k hlt
      clear hv
      have keep : ∀ W', Below w.heap.size w W' → (Below w.heap.size w W' ∧ W'.cell? ⟨b, off + k * 3, none⟩ = some (.int .i64 l[k].do_) ∧ W'.cell? ⟨b, off + k * 3 + 1, none⟩ = some (.int .i64 l[k].least) ∧
          W'.cell? ⟨b, off + k * 3 + 2, none⟩ = some (.slice l[k].a l[k].w.length l[k].cap)) := by
        intro W' hW
        exact ⟨hW, (hW.cell (p := ⟨b, _, none⟩) hb).trans g1, (hW.cell (p := ⟨b, _, none⟩) hb).trans g2, (hW.cell (p := ⟨b, _, none⟩) hb).trans g3⟩
      obtain ⟨-, q1, q2, q3⟩ := keep wr H.base.below
      have HR := hid (runT_snoc l k hlt)
      have hw50 := HW.out l[k] (List.getElem_mem _)
      clear g1 g2 g3 HA HW
      have KS := hid keep
      have HH := hid H
      have G4 := hid g4
      clear keep H g4 g5
      have hki : (k : Int) < (l.length : Int) := by omega
      have hk0 : (0 : Int) ≤ (k : Int) := by omega
      generalize l[k] = x at *
      generalize runT (l.take k) = T at *
      have hw6 : x.w.length ≤ 1000000 := by omega
      clear hw50
      have HQ := hid q1
      by_cases hd : x.do_ = 0
      · rw [hd] at q1
        have hst := HR.out
        have HR2 := hid (show runT (l.take (k + 1)) = (writeT T x.w).2 by rw [hst]; simp [stepT, hd])
        clear hst hd
        generalize hy : writeT T x.w = y at *
        have HY := hid hy
        clear hy
        go_wp2_with fail
        (with_reducible refine (table_Write g 1 t T x.a x.cap x.w _ hw6 G4.out.sz HH.out.tab (HH.out.slice G4.out.sl 1 (1 + 9) (by omega))).mono ?_)
        rintro e w3 ⟨he, g3, hT3, hE3⟩
        rw [HY.out] at he hT3
        subst he
        have HH3 := hid (HH.out.evoT hE3 hT3)
        obtain ⟨-, r1, r2, r3⟩ := KS.out _ HH3.out.base.below
        clear hE3 hT3 q1 q2 q3
        go_wp2_with fail
        (with_reducible refine (sheet_Write g3 10 s T x.a x.cap x.w _ hw6 G4.out.sz HH3.out.sh (HH3.out.slice G4.out.sl 10 (10 + 2) (by omega))).mono ?_)
        rintro e w4 ⟨he, g4, hS4, hE4⟩
        rw [HY.out] at he hS4
        subst he
        have HH4 := hid (HH3.out.evoS hE4 hS4)
        clear hE4 hS4 r1 r2 r3
        go_wp2
        go_roundw
        case rel => exact ⟨by simp, k + 1, _, by omega, by go_num, by rw [HR2.out]; exact HH4.out⟩
        case measure => simp [intOf]; omega
      · by_cases hd1 : x.do_ = 1
        · rw [hd1] at q1
          have hst := HR.out
          have HR2 := hid (show runT (l.take (k + 1)) = (clearT T x.least).2 by rw [hst]; simp [stepT, hd1])
          clear hst hd
          have HD := hid hd1
          clear hd1
          go_wp2_with fail
          go_region_held3 (fun W' : World => Below w.heap.size w W' ∧ W'.cell? ⟨b, off + k * 3, none⟩ = some (.int .i64 x.do_) ∧ W'.cell? ⟨b, off + k * 3 + 1, none⟩ = some (.int .i64 x.least) ∧ W'.cell? ⟨b, off + k * 3 + 2, none⟩ = some (.slice x.a x.w.length x.cap))
            (first | assumption | exact KS.out _ HH.out.drew.base.below)
            (first
              | (go_at_call 22; refine (table_Clear _ _ _ _ _ x.least HH.out.drew.tab).mono ?_; rintro e w3 ⟨rfl, g3, hC, hE⟩; have HH3 := hid (HH.out.drew.evoT hE hC); have hS' := KS.out _ HH3.out.base.below; clear hC hE)
              | (go_at_call 55; refine (sheet_Clear _ _ _ _ _ x.least HH3.out.sh).mono ?_; rintro e w4 ⟨rfl, g4, hC, hE⟩; have HH4 := hid (HH3.out.evoS hE hC); have hS' := KS.out _ HH4.out.base.below; clear hC hE))
          go_wp2
          go_roundw
          case rel => exact ⟨by simp, k + 1, _, by omega, by go_num, by rw [HR2.out]; exact HH4.out⟩
          case measure => simp [intOf]; omega
        · have hst := HR.out
          have HR2 := hid (show runT (l.take (k + 1)) = T by rw [hst]; simp [stepT, hd, hd1])
          clear hst
          have e0 : (x.do_ == 0) = false := by simpa using hd
          have e1 : (x.do_ == 1) = false := by simpa using hd1
          clear hd hd1
          go_wp2
          go_roundw
          case rel => exact ⟨rfl, k + 1, _, by omega, by go_num, by rw [HR2.out]; exact HH.out⟩
          case measure => simp [intOf]; omega
    · obtain rfl : k = l.length := by omega
      rw [List.take_length] at H
      have HH := hid H
      clear H HA HW
      go_wp2
      go_ret3
      exact ⟨g, t, s, rfl, HH.out⟩

end Go.Proofs.Ytoiobhcgpajogab
