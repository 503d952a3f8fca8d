/- The walk of logs: a log and the document's behind the same steps hold the same. -/
import Derived.Test.YtoiobhcgpajogabTStep
import Derived.Test.YtoiobhcgpajogabLog1
import Derived.Test.YtoiobhcgpajogabRoll1
import Derived.Deep.RegionHeld3
namespace Go.Proofs.Ytoiobhcgpajogab
open Go.RowKit

def stepG (G : Lg) (x : TStep) : Lg := if x.do_ = 0 then (putG G x.w).2 else if x.do_ = 1 then mendG (tearG G x.w x.least).2 else G
def runG (l : List TStep) : Lg := l.foldl stepG Lg.new

theorem runG_snoc (l : List TStep) (k : Nat) (h : k < l.length) : runG (l.take (k + 1)) = stepG (runG (l.take k)) l[k] := by
  unfold runG
  rw [List.take_succ_eq_append_getElem h, List.foldl_append]; rfl

theorem stepG_ok {G : Lg} (h : G.Ok ∧ G.torn = []) (x : TStep) : (stepG G x).Ok ∧ (stepG G x).torn = [] := by
  unfold stepG
  split
  · exact putG_ok h.1 h.2 _
  · split
    · exact ⟨mendG_ok (tearG_ok h.1 h.2 _ _), rfl⟩
    · exact h

/-- A log of the colour 1; the document's of the colours 2 to 5. -/
structure GS (w0 : World) (g : Nat → Nat) (w : World) (b r : Nat) (G H : Lg) : Prop where
  base : Base w0.heap.size w0 g w
  log : LogAt w g 1 b G
  roll : RollAt w g 2 r H

section
variable {w0 w w' : World} {g g' : Nat → Nat} {b r : Nat} {G H G' : Lg}
theorem GS.below (h : GS w0 g w b r G H) (k : Below w.heap.size w w') : GS w0 g w' b r G H := ⟨h.base.below' k, h.log.below k, h.roll.below k⟩
theorem GS.fresh (h : GS w0 g w b r G H) (k : Evo 0 0 g g' w w') : GS w0 g' w' b r G H := ⟨h.base.step k (by omega), h.log.frame k (by omega), h.roll.fresh k⟩
theorem GS.drew (h : GS w0 g w b r G H) : GS w0 g w.drew b r G H := h.below (Below.refl _ _).drew
theorem GS.evoL (h : GS w0 g w b r G H) (hE : Evo 1 (1 + 1) g g' w w') (hL : LogAt w' g' 1 b G') : GS w0 g' w' b r G' H := ⟨h.base.step hE (by omega), hL, h.roll.frame hE (by omega)⟩
theorem GS.evoR (h : GS w0 g w b r G H) (hE : Evo 2 (2 + 4) g g' w w') (hR : RollAt w' g' 2 r G') : GS w0 g' w' b r G G' := ⟨h.base.step hE (by omega), h.log.frame hE (by omega), hR⟩
theorem GS.sl (h : GS w0 g w b r G H) {a : Option Addr} {cells : List Value} (k : SliceAt w0 a cells) : SliceAt w a cells := (SliceC.of_base k rfl h.base (Nat.le_refl 1) : SliceC w g 1 2 a cells).at
theorem GS.sl4 (h : GS w0 g w b r G H) {a : Option Addr} {cells : List Value} (k : SliceAt w0 a cells) : ∀ w' g', Evo 2 (2 + 4) g g' w w' → SliceAt w' a cells := fun _ _ hE => ((SliceC.of_base k rfl h.base (by omega) : SliceC w g 2 (2 + 4) a cells).frame hE).at
end

def LogsPost (l : List TStep) (w : World) (e : Ending) (w' : World) : Prop :=
  ∃ g b r, e = .returned (.tuple #[.pointer (some ⟨b, 0, none⟩), .pointer (some ⟨r, 0, none⟩), .bool true]) ∧ GS w g w' b r (runG l) (runG l) ∧ (runG l).Ok ∧ (runG l).torn = []

set_option maxHeartbeats 8000000 in
set_option maxRecDepth 100000 in
theorem law_logs (a : Option Addr) (cap : Nat) (l : List TStep) (w : World) (hn : l.length ≤ 80) (hw : ∀ x ∈ l, x.w.length ≤ 50) (hA : TStepsAt w a l) :
    Calls Try.prog 29 #[.slice a l.length cap] w (LogsPost l w) := by
  have HW := hid hw
  have HA := hid hA
  clear hw hA
  go_enter Try.func29, Try.ntmps29
  go_wp2_with fail
  refine (log_New (fun _ => 0) 1 w).mono ?_
  rintro e w1 ⟨b, rfl, hb1, -, hL1⟩
  have B1 := hid ((Base.start w).step (Evo.of_below (lo := 0) (hi := 0) (fun _ => 0) 1 hb1) (by omega))
  have L1 := hid hL1
  clear hb1 hL1
  go_wp2_with fail
  have H0 : Hid (GS w (extc (extc (fun _ => 0) w 1) w1 2) (w1.alloc (.cells #[.slice none 0 0, .slice none 0 0] 84)) b w1.heap.size Lg.new Lg.new) := hid
    ⟨B1.out.alloc 2 _, L1.out.frame (Evo.alloc _ 2 w1 _) (by omega), .slice none 0 0, [], none, 0, LocC.new _ 2 w1 84 [.slice none 0 0, .slice none 0 0], World.ownsRow_nil _ _ _ _, nofun, trivial, RowB.nil _ _ _⟩
  generalize extc (extc (fun _ => 0) w 1) w1 2 = g0 at *
  generalize w1.alloc (.cells #[.slice none 0 0, .slice none 0 0] 84) = wz at *
  generalize w1.heap.size = r at *
  clear L1 B1
  go_wp2_with fail
  go_loopw [7, 8] (fun o i wr => o = .bool true ∧ ∃ (k : Nat) (g : Nat → Nat), k ≤ l.length ∧ i = .int .i64 k ∧ Hid (GS w g wr b r (runG (l.take k)) (runG (l.take k))) ∧ Hid ((runG (l.take k)).Ok ∧ (runG (l.take k)).torn = [])) (fun _ i _ => l.length - (intOf i).toNat)
  case atStart => exact ⟨rfl, 0, _, Nat.zero_le _, rfl, H0, hid ⟨Lg.new_ok, rfl⟩⟩
  case round =>
    obtain ⟨rfl, k, g, hk, rfl, HH, HO⟩ := hrel
    clear H0
    by_cases hlt : k < l.length
    · obtain ⟨b1, o1, rfl, hbb, hv⟩ := HA.out.facts (by omega)
      obtain ⟨g1, g2, g3, g4, -⟩ := hv k hlt
      have keep : ∀ W', Below w.heap.size w W' → (Below w.heap.size w W' ∧ W'.cell? ⟨b1, o1 + k * 3, none⟩ = some (.int .i64 l[k].do_) ∧ W'.cell? ⟨b1, o1 + k * 3 + 1, none⟩ = some (.int .i64 l[k].least) ∧
          W'.cell? ⟨b1, o1 + k * 3 + 2, none⟩ = some (.slice l[k].a l[k].w.length l[k].cap)) := by
        intro W' hW
        exact ⟨hW, (hW.cell (p := ⟨b1, _, none⟩) hbb).trans g1, (hW.cell (p := ⟨b1, _, none⟩) hbb).trans g2, (hW.cell (p := ⟨b1, _, none⟩) hbb).trans g3⟩
      obtain ⟨-, q1, q2, q3⟩ := keep wr HH.out.base.below
      have HR := hid (runG_snoc l k hlt)
      have hw50 := HW.out l[k] (List.getElem_mem _)
      clear hv g1 g2 g3 HA HW
      have KS := hid keep
      have G4 := hid g4
      clear keep g4
      have hki : (k : Int) < (l.length : Int) := by omega
      have hk0 : (0 : Int) ≤ (k : Int) := by omega
      generalize l[k] = x at *
      generalize runG (l.take k) = G at *
      have hok2 := hid (stepG_ok HO.out x)
      have hw6 : x.w.length ≤ 1000000 := by omega
      clear hw50
      have HQ := hid q1
      by_cases hd : x.do_ = 0
      · rw [hd] at q1
        have hst := HR.out
        have hsg : stepG G x = (putG G x.w).2 := by simp [stepG, hd]
        rw [hsg] at hst hok2
        have HR2 := hid hst
        clear hst hd hsg
        go_wp2_with fail
        go_region_held3 (fun W' : World => Below w.heap.size w W' ∧ W'.cell? ⟨b1, o1 + k * 3, none⟩ = some (.int .i64 x.do_) ∧ W'.cell? ⟨b1, o1 + k * 3 + 1, none⟩ = some (.int .i64 x.least) ∧ W'.cell? ⟨b1, o1 + k * 3 + 2, none⟩ = some (.slice x.a x.w.length x.cap))
          (first | assumption | exact KS.out _ HH.out.drew.base.below)
          (first
            | (go_at_call 33; refine (log_Put g 1 b G x.a x.cap x.w _ hw6 G4.out.sz HO.out.1 HO.out.2 HH.out.drew.log (HH.out.drew.sl G4.out.sl)).mono ?_; rintro e w3 ⟨rfl, g3, hC, hE⟩; have HH3 := hid (HH.out.drew.evoL hE hC); have hS' := KS.out _ HH3.out.base.below; clear hC hE)
            | (go_at_call 63; refine (roll_Put g3 2 r G x.a x.cap x.w _ hw6 G4.out.sz HO.out.1 HH3.out.roll (HH3.out.sl G4.out.sl)).mono ?_; rintro e w4 ⟨rfl, g4, hC, hE⟩; have HH4 := hid (HH3.out.evoR hE hC); have hS' := KS.out _ HH4.out.base.below; clear hC hE))
        go_wp2
        go_roundw
        case rel => exact ⟨by simp, k + 1, _, by omega, by go_num, by rw [HR2.out]; exact HH4, by rw [HR2.out]; exact hok2⟩
        case measure => simp [intOf]; omega
      · by_cases hd1 : x.do_ = 1
        · rw [hd1] at q1
          have hst := HR.out
          have hsg : stepG G x = mendG (tearG G x.w x.least).2 := by simp [stepG, hd1]
          rw [hsg] at hst hok2
          have HR2 := hid hst
          have hT := tearG_ok HO.out.1 HO.out.2 x.w x.least
          have HT := hid hT
          have hl3 := hT.2.2.1
          have hl4 := hT.2.1
          clear hst hd hsg hd1 hT
          go_wp2_with fail
          -- REGION
          refine wp_region_noPanic ?_
          refine wp_region_held_drew (S := (fun W' : World => Below w.heap.size w W' ∧ W'.cell? ⟨b1, o1 + k * 3, none⟩ = some (.int .i64 x.do_) ∧ W'.cell? ⟨b1, o1 + k * 3 + 1, none⟩ = some (.int .i64 x.least) ∧ W'.cell? ⟨b1, o1 + k * 3 + 2, none⟩ = some (.slice x.a x.w.length x.cap))) (by kernel_rfl) ?_ (fun hH0 => ?_)
          · (try dsimp only); (first | assumption | exact KS.out _ HH.out.drew.base.below)
          refine wpAnyH_take (i := 0) (v := ?_) (by simp only [List.getElem?_toArray, List.getElem?_cons_zero]; rfl) (by kernel_rfl) (by kernel_rfl) (by kernel_rfl) (fun _ _ _ h => h) (Or.inl ⟨by rfl, ?_⟩) (by assumption) ?_
          rotate_left
          · intro w hSw; (try dsimp only at hSw); go_simp; (try with_reducible rfl)
          try simp only [Act.put, List.setIfInBounds_toArray, List.set_cons_zero, List.set_cons_succ]
          refine wpAnyH_take (i := 1) (v := ?_) (by simp only [List.getElem?_toArray, List.getElem?_cons_zero, List.getElem?_cons_succ]; rfl) (by kernel_rfl) (by kernel_rfl) (by kernel_rfl) (fun _ _ _ h => h) (Or.inl ⟨by rfl, ?_⟩) (by assumption) ?_
          rotate_left
          · intro w hSw; (try dsimp only at hSw); go_simp; (try with_reducible rfl)
          try simp only [Act.put, List.setIfInBounds_toArray, List.set_cons_zero, List.set_cons_succ]
          refine wpAnyH_take (i := 2) (v := ?_) (by simp only [List.getElem?_toArray, List.getElem?_cons_zero, List.getElem?_cons_succ]; rfl) (by kernel_rfl) (by kernel_rfl) (by kernel_rfl) (fun _ _ _ h => h) (Or.inl ⟨by rfl, ?_⟩) (by assumption) ?_
          rotate_left
          · intro w hSw; (try dsimp only at hSw); go_simp; (try with_reducible rfl)
          try simp only [Act.put, List.setIfInBounds_toArray, List.set_cons_zero, List.set_cons_succ]
          refine wpAnyH_take (i := 3) (v := ?_) (by simp only [List.getElem?_toArray, List.getElem?_cons_zero, List.getElem?_cons_succ]; rfl) (by kernel_rfl) (by kernel_rfl) (by kernel_rfl) (fun _ _ _ h => h) (Or.inl ⟨by rfl, ?_⟩) (by assumption) ?_
          rotate_left
          · intro w hSw; (try dsimp only at hSw); go_simp; (try with_reducible rfl)
          try simp only [Act.put, List.setIfInBounds_toArray, List.set_cons_zero, List.set_cons_succ]
          refine wpAnyH_take (i := 4) (v := ?_) (by simp only [List.getElem?_toArray, List.getElem?_cons_zero, List.getElem?_cons_succ]; rfl) (by kernel_rfl) (by kernel_rfl) (by kernel_rfl) (fun _ _ _ h => h) (Or.inl ⟨by rfl, ?_⟩) (by assumption) ?_
          rotate_left
          · intro w hSw; (try dsimp only at hSw); go_simp; (try with_reducible rfl)
          try simp only [Act.put, List.setIfInBounds_toArray, List.set_cons_zero, List.set_cons_succ]
          refine wpAnyH_take (i := 5) (v := ?_) (by simp only [List.getElem?_toArray, List.getElem?_cons_zero, List.getElem?_cons_succ]; rfl) (by kernel_rfl) (by kernel_rfl) (by kernel_rfl) (fun _ _ _ h => h) (Or.inl ⟨by rfl, ?_⟩) (by assumption) ?_
          rotate_left
          · intro w hSw; (try dsimp only at hSw); go_simp; (try with_reducible rfl)
          try simp only [Act.put, List.setIfInBounds_toArray, List.set_cons_zero, List.set_cons_succ]
          refine wpAnyH_take (i := 6) (v := ?_) (by simp only [List.getElem?_toArray, List.getElem?_cons_zero, List.getElem?_cons_succ]; rfl) (by kernel_rfl) (by kernel_rfl) (by kernel_rfl) (fun _ _ _ h => h) (Or.inl ⟨by rfl, ?_⟩) (by assumption) ?_
          rotate_left
          · intro w hSw; (try dsimp only at hSw); go_simp; (try with_reducible rfl)
          try simp only [Act.put, List.setIfInBounds_toArray, List.set_cons_zero, List.set_cons_succ]
          refine wpAnyH_take (i := 7) (v := ?_) (by simp only [List.getElem?_toArray, List.getElem?_cons_zero, List.getElem?_cons_succ]; rfl) (by kernel_rfl) (by kernel_rfl) (by kernel_rfl) (fun _ _ _ h => h) (Or.inl ⟨by rfl, ?_⟩) (by assumption) ?_
          rotate_left
          · intro w hSw; (try dsimp only at hSw); go_simp; (try with_reducible rfl)
          try simp only [Act.put, List.setIfInBounds_toArray, List.set_cons_zero, List.set_cons_succ]
          refine wpAnyH_take (i := 8) (v := ?_) (by simp only [List.getElem?_toArray, List.getElem?_cons_zero, List.getElem?_cons_succ]; rfl) (by kernel_rfl) (by kernel_rfl) (by kernel_rfl) (fun _ _ _ h => h) (Or.inl ⟨by rfl, ?_⟩) (by assumption) ?_
          rotate_left
          · intro w hSw; (try dsimp only at hSw); go_simp; (try with_reducible rfl)
          try simp only [Act.put, List.setIfInBounds_toArray, List.set_cons_zero, List.set_cons_succ]
          refine wpAnyH_take (i := 9) (v := ?_) (by simp only [List.getElem?_toArray, List.getElem?_cons_zero, List.getElem?_cons_succ]; rfl) (by kernel_rfl) (by kernel_rfl) (by kernel_rfl) (fun _ _ _ h => h) (Or.inl ⟨by rfl, ?_⟩) (by assumption) ?_
          rotate_left
          · intro w hSw; (try dsimp only at hSw); go_simp; (try with_reducible rfl)
          try simp only [Act.put, List.setIfInBounds_toArray, List.set_cons_zero, List.set_cons_succ]
          refine wpAnyH_take (i := 10) (v := ?_) (by simp only [List.getElem?_toArray, List.getElem?_cons_zero, List.getElem?_cons_succ]; rfl) (by kernel_rfl) (by kernel_rfl) (by kernel_rfl) (fun _ _ _ h => h) (Or.inl ⟨by rfl, ?_⟩) (by assumption) ?_
          rotate_left
          · intro w hSw; (try dsimp only at hSw); go_simp; (try with_reducible rfl)
          try simp only [Act.put, List.setIfInBounds_toArray, List.set_cons_zero, List.set_cons_succ]
          refine wpAnyH_take (i := 12) (v := ?_) (by simp only [List.getElem?_toArray, List.getElem?_cons_zero, List.getElem?_cons_succ]; rfl) (by kernel_rfl) (by kernel_rfl) (by kernel_rfl) (fun _ _ _ h => h) (Or.inl ⟨by rfl, ?_⟩) (by assumption) ?_
          rotate_left
          · intro w hSw; (try dsimp only at hSw); go_simp; (try with_reducible rfl)
          try simp only [Act.put, List.setIfInBounds_toArray, List.set_cons_zero, List.set_cons_succ]
          refine wpAnyH_take (i := 13) (v := ?_) (by simp only [List.getElem?_toArray, List.getElem?_cons_zero, List.getElem?_cons_succ]; rfl) (by kernel_rfl) (by kernel_rfl) (by kernel_rfl) (fun _ _ _ h => h) (Or.inl ⟨by rfl, ?_⟩) (by assumption) ?_
          rotate_left
          · intro w hSw; (try dsimp only at hSw); go_simp; (try with_reducible rfl)
          try simp only [Act.put, List.setIfInBounds_toArray, List.set_cons_zero, List.set_cons_succ]
          refine wpAnyH_take (i := 14) (v := ?_) (by simp only [List.getElem?_toArray, List.getElem?_cons_zero, List.getElem?_cons_succ]; rfl) (by kernel_rfl) (by kernel_rfl) (by kernel_rfl) (fun _ _ _ h => h) (Or.inl ⟨by rfl, ?_⟩) (by assumption) ?_
          rotate_left
          · intro w hSw; (try dsimp only at hSw); go_simp; (try with_reducible rfl)
          try simp only [Act.put, List.setIfInBounds_toArray, List.set_cons_zero, List.set_cons_succ]
          refine wpAnyH_take (i := 15) (v := ?_) (by simp only [List.getElem?_toArray, List.getElem?_cons_zero, List.getElem?_cons_succ]; rfl) (by kernel_rfl) (by kernel_rfl) (by kernel_rfl) (fun _ _ _ h => h) (Or.inl ⟨by rfl, ?_⟩) (by assumption) ?_
          rotate_left
          · intro w hSw; (try dsimp only at hSw); go_simp; (try with_reducible rfl)
          try simp only [Act.put, List.setIfInBounds_toArray, List.set_cons_zero, List.set_cons_succ]
          refine wpAnyH_take (i := 16) (v := ?_) (by simp only [List.getElem?_toArray, List.getElem?_cons_zero, List.getElem?_cons_succ]; rfl) (by kernel_rfl) (by kernel_rfl) (by kernel_rfl) (fun _ _ _ h => h) (Or.inl ⟨by rfl, ?_⟩) (by assumption) ?_
          rotate_left
          · intro w hSw; (try dsimp only at hSw); go_simp; (try with_reducible rfl)
          try simp only [Act.put, List.setIfInBounds_toArray, List.set_cons_zero, List.set_cons_succ]
          refine wpAnyH_take (i := 17) (v := ?_) (by simp only [List.getElem?_toArray, List.getElem?_cons_zero, List.getElem?_cons_succ]; rfl) (by kernel_rfl) (by kernel_rfl) (by kernel_rfl) (fun _ _ _ h => h) (Or.inl ⟨by rfl, ?_⟩) (by assumption) ?_
          rotate_left
          · intro w hSw; (try dsimp only at hSw); go_simp; (try with_reducible rfl)
          try simp only [Act.put, List.setIfInBounds_toArray, List.set_cons_zero, List.set_cons_succ]
          refine wpAnyH_take (i := 18) (v := ?_) (by simp only [List.getElem?_toArray, List.getElem?_cons_zero, List.getElem?_cons_succ]; rfl) (by kernel_rfl) (by kernel_rfl) (by kernel_rfl) (fun _ _ _ h => h) (Or.inl ⟨by rfl, ?_⟩) (by assumption) ?_
          rotate_left
          · intro w hSw; (try dsimp only at hSw); go_simp; (try with_reducible rfl)
          try simp only [Act.put, List.setIfInBounds_toArray, List.set_cons_zero, List.set_cons_succ]
          refine wpAnyH_take (i := 19) (v := ?_) (by simp only [List.getElem?_toArray, List.getElem?_cons_zero, List.getElem?_cons_succ]; rfl) (by kernel_rfl) (by kernel_rfl) (by kernel_rfl) (fun _ _ _ h => h) (Or.inl ⟨by rfl, ?_⟩) (by assumption) ?_
          rotate_left
          · intro w hSw; (try dsimp only at hSw); go_simp; (try with_reducible rfl)
          try simp only [Act.put, List.setIfInBounds_toArray, List.set_cons_zero, List.set_cons_succ]
          refine wpAnyH_take (i := 20) (v := ?_) (by simp only [List.getElem?_toArray, List.getElem?_cons_zero, List.getElem?_cons_succ]; rfl) (by kernel_rfl) (by kernel_rfl) (by kernel_rfl) (fun _ _ _ h => h) (Or.inl ⟨by rfl, ?_⟩) (by assumption) ?_
          rotate_left
          · intro w hSw; (try dsimp only at hSw); go_simp; (try with_reducible rfl)
          try simp only [Act.put, List.setIfInBounds_toArray, List.set_cons_zero, List.set_cons_succ]
          refine wpAnyH_take (i := 21) (v := ?_) (by simp only [List.getElem?_toArray, List.getElem?_cons_zero, List.getElem?_cons_succ]; rfl) (by kernel_rfl) (by kernel_rfl) (by kernel_rfl) (fun _ _ _ h => h) (Or.inl ⟨by rfl, ?_⟩) (by assumption) ?_
          rotate_left
          · intro w hSw; (try dsimp only at hSw); go_simp; (try with_reducible rfl)
          try simp only [Act.put, List.setIfInBounds_toArray, List.set_cons_zero, List.set_cons_succ]
          refine wpAnyH_take (i := 22) (v := ?_) (by simp only [List.getElem?_toArray, List.getElem?_cons_zero, List.getElem?_cons_succ]; rfl) (by kernel_rfl) (by kernel_rfl) (by kernel_rfl) (fun _ _ _ h => h) (Or.inl ⟨by rfl, ?_⟩) (by assumption) ?_
          rotate_left
          · intro w hSw; (try dsimp only at hSw); go_simp; (try with_reducible rfl)
          try simp only [Act.put, List.setIfInBounds_toArray, List.set_cons_zero, List.set_cons_succ]
          refine wpAnyH_ready (rs := [11]) (by kernel_rfl) (by simp) ?_
          refine AllReadyH.cons (by simp only [List.getElem?_toArray, List.getElem?_cons_zero, List.getElem?_cons_succ]; rfl) (fun K hK => ?_) AllReadyH.nil
          go_simp
          go_at_call 32
          refine (log_Tear g 1 b G x.a x.cap x.w x.least _ hw6 G4.out.sz HO.out.1 HO.out.2 HH.out.drew.log (HH.out.drew.sl G4.out.sl)).mono ?_
          rintro e w3 ⟨rfl, g3, hC, hE⟩
          have HH3 := hid (HH.out.drew.evoL hE hC)
          have hS' := KS.out _ HH3.out.base.below
          clear hC hE
          try go_wp2_with fail
          refine hK.out _ _ ?_ (fun hH1 => ?_)
          · (try dsimp only); (first | assumption | exact KS.out _ HH.out.drew.base.below)
          clear hK K hH0
          try simp only [Act.put, List.setIfInBounds_toArray, List.set_cons_zero, List.set_cons_succ]
          refine wpAnyH_ready (rs := [23]) (by kernel_rfl) (by simp) ?_
          refine AllReadyH.cons (by simp only [List.getElem?_toArray, List.getElem?_cons_zero, List.getElem?_cons_succ]; rfl) (fun K hK => ?_) AllReadyH.nil
          go_simp
          go_at_call 64
          refine (roll_Tear g3 2 r G x.a x.cap x.w x.least _ hw6 G4.out.sz HO.out.1 HH3.out.roll (HH3.out.sl G4.out.sl) (HH3.out.sl4 G4.out.sl)).mono ?_
          rintro e w4 ⟨rfl, g4, hC, hE⟩
          have HH4 := hid (HH3.out.evoR hE hC)
          have hS' := KS.out _ HH4.out.base.below
          obtain ⟨vl4, -, -, la4, lc4, -, hvl4, f40, -, -, -, -⟩ := HH4.out.roll.facts
          subst hvl4
          clear hC hE
          try go_wp2_with fail
          refine hK.out _ _ ?_ (fun hH2 => ?_)
          · (try dsimp only); (first | assumption | exact KS.out _ HH.out.drew.base.below)
          clear hK K hH1
          try simp only [Act.put, List.setIfInBounds_toArray, List.set_cons_zero, List.set_cons_succ]
          refine wpAnyH_take (i := 24) (v := ?_) (by simp only [List.getElem?_toArray, List.getElem?_cons_zero, List.getElem?_cons_succ]; rfl) (by kernel_rfl) (by kernel_rfl) (by kernel_rfl) (fun _ _ _ h => h) (Or.inl ⟨by rfl, ?_⟩) (by assumption) ?_
          rotate_left
          · intro w hSw; (try dsimp only at hSw); go_simp; (try with_reducible rfl)
          try simp only [Act.put, List.setIfInBounds_toArray, List.set_cons_zero, List.set_cons_succ]
          refine wpAnyH_take (i := 25) (v := ?_) (by simp only [List.getElem?_toArray, List.getElem?_cons_zero, List.getElem?_cons_succ]; rfl) (by kernel_rfl) (by kernel_rfl) (by kernel_rfl) (fun _ _ _ h => h) (Or.inl ⟨by rfl, ?_⟩) (by assumption) ?_
          rotate_left
          · intro w hSw; (try dsimp only at hSw); go_simp; (try with_reducible rfl)
          try simp only [Act.put, List.setIfInBounds_toArray, List.set_cons_zero, List.set_cons_succ]
          refine wpAnyH_take (i := 26) (v := ?_) (by simp only [List.getElem?_toArray, List.getElem?_cons_zero, List.getElem?_cons_succ]; rfl) (by kernel_rfl) (by kernel_rfl) (by kernel_rfl) (fun _ _ _ h => h) (Or.inl ⟨by rfl, ?_⟩) (by assumption) ?_
          rotate_left
          · intro w hSw; (try dsimp only at hSw); go_simp; (try with_reducible rfl)
          try simp only [Act.put, List.setIfInBounds_toArray, List.set_cons_zero, List.set_cons_succ]
          refine wpAnyH_take (i := 28) (v := ?_) (by simp only [List.getElem?_toArray, List.getElem?_cons_zero, List.getElem?_cons_succ]; rfl) (by kernel_rfl) (by kernel_rfl) (by kernel_rfl) (fun _ _ _ h => h) (Or.inl ⟨by rfl, ?_⟩) (by assumption) ?_
          rotate_left
          · intro w hSw; (try dsimp only at hSw); go_simp; (try with_reducible rfl)
          try simp only [Act.put, List.setIfInBounds_toArray, List.set_cons_zero, List.set_cons_succ]
          refine wpAnyH_take (i := 29) (v := ?_) (by simp only [List.getElem?_toArray, List.getElem?_cons_zero, List.getElem?_cons_succ]; rfl) (by kernel_rfl) (by kernel_rfl) (by kernel_rfl) (fun _ _ _ h => h) (Or.inl ⟨by rfl, ?_⟩) (by assumption) ?_
          rotate_left
          · intro w hSw; (try dsimp only at hSw); go_simp; (try with_reducible rfl)
          try simp only [Act.put, List.setIfInBounds_toArray, List.set_cons_zero, List.set_cons_succ]
          refine wpAnyH_take (i := 30) (v := ?_) (by simp only [List.getElem?_toArray, List.getElem?_cons_zero, List.getElem?_cons_succ]; rfl) (by kernel_rfl) (by kernel_rfl) (by kernel_rfl) (fun _ _ _ h => h) (Or.inl ⟨by rfl, ?_⟩) (by assumption) ?_
          rotate_left
          · intro w hSw; (try dsimp only at hSw); go_simp; (try with_reducible rfl)
          try simp only [Act.put, List.setIfInBounds_toArray, List.set_cons_zero, List.set_cons_succ]
          refine wpAnyH_ready (rs := [27, 31]) (by kernel_rfl) (by simp) ?_
          refine AllReadyH.cons (by simp only [List.getElem?_toArray, List.getElem?_cons_zero, List.getElem?_cons_succ]; rfl) (fun K hK => ?_) ?_
          · skip
            go_simp
            go_at_call 31
            refine (log_Len g4 1 b _ w4 HH4.out.log).mono ?_
            rintro e w' ⟨rfl, rfl⟩
            try go_wp2_with fail
            refine hK.out _ _ ?_ (fun hH3 => ?_)
            · (try dsimp only); (first | assumption | exact KS.out _ HH.out.drew.base.below)
            clear hK K hH2
            try simp only [Act.put, List.setIfInBounds_toArray, List.set_cons_zero, List.set_cons_succ]
            refine wpAnyH_ready (rs := [31]) (by kernel_rfl) (by simp) ?_
            refine AllReadyH.cons (by simp only [List.getElem?_toArray, List.getElem?_cons_zero, List.getElem?_cons_succ]; rfl) (fun K hK => ?_) AllReadyH.nil
            go_simp
            refine hK.out _ _ ?_ (fun hH4 => ?_)
            · (try dsimp only); (first | assumption | exact KS.out _ HH.out.drew.base.below)
            clear hK K hH3
            try simp only [Act.put, List.setIfInBounds_toArray, List.set_cons_zero, List.set_cons_succ]
            refine wpAnyH_take (i := 32) (v := ?_) (by simp only [List.getElem?_toArray, List.getElem?_cons_zero, List.getElem?_cons_succ]; rfl) (by kernel_rfl) (by kernel_rfl) (by kernel_rfl) (fun _ _ _ h => h) (Or.inl ⟨by rfl, ?_⟩) (by assumption) ?_
            rotate_left
            · intro w hSw; (try dsimp only at hSw); go_simp; (try with_reducible rfl)
            try simp only [Act.put, List.setIfInBounds_toArray, List.set_cons_zero, List.set_cons_succ]
            refine wpAnyH_take (i := 33) (v := ?_) (by simp only [List.getElem?_toArray, List.getElem?_cons_zero, List.getElem?_cons_succ]; rfl) (by kernel_rfl) (by kernel_rfl) (by kernel_rfl) (fun _ _ _ h => h) (Or.inl ⟨by rfl, ?_⟩) (by assumption) ?_
            rotate_left
            · intro w hSw; (try dsimp only at hSw); go_simp; (try with_reducible rfl)
            try simp only [Act.put, List.setIfInBounds_toArray, List.set_cons_zero, List.set_cons_succ]
            refine wpAnyH_take (i := 34) (v := ?_) (by simp only [List.getElem?_toArray, List.getElem?_cons_zero, List.getElem?_cons_succ]; rfl) (by kernel_rfl) (by kernel_rfl) (by kernel_rfl) (fun _ _ _ h => h) (Or.inl ⟨by rfl, ?_⟩) (by assumption) ?_
            rotate_left
            · intro w hSw; (try dsimp only at hSw); go_simp; (try with_reducible rfl)
            try simp only [Act.put, List.setIfInBounds_toArray, List.set_cons_zero, List.set_cons_succ]
            refine wpAnyH_take (i := 35) (v := ?_) (by simp only [List.getElem?_toArray, List.getElem?_cons_zero, List.getElem?_cons_succ]; rfl) (by kernel_rfl) (by kernel_rfl) (by kernel_rfl) (fun _ _ _ h => h) (Or.inl ⟨by rfl, ?_⟩) (by assumption) ?_
            rotate_left
            · intro w hSw; (try dsimp only at hSw); go_simp; (try with_reducible rfl)
            try simp only [Act.put, List.setIfInBounds_toArray, List.set_cons_zero, List.set_cons_succ]
            refine wpAnyH_take (i := 36) (v := ?_) (by simp only [List.getElem?_toArray, List.getElem?_cons_zero, List.getElem?_cons_succ]; rfl) (by kernel_rfl) (by kernel_rfl) (by kernel_rfl) (fun _ _ _ h => h) (Or.inl ⟨by rfl, ?_⟩) (by assumption) ?_
            rotate_left
            · intro w hSw; (try dsimp only at hSw); go_simp; (try with_reducible rfl)
            try simp only [Act.put, List.setIfInBounds_toArray, List.set_cons_zero, List.set_cons_succ]
            refine wpAnyH_take (i := 39) (v := ?_) (by simp only [List.getElem?_toArray, List.getElem?_cons_zero, List.getElem?_cons_succ]; rfl) (by kernel_rfl) (by kernel_rfl) (by kernel_rfl) (fun _ _ _ h => h) (Or.inl ⟨by rfl, ?_⟩) (by assumption) ?_
            rotate_left
            · intro w hSw; (try dsimp only at hSw); go_simp; (try with_reducible rfl)
            try simp only [Act.put, List.setIfInBounds_toArray, List.set_cons_zero, List.set_cons_succ]
            refine wpAnyH_ready (rs := [37]) (by kernel_rfl) (by simp) ?_
            refine AllReadyH.cons (by simp only [List.getElem?_toArray, List.getElem?_cons_zero, List.getElem?_cons_succ]; rfl) (fun K hK => ?_) AllReadyH.nil
            go_simp
            go_at_call 30
            refine (log_Bytes g4 1 b _ w4 HH4.out.log (by omega)).mono ?_
            rintro e w5 ⟨a5, c5, rfl, hx5, hb5, -⟩
            have HB5 := hid hb5
            have HX5 := hid hx5
            have hc5 := conv_sliceAt w5 a5 c5 _ hx5.2
            have hS' := KS.out _ (HH4.out.base.below.trans (hb5.mono HH4.out.base.size))
            clear hx5 hb5
            try go_wp2_with fail
            refine hK.out _ _ ?_ (fun hH5 => ?_)
            · (try dsimp only); (first | assumption | exact KS.out _ HH.out.drew.base.below)
            clear hK K hH4
            try simp only [Act.put, List.setIfInBounds_toArray, List.set_cons_zero, List.set_cons_succ]
            refine wpAnyH_ready (rs := [38, 40]) (by kernel_rfl) (by simp) ?_
            refine AllReadyH.cons (by simp only [List.getElem?_toArray, List.getElem?_cons_zero, List.getElem?_cons_succ]; rfl) (fun K hK => ?_) ?_
            · skip
              go_simp
              refine hK.out _ _ ?_ (fun hH6 => ?_)
              · (try dsimp only); (first | assumption | exact KS.out _ HH.out.drew.base.below)
              clear hK K hH5
              try simp only [Act.put, List.setIfInBounds_toArray, List.set_cons_zero, List.set_cons_succ]
              refine wpAnyH_ready (rs := [40]) (by kernel_rfl) (by simp) ?_
              refine AllReadyH.cons (by simp only [List.getElem?_toArray, List.getElem?_cons_zero, List.getElem?_cons_succ]; rfl) (fun K hK => ?_) AllReadyH.nil
              go_simp
              go_at_call 44
              refine (roll_Bytes g4 2 r _ w5 HT.out.1 (by omega) (by omega) (HH4.out.below HB5.out).roll).mono ?_
              rintro e w6 ⟨v6, n6, rfl, ho6, hb6⟩
              have hc6 := conv_row w6 _ _ _ _ ho6
              have hc6' := conv_sliceAt w6 a5 c5 _ (HX5.out.below hb6).2
              have HB6 := hid (HB5.out.trans (hb6.mono HB5.out.size))
              have hS' := KS.out _ (HH4.out.base.below.trans (HB6.out.mono HH4.out.base.size))
              clear ho6 hb6
              try go_wp2_with fail
              refine hK.out _ _ ?_ (fun hH7 => ?_)
              · (try dsimp only); (first | assumption | exact KS.out _ HH.out.drew.base.below)
              clear hK K hH6
              try simp only [Act.put, List.setIfInBounds_toArray, List.set_cons_zero, List.set_cons_succ]
              refine wpAnyH_ready (rs := [41]) (by kernel_rfl) (by simp) ?_
              refine AllReadyH.cons (by simp only [List.getElem?_toArray, List.getElem?_cons_zero, List.getElem?_cons_succ]; rfl) (fun K hK => ?_) AllReadyH.nil
              go_simp
              refine hK.out _ _ ?_ (fun hH8 => ?_)
              · (try dsimp only); (first | assumption | exact KS.out _ HH.out.drew.base.below)
              clear hK K hH7
              try simp only [Act.put, List.setIfInBounds_toArray, List.set_cons_zero, List.set_cons_succ]
              refine wpAnyH_take (i := 42) (v := ?_) (by simp only [List.getElem?_toArray, List.getElem?_cons_zero, List.getElem?_cons_succ]; rfl) (by kernel_rfl) (by kernel_rfl) (by kernel_rfl) (fun _ _ _ h => h) (Or.inl ⟨by rfl, ?_⟩) (by assumption) ?_
              rotate_left
              · intro w hSw; (try dsimp only at hSw); go_simp; (try with_reducible rfl)
              try simp only [Act.put, List.setIfInBounds_toArray, List.set_cons_zero, List.set_cons_succ]
              refine wpAnyH_take (i := 43) (v := ?_) (by simp only [List.getElem?_toArray, List.getElem?_cons_zero, List.getElem?_cons_succ]; rfl) (by kernel_rfl) (by kernel_rfl) (by kernel_rfl) (fun _ _ _ h => h) (Or.inl ⟨by rfl, ?_⟩) (by assumption) ?_
              rotate_left
              · intro w hSw; (try dsimp only at hSw); go_simp; (try with_reducible rfl)
              try simp only [Act.put, List.setIfInBounds_toArray, List.set_cons_zero, List.set_cons_succ]
              refine wpAnyH_take (i := 44) (v := ?_) (by simp only [List.getElem?_toArray, List.getElem?_cons_zero, List.getElem?_cons_succ]; rfl) (by kernel_rfl) (by kernel_rfl) (by kernel_rfl) (fun _ _ _ h => h) (Or.inl ⟨by rfl, ?_⟩) (by assumption) ?_
              rotate_left
              · intro w hSw; (try dsimp only at hSw); go_simp; (try with_reducible rfl)
              try simp only [Act.put, List.setIfInBounds_toArray, List.set_cons_zero, List.set_cons_succ]
              refine wpAnyH_done (by kernel_rfl) ?_ _
              refine NoPanic.normal ?_
              have H6 := hid (HH4.out.below HB6.out)
              clear hc6 hc6' f40 HX5 HB5 HB6 HH4 HH3
              go_wp2_with fail
              (with_reducible refine (log_Mend g4 1 b _ w6 HT.out H6.out.log).mono ?_)
              rintro e w7 ⟨rfl, g7, hC, hE⟩
              have H7 := hid (H6.out.evoL hE hC)
              clear hC hE H6
              go_wp2_with fail
              (with_reducible refine (roll_Mend g7 2 r _ w7 H7.out.roll).mono ?_)
              rintro e w8 ⟨rfl, g8, hC, hE⟩
              have H8 := hid (H7.out.evoR hE hC)
              clear hC hE H7
              go_wp2
              go_roundw
              case rel => exact ⟨by simp, k + 1, g8, by omega, by go_num, by rw [HR2.out]; exact H8, by rw [HR2.out]; exact hok2⟩
              case measure => simp [intOf]; omega
            refine AllReadyH.cons (by simp only [List.getElem?_toArray, List.getElem?_cons_zero, List.getElem?_cons_succ]; rfl) (fun K hK => ?_) AllReadyH.nil
            go_simp
            go_at_call 44
            refine (roll_Bytes g4 2 r _ w5 HT.out.1 (by omega) (by omega) (HH4.out.below HB5.out).roll).mono ?_
            rintro e w6 ⟨v6, n6, rfl, ho6, hb6⟩
            have hc6 := conv_row w6 _ _ _ _ ho6
            have hc6' := conv_sliceAt w6 a5 c5 _ (HX5.out.below hb6).2
            have HB6 := hid (HB5.out.trans (hb6.mono HB5.out.size))
            have hS' := KS.out _ (HH4.out.base.below.trans (HB6.out.mono HH4.out.base.size))
            clear ho6 hb6
            try go_wp2_with fail
            refine hK.out _ _ ?_ (fun hH9 => ?_)
            · (try dsimp only); (first | assumption | exact KS.out _ HH.out.drew.base.below)
            clear hK K hH5
            try simp only [Act.put, List.setIfInBounds_toArray, List.set_cons_zero, List.set_cons_succ]
            refine wpAnyH_ready (rs := [38, 41]) (by kernel_rfl) (by simp) ?_
            refine AllReadyH.cons (by simp only [List.getElem?_toArray, List.getElem?_cons_zero, List.getElem?_cons_succ]; rfl) (fun K hK => ?_) ?_
            · skip
              go_simp
              refine hK.out _ _ ?_ (fun hH10 => ?_)
              · (try dsimp only); (first | assumption | exact KS.out _ HH.out.drew.base.below)
              clear hK K hH9
              try simp only [Act.put, List.setIfInBounds_toArray, List.set_cons_zero, List.set_cons_succ]
              refine wpAnyH_ready (rs := [41]) (by kernel_rfl) (by simp) ?_
              refine AllReadyH.cons (by simp only [List.getElem?_toArray, List.getElem?_cons_zero, List.getElem?_cons_succ]; rfl) (fun K hK => ?_) AllReadyH.nil
              go_simp
              refine hK.out _ _ ?_ (fun hH11 => ?_)
              · (try dsimp only); (first | assumption | exact KS.out _ HH.out.drew.base.below)
              clear hK K hH10
              try simp only [Act.put, List.setIfInBounds_toArray, List.set_cons_zero, List.set_cons_succ]
              refine wpAnyH_take (i := 42) (v := ?_) (by simp only [List.getElem?_toArray, List.getElem?_cons_zero, List.getElem?_cons_succ]; rfl) (by kernel_rfl) (by kernel_rfl) (by kernel_rfl) (fun _ _ _ h => h) (Or.inl ⟨by rfl, ?_⟩) (by assumption) ?_
              rotate_left
              · intro w hSw; (try dsimp only at hSw); go_simp; (try with_reducible rfl)
              try simp only [Act.put, List.setIfInBounds_toArray, List.set_cons_zero, List.set_cons_succ]
              refine wpAnyH_take (i := 43) (v := ?_) (by simp only [List.getElem?_toArray, List.getElem?_cons_zero, List.getElem?_cons_succ]; rfl) (by kernel_rfl) (by kernel_rfl) (by kernel_rfl) (fun _ _ _ h => h) (Or.inl ⟨by rfl, ?_⟩) (by assumption) ?_
              rotate_left
              · intro w hSw; (try dsimp only at hSw); go_simp; (try with_reducible rfl)
              try simp only [Act.put, List.setIfInBounds_toArray, List.set_cons_zero, List.set_cons_succ]
              refine wpAnyH_take (i := 44) (v := ?_) (by simp only [List.getElem?_toArray, List.getElem?_cons_zero, List.getElem?_cons_succ]; rfl) (by kernel_rfl) (by kernel_rfl) (by kernel_rfl) (fun _ _ _ h => h) (Or.inl ⟨by rfl, ?_⟩) (by assumption) ?_
              rotate_left
              · intro w hSw; (try dsimp only at hSw); go_simp; (try with_reducible rfl)
              try simp only [Act.put, List.setIfInBounds_toArray, List.set_cons_zero, List.set_cons_succ]
              refine wpAnyH_done (by kernel_rfl) ?_ _
              refine NoPanic.normal ?_
              have H6 := hid (HH4.out.below HB6.out)
              clear hc6 hc6' f40 HX5 HB5 HB6 HH4 HH3
              go_wp2_with fail
              (with_reducible refine (log_Mend g4 1 b _ w6 HT.out H6.out.log).mono ?_)
              rintro e w7 ⟨rfl, g7, hC, hE⟩
              have H7 := hid (H6.out.evoL hE hC)
              clear hC hE H6
              go_wp2_with fail
              (with_reducible refine (roll_Mend g7 2 r _ w7 H7.out.roll).mono ?_)
              rintro e w8 ⟨rfl, g8, hC, hE⟩
              have H8 := hid (H7.out.evoR hE hC)
              clear hC hE H7
              go_wp2
              go_roundw
              case rel => exact ⟨by simp, k + 1, g8, by omega, by go_num, by rw [HR2.out]; exact H8, by rw [HR2.out]; exact hok2⟩
              case measure => simp [intOf]; omega
            refine AllReadyH.cons (by simp only [List.getElem?_toArray, List.getElem?_cons_zero, List.getElem?_cons_succ]; rfl) (fun K hK => ?_) AllReadyH.nil
            go_simp
            refine hK.out _ _ ?_ (fun hH12 => ?_)
            · (try dsimp only); (first | assumption | exact KS.out _ HH.out.drew.base.below)
            clear hK K hH9
            try simp only [Act.put, List.setIfInBounds_toArray, List.set_cons_zero, List.set_cons_succ]
            refine wpAnyH_ready (rs := [38]) (by kernel_rfl) (by simp) ?_
            refine AllReadyH.cons (by simp only [List.getElem?_toArray, List.getElem?_cons_zero, List.getElem?_cons_succ]; rfl) (fun K hK => ?_) AllReadyH.nil
            go_simp
            refine hK.out _ _ ?_ (fun hH13 => ?_)
            · (try dsimp only); (first | assumption | exact KS.out _ HH.out.drew.base.below)
            clear hK K hH12
            try simp only [Act.put, List.setIfInBounds_toArray, List.set_cons_zero, List.set_cons_succ]
            refine wpAnyH_take (i := 42) (v := ?_) (by simp only [List.getElem?_toArray, List.getElem?_cons_zero, List.getElem?_cons_succ]; rfl) (by kernel_rfl) (by kernel_rfl) (by kernel_rfl) (fun _ _ _ h => h) (Or.inl ⟨by rfl, ?_⟩) (by assumption) ?_
            rotate_left
            · intro w hSw; (try dsimp only at hSw); go_simp; (try with_reducible rfl)
            try simp only [Act.put, List.setIfInBounds_toArray, List.set_cons_zero, List.set_cons_succ]
            refine wpAnyH_take (i := 43) (v := ?_) (by simp only [List.getElem?_toArray, List.getElem?_cons_zero, List.getElem?_cons_succ]; rfl) (by kernel_rfl) (by kernel_rfl) (by kernel_rfl) (fun _ _ _ h => h) (Or.inl ⟨by rfl, ?_⟩) (by assumption) ?_
            rotate_left
            · intro w hSw; (try dsimp only at hSw); go_simp; (try with_reducible rfl)
            try simp only [Act.put, List.setIfInBounds_toArray, List.set_cons_zero, List.set_cons_succ]
            refine wpAnyH_take (i := 44) (v := ?_) (by simp only [List.getElem?_toArray, List.getElem?_cons_zero, List.getElem?_cons_succ]; rfl) (by kernel_rfl) (by kernel_rfl) (by kernel_rfl) (fun _ _ _ h => h) (Or.inl ⟨by rfl, ?_⟩) (by assumption) ?_
            rotate_left
            · intro w hSw; (try dsimp only at hSw); go_simp; (try with_reducible rfl)
            try simp only [Act.put, List.setIfInBounds_toArray, List.set_cons_zero, List.set_cons_succ]
            refine wpAnyH_done (by kernel_rfl) ?_ _
            refine NoPanic.normal ?_
            have H6 := hid (HH4.out.below HB6.out)
            clear hc6 hc6' f40 HX5 HB5 HB6 HH4 HH3
            go_wp2_with fail
            (with_reducible refine (log_Mend g4 1 b _ w6 HT.out H6.out.log).mono ?_)
            rintro e w7 ⟨rfl, g7, hC, hE⟩
            have H7 := hid (H6.out.evoL hE hC)
            clear hC hE H6
            go_wp2_with fail
            (with_reducible refine (roll_Mend g7 2 r _ w7 H7.out.roll).mono ?_)
            rintro e w8 ⟨rfl, g8, hC, hE⟩
            have H8 := hid (H7.out.evoR hE hC)
            clear hC hE H7
            go_wp2
            go_roundw
            case rel => exact ⟨by simp, k + 1, g8, by omega, by go_num, by rw [HR2.out]; exact H8, by rw [HR2.out]; exact hok2⟩
            case measure => simp [intOf]; omega
          refine AllReadyH.cons (by simp only [List.getElem?_toArray, List.getElem?_cons_zero, List.getElem?_cons_succ]; rfl) (fun K hK => ?_) AllReadyH.nil
          go_simp
          refine hK.out _ _ ?_ (fun hH14 => ?_)
          · (try dsimp only); (first | assumption | exact KS.out _ HH.out.drew.base.below)
          clear hK K hH2
          try simp only [Act.put, List.setIfInBounds_toArray, List.set_cons_zero, List.set_cons_succ]
          refine wpAnyH_take (i := 32) (v := ?_) (by simp only [List.getElem?_toArray, List.getElem?_cons_zero, List.getElem?_cons_succ]; rfl) (by kernel_rfl) (by kernel_rfl) (by kernel_rfl) (fun _ _ _ h => h) (Or.inl ⟨by rfl, ?_⟩) (by assumption) ?_
          rotate_left
          · intro w hSw; (try dsimp only at hSw); go_simp; (try with_reducible rfl)
          try simp only [Act.put, List.setIfInBounds_toArray, List.set_cons_zero, List.set_cons_succ]
          refine wpAnyH_ready (rs := [27]) (by kernel_rfl) (by simp) ?_
          refine AllReadyH.cons (by simp only [List.getElem?_toArray, List.getElem?_cons_zero, List.getElem?_cons_succ]; rfl) (fun K hK => ?_) AllReadyH.nil
          go_simp
          go_at_call 31
          refine (log_Len g4 1 b _ w4 HH4.out.log).mono ?_
          rintro e w' ⟨rfl, rfl⟩
          try go_wp2_with fail
          refine hK.out _ _ ?_ (fun hH15 => ?_)
          · (try dsimp only); (first | assumption | exact KS.out _ HH.out.drew.base.below)
          clear hK K hH14
          try simp only [Act.put, List.setIfInBounds_toArray, List.set_cons_zero, List.set_cons_succ]
          refine wpAnyH_take (i := 33) (v := ?_) (by simp only [List.getElem?_toArray, List.getElem?_cons_zero, List.getElem?_cons_succ]; rfl) (by kernel_rfl) (by kernel_rfl) (by kernel_rfl) (fun _ _ _ h => h) (Or.inl ⟨by rfl, ?_⟩) (by assumption) ?_
          rotate_left
          · intro w hSw; (try dsimp only at hSw); go_simp; (try with_reducible rfl)
          try simp only [Act.put, List.setIfInBounds_toArray, List.set_cons_zero, List.set_cons_succ]
          refine wpAnyH_take (i := 34) (v := ?_) (by simp only [List.getElem?_toArray, List.getElem?_cons_zero, List.getElem?_cons_succ]; rfl) (by kernel_rfl) (by kernel_rfl) (by kernel_rfl) (fun _ _ _ h => h) (Or.inl ⟨by rfl, ?_⟩) (by assumption) ?_
          rotate_left
          · intro w hSw; (try dsimp only at hSw); go_simp; (try with_reducible rfl)
          try simp only [Act.put, List.setIfInBounds_toArray, List.set_cons_zero, List.set_cons_succ]
          refine wpAnyH_take (i := 35) (v := ?_) (by simp only [List.getElem?_toArray, List.getElem?_cons_zero, List.getElem?_cons_succ]; rfl) (by kernel_rfl) (by kernel_rfl) (by kernel_rfl) (fun _ _ _ h => h) (Or.inl ⟨by rfl, ?_⟩) (by assumption) ?_
          rotate_left
          · intro w hSw; (try dsimp only at hSw); go_simp; (try with_reducible rfl)
          try simp only [Act.put, List.setIfInBounds_toArray, List.set_cons_zero, List.set_cons_succ]
          refine wpAnyH_take (i := 36) (v := ?_) (by simp only [List.getElem?_toArray, List.getElem?_cons_zero, List.getElem?_cons_succ]; rfl) (by kernel_rfl) (by kernel_rfl) (by kernel_rfl) (fun _ _ _ h => h) (Or.inl ⟨by rfl, ?_⟩) (by assumption) ?_
          rotate_left
          · intro w hSw; (try dsimp only at hSw); go_simp; (try with_reducible rfl)
          try simp only [Act.put, List.setIfInBounds_toArray, List.set_cons_zero, List.set_cons_succ]
          refine wpAnyH_take (i := 39) (v := ?_) (by simp only [List.getElem?_toArray, List.getElem?_cons_zero, List.getElem?_cons_succ]; rfl) (by kernel_rfl) (by kernel_rfl) (by kernel_rfl) (fun _ _ _ h => h) (Or.inl ⟨by rfl, ?_⟩) (by assumption) ?_
          rotate_left
          · intro w hSw; (try dsimp only at hSw); go_simp; (try with_reducible rfl)
          try simp only [Act.put, List.setIfInBounds_toArray, List.set_cons_zero, List.set_cons_succ]
          refine wpAnyH_ready (rs := [37]) (by kernel_rfl) (by simp) ?_
          refine AllReadyH.cons (by simp only [List.getElem?_toArray, List.getElem?_cons_zero, List.getElem?_cons_succ]; rfl) (fun K hK => ?_) AllReadyH.nil
          go_simp
          go_at_call 30
          refine (log_Bytes g4 1 b _ w4 HH4.out.log (by omega)).mono ?_
          rintro e w5 ⟨a5, c5, rfl, hx5, hb5, -⟩
          have HB5 := hid hb5
          have HX5 := hid hx5
          have hc5 := conv_sliceAt w5 a5 c5 _ hx5.2
          have hS' := KS.out _ (HH4.out.base.below.trans (hb5.mono HH4.out.base.size))
          clear hx5 hb5
          try go_wp2_with fail
          refine hK.out _ _ ?_ (fun hH16 => ?_)
          · (try dsimp only); (first | assumption | exact KS.out _ HH.out.drew.base.below)
          clear hK K hH15
          try simp only [Act.put, List.setIfInBounds_toArray, List.set_cons_zero, List.set_cons_succ]
          refine wpAnyH_ready (rs := [38, 40]) (by kernel_rfl) (by simp) ?_
          refine AllReadyH.cons (by simp only [List.getElem?_toArray, List.getElem?_cons_zero, List.getElem?_cons_succ]; rfl) (fun K hK => ?_) ?_
          · skip
            go_simp
            refine hK.out _ _ ?_ (fun hH17 => ?_)
            · (try dsimp only); (first | assumption | exact KS.out _ HH.out.drew.base.below)
            clear hK K hH16
            try simp only [Act.put, List.setIfInBounds_toArray, List.set_cons_zero, List.set_cons_succ]
            refine wpAnyH_ready (rs := [40]) (by kernel_rfl) (by simp) ?_
            refine AllReadyH.cons (by simp only [List.getElem?_toArray, List.getElem?_cons_zero, List.getElem?_cons_succ]; rfl) (fun K hK => ?_) AllReadyH.nil
            go_simp
            go_at_call 44
            refine (roll_Bytes g4 2 r _ w5 HT.out.1 (by omega) (by omega) (HH4.out.below HB5.out).roll).mono ?_
            rintro e w6 ⟨v6, n6, rfl, ho6, hb6⟩
            have hc6 := conv_row w6 _ _ _ _ ho6
            have hc6' := conv_sliceAt w6 a5 c5 _ (HX5.out.below hb6).2
            have HB6 := hid (HB5.out.trans (hb6.mono HB5.out.size))
            have hS' := KS.out _ (HH4.out.base.below.trans (HB6.out.mono HH4.out.base.size))
            clear ho6 hb6
            try go_wp2_with fail
            refine hK.out _ _ ?_ (fun hH18 => ?_)
            · (try dsimp only); (first | assumption | exact KS.out _ HH.out.drew.base.below)
            clear hK K hH17
            try simp only [Act.put, List.setIfInBounds_toArray, List.set_cons_zero, List.set_cons_succ]
            refine wpAnyH_ready (rs := [41]) (by kernel_rfl) (by simp) ?_
            refine AllReadyH.cons (by simp only [List.getElem?_toArray, List.getElem?_cons_zero, List.getElem?_cons_succ]; rfl) (fun K hK => ?_) AllReadyH.nil
            go_simp
            refine hK.out _ _ ?_ (fun hH19 => ?_)
            · (try dsimp only); (first | assumption | exact KS.out _ HH.out.drew.base.below)
            clear hK K hH18
            try simp only [Act.put, List.setIfInBounds_toArray, List.set_cons_zero, List.set_cons_succ]
            refine wpAnyH_take (i := 42) (v := ?_) (by simp only [List.getElem?_toArray, List.getElem?_cons_zero, List.getElem?_cons_succ]; rfl) (by kernel_rfl) (by kernel_rfl) (by kernel_rfl) (fun _ _ _ h => h) (Or.inl ⟨by rfl, ?_⟩) (by assumption) ?_
            rotate_left
            · intro w hSw; (try dsimp only at hSw); go_simp; (try with_reducible rfl)
            try simp only [Act.put, List.setIfInBounds_toArray, List.set_cons_zero, List.set_cons_succ]
            refine wpAnyH_take (i := 43) (v := ?_) (by simp only [List.getElem?_toArray, List.getElem?_cons_zero, List.getElem?_cons_succ]; rfl) (by kernel_rfl) (by kernel_rfl) (by kernel_rfl) (fun _ _ _ h => h) (Or.inl ⟨by rfl, ?_⟩) (by assumption) ?_
            rotate_left
            · intro w hSw; (try dsimp only at hSw); go_simp; (try with_reducible rfl)
            try simp only [Act.put, List.setIfInBounds_toArray, List.set_cons_zero, List.set_cons_succ]
            refine wpAnyH_take (i := 44) (v := ?_) (by simp only [List.getElem?_toArray, List.getElem?_cons_zero, List.getElem?_cons_succ]; rfl) (by kernel_rfl) (by kernel_rfl) (by kernel_rfl) (fun _ _ _ h => h) (Or.inl ⟨by rfl, ?_⟩) (by assumption) ?_
            rotate_left
            · intro w hSw; (try dsimp only at hSw); go_simp; (try with_reducible rfl)
            try simp only [Act.put, List.setIfInBounds_toArray, List.set_cons_zero, List.set_cons_succ]
            refine wpAnyH_done (by kernel_rfl) ?_ _
            refine NoPanic.normal ?_
            have H6 := hid (HH4.out.below HB6.out)
            clear hc6 hc6' f40 HX5 HB5 HB6 HH4 HH3
            go_wp2_with fail
            (with_reducible refine (log_Mend g4 1 b _ w6 HT.out H6.out.log).mono ?_)
            rintro e w7 ⟨rfl, g7, hC, hE⟩
            have H7 := hid (H6.out.evoL hE hC)
            clear hC hE H6
            go_wp2_with fail
            (with_reducible refine (roll_Mend g7 2 r _ w7 H7.out.roll).mono ?_)
            rintro e w8 ⟨rfl, g8, hC, hE⟩
            have H8 := hid (H7.out.evoR hE hC)
            clear hC hE H7
            go_wp2
            go_roundw
            case rel => exact ⟨by simp, k + 1, g8, by omega, by go_num, by rw [HR2.out]; exact H8, by rw [HR2.out]; exact hok2⟩
            case measure => simp [intOf]; omega
          refine AllReadyH.cons (by simp only [List.getElem?_toArray, List.getElem?_cons_zero, List.getElem?_cons_succ]; rfl) (fun K hK => ?_) AllReadyH.nil
          go_simp
          go_at_call 44
          refine (roll_Bytes g4 2 r _ w5 HT.out.1 (by omega) (by omega) (HH4.out.below HB5.out).roll).mono ?_
          rintro e w6 ⟨v6, n6, rfl, ho6, hb6⟩
          have hc6 := conv_row w6 _ _ _ _ ho6
          have hc6' := conv_sliceAt w6 a5 c5 _ (HX5.out.below hb6).2
          have HB6 := hid (HB5.out.trans (hb6.mono HB5.out.size))
          have hS' := KS.out _ (HH4.out.base.below.trans (HB6.out.mono HH4.out.base.size))
          clear ho6 hb6
          try go_wp2_with fail
          refine hK.out _ _ ?_ (fun hH20 => ?_)
          · (try dsimp only); (first | assumption | exact KS.out _ HH.out.drew.base.below)
          clear hK K hH16
          try simp only [Act.put, List.setIfInBounds_toArray, List.set_cons_zero, List.set_cons_succ]
          refine wpAnyH_ready (rs := [38, 41]) (by kernel_rfl) (by simp) ?_
          refine AllReadyH.cons (by simp only [List.getElem?_toArray, List.getElem?_cons_zero, List.getElem?_cons_succ]; rfl) (fun K hK => ?_) ?_
          · skip
            go_simp
            refine hK.out _ _ ?_ (fun hH21 => ?_)
            · (try dsimp only); (first | assumption | exact KS.out _ HH.out.drew.base.below)
            clear hK K hH20
            try simp only [Act.put, List.setIfInBounds_toArray, List.set_cons_zero, List.set_cons_succ]
            refine wpAnyH_ready (rs := [41]) (by kernel_rfl) (by simp) ?_
            refine AllReadyH.cons (by simp only [List.getElem?_toArray, List.getElem?_cons_zero, List.getElem?_cons_succ]; rfl) (fun K hK => ?_) AllReadyH.nil
            go_simp
            refine hK.out _ _ ?_ (fun hH22 => ?_)
            · (try dsimp only); (first | assumption | exact KS.out _ HH.out.drew.base.below)
            clear hK K hH21
            try simp only [Act.put, List.setIfInBounds_toArray, List.set_cons_zero, List.set_cons_succ]
            refine wpAnyH_take (i := 42) (v := ?_) (by simp only [List.getElem?_toArray, List.getElem?_cons_zero, List.getElem?_cons_succ]; rfl) (by kernel_rfl) (by kernel_rfl) (by kernel_rfl) (fun _ _ _ h => h) (Or.inl ⟨by rfl, ?_⟩) (by assumption) ?_
            rotate_left
            · intro w hSw; (try dsimp only at hSw); go_simp; (try with_reducible rfl)
            try simp only [Act.put, List.setIfInBounds_toArray, List.set_cons_zero, List.set_cons_succ]
            refine wpAnyH_take (i := 43) (v := ?_) (by simp only [List.getElem?_toArray, List.getElem?_cons_zero, List.getElem?_cons_succ]; rfl) (by kernel_rfl) (by kernel_rfl) (by kernel_rfl) (fun _ _ _ h => h) (Or.inl ⟨by rfl, ?_⟩) (by assumption) ?_
            rotate_left
            · intro w hSw; (try dsimp only at hSw); go_simp; (try with_reducible rfl)
            try simp only [Act.put, List.setIfInBounds_toArray, List.set_cons_zero, List.set_cons_succ]
            refine wpAnyH_take (i := 44) (v := ?_) (by simp only [List.getElem?_toArray, List.getElem?_cons_zero, List.getElem?_cons_succ]; rfl) (by kernel_rfl) (by kernel_rfl) (by kernel_rfl) (fun _ _ _ h => h) (Or.inl ⟨by rfl, ?_⟩) (by assumption) ?_
            rotate_left
            · intro w hSw; (try dsimp only at hSw); go_simp; (try with_reducible rfl)
            try simp only [Act.put, List.setIfInBounds_toArray, List.set_cons_zero, List.set_cons_succ]
            refine wpAnyH_done (by kernel_rfl) ?_ _
            refine NoPanic.normal ?_
            have H6 := hid (HH4.out.below HB6.out)
            clear hc6 hc6' f40 HX5 HB5 HB6 HH4 HH3
            go_wp2_with fail
            (with_reducible refine (log_Mend g4 1 b _ w6 HT.out H6.out.log).mono ?_)
            rintro e w7 ⟨rfl, g7, hC, hE⟩
            have H7 := hid (H6.out.evoL hE hC)
            clear hC hE H6
            go_wp2_with fail
            (with_reducible refine (roll_Mend g7 2 r _ w7 H7.out.roll).mono ?_)
            rintro e w8 ⟨rfl, g8, hC, hE⟩
            have H8 := hid (H7.out.evoR hE hC)
            clear hC hE H7
            go_wp2
            go_roundw
            case rel => exact ⟨by simp, k + 1, g8, by omega, by go_num, by rw [HR2.out]; exact H8, by rw [HR2.out]; exact hok2⟩
            case measure => simp [intOf]; omega
          refine AllReadyH.cons (by simp only [List.getElem?_toArray, List.getElem?_cons_zero, List.getElem?_cons_succ]; rfl) (fun K hK => ?_) AllReadyH.nil
          go_simp
          refine hK.out _ _ ?_ (fun hH23 => ?_)
          · (try dsimp only); (first | assumption | exact KS.out _ HH.out.drew.base.below)
          clear hK K hH20
          try simp only [Act.put, List.setIfInBounds_toArray, List.set_cons_zero, List.set_cons_succ]
          refine wpAnyH_ready (rs := [38]) (by kernel_rfl) (by simp) ?_
          refine AllReadyH.cons (by simp only [List.getElem?_toArray, List.getElem?_cons_zero, List.getElem?_cons_succ]; rfl) (fun K hK => ?_) AllReadyH.nil
          go_simp
          refine hK.out _ _ ?_ (fun hH24 => ?_)
          · (try dsimp only); (first | assumption | exact KS.out _ HH.out.drew.base.below)
          clear hK K hH23
          try simp only [Act.put, List.setIfInBounds_toArray, List.set_cons_zero, List.set_cons_succ]
          refine wpAnyH_take (i := 42) (v := ?_) (by simp only [List.getElem?_toArray, List.getElem?_cons_zero, List.getElem?_cons_succ]; rfl) (by kernel_rfl) (by kernel_rfl) (by kernel_rfl) (fun _ _ _ h => h) (Or.inl ⟨by rfl, ?_⟩) (by assumption) ?_
          rotate_left
          · intro w hSw; (try dsimp only at hSw); go_simp; (try with_reducible rfl)
          try simp only [Act.put, List.setIfInBounds_toArray, List.set_cons_zero, List.set_cons_succ]
          refine wpAnyH_take (i := 43) (v := ?_) (by simp only [List.getElem?_toArray, List.getElem?_cons_zero, List.getElem?_cons_succ]; rfl) (by kernel_rfl) (by kernel_rfl) (by kernel_rfl) (fun _ _ _ h => h) (Or.inl ⟨by rfl, ?_⟩) (by assumption) ?_
          rotate_left
          · intro w hSw; (try dsimp only at hSw); go_simp; (try with_reducible rfl)
          try simp only [Act.put, List.setIfInBounds_toArray, List.set_cons_zero, List.set_cons_succ]
          refine wpAnyH_take (i := 44) (v := ?_) (by simp only [List.getElem?_toArray, List.getElem?_cons_zero, List.getElem?_cons_succ]; rfl) (by kernel_rfl) (by kernel_rfl) (by kernel_rfl) (fun _ _ _ h => h) (Or.inl ⟨by rfl, ?_⟩) (by assumption) ?_
          rotate_left
          · intro w hSw; (try dsimp only at hSw); go_simp; (try with_reducible rfl)
          try simp only [Act.put, List.setIfInBounds_toArray, List.set_cons_zero, List.set_cons_succ]
          refine wpAnyH_done (by kernel_rfl) ?_ _
          refine NoPanic.normal ?_
          have H6 := hid (HH4.out.below HB6.out)
          clear hc6 hc6' f40 HX5 HB5 HB6 HH4 HH3
          go_wp2_with fail
          (with_reducible refine (log_Mend g4 1 b _ w6 HT.out H6.out.log).mono ?_)
          rintro e w7 ⟨rfl, g7, hC, hE⟩
          have H7 := hid (H6.out.evoL hE hC)
          clear hC hE H6
          go_wp2_with fail
          (with_reducible refine (roll_Mend g7 2 r _ w7 H7.out.roll).mono ?_)
          rintro e w8 ⟨rfl, g8, hC, hE⟩
          have H8 := hid (H7.out.evoR hE hC)
          clear hC hE H7
          go_wp2
          go_roundw
          case rel => exact ⟨by simp, k + 1, g8, by omega, by go_num, by rw [HR2.out]; exact H8, by rw [HR2.out]; exact hok2⟩
          case measure => simp [intOf]; omega
          -- END
        · have hst := HR.out
          have hsg : stepG G x = G := by simp [stepG, hd, hd1]
          rw [hsg] at hst hok2
          have HR2 := hid hst
          have e0 : (x.do_ == 0) = false := by simpa using hd
          have e1 : (x.do_ == 1) = false := by simpa using hd1
          clear hst hd hd1 hsg
          go_wp2
          go_roundw
          case rel => exact ⟨rfl, k + 1, _, by omega, by go_num, by rw [HR2.out]; exact HH, by rw [HR2.out]; exact hok2⟩
          case measure => simp [intOf]; omega
    · obtain rfl : k = l.length := by omega
      rw [List.take_length] at HH HO
      clear HA HW
      go_wp2
      go_ret3
      exact ⟨g, b, r, rfl, HH.out, HO.out⟩

end Go.Proofs.Ytoiobhcgpajogab
