/- The walk of chains: a chain and a line behind the same steps are the same list. -/
import Derived.Test.YtoiobhcgpajogaaLaw01b
namespace Go.Proofs.Ytoiobhcgpajogaa
open Go.RowKit

def stepC (m : List Ent) (x : CStep) : List Ent :=
  if x.do_ = 0 then (putC m x.at_ x.v).2 else if x.do_ = 1 then m.drop (clearK x.at_ m) else m
def runC (l : List CStep) : List Ent := l.foldl stepC [⟨0, Val.zero⟩]

theorem stepC_length (m : List Ent) (x : CStep) : (stepC m x).length ≤ m.length + 1 := by
  unfold stepC putC
  split
  · split
    · simp
    · split <;> simp
  · split
    · simp; omega
    · simp
theorem foldC_length (l : List CStep) : ∀ m, (l.foldl stepC m).length ≤ m.length + l.length := by
  induction l with
  | nil => intro m; simp
  | cons x l ih => intro m; have := ih (stepC m x); have := stepC_length m x; simp; omega
theorem runC_length (l : List CStep) : (runC l).length ≤ l.length + 1 := by
  have := foldC_length l [⟨0, Val.zero⟩]
  unfold runC; simp at this; omega
theorem runC_snoc (l : List CStep) (k : Nat) (h : k < l.length) : runC (l.take (k + 1)) = stepC (runC (l.take k)) l[k] := by
  unfold runC
  rw [List.take_succ_eq_append_getElem h, List.foldl_append]; rfl

theorem Stored.evo {ab ao q : Nat} {v : Value} {g g' : Nat → Nat} {w w' : World} (h : Stored ⟨ab, ao, none⟩ v w w') (hg : g ab = q) (hcol : ∀ b, b < w.heap.size → g' b = g b) : Evo q (q + 1) g g' w w' :=
  ⟨h.os, h.tape, h.output, h.size, hcol, fun b hb hn => h.old hb (by rintro rfl; exact hn ⟨by simp [hg], by simp [hg]⟩)⟩

theorem Stored.loc {ab : Nat} {v u : Value} {T : TypeId} {w w' : World} (h : Stored ⟨ab, 0, none⟩ v w w') (hl : Loc w ab T [u]) : Loc w' ab T [v] :=
  (h.block ab hl.lt).trans (hl.set 0 v)

/-- A chain of the colour 1 at c; a line of the colour 2, its slice v in the block ab of the colour 3. -/
structure CL (w0 : World) (g : Nat → Nat) (w : World) (c ab : Nat) (v : Value) (m m' : List Ent) : Prop where
  base : Base w0.heap.size w0 g w
  chain : ChainAt w g 1 c m
  loc : LocC w g 3 ab 29 [v]
  line : LineAt w g 2 v m'

section
variable {w0 w w' : World} {g g' : Nat → Nat} {c ab : Nat} {v v' : Value} {m m' n : List Ent}
theorem CL.below (h : CL w0 g w c ab v m m') (k : Below w.heap.size w w') : CL w0 g w' c ab v m m' := ⟨h.base.below' k, h.chain.below k, h.loc.below k, h.line.below k⟩
theorem CL.drew (h : CL w0 g w c ab v m m') : CL w0 g w.drew c ab v m m' := h.below (Below.refl _ _).drew
theorem CL.alloc (h : CL w0 g w c ab v m m') (o : Obj) : CL w0 (extc g w 0) (w.alloc o) c ab v m m' :=
  ⟨h.base.alloc 0 o, h.chain.frame (Evo.alloc g 0 w o) (by omega), h.loc.frame (Evo.alloc g 0 w o) (by omega), h.line.frame (Evo.alloc g 0 w o) (by omega)⟩
theorem CL.evo (h : CL w0 g w c ab v m m') (hE : Evo 1 2 g g' w w') (hC : ChainAt w' g' 1 c n) : CL w0 g' w' c ab v n m' :=
  ⟨h.base.step hE (by omega), hC, h.loc.frame hE (by omega), h.line.frame hE (by omega)⟩
theorem CL.stored (h : CL w0 g w c ab v m m') (hL : LineAt w' g' 2 v' n) (hS : Stored ⟨ab, 0, none⟩ v' w w') (hg : ∀ b, b < w.heap.size → g' b = g b) : CL w0 g' w' c ab v' m n :=
  have hE := hS.evo h.loc.2 hg
  ⟨h.base.step hE (by omega), h.chain.frame hE (by omega), ⟨hS.loc h.loc.1, (hg ab h.loc.1.lt).trans h.loc.2⟩, hL⟩
end

def ChainsPost (l : List CStep) (w : World) (e : Ending) (w' : World) : Prop :=
  ∃ g c ab v, e = .returned (.tuple #[.pointer (some ⟨c, 0, none⟩), v, .bool true]) ∧ CL w g w' c ab v (runC l) (runC l)

set_option maxHeartbeats 4000000 in
set_option maxRecDepth 100000 in
theorem law_chains (a : Option Addr) (cap : Nat) (l : List CStep) (w : World) (hn : l.length ≤ 80) (hA : CStepsAt w a l) :
    Calls Try.prog 16 #[.slice a l.length cap] w (ChainsPost l w) := by
  go_enter Try.func16, Try.ntmps16
  go_wp2_with fail
  refine (chain_New (fun _ => 0) 1 w).mono ?_
  rintro e w1 ⟨c, rfl, hb1, -, -, hC1⟩
  have H1 : CB w _ w1 c _ := ⟨(Base.start w).step (Evo.of_below (lo := 0) (hi := 0) (fun _ => 0) 1 hb1) (by omega), hC1⟩
  clear hb1 hC1
  go_wp2_with fail
  refine (line_New (extc (fun _ => 0) w 1) 2 w1).mono ?_
  rintro e w2 ⟨v, rfl, hb2, hL2⟩
  have hE := Evo.of_below (lo := 0) (hi := 0) (extc (fun _ => 0) w 1) 2 hb2
  have B2 := H1.base.step hE (by omega)
  have C2 := H1.chain.frame hE (by omega)
  clear H1 hE hb2
  generalize extc (extc (fun _ => 0) w 1) w1 2 = g2 at *
  obtain ⟨b0, off0, cap0, rfl, -, -, -, -, -, -⟩ := hL2.facts
  go_wp2_with fail
  have hM := LocC.new g2 3 w2 29 [.slice (some ⟨b0, off0, none⟩) ([⟨0, Val.zero⟩] : List Ent).length cap0]
  have hE := Evo.alloc g2 3 w2 (.cells #[.slice (some ⟨b0, off0, none⟩) ([⟨0, Val.zero⟩] : List Ent).length cap0] 29)
  have H3 : CL w _ _ c w2.heap.size _ _ _ := ⟨B2.step hE (by omega), C2.frame hE (by omega), hM, hL2.frame hE (by omega)⟩
  clear B2 C2 hM hL2 hE
  generalize hab : w2.heap.size = ab at *
  clear hab
  go_loopw [7, 8] (fun o i wr => o = .bool true ∧ ∃ (k : Nat) (g : Nat → Nat) (v : Value), k ≤ l.length ∧ i = .int .i64 k ∧ CL w g wr c ab v (runC (l.take k)) (runC (l.take k))) (fun _ i _ => l.length - (intOf i).toNat)
  case atStart => exact ⟨rfl, 0, _, _, Nat.zero_le _, rfl, H3⟩
  case round =>
    obtain ⟨rfl, k, g, v, hk, rfl, H⟩ := hrel
    clear H3
    by_cases hlt : k < l.length
    · obtain ⟨b, off, rfl, hb, hv⟩ := hA.facts (by omega)
      obtain ⟨g1, g2, g3, g4, g5⟩ := hv k hlt
      clear hv
      have hlen : (runC (l.take k)).length ≤ 1000000 := by have := runC_length (l.take k); simp at this; omega
      have keep : ∀ W', Below w.heap.size w W' → (Below w.heap.size w W' ∧ W'.cell? ⟨b, off + k * 4, none⟩ = some (.int .i64 l[k].do_) ∧ W'.cell? ⟨b, off + k * 4 + 1, none⟩ = some (.int .i64 l[k].at_) ∧
          W'.cell? ⟨b, off + k * 4 + 2, none⟩ = some (.bool l[k].v.there) ∧ W'.cell? ⟨b, off + k * 4 + 3, none⟩ = some (.string l[k].v.bytes)) := by
        intro W' hW
        exact ⟨hW, (hW.cell (p := ⟨b, _, none⟩) hb).trans g1, (hW.cell (p := ⟨b, _, none⟩) hb).trans g2, (hW.cell (p := ⟨b, _, none⟩) hb).trans g3, (hW.cell (p := ⟨b, _, none⟩) hb).trans g4⟩
      obtain ⟨-, q1, q2, q3, q4⟩ := keep wr H.base.below
      have HR := hid (runC_snoc l k hlt)
      clear g1 g2 g3 g4 hA
      have KS := hid keep
      have HH := hid H
      clear keep H
      generalize l[k] = x at *
      generalize runC (l.take k) = m at *
      have HQ := hid q1
      by_cases hd : x.do_ = 0
      · rw [hd] at q1
        have hst := HR.out
        have HR2 := hid (show runC (l.take (k + 1)) = (putC m x.at_ x.v).2 by rw [hst]; simp [stepC, hd])
        clear hst
        have HD := hid hd
        clear hd
        go_wp2_with fail
        go_region_held3 (fun W' : World => Below w.heap.size w W' ∧ W'.cell? ⟨b, off + k * 4, none⟩ = some (.int .i64 x.do_) ∧ W'.cell? ⟨b, off + k * 4 + 1, none⟩ = some (.int .i64 x.at_) ∧ W'.cell? ⟨b, off + k * 4 + 2, none⟩ = some (.bool x.v.there) ∧ W'.cell? ⟨b, off + k * 4 + 3, none⟩ = some (.string x.v.bytes))
          (first | assumption | exact KS.out _ HH.out.drew.base.below)
          (first
            | (go_at_call 29; refine (chain_Put _ _ _ _ _ x.at_ x.v.there x.v.bytes g5 hlen HH.out.drew.chain).mono ?_; rintro e w3 ⟨rfl, g3, hC, hE⟩; have HH3 := hid (HH.out.drew.evo hE hC); have hS' := KS.out _ HH3.out.base.below; clear hC hE)
            | (go_at_call 62; refine (line_Put _ _ _ _ _ _ _ x.at_ x.v.there x.v.bytes g5 hlen HH3.out.line HH3.out.loc.1.one.1 HH3.out.loc.1.one.2).mono ?_; rintro e w4 ⟨rfl, v4, g4, hL, hSt, hg⟩; have HH4 := hid (HH3.out.stored hL hSt hg); have hS' := KS.out _ HH4.out.base.below; clear hL hSt hg))
        go_wp2
        go_roundw
        case rel => exact ⟨by simp, k + 1, _, _, by omega, by go_num, by rw [HR2.out]; exact HH4.out⟩
        case measure => simp [intOf]; omega
      · by_cases hd1 : x.do_ = 1
        · rw [hd1] at q1
          have hst := HR.out
          have HR2 := hid (show runC (l.take (k + 1)) = m.drop (clearK x.at_ m) by rw [hst]; simp [stepC, hd1])
          clear hst hd
          have HD := hid hd1
          clear hd1
          go_wp2_with fail
          go_region_held3 (fun W' : World => Below w.heap.size w W' ∧ W'.cell? ⟨b, off + k * 4, none⟩ = some (.int .i64 x.do_) ∧ W'.cell? ⟨b, off + k * 4 + 1, none⟩ = some (.int .i64 x.at_) ∧ W'.cell? ⟨b, off + k * 4 + 2, none⟩ = some (.bool x.v.there) ∧ W'.cell? ⟨b, off + k * 4 + 3, none⟩ = some (.string x.v.bytes))
            (first | assumption | exact KS.out _ HH.out.drew.base.below)
            (first
              | (go_at_call 30; refine (chain_Clear _ _ _ _ _ x.at_ hlen HH.out.drew.chain).mono ?_; rintro e w3 ⟨rfl, g3, hC, hE⟩; have HH3 := hid (HH.out.drew.evo hE hC); have hS' := KS.out _ HH3.out.base.below; clear hC hE)
              | (go_at_call 63; refine (line_Clear _ _ _ _ _ _ _ x.at_ hlen HH3.out.line HH3.out.loc.1.one.1 HH3.out.loc.1.one.2 (by rw [HH3.out.loc.2]; omega)).mono ?_; rintro e w4 ⟨rfl, v4, g4, hL, hSt, hg⟩; have HH4 := hid (HH3.out.stored hL hSt hg); have hS' := KS.out _ HH4.out.base.below; clear hL hSt hg))
          go_wp2
          go_roundw
          case rel => exact ⟨by simp, k + 1, _, _, by omega, by go_num, by rw [HR2.out]; exact HH4.out⟩
          case measure => simp [intOf]; omega
        · have hst := HR.out
          have HR2 := hid (show runC (l.take (k + 1)) = m by rw [hst]; simp [stepC, hd, hd1])
          clear hst
          have e0 : (x.do_ == 0) = false := by simpa using hd
          have e1 : (x.do_ == 1) = false := by simpa using hd1
          clear hd hd1
          go_wp2
          go_roundw
          case rel => exact ⟨rfl, k + 1, _, _, by omega, by go_num, by rw [HR2.out]; exact HH.out⟩
          case measure => simp [intOf]; omega
    · obtain rfl : k = l.length := by omega
      rw [List.take_length] at H
      have q := H.loc.1.one
      obtain ⟨q1, q2⟩ := q
      have HH := hid H
      clear H hA
      go_wp2_with fail
      go_quiet (fail)
      go_wp2
      go_ret3
      exact ⟨g, c, ab, v, rfl, HH.out.below (below_drewN _ _)⟩

end Go.Proofs.Ytoiobhcgpajogaa
