/- A vault, in plain words and in memory; the walks of New, Begin, Commit, Tear, Crash, Log. -/
import Derived.Test.YtoiobhcgpajogabGreatDoorLog1
import Derived.Test.YtoiobhcgpajogabGreatDoorSheetOf
import Derived.Test.YtoiobhcgpajogabGreatDoorDeed3
namespace Go.Proofs.YtoiobhcgpajogabGreatDoor
open Go.RowKit

structure Vt where
  tab : Tab
  log : Lg

def Vt.new : Vt := ⟨Tab.new, Lg.new⟩
def Vt.Ok (V : Vt) : Prop := V.log.Ok ∧ V.log.torn = [] ∧ V.tab.last = V.log.l.length

def beginV (T : Tab) (mode at_ : Int) : Option Ded × Int :=
  if mode < 1 ∨ 3 < mode then (none, 3)
  else if (if mode = 3 then at_ else (T.last : Int)) < 0 ∨ (T.last : Int) < (if mode = 3 then at_ else (T.last : Int)) then (none, 1)
  else if (if mode = 3 then at_ else (T.last : Int)) < firstT T then (none, 12)
  else (some (Ded.new mode (if mode = 3 then at_ else (T.last : Int))), 0)

def commitV (V : Vt) (D : Ded) : (Int × Int) × Vt :=
  if mayD D V.tab ≠ 0 then ((0, mayD D V.tab), V)
  else if writesD D = [] then ((0, 0), V)
  else if (putG V.log (writesD D)).1 ≠ 0 then ((0, (putG V.log (writesD D)).1), V)
  else ((writeT V.tab (writesD D)).1, ⟨(writeT V.tab (writesD D)).2, (putG V.log (writesD D)).2⟩)

def crashV (G : Lg) : Vt := ⟨writeAll Tab.new G.l, mendG G⟩

def tornV (V : Vt) (D : Ded) (keep : Int) : Int × Lg :=
  if mayD D V.tab = 0 ∧ writesD D ≠ [] then tearG V.log (writesD D) keep else (mayD D V.tab, V.log)

def tearV (V : Vt) (D : Ded) (keep : Int) : (Int × Int) × Vt :=
  ((if (tornV V D keep).2.l.length = V.tab.last then 0 else ((tornV V D keep).2.l.length : Int), (tornV V D keep).1), crashV (tornV V D keep).2)

theorem Vt.new_ok : Vt.new.Ok := ⟨Lg.new_ok, rfl, rfl⟩

theorem crashV_ok {G : Lg} (h : G.Ok) : (crashV G).Ok := ⟨mendG_ok h, rfl, h.last⟩

theorem tornV_ok {V : Vt} (h : V.Ok) (D : Ded) (keep : Int) : (tornV V D keep).2.Ok := by
  unfold tornV
  split
  · exact tearG_ok h.1 h.2.1 _ _
  · exact h.1

theorem putG_zero {G : Lg} {w : List Ent} (h : (putG G w).1 = 0) : ckPs (-1) w = 0 ∧ G.l.length < 40 ∧ (putG G w).2 = ⟨G.l ++ [w], G.torn⟩ := by
  unfold putG at h ⊢
  split at h
  · rename_i h1; exact absurd h h1
  · rename_i h1
    split at h
    · simp at h
    · rename_i h2; rw [if_neg h1, if_neg h2]; exact ⟨by simpa using h1, by omega, rfl⟩

theorem commitV_ok {V : Vt} (h : V.Ok) (D : Ded) : (commitV V D).2.Ok := by
  unfold commitV
  split
  · exact h
  · split
    · exact h
    · split
      · exact h
      · rename_i h1 h2 h3
        have h3' : (putG V.log (writesD D)).1 = 0 := by simpa using h3
        obtain ⟨z1, z2, z3⟩ := putG_zero h3'
        have hp := putG_ok h.1 h.2.1 (writesD D)
        refine ⟨hp.1, hp.2, ?_⟩
        show (writeT V.tab (writesD D)).2.last = (putG V.log (writesD D)).2.l.length
        rw [(write_fine z1 (by rw [h.2.2]; exact z2)).2, z3, h.2.2]
        simp

/-! ### In memory -/

/-- A vault at block v, of the colour p; its table of p + 1 to p + 9; its log of p + 10. -/
def VaultC (w : World) (g : Nat → Nat) (p v t b : Nat) (V : Vt) : Prop :=
  V.Ok ∧ LocC w g p v 64 [.pointer (some ⟨t, 0, none⟩), .pointer (some ⟨b, 0, none⟩)] ∧ TableAt w g (p + 1) t V.tab ∧ LogAt w g (p + 10) b V.log

def VaultAt (w : World) (g : Nat → Nat) (p v : Nat) (V : Vt) : Prop := ∃ t b, VaultC w g p v t b V

section
variable {lo hi : Nat} {w w' : World} {g g' : Nat → Nat} {p v t b : Nat} {V : Vt}
theorem VaultC.frame (h : VaultC w g p v t b V) (k : Evo lo hi g g' w w') (hc : p + 11 ≤ lo ∨ hi ≤ p) : VaultC w' g' p v t b V := ⟨h.1, h.2.1.frame k (by omega), h.2.2.1.frame k (by omega), h.2.2.2.frame k (by omega)⟩
theorem VaultAt.frame (h : VaultAt w g p v V) (k : Evo lo hi g g' w w') (hc : p + 11 ≤ lo ∨ hi ≤ p) : VaultAt w' g' p v V := by
  obtain ⟨t, b, h⟩ := h
  exact ⟨t, b, h.frame k hc⟩
theorem VaultC.below (h : VaultC w g p v t b V) (k : Below w.heap.size w w') : VaultC w' g p v t b V := ⟨h.1, h.2.1.below k, h.2.2.1.below k, h.2.2.2.below k⟩
theorem VaultAt.below (h : VaultAt w g p v V) (k : Below w.heap.size w w') : VaultAt w' g p v V := by
  obtain ⟨t, b, h⟩ := h
  exact ⟨t, b, h.below k⟩
theorem VaultC.cells (h : VaultC w g p v t b V) : w.cell? ⟨v, 0, none⟩ = some (.pointer (some ⟨t, 0, none⟩)) ∧ w.cell? ⟨v, 1, none⟩ = some (.pointer (some ⟨b, 0, none⟩)) ∧ w.frozen? ⟨v, 0, none⟩ = false ∧ v < w.heap.size := by
  obtain ⟨c0, c1, f0, f1⟩ := h.2.1.1.two
  exact ⟨c0, c1, f0, h.2.1.1.lt⟩
end

theorem ChainAt.recolor {w : World} {g g' : Nat → Nat} {p p' c : Nat} {l : List Ent} (h : ChainAt w g p c l) (hg : ∀ k, g k = p → g' k = p') : ChainAt w g' p' c l := by
  obtain ⟨r, cap, h1, h2, h3, h4, h5⟩ := h
  exact ⟨r, cap, h1, h2, hg _ h3, hg _ h4, h5⟩

theorem TableAt.recolor {w : World} {g g' : Nat → Nat} {p p' t : Nat} {T : Tab} (h : TableAt w g p t T) (hg : ∀ k j, j < 9 → g k = p + j → g' k = p' + j) : TableAt w g' p' t T := by
  obtain ⟨h0, c, h1, h2⟩ := h
  refine ⟨h0, c, ⟨h1.1, hg _ 0 (by omega) h1.2⟩, fun j hj => (h2 j hj).recolor (fun k hk => ?_)⟩
  have := hg k (j + 1) (by omega) (by omega)
  omega

theorem vault_New (g : Nat → Nat) (p : Nat) (w : World) : Calls Tryz.prog 13 #[] w fun e w' => ∃ v g', e = .returned (.pointer (some ⟨v, 0, none⟩)) ∧ Evo 0 0 g g' w w' ∧ w.heap.size ≤ v ∧ VaultAt w' g' p v Vt.new := by
  go_enter Tryz.func13, Tryz.ntmps13
  go_wp2_with fail
  refine (table_New g (p + 1) w).mono ?_
  rintro e w1 ⟨t, g1, rfl, hE1, -, hT1⟩
  have E1 := hid hE1
  have T1 := hid hT1
  clear hE1 hT1
  go_wp2_with fail
  refine (log_New g1 (p + 10) w1).mono ?_
  rintro e w2 ⟨b, rfl, hb, -, hL⟩
  have hE2 := Evo.of_below (lo := 0) (hi := 0) g1 (p + 10) hb
  have E2 := hid (E1.out.trans hE2)
  have T2 := hid (T1.out.frame hE2 (by omega))
  have L2 := hid hL
  generalize extc g1 w1 (p + 10) = g2 at *
  clear hb hL hE2 E1 T1
  go_wp2
  go_ret
  have hE3 := Evo.alloc g2 p w2 (.cells #[.pointer (some ⟨t, 0, none⟩), .pointer (some ⟨b, 0, none⟩)] 64)
  exact ⟨w2.heap.size, extc g2 w2 p, rfl, E2.out.trans hE3, E2.out.size, t, b, Vt.new_ok, LocC.new g2 p w2 _ _, T2.out.frame hE3 (by omega), L2.out.frame hE3 (by omega)⟩

def BeginPost (g : Nat → Nat) (q : Nat) (x : Option Ded × Int) (w : World) (e : Ending) (w' : World) : Prop :=
  Below w.heap.size w w' ∧ match x.1 with
    | none => e = .returned (.tuple #[.pointer none, .int .i64 x.2])
    | some D => ∃ d, e = .returned (.tuple #[.pointer (some ⟨d, 0, none⟩), .int .i64 x.2]) ∧ w.heap.size ≤ d ∧ DeedAt w' (extc g w q) q d D

set_option maxHeartbeats 2000000 in
set_option maxRecDepth 100000 in
theorem vault_Begin (g : Nat → Nat) (p v : Nat) (V : Vt) (q : Nat) (mode at_ : Int) (w : World) (hV : VaultAt w g p v V) :
    Calls Tryz.prog 92 #[.pointer (some ⟨v, 0, none⟩), .int .i64 mode, .int .i64 at_] w (BeginPost g q (beginV V.tab mode at_) w) := by
  obtain ⟨t, b, hC⟩ := hV
  obtain ⟨c0, c1, f0, hlt⟩ := hC.cells
  have HT := hid hC.2.2.1
  have HLs := hid (fun W (h : Below w.heap.size w W) => table_Last g (p + 1) t V.tab W (hC.2.2.1.below h))
  have HFs := hid (fun W (h : Below w.heap.size w W) => table_First g (p + 1) t V.tab W (hC.2.2.1.below h))
  have KS := hid (fun W (h : Below w.heap.size w W) => (hC.below h).cells.1)
  generalize hT : V.tab = T at *
  clear hC hT
  by_cases hm : mode < 1 ∨ 3 < mode
  · have e1 : beginV T mode at_ = (none, 3) := by unfold beginV; rw [if_pos hm]
    rw [e1]
    have hm3 : (mode != 3) = true := by simp; omega
    have ND := hid (fun a => deed_New_out mode a w hm)
    clear hm e1
    go_enter Tryz.func92, Tryz.ntmps92
    go_wp2_with fail
    refine (HLs.out w (Below.refl _ _)).mono ?_
    rintro e w1 ⟨rfl, rfl⟩
    go_wp2_with fail
    refine (ND.out _).mono ?_
    rintro e w1 ⟨rfl, rfl⟩
    go_wp2
    go_ret2
    exact ⟨Below.refl _ _, rfl⟩
  · have hin : 1 ≤ mode ∧ mode ≤ 3 := by omega
    by_cases h3 : mode = 3
    · subst h3
      have ND := hid (deed_New_in g q 3 at_ w hin)
      have e1 : beginV T 3 at_ = if at_ < 0 ∨ (T.last : Int) < at_ then (none, 1) else if at_ < firstT T then (none, 12) else (some (Ded.new 3 at_), 0) := by unfold beginV; rw [if_neg hm]; simp only [if_true]
      generalize beginV T 3 at_ = x at *
      have EX := hid e1
      clear e1 hm hin
      go_enter Tryz.func92, Tryz.ntmps92
      go_wp2_with fail
      refine ND.out.mono ?_
      rintro e w1 ⟨d, rfl, hb, hd, hD⟩
      have HB := hid hb
      have HD := hid hD
      have k0 := KS.out w1 hb
      have HL1 := hid (HLs.out w1 hb)
      have HF1 := hid (HFs.out w1 hb)
      clear hb hD ND
      by_cases h0 : at_ < 0
      · have X := hid (EX.out.trans (if_pos (.inl h0)))
        go_wp2
        go_ret2
        rw [X.out]
        exact ⟨HB.out, rfl⟩
      · have h0' : ¬ at_ < 0 := h0
        go_wp2_with fail
        refine HL1.out.mono ?_
        rintro e w2 ⟨rfl, rfl⟩
        by_cases h1 : (T.last : Int) < at_
        · have X := hid (EX.out.trans (if_pos (.inr h1)))
          go_wp2
          go_ret2
          rw [X.out]
          exact ⟨HB.out, rfl⟩
        · have EX2 := hid (EX.out.trans (if_neg (by omega)))
          have h1' : at_ ≤ (T.last : Int) := by omega
          go_wp2_with fail
          refine HF1.out.mono ?_
          rintro e w2 ⟨rfl, hb⟩
          have HB2 := hid (HB.out.trans (hb.mono HB.out.size))
          have HD2 := hid (HD.out.below hb)
          clear hb HF1 HL1
          by_cases h2 : at_ < firstT T
          · have X := hid (EX2.out.trans (if_pos h2))
            clear EX EX2
            generalize firstT T = fs at *
            go_wp2
            go_ret2
            rw [X.out]
            exact ⟨HB2.out, rfl⟩
          · have X := hid (EX2.out.trans (if_neg h2))
            clear EX EX2
            have h2' : firstT T ≤ at_ := by omega
            generalize firstT T = fs at *
            go_wp2
            go_ret2
            rw [X.out]
            exact ⟨HB2.out, d, rfl, hd, HD2.out⟩
    · have hm3 : (mode != 3) = true := by simpa using h3
      have ND := hid (deed_New_in g q mode T.last w hin)
      have e1 : beginV T mode at_ = if (T.last : Int) < firstT T then (none, 12) else (some (Ded.new mode T.last), 0) := by unfold beginV; rw [if_neg hm]; simp only [if_neg h3]; rw [if_neg (by omega)]
      generalize beginV T mode at_ = x at *
      have EX := hid e1
      clear e1 hm hin h3
      have hl0 : ¬ (T.last : Int) < 0 := by omega
      go_enter Tryz.func92, Tryz.ntmps92
      go_wp2_with fail
      refine (HLs.out w (Below.refl _ _)).mono ?_
      rintro e w1 ⟨rfl, rfl⟩
      go_wp2_with fail
      refine ND.out.mono ?_
      rintro e w1 ⟨d, rfl, hb, hd, hD⟩
      have HB := hid hb
      have HD := hid hD
      have k0 := KS.out w1 hb
      have HL1 := hid (HLs.out w1 hb)
      have HF1 := hid (HFs.out w1 hb)
      clear hb hD ND
      go_wp2_with fail
      refine HL1.out.mono ?_
      rintro e w2 ⟨rfl, rfl⟩
      go_wp2_with fail
      refine HF1.out.mono ?_
      rintro e w2 ⟨rfl, hb⟩
      have HB2 := hid (HB.out.trans (hb.mono HB.out.size))
      have HD2 := hid (HD.out.below hb)
      clear hb HF1 HL1
      by_cases h2 : (T.last : Int) < firstT T
      · have X := hid (EX.out.trans (if_pos h2))
        clear EX
        generalize firstT T = fs at *
        go_wp2
        go_ret2
        rw [X.out]
        exact ⟨HB2.out, rfl⟩
      · have X := hid (EX.out.trans (if_neg h2))
        clear EX
        have h2' : firstT T ≤ (T.last : Int) := by omega
        generalize firstT T = fs at *
        go_wp2
        go_ret2
        rw [X.out]
        exact ⟨HB2.out, d, rfl, hd, HD2.out⟩

end Go.Proofs.YtoiobhcgpajogabGreatDoor
