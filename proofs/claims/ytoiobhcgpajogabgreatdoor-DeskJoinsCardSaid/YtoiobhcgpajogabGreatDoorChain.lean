/- The walks of package chain: what Key, Check, New, Put, Last, First, Read, Clear and List of a chain compute, on lists of versions. -/
import Derived.Test.YtoiobhcgpajogabGreatDoorProg
import Derived.Test.YtoiobhcgpajogabGreatDoorBase
import Derived.WalkSpells
import Derived.WalkLawsBesides
import Derived.Deep.QuietTactic
import Derived.BigQuiet
import Derived.Deep.RegionLaw
namespace Go.Proofs.YtoiobhcgpajogabGreatDoor
open Go.RowKit

/-! ### What is computed -/

def ckV (v : Val) : Int := if 12 < v.bytes.size then 2 else if (!v.there && !v.bytes.toList.isEmpty) then 4 else 0

def firstN (l : List Ent) : Int := (l.headD default).n
def lastN (l : List Ent) : Int := (l.getLastD default).n

def lastLe (l : List Ent) (a : Int) : Val := l.foldl (fun o v => if v.n ≤ a then v.v else o) Val.zero

def readC (l : List Ent) (a : Int) : Val × Int :=
  if a < 0 then (Val.zero, 1) else if a < firstN l then (Val.zero, 12) else (lastLe l a, 0)

/-- A chain lies at block c: of colour p its two blocks. -/
def ChainAt (w : World) (g : Nat → Nat) (p c : Nat) (l : List Ent) : Prop :=
  ∃ r cap, w.heap[c]? = some (.cells #[.slice (some ⟨r, 0, none⟩) l.length cap] 113 (0, 0)) ∧
    w.ownsRow 0 110 3 (.slice (some ⟨r, 0, none⟩) l.length cap) l.length (encEnts l) ∧ g c = p ∧ g r = p ∧ l ≠ []

theorem ChainAt.lift {w w' : World} {g g' : Nat → Nat} {p c : Nat} {l : List Ent} (h : ChainAt w g p c l) (hs : ∀ b, b < w.heap.size → g b = p → w'.heap[b]? = w.heap[b]? ∧ g' b = g b) : ChainAt w' g' p c l := by
  obtain ⟨r, cap, h1, h2, h3, h4, h5⟩ := h
  have hr := (h2.lt r rfl).2
  refine ⟨r, cap, ?_, ownsRow.lift h2 ?_, ?_, ?_, h5⟩
  · rw [(hs c (lt_of_block h1) h3).1]; exact h1
  · intro k hk; cases hk; exact (hs r hr h4).1
  · rw [(hs c (lt_of_block h1) h3).2]; exact h3
  · rw [(hs r hr h4).2]; exact h4

theorem ChainAt.frame {lo hi : Nat} {g g' : Nat → Nat} {w w' : World} {p c : Nat} {l : List Ent} (h : ChainAt w g p c l) (k : Evo lo hi g g' w w') (hc : p < lo ∨ hi ≤ p) : ChainAt w' g' p c l :=
  h.lift fun b hb hp => ⟨k.same b hb (by omega), k.col b hb⟩

theorem ChainAt.below {w w' : World} {g : Nat → Nat} {p c : Nat} {l : List Ent} (h : ChainAt w g p c l) (k : Below w.heap.size w w') : ChainAt w' g p c l :=
  h.lift fun b hb _ => ⟨k.block b hb, rfl⟩

theorem ChainAt.alloc {w : World} {g : Nat → Nat} {p c : Nat} {l : List Ent} (h : ChainAt w g p c l) (o : Obj) : ChainAt (w.alloc o) g p c l :=
  h.below ((Below.refl _ _).alloc (Nat.le_refl _) _)

theorem ChainAt.drew {w : World} {g : Nat → Nat} {p c : Nat} {l : List Ent} (h : ChainAt w g p c l) : ChainAt w.drew g p c l := h

/-- What the walk wants of it. -/
theorem ChainAt.facts {w : World} {g : Nat → Nat} {p c : Nat} {l : List Ent} (h : ChainAt w g p c l) :
    ∃ r cap, w.cell? ⟨c, 0, none⟩ = some (.slice (some ⟨r, 0, none⟩) l.length cap) ∧ w.frozen? ⟨c, 0, none⟩ = false ∧ c < w.heap.size ∧ r < w.heap.size ∧ r ≠ c ∧ 0 < l.length ∧ l.length ≤ cap ∧
      (∀ i (hi : i < l.length), w.cell? ⟨r, i * 3, none⟩ = some (.int .i64 l[i].n) ∧ w.cell? ⟨r, i * 3 + 1, none⟩ = some (.bool l[i].v.there) ∧ w.cell? ⟨r, i * 3 + 2, none⟩ = some (.string l[i].v.bytes)) ∧
      w.heap[c]? = some (.cells #[.slice (some ⟨r, 0, none⟩) l.length cap] 113 (0, 0)) ∧
      w.ownsRow 0 110 3 (.slice (some ⟨r, 0, none⟩) l.length cap) l.length (encEnts l) ∧ g c = p ∧ g r = p := by
  obtain ⟨r, cap, h1, h2, h3, h4, h5⟩ := h
  have hr := (h2.lt r rfl).2
  have hne : r ≠ c := by
    rintro rfl
    rcases h2.2 with ⟨h, _⟩ | ⟨g', cap', cur, h, _, hg, _⟩
    · cases h
    · cases h; rw [h1] at hg; simp at hg
  have hcap : l.length ≤ cap := by
    rcases h2.2 with ⟨h, _⟩ | ⟨g', cap', cur, h, _, hg, hn, _⟩
    · cases h
    · cases h; exact hn
  refine ⟨r, cap, cell_of_one h1, free_of_one h1, lt_of_block h1, hr, hne, List.length_pos_iff.2 h5, hcap, fun i hi => ?_, h1, h2, h3, h4⟩
  have hg := encEnts_get l i hi
  exact ⟨by rw [h2.cellAt _ (by omega)]; exact hg.1, by rw [h2.cellAt _ (by omega)]; exact hg.2.1, by rw [h2.cellAt _ (by omega)]; exact hg.2.2⟩

theorem firstN_get (l : List Ent) (h : 0 < l.length) : l[0].n = firstN l := by
  cases l with
  | nil => simp at h
  | cons e l => rfl

theorem lastN_get (l : List Ent) (h : 0 < l.length) : l[l.length - 1].n = lastN l := by
  unfold lastN
  rw [List.getLastD_eq_getLast?, List.getLast?_eq_getElem?]
  rw [List.getElem?_eq_getElem (by omega)]
  rfl

/-! ### The walks -/

theorem chain_Key (k : Int) (w : World) :
    Calls Tryz.prog 111 #[.int .i64 k] w fun e w' => e = .returned (.bool (decide (0 ≤ k) && decide (k < 8))) ∧ w = w' := by
  by_cases h : 0 ≤ k
  · go_enter Tryz.func111, Tryz.ntmps111
    go_wp2
    go_ret
    exact ⟨by simp [h], rfl⟩
  · have h' : decide (0 ≤ k) = false := by simpa using h
    go_enter Tryz.func111, Tryz.ntmps111
    go_wp2
    go_ret
    exact ⟨rfl, rfl⟩

def ValPost (x : Int) (w : World) (e : Ending) (w' : World) : Prop := e = .returned (.int .i64 x) ∧ Below w.heap.size w w'

theorem chain_Check (t : Bool) (s : ByteArray) (w : World) (hs : s.size ≤ maxLen) :
    Calls Tryz.prog 113 #[.agg #[.bool t, .string s]] w (ValPost (ckV ⟨t, s⟩) w) := by
  unfold maxLen at hs
  have fin : ∀ x, x = ckV ⟨t, s⟩ → ∀ w' : World, Below w.heap.size w w' → ValPost (ckV ⟨t, s⟩) w (.returned (.int .i64 x)) w' := fun x hx w' hb => ⟨by rw [hx], hb⟩
  have F := hid fin
  clear fin
  by_cases h1 : 12 < s.size
  · go_enter Tryz.func113, Tryz.ntmps113
    go_wp2
    go_ret
    exact F.out _ (by simp [ckV, h1]) _ ((Below.refl _ _).alloc (Nat.le_refl _) _)
  · have h1' : s.size ≤ 12 := by omega
    cases t
    · cases h2 : s.toList.isEmpty
      all_goals
        go_enter Tryz.func113, Tryz.ntmps113
        go_wp2
        go_ret
        exact F.out _ (by simp [ckV, h1, h2]) _ ((Below.refl _ _).alloc (Nat.le_refl _) _)
    · go_enter Tryz.func113, Tryz.ntmps113
      go_wp2
      go_ret
      exact F.out _ (by simp [ckV, h1]) _ ((Below.refl _ _).alloc (Nat.le_refl _) _)

theorem chain_First (g : Nat → Nat) (p c : Nat) (l : List Ent) (w : World) (hC : ChainAt w g p c l) :
    Calls Tryz.prog 49 #[.pointer (some ⟨c, 0, none⟩)] w fun e w' => e = .returned (.int .i64 (firstN l)) ∧ w = w' := by
  obtain ⟨r, cap, h0, -, -, -, -, hl, -, hv, -⟩ := hC.facts
  have g1 := (hv 0 hl).1
  rw [firstN_get l hl] at g1
  simp only [Nat.zero_mul] at g1
  clear hv
  have hl' : (0 : Int) < (l.length : Int) := by omega
  go_enter Tryz.func49, Tryz.ntmps49
  go_wp2
  go_ret
  exact ⟨rfl, rfl⟩

theorem chain_Last (g : Nat → Nat) (p c : Nat) (l : List Ent) (w : World) (hC : ChainAt w g p c l) (hn : l.length ≤ 1000000) :
    Calls Tryz.prog 134 #[.pointer (some ⟨c, 0, none⟩)] w (ValPost (lastN l) w) := by
  obtain ⟨r, cap, h0, -, -, -, -, hl, -, hv, -⟩ := hC.facts
  have g1 := (hv (l.length - 1) (by omega)).1
  rw [lastN_get l hl] at g1
  obtain ⟨n, hn'⟩ : ∃ n, l.length = n + 1 := ⟨l.length - 1, by omega⟩
  rw [hn'] at g1 h0 hn
  simp only [Nat.add_sub_cancel] at g1
  clear hv hn' hl
  go_enter Tryz.func134, Tryz.ntmps134
  go_wp2
  go_quiet (fail)
  go_wp2
  go_ret
  exact ⟨rfl, below_drewN _ _⟩

def putC (l : List Ent) (a : Int) (v : Val) : Int × List Ent :=
  if ckV v ≠ 0 then (ckV v, l) else if a ≤ lastN l then (5, l) else (0, l ++ [⟨a, v⟩])

def PutPost (g : Nat → Nat) (p c : Nat) (x : Int × List Ent) (w : World) (e : Ending) (w' : World) : Prop :=
  e = .returned (.int .i64 x.1) ∧ ∃ g', ChainAt w' g' p c x.2 ∧ Evo p (p + 1) g g' w w'

theorem put_same {g : Nat → Nat} {p c : Nat} {x : Int × List Ent} {w w' : World} (hC : ChainAt w g p c x.2) (hb : Below w.heap.size w w') : PutPost g p c x w (.returned (.int .i64 x.1)) w' :=
  ⟨rfl, extc g w p, hC.frame (Evo.of_below (lo := 0) (hi := 0) g p hb) (by omega), Evo.of_below g p hb⟩

theorem put_more {g : Nat → Nat} {p c r cap b' cap' : Nat} {l : List Ent} {e : Ent} {w w3 w4 : World} (hc : w.heap[c]? = some (.cells #[.slice (some ⟨r, 0, none⟩) l.length cap] 113 (0, 0)))
    (hown : w.ownsRow 0 110 3 (.slice (some ⟨r, 0, none⟩) l.length cap) l.length (encEnts l)) (gc : g c = p) (gr : g r = p) (hrc : r ≠ c)
    (hb : Below w.heap.size w w3) (hown' : w4.ownsRow 0 110 3 (.slice (some ⟨b', 0, none⟩) (l.length + 1) cap') (l.length + 1) (encEnts l ++ encEnt e)) (hg : w3.grownBy w4 (some r)) (hbr : b' = r ∨ w3.heap.size ≤ b') :
    ∃ g', ChainAt (w4.setCell ⟨c, 0, none⟩ (.slice (some ⟨b', 0, none⟩) (l.length + 1) cap')) g' p c (l ++ [e]) ∧ Evo p (p + 1) g g' w (w4.setCell ⟨c, 0, none⟩ (.slice (some ⟨b', 0, none⟩) (l.length + 1) cap')) := by
  have hr := (hown.lt r rfl).2
  have hcs := lt_of_block hc
  have hc4 : w4.heap[c]? = some (.cells #[.slice (some ⟨r, 0, none⟩) l.length cap] 113 (0, 0)) := by
    rw [hg.block c (Nat.lt_of_lt_of_le hcs hb.size) (by simpa using fun e => hrc e.symm), hb.block c hcs]; exact hc
  have hbc : b' ≠ c := by
    rintro rfl
    rcases hown'.2 with ⟨h, _⟩ | ⟨g', cap'', cur, h, _, hg', _⟩
    · cases h
    · cases h; rw [hc4] at hg'; simp at hg'
  refine ⟨fun b => if b = c ∨ b = b' then p else extc g w p b, ⟨b', cap', ?_, ?_, ?_, ?_, by simp⟩, ⟨?_, ?_, ?_, ?_, ?_, ?_⟩⟩
  · rw [one_setCell hc4]; simp
  · have := ownsRow_setCell_other hown' (a := ⟨c, 0, none⟩) (by simpa [Value.ownBlock] using hbc) (.slice (some ⟨b', 0, none⟩) (l.length + 1) cap')
    simpa [encEnts_append, encEnts] using this
  · simp
  · simp
  · exact hg.os.trans hb.os
  · exact hg.tape.trans hb.tape
  · exact hg.output.trans hb.output
  · simpa using Nat.le_trans hb.size hg.size
  · intro b hbs
    rcases Classical.em (b = c ∨ b = b') with h | h
    · simp only [if_pos h]
      rcases h with rfl | rfl
      · exact gc.symm
      · by_cases e : b = r
        · rw [e]; exact gr.symm
        · exfalso
          have := hb.size
          omega
    · simp only [if_neg h]; exact extc_old hbs
  · intro b hbs hn
    rw [Below.heap_setCell _ _ _ _ (by rintro rfl; exact hn ⟨by simp [gc], by simp [gc]⟩), hg.block b (Nat.lt_of_lt_of_le hbs hb.size) (by rintro ⟨rfl⟩; omega), hb.block b hbs]

theorem Tryz.infoVer : (Tryz.prog.info? 110).map (fun i => (i.zero, i.size, i.bytes)) = some (some (.agg #[.int .i64 0, .bool false, .string ByteArray.empty]), 3, 32) := by kernel_rfl

end Go.Proofs.YtoiobhcgpajogabGreatDoor
/- The walk of Put of a chain. -/
namespace Go.Proofs.YtoiobhcgpajogabGreatDoor
open Go.RowKit

set_option maxHeartbeats 1000000 in
set_option maxRecDepth 100000 in
theorem chain_Put (g : Nat → Nat) (p c : Nat) (l : List Ent) (w : World) (a : Int) (t : Bool) (s : ByteArray) (hs : s.size ≤ maxLen) (hn : l.length ≤ 1000000) (hC : ChainAt w g p c l) :
    Calls Tryz.prog 127 #[.pointer (some ⟨c, 0, none⟩), .int .i64 a, .agg #[.bool t, .string s]] w (PutPost g p c (putC l a ⟨t, s⟩) w) := by
  have K := chain_Check t s (w.alloc (.cells #[.bool t, .string s] 84)) hs
  by_cases h1 : ckV ⟨t, s⟩ = 0
  case neg =>
    have e1 : putC l a ⟨t, s⟩ = (ckV ⟨t, s⟩, l) := by simp [putC, h1]
    rw [e1]
    have h1' : ((ckV ⟨t, s⟩ : Int) == 0) = false := by simpa using h1
    generalize ckV ⟨t, s⟩ = z at *
    have K' := hid K
    clear K h1
    go_enter Tryz.func127, Tryz.ntmps127
    go_wp2_with fail
    refine K'.out.mono ?_
    rintro e w1 ⟨rfl, hb1⟩
    go_wp2_with fail
    go_ret
    exact put_same hC (((Below.refl _ _).alloc (Nat.le_refl _) _).trans (hb1.mono (by simp)))
  case pos =>
    rw [h1] at K
    have K' := hid K
    clear K
    by_cases h2 : a ≤ lastN l
    · have e1 : putC l a ⟨t, s⟩ = (5, l) := by simp [putC, h1, h2]
      rw [e1]
      clear h1
      go_enter Tryz.func127, Tryz.ntmps127
      go_wp2_with fail
      refine K'.out.mono ?_
      rintro e w1 ⟨rfl, hb1⟩
      go_wp2_with fail
      refine (chain_Last g p c l _ ((hC.alloc _).below hb1) hn).mono ?_
      rintro e w2 ⟨rfl, hb2⟩
      go_wp2_with fail
      go_ret
      exact put_same hC ((((Below.refl _ _).alloc (Nat.le_refl _) _).trans (hb1.mono (by simp))).trans (hb2.mono (by have := hb1.size; simp at this; omega)))
    · have e1 : putC l a ⟨t, s⟩ = (0, l ++ [⟨a, ⟨t, s⟩⟩]) := by simp [putC, h1, h2]
      rw [e1]
      clear h1
      have c0 : w.alloc (.cells #[.bool t, .string s] 84) = w.alloc (.cells #[.bool t, .string s] 84) := rfl
      obtain ⟨i0, hi, hz0, hz1, hz2⟩ := info_parts Tryz.infoVer
      go_enter Tryz.func127, Tryz.ntmps127
      go_wp2_with fail
      refine K'.out.mono ?_
      rintro e w1 ⟨rfl, hb1⟩
      go_wp2_with fail
      refine (chain_Last g p c l _ ((hC.alloc _).below hb1) hn).mono ?_
      rintro e w2 ⟨rfl, hb2⟩
      clear K'
      have hb : Below (w.heap.size + 1) (w.alloc (.cells #[.bool t, .string s] 84)) w2 := (hb1.mono (by simp)).trans (hb2.mono (by have := hb1.size; simp at this; omega))
      clear hb1 hb2
      have hsz := hb.size
      simp only [World.size_alloc] at hsz
      have b0 := (hb.cell (p := ⟨w.heap.size, 0, none⟩) (by simp)).trans (World.cell?_alloc_new w _ _ 0)
      have b1 := (hb.cell (p := ⟨w.heap.size, 1, none⟩) (by simp)).trans (World.cell?_alloc_new w _ _ 1)
      simp at b0 b1
      have hb' : Below w.heap.size w w2 := ((Below.refl _ _).alloc (Nat.le_refl _) _).trans (hb.mono (by omega))
      clear hb
      obtain ⟨r, cap, f1, f2, f3, f4, f5, f6, f7, -, f8, f9, f10, f11⟩ := hC.facts
      have m1 := (hb'.cell (p := ⟨c, 0, none⟩) f3).trans f1
      have m2 := (hb'.frozen (p := ⟨c, 0, none⟩) f3).trans f2
      have m3 : c < w2.heap.size := by omega
      have F9 := hid (ownsRow.lift f9 (w' := w2) (fun x hx => by cases hx; exact hb'.block _ f4))
      have F8' := hid f8
      have F9' := hid f9
      have G1 := hid f10
      have G2 := hid f11
      have HB := hid hb'
      clear f1 f2 f8 f9 f10 f11 hC hb'
      have l1 : l.length + 1 ≤ maxLen := by unfold maxLen; omega
      have l2 : (l.length + 1) * 32 ≤ 140737488355328 := by omega
      go_wp2_with fail
      go_region_law ((refine step_append2 rfl (.tmp 21) (.tmp 25) 111 rfl 110 i0 _ 3 32 Tryz.underlying111 hi hz0 hz1 hz2 rfl (by decide) (.slice (some ⟨r, 0, none⟩) l.length cap) l.length (encEnts l) rfl (F9.out.drew.alloc _) ⟨w2.heap.size, 0, none⟩ 1 1 (encEnt ⟨a, ⟨t, s⟩⟩) rfl rfl (cells_new _ _ _) (encEnt_one _) l1 l2 ?_; intro v' w4 ho hg hf; obtain ⟨b', cap2, rfl, -, -⟩ := ownsRow.some ho (Nat.succ_pos _); have kk := grownBy.keep hg (c := c) (by simpa [Value.ownBlock] using f5.symm) (by simp; omega); have n1 := (kk.1 0).trans ((World.cell?_alloc_past _ _ _ m3).trans m1); have n2 := (kk.2 0).trans ((World.frozen?_alloc_past _ _ _ m3).trans m2); clear kk))
      all_goals
        go_wp2
        go_ret
        exact ⟨rfl, put_more F8'.out F9'.out G1.out G2.out f5 (HB.out.drew.alloc (by simp; omega) _) ho hg (by rcases hf with hf | hf; exact .inl (by simpa [Value.ownBlock] using hf); exact .inr (hf _ rfl))⟩

end Go.Proofs.YtoiobhcgpajogabGreatDoor
/- The walks of New, Read, Clear and List of a chain. -/
namespace Go.Proofs.YtoiobhcgpajogabGreatDoor
open Go.RowKit

def NewPost (g : Nat → Nat) (p : Nat) (w : World) (e : Ending) (w' : World) : Prop :=
  ∃ c, e = .returned (.pointer (some ⟨c, 0, none⟩)) ∧ Below w.heap.size w w' ∧ w.heap.size ≤ c ∧ c < w'.heap.size ∧ ChainAt w' (extc g w p) p c [⟨0, Val.zero⟩]

theorem chain_New (g : Nat → Nat) (p : Nat) (w : World) : Calls Tryz.prog 51 #[] w (NewPost g p w) := by
  go_enter Tryz.func51, Tryz.ntmps51
  go_wp2
  go_ret
  refine ⟨w.heap.size + 1, rfl, (((Below.refl _ _).alloc (Nat.le_refl _) _).alloc (by simp) _), by simp, by simp, w.heap.size, 1, ?_, ?_, ?_, ?_, by simp⟩
  · rw [heap_alloc2_new]; rfl
  · exact (World.ownsRow_lit (size := 3) w _ 1 (Nat.zero_le _) (by simp [maxLen]) rfl).alloc _
  · exact extc_new (by simp)
  · exact extc_new (by simp)

def ReadPost (x : Val × Int) (w : World) (e : Ending) (w' : World) : Prop :=
  e = .returned (.tuple #[.agg #[.bool x.1.there, .string x.1.bytes], .int .i64 x.2]) ∧ Below w.heap.size w w'

theorem lastLe_snoc (l : List Ent) (e : Ent) (a : Int) : lastLe (l ++ [e]) a = if e.n ≤ a then e.v else lastLe l a := by
  simp [lastLe]

set_option maxHeartbeats 1000000 in
set_option maxRecDepth 100000 in
theorem chain_Read (g : Nat → Nat) (p c : Nat) (l : List Ent) (w : World) (a : Int) (hn : l.length ≤ 1000000) (hC : ChainAt w g p c l) :
    Calls Tryz.prog 128 #[.pointer (some ⟨c, 0, none⟩), .int .i64 a] w (ReadPost (readC l a) w) := by
  by_cases h0 : a < 0
  · have e1 : readC l a = (Val.zero, 1) := by simp [readC, h0]
    rw [e1]
    go_enter Tryz.func128, Tryz.ntmps128
    go_wp2
    refine bodyPost_ret (v := .tuple #[.agg #[.bool false, .string ByteArray.empty], .int .i64 1]) (by simp [results, Tryz.results128, go_sem]; rfl) rfl ⟨rfl, ?_⟩
    exact (Below.refl _ _).alloc (Nat.le_refl _) _
  · by_cases h1 : a < firstN l
    · have e1 : readC l a = (Val.zero, 12) := by simp [readC, h0, h1]
      rw [e1]
      go_enter Tryz.func128, Tryz.ntmps128
      go_wp2_with fail
      refine (chain_First g p c l _ (hC.alloc _)).mono ?_
      rintro e w1 ⟨rfl, rfl⟩
      go_wp2_with fail
      refine bodyPost_ret (v := .tuple #[.agg #[.bool false, .string ByteArray.empty], .int .i64 12]) (by simp [results, Tryz.results128, go_sem]; rfl) rfl ⟨rfl, ?_⟩
      exact (Below.refl _ _).alloc (Nat.le_refl _) _
    · have e1 : readC l a = (lastLe l a, 0) := by simp [readC, h0, h1]
      rw [e1]
      clear e1
      have h1' : firstN l ≤ a := by omega
      obtain ⟨r, cap, f1, f2, f3, f4, f5, f6, f7, f8, -, -, -, -⟩ := hC.facts
      have F8 := hid f8
      clear f8
      go_enter Tryz.func128, Tryz.ntmps128
      go_wp2_with fail
      refine (chain_First g p c l _ (hC.alloc _)).mono ?_
      rintro e w1 ⟨rfl, rfl⟩
      clear hC
      go_wp2_with fail
      go_loopw [23] (fun i wr => ∃ k : Nat, k ≤ l.length ∧ i = .int .i64 k ∧ Loc wr w.heap.size 84 [.bool false, .string ByteArray.empty] ∧
          Loc wr (w.heap.size + 1) 84 [.bool (lastLe (l.take k) a).there, .string (lastLe (l.take k) a).bytes] ∧ Below w.heap.size w wr) (fun i _ => l.length - (intOf i).toNat)
      case atStart =>
        refine ⟨0, Nat.zero_le _, rfl, (Loc.new w _ [.bool false, .string ByteArray.empty]).alloc _, ?_, (((Below.refl _ _).alloc (Nat.le_refl _) _).alloc (by simp) _)⟩
        exact Loc.at (w.alloc (.cells #[.bool false, .string ByteArray.empty] 84)) 84 [.bool false, .string ByteArray.empty] (by simp)
      case round =>
        obtain ⟨k, hk, rfl, L0, L1, hb⟩ := hrel
        have q9 := L0.lt
        have q10 := L1.lt
        by_cases hlt : k < l.length
        · have g1 := (hb.cell (p := ⟨r, k * 3, none⟩) f4).trans (F8.out k hlt).1
          have g2 := (hb.cell (p := ⟨r, k * 3 + 1, none⟩) f4).trans (F8.out k hlt).2.1
          have g3 := (hb.cell (p := ⟨r, k * 3 + 2, none⟩) f4).trans (F8.out k hlt).2.2
          have hst : lastLe (l.take (k + 1)) a = if l[k].n ≤ a then l[k].v else lastLe (l.take k) a := by
            rw [List.take_succ_eq_append_getElem hlt, lastLe_snoc]
          obtain ⟨q5, q6, q7, q8⟩ := L1.two
          have H0 := hid L0
          have H1 := hid L1
          have HB := hid hb
          have HS := hid hst
          clear hb hst L0 L1
          by_cases hle : l[k].n ≤ a
          · rw [if_pos hle] at HS
            generalize l[k] = e at *
            go_wp2
            go_roundw
            case rel =>
              refine ⟨k + 1, by omega, by go_num, ((H0.out.other (by simp) _).other (by simp) _).alloc _, ?_, ((HB.out.setCell (by simp) _).setCell (by simp) _).alloc (by simp; omega) _⟩
              rw [HS.out]
              exact ((H1.out.set 0 _).set 1 _).alloc _
            case measure => simp [intOf]; omega
          · rw [if_neg hle] at HS
            generalize l[k] = e at *
            go_wp2
            go_roundw
            case rel =>
              refine ⟨k + 1, by omega, by go_num, H0.out.alloc _, ?_, HB.out.alloc (by omega) _⟩
              rw [HS.out]
              exact H1.out.alloc _
            case measure => simp [intOf]; omega
        · obtain rfl : k = l.length := by omega
          rw [List.take_length] at L1
          obtain ⟨q1, q2, q3, q4⟩ := L0.two
          obtain ⟨q5, q6, q7, q8⟩ := L1.two
          have HB := hid hb
          clear L0 L1 hb
          go_wp2
          refine bodyPost_ret (v := .tuple #[.agg #[.bool (lastLe l a).there, .string (lastLe l a).bytes], .int .i64 0]) (by simp [results, Tryz.results128, go_sem, q1, q2]) rfl ⟨rfl, ?_⟩
          exact (HB.out.setCell (by simp) _).setCell (by simp) _

end Go.Proofs.YtoiobhcgpajogabGreatDoor
/- The walk of Clear of a chain. -/
namespace Go.Proofs.YtoiobhcgpajogabGreatDoor
open Go.RowKit

/-- How many versions go: as long as the second one is not above least. -/
def clearK (least : Int) : List Ent → Nat
  | [] => 0
  | [_] => 0
  | _ :: e :: l => if e.n ≤ least then clearK least (e :: l) + 1 else 0

theorem clearK_lt (least : Int) : ∀ l : List Ent, l ≠ [] → clearK least l < l.length
  | [], h => absurd rfl h
  | [_], _ => by simp [clearK]
  | a :: e :: l, _ => by
    have := clearK_lt least (e :: l) (by simp)
    simp only [clearK]
    split
    · simp only [List.length_cons] at *; omega
    · simp

theorem clearK_step (least : Int) : ∀ (l : List Ent) (k : Nat), k ≤ clearK least l →
    (k < clearK least l ↔ ∃ h : k + 1 < l.length, l[k + 1].n ≤ least)
  | [], k, h => by simp [clearK] at *
  | [_], k, h => by simp [clearK] at *
  | a :: e :: l, k, h => by
    have ih := clearK_step least (e :: l)
    simp only [clearK] at *
    split at h <;> rename_i he
    · simp only [he, if_true]
      cases k with
      | zero => simp [he]
      | succ k =>
        have := ih k (by omega)
        simp only [List.length_cons, List.getElem_cons_succ] at *
        constructor
        · intro hk
          obtain ⟨h1, h2⟩ := this.1 (by omega)
          exact ⟨by omega, h2⟩
        · rintro ⟨h1, h2⟩
          have := this.2 ⟨by omega, h2⟩
          omega
    · obtain rfl : k = 0 := by omega
      simp [he]

/-- The row r has, first, these cells. -/
def DelPost (r cap : Nat) (l : List Ent) (n : Nat) (w : World) (en : Ending) (w' : World) : Prop :=
  en = .returned (.slice (some ⟨r, 0, none⟩) (l.length - n) cap) ∧ w'.ownsRow 0 110 3 (.slice (some ⟨r, 0, none⟩) (l.length - n) cap) (l.length - n) (encEnts (l.drop n)) ∧
    w.heap.size = w'.heap.size ∧ w.grownBy w' (some r)

set_option maxHeartbeats 1000000 in
set_option maxRecDepth 100000 in
theorem delete_Version (r cap n : Nat) (l : List Ent) (w : World) (hn : l.length ≤ 1000000) (hlt : n < l.length) (hr : w.ownsRow 0 110 3 (.slice (some ⟨r, 0, none⟩) l.length cap) l.length (encEnts l)) :
    Calls Tryz.prog 106 #[.slice (some ⟨r, 0, none⟩) l.length cap, .int .i64 0, .int .i64 n] w (DelPost r cap l n w) := by
  obtain ⟨i0, hi, hz0, hz1, hz2⟩ := info_parts Tryz.infoVer
  by_cases h0 : n = 0
  · subst h0
    have HR := hid hr
    clear hr
    have hcap : l.length ≤ cap := by
      rcases HR.out.2 with ⟨h, _⟩ | ⟨g', cap', cur, h, _, hg, hn, _⟩
      · cases h
      · cases h; exact hn
    go_enter Tryz.func106, Tryz.ntmps106
    go_wp2
    go_ret
    exact ⟨rfl, HR.out, rfl, World.grownBy.refl _ _⟩
  · obtain ⟨cur, hcur, hnc, hcm, hcs, htk⟩ : ∃ cur : Array Value, w.heap[r]? = some (.cells cur 110 (0, 0)) ∧ l.length ≤ cap ∧ cap ≤ maxLen ∧ cur.size = cap * 3 ∧ cur.toList.take (l.length * 3) = encEnts l := by
      rcases hr.2 with ⟨h, _⟩ | ⟨g', cap', cur, h, _, hg, hn, hm, hs, ht⟩
      · cases h
      · cases h; exact ⟨cur, hg, hn, hm, hs, ht⟩
    have hnz : ((0 : Int) == (n : Int)) = false := by simp; omega
    have hne : ¬ cap = n := by omega
    have HC := hid hcur
    have HT := hid htk
    have HS := hid hcs
    have HR := hid hr
    have hd0 : (encEnts (l.drop n)).length = (l.length - n) * 3 := by rw [encEnts_length, List.length_drop]
    have hnews : ∀ j u, (encEnts (l.drop n))[j]? = some u → w.cell? ((⟨r, n * 3, none⟩ : Addr).add j) = some u := by
      intro j u hu
      have e : (⟨r, n * 3, none⟩ : Addr).add j = ⟨r, n * 3 + j, none⟩ := by unfold Addr.add; split <;> simp_all
      rw [← encEnts_drop, List.getElem?_drop] at hu
      have hj := (List.getElem?_eq_some_iff.1 hu).1
      rw [encEnts_length] at hj
      rw [e, hr.cellAt _ hj]
      exact hu
    have hle : n ≤ l.length := by omega
    have hne2 : ¬ cap = l.length - n := by omega
    have hpos : 0 < l.length - (l.length - n) := by omega
    have hle2 : l.length - n + n * 3 ≤ l.length * 3 := by omega
    have hfit : 0 * 3 + (encEnts (l.drop n)).length ≤ cur.size := by rw [hd0, hcs]; omega
    have hfit2 : (l.length - n) * 3 + (l.length - (l.length - n)) * 3 ≤ (encEnts (l.drop n) ++ cur.toList.drop (encEnts (l.drop n)).length).toArray.size := by
      simp only [List.size_toArray, List.length_append, List.length_drop, Array.length_toList, hd0, hcs]; omega
    have hroom : 0 + (l.length - n) ≤ cap := by omega
    have HD := hid hd0
    have HN := hid hnews
    have HF := hid hfit
    have HF2 := hid hfit2
    clear hr hcur htk hcs h0 hd0 hnews hfit hfit2
    have z1 : ∀ u ∈ (Value.agg #[.int .i64 0, .bool false, .string ByteArray.empty]).cells, u.oneCell' = true := by
      intro u hu; simp [Value.cells] at hu; rcases hu with rfl | rfl | rfl <;> rfl
    have Z1 := hid z1
    clear z1
    go_enter Tryz.func106, Tryz.ntmps106
    go_wp2
    go_region_law ((refine step_append_at rfl (.tmp 22) (.tmp 25) 111 rfl 110 i0 3 Tryz.underlying111 hi hz1 r 0 cap cur rfl HC.out ⟨r, n * 3, none⟩ (l.length - n) (cap - n) (encEnts (l.drop n)) rfl HD.out HN.out (encEnts_one _) hroom HF.out ?_))
    go_wp2_with (refine wpList_clear_at rfl (.tmp 31) 111 rfl 110 i0 _ 3 Tryz.underlying111 hi hz0 rfl Z1.out (by decide) r ((l.length - n) * 3) (l.length - (l.length - n)) (cap - (l.length - n)) _ rfl hpos (setRow_heap _ _ _ _ _ _ HC.out) HF2.out ?_; intro cur' e1 e2)
    go_ret
    refine ⟨rfl, ⟨HD.out, .inr ⟨r, cap, cur', rfl, Nat.zero_le _, setRow_heap _ _ _ _ _ _ (setRow_heap _ _ _ _ _ _ HC.out), by omega, hcm, ?_, ?_⟩⟩, by simp, ⟨rfl, rfl, rfl, by simp, ?_⟩⟩
    · rw [e1]
      simp only [List.size_toArray, List.length_append, List.length_drop, Array.length_toList, HD.out, HS.out]
      omega
    · rw [e2]
      rw [← HD.out]
      exact List.take_left
    · intro k hk hne
      have hkr : k ≠ r := fun e => hne (by rw [e])
      rw [setRow_other _ _ _ _ hkr, setRow_other _ _ _ _ hkr]
      rfl

end Go.Proofs.YtoiobhcgpajogabGreatDoor
/- The walk of Clear of a chain. -/
namespace Go.Proofs.YtoiobhcgpajogabGreatDoor
open Go.RowKit

theorem clear_end {g : Nat → Nat} {p c r cap n : Nat} {l : List Ent} {w w4 : World} (hc : w.heap[c]? = some (.cells #[.slice (some ⟨r, 0, none⟩) l.length cap] 113 (0, 0)))
    (gc : g c = p) (gr : g r = p) (hrc : r ≠ c) (hnl : n < l.length)
    (hown' : w4.ownsRow 0 110 3 (.slice (some ⟨r, 0, none⟩) (l.length - n) cap) (l.length - n) (encEnts (l.drop n))) (hsz : w.heap.size = w4.heap.size) (hg : w.grownBy w4 (some r)) :
    ∃ g', ChainAt (w4.setCell ⟨c, 0, none⟩ (.slice (some ⟨r, 0, none⟩) (l.length - n) cap)) g' p c (l.drop n) ∧ Evo p (p + 1) g g' w (w4.setCell ⟨c, 0, none⟩ (.slice (some ⟨r, 0, none⟩) (l.length - n) cap)) := by
  have hcs := lt_of_block hc
  have hc4 : w4.heap[c]? = some (.cells #[.slice (some ⟨r, 0, none⟩) l.length cap] 113 (0, 0)) := by
    rw [hg.block c hcs (by simpa using fun e => hrc e.symm)]; exact hc
  refine ⟨g, ⟨r, cap, ?_, ?_, gc, gr, ?_⟩, ⟨hg.os, hg.tape, hg.output, ?_, fun _ _ => rfl, ?_⟩⟩
  · rw [one_setCell hc4]; simp
  · have := ownsRow_setCell_other hown' (a := ⟨c, 0, none⟩) (by simpa [Value.ownBlock] using hrc) (.slice (some ⟨r, 0, none⟩) (l.length - n) cap)
    simpa using this
  · intro h; have := congrArg List.length h; simp at this; omega
  · simp [hsz]
  · intro b hbs hn
    rw [Below.heap_setCell _ _ _ _ (by rintro rfl; exact hn ⟨by simp [gc], by simp [gc]⟩), hg.block b hbs (by rintro ⟨rfl⟩; omega)]

set_option maxHeartbeats 1000000 in
set_option maxRecDepth 100000 in
theorem chain_Clear (g : Nat → Nat) (p c : Nat) (l : List Ent) (w : World) (least : Int) (hn : l.length ≤ 1000000) (hC : ChainAt w g p c l) :
    Calls Tryz.prog 88 #[.pointer (some ⟨c, 0, none⟩), .int .i64 least] w (PutPost g p c ((clearK least l : Nat), l.drop (clearK least l)) w) := by
  obtain ⟨r, cap, f1, f2, f3, f4, f5, f6, f7, f8, f9, f10, f11, f12⟩ := hC.facts
  have hne : l ≠ [] := by intro h; subst h; simp at f6
  have hk := clearK_lt least l hne
  have F8 := hid f8
  have F9 := hid f9
  have F10 := hid f10
  have G1 := hid f11
  have G2 := hid f12
  clear f8 f9 f10 f11 f12 hC hne
  have HK := hid (clearK_step least l)
  generalize hkk : clearK least l = K at *
  clear hkk
  go_enter Tryz.func88, Tryz.ntmps88
  go_wp2
  go_loop [5] (fun i => ∃ k : Nat, k ≤ K ∧ i = .int .i64 k) (fun i => K - (intOf i).toNat)
  case atStart => exact ⟨0, Nat.zero_le _, rfl⟩
  case round =>
    obtain ⟨k, hkk, rfl⟩ := hrel
    have hst := HK.out k hkk
    by_cases hlt : k + 1 < l.length
    · have g1 := (F8.out (k + 1) hlt).1
      by_cases hle : l[k + 1].n ≤ least
      · have hkK := hst.2 ⟨hlt, hle⟩
        clear hst
        generalize l[k + 1] = e at *
        go_wp2
        go_round
        case rel => exact ⟨k + 1, by omega, by go_num⟩
        case measure => simp [intOf]; omega
      · have hkK : ¬ k < K := fun h => by obtain ⟨_, h2⟩ := hst.1 h; exact hle h2
        clear hst
        obtain rfl : k = K := by omega
        generalize l[k + 1] = e at *
        go_wp2_with fail
        refine (delete_Version r cap k l _ hn hk F10.out).mono ?_
        rintro e' w1 ⟨rfl, h1, h2, h3⟩
        have kk := grownBy.keep h3 (c := c) (by simpa using f5.symm) f3
        have n1 := (kk.1 0).trans f1
        have n2 := (kk.2 0).trans f2
        clear kk
        go_wp2
        go_ret
        exact ⟨rfl, clear_end F9.out G1.out G2.out f5 hk h1 h2 h3⟩
    · have hkK : ¬ k < K := fun h => by obtain ⟨h1, _⟩ := hst.1 h; exact hlt h1
      clear hst
      obtain rfl : k = K := by omega
      go_wp2_with fail
      refine (delete_Version r cap k l _ hn hk F10.out).mono ?_
      rintro e' w1 ⟨rfl, h1, h2, h3⟩
      have kk := grownBy.keep h3 (c := c) (by simpa using f5.symm) f3
      have n1 := (kk.1 0).trans f1
      have n2 := (kk.2 0).trans f2
      clear kk
      go_wp2
      go_ret
      exact ⟨rfl, clear_end F9.out G1.out G2.out f5 hk h1 h2 h3⟩

end Go.Proofs.YtoiobhcgpajogabGreatDoor
