/- The walks of package chain: what Key, Check, New, Put, Last, First, Read, Clear and List of a chain compute, on lists of versions. -/
import Derived.Test.YtoiobhcgpajogabProg
import Derived.Test.YtoiobhcgpajogabBase
import Derived.WalkSpells
import Derived.WalkLawsBesides
import Derived.Deep.QuietTactic
import Derived.BigQuiet
import Derived.Deep.RegionLaw
namespace Go.Proofs.Ytoiobhcgpajogab
open Go.RowKit

/-! ### What is computed -/

def ckV (v : Val) : Int := if 12 < v.bytes.size then 2 else if (!v.there && !v.bytes.toList.isEmpty) then 4 else 0

def firstN (l : List Ent) : Int := (l.headD default).n
def lastN (l : List Ent) : Int := (l.getLastD default).n

def lastLe (l : List Ent) (a : Int) : Val := l.foldl (fun o v => if v.n ≤ a then v.v else o) Val.zero

def readC (l : List Ent) (a : Int) : Val × Int :=
  if a < 0 then (Val.zero, 1) else if a < firstN l then (Val.zero, 12) else (lastLe l a, 0)

/-- A chain lies at block c: of colour p its two blocks. -/
def ChainAt (w : World) (g : Nat → Nat) (p c : Nat) (l : List Ent) : Prop :=
  ∃ r cap, w.heap[c]? = some (.cells #[.slice (some ⟨r, 0, none⟩) l.length cap] 124 (0, 0)) ∧
    w.ownsRow 0 126 3 (.slice (some ⟨r, 0, none⟩) l.length cap) l.length (encEnts l) ∧ g c = p ∧ g r = p ∧ l ≠ []

theorem ChainAt.lift {w w' : World} {g g' : Nat → Nat} {p c : Nat} {l : List Ent} (h : ChainAt w g p c l) (hs : ∀ b, b < w.heap.size → g b = p → w'.heap[b]? = w.heap[b]? ∧ g' b = g b) : ChainAt w' g' p c l := by
  obtain ⟨r, cap, h1, h2, h3, h4, h5⟩ := h
  have hr := (h2.lt r rfl).2
  refine ⟨r, cap, ?_, ownsRow.lift h2 ?_, ?_, ?_, h5⟩
  · rw [(hs c (lt_of_block h1) h3).1]; exact h1
  · intro k hk; cases hk; exact (hs r hr h4).1
  · rw [(hs c (lt_of_block h1) h3).2]; exact h3
  · rw [(hs r hr h4).2]; exact h4

theorem ChainAt.frame {lo hi : Nat} {g g' : Nat → Nat} {w w' : World} {p c : Nat} {l : List Ent} (h : ChainAt w g p c l) (k : Evo lo hi g g' w w') (hc : p < lo ∨ hi ≤ p) : ChainAt w' g' p c l :=
  h.lift fun b hb hp => ⟨k.same b hb (by omega), k.col b hb⟩

theorem ChainAt.below {w w' : World} {g : Nat → Nat} {p c : Nat} {l : List Ent} (h : ChainAt w g p c l) (k : Below w.heap.size w w') : ChainAt w' g p c l :=
  h.lift fun b hb _ => ⟨k.block b hb, rfl⟩

theorem ChainAt.alloc {w : World} {g : Nat → Nat} {p c : Nat} {l : List Ent} (h : ChainAt w g p c l) (o : Obj) : ChainAt (w.alloc o) g p c l :=
  h.below ((Below.refl _ _).alloc (Nat.le_refl _) _)

theorem ChainAt.drew {w : World} {g : Nat → Nat} {p c : Nat} {l : List Ent} (h : ChainAt w g p c l) : ChainAt w.drew g p c l := h

/-- What the walk wants of it. -/
theorem ChainAt.facts {w : World} {g : Nat → Nat} {p c : Nat} {l : List Ent} (h : ChainAt w g p c l) :
    ∃ r cap, w.cell? ⟨c, 0, none⟩ = some (.slice (some ⟨r, 0, none⟩) l.length cap) ∧ w.frozen? ⟨c, 0, none⟩ = false ∧ c < w.heap.size ∧ r < w.heap.size ∧ r ≠ c ∧ 0 < l.length ∧ l.length ≤ cap ∧
      (∀ i (hi : i < l.length), w.cell? ⟨r, i * 3, none⟩ = some (.int .i64 l[i].n) ∧ w.cell? ⟨r, i * 3 + 1, none⟩ = some (.bool l[i].v.there) ∧ w.cell? ⟨r, i * 3 + 2, none⟩ = some (.string l[i].v.bytes)) ∧
      w.heap[c]? = some (.cells #[.slice (some ⟨r, 0, none⟩) l.length cap] 124 (0, 0)) ∧
      w.ownsRow 0 126 3 (.slice (some ⟨r, 0, none⟩) l.length cap) l.length (encEnts l) ∧ g c = p ∧ g r = p := by
  obtain ⟨r, cap, h1, h2, h3, h4, h5⟩ := h
  have hr := (h2.lt r rfl).2
  have hne : r ≠ c := by
    rintro rfl
    rcases h2.2 with ⟨h, _⟩ | ⟨g', cap', cur, h, _, hg, _⟩
    · cases h
    · cases h; rw [h1] at hg; simp at hg
  have hcap : l.length ≤ cap := by
    rcases h2.2 with ⟨h, _⟩ | ⟨g', cap', cur, h, _, hg, hn, _⟩
    · cases h
    · cases h; exact hn
  refine ⟨r, cap, cell_of_one h1, free_of_one h1, lt_of_block h1, hr, hne, List.length_pos_iff.2 h5, hcap, fun i hi => ?_, h1, h2, h3, h4⟩
  have hg := encEnts_get l i hi
  exact ⟨by rw [h2.cellAt _ (by omega)]; exact hg.1, by rw [h2.cellAt _ (by omega)]; exact hg.2.1, by rw [h2.cellAt _ (by omega)]; exact hg.2.2⟩

theorem firstN_get (l : List Ent) (h : 0 < l.length) : l[0].n = firstN l := by
  cases l with
  | nil => simp at h
  | cons e l => rfl

theorem lastN_get (l : List Ent) (h : 0 < l.length) : l[l.length - 1].n = lastN l := by
  unfold lastN
  rw [List.getLastD_eq_getLast?, List.getLast?_eq_getElem?]
  rw [List.getElem?_eq_getElem (by omega)]
  rfl

/-! ### The walks -/

theorem chain_Key (k : Int) (w : World) :
    Calls Try.prog 58 #[.int .i64 k] w fun e w' => e = .returned (.bool (decide (0 ≤ k) && decide (k < 8))) ∧ w = w' := by
  by_cases h : 0 ≤ k
  · go_enter Try.func58, Try.ntmps58
    go_wp2
    go_ret
    exact ⟨by simp [h], rfl⟩
  · have h' : decide (0 ≤ k) = false := by simpa using h
    go_enter Try.func58, Try.ntmps58
    go_wp2
    go_ret
    exact ⟨rfl, rfl⟩

def ValPost (x : Int) (w : World) (e : Ending) (w' : World) : Prop := e = .returned (.int .i64 x) ∧ Below w.heap.size w w'

theorem chain_Check (t : Bool) (s : ByteArray) (w : World) (hs : s.size ≤ maxLen) :
    Calls Try.prog 71 #[.agg #[.bool t, .string s]] w (ValPost (ckV ⟨t, s⟩) w) := by
  unfold maxLen at hs
  have fin : ∀ x, x = ckV ⟨t, s⟩ → ∀ w' : World, Below w.heap.size w w' → ValPost (ckV ⟨t, s⟩) w (.returned (.int .i64 x)) w' := fun x hx w' hb => ⟨by rw [hx], hb⟩
  have F := hid fin
  clear fin
  by_cases h1 : 12 < s.size
  · go_enter Try.func71, Try.ntmps71
    go_wp2
    go_ret
    exact F.out _ (by simp [ckV, h1]) _ ((Below.refl _ _).alloc (Nat.le_refl _) _)
  · have h1' : s.size ≤ 12 := by omega
    cases t
    · cases h2 : s.toList.isEmpty
      all_goals
        go_enter Try.func71, Try.ntmps71
        go_wp2
        go_ret
        exact F.out _ (by simp [ckV, h1, h2]) _ ((Below.refl _ _).alloc (Nat.le_refl _) _)
    · go_enter Try.func71, Try.ntmps71
      go_wp2
      go_ret
      exact F.out _ (by simp [ckV, h1]) _ ((Below.refl _ _).alloc (Nat.le_refl _) _)

theorem chain_First (g : Nat → Nat) (p c : Nat) (l : List Ent) (w : World) (hC : ChainAt w g p c l) :
    Calls Try.prog 79 #[.pointer (some ⟨c, 0, none⟩)] w fun e w' => e = .returned (.int .i64 (firstN l)) ∧ w = w' := by
  obtain ⟨r, cap, h0, -, -, -, -, hl, -, hv, -⟩ := hC.facts
  have g1 := (hv 0 hl).1
  rw [firstN_get l hl] at g1
  simp only [Nat.zero_mul] at g1
  clear hv
  have hl' : (0 : Int) < (l.length : Int) := by omega
  go_enter Try.func79, Try.ntmps79
  go_wp2
  go_ret
  exact ⟨rfl, rfl⟩

theorem chain_Last (g : Nat → Nat) (p c : Nat) (l : List Ent) (w : World) (hC : ChainAt w g p c l) (hn : l.length ≤ 1000000) :
    Calls Try.prog 61 #[.pointer (some ⟨c, 0, none⟩)] w (ValPost (lastN l) w) := by
  obtain ⟨r, cap, h0, -, -, -, -, hl, -, hv, -⟩ := hC.facts
  have g1 := (hv (l.length - 1) (by omega)).1
  rw [lastN_get l hl] at g1
  obtain ⟨n, hn'⟩ : ∃ n, l.length = n + 1 := ⟨l.length - 1, by omega⟩
  rw [hn'] at g1 h0 hn
  simp only [Nat.add_sub_cancel] at g1
  clear hv hn' hl
  go_enter Try.func61, Try.ntmps61
  go_wp2
  go_quiet (fail)
  go_wp2
  go_ret
  exact ⟨rfl, below_drewN _ _⟩

def putC (l : List Ent) (a : Int) (v : Val) : Int × List Ent :=
  if ckV v ≠ 0 then (ckV v, l) else if a ≤ lastN l then (5, l) else (0, l ++ [⟨a, v⟩])

def PutPost (g : Nat → Nat) (p c : Nat) (x : Int × List Ent) (w : World) (e : Ending) (w' : World) : Prop :=
  e = .returned (.int .i64 x.1) ∧ ∃ g', ChainAt w' g' p c x.2 ∧ Evo p (p + 1) g g' w w'

theorem put_same {g : Nat → Nat} {p c : Nat} {x : Int × List Ent} {w w' : World} (hC : ChainAt w g p c x.2) (hb : Below w.heap.size w w') : PutPost g p c x w (.returned (.int .i64 x.1)) w' :=
  ⟨rfl, extc g w p, hC.frame (Evo.of_below (lo := 0) (hi := 0) g p hb) (by omega), Evo.of_below g p hb⟩

theorem put_more {g : Nat → Nat} {p c r cap b' cap' : Nat} {l : List Ent} {e : Ent} {w w3 w4 : World} (hc : w.heap[c]? = some (.cells #[.slice (some ⟨r, 0, none⟩) l.length cap] 124 (0, 0)))
    (hown : w.ownsRow 0 126 3 (.slice (some ⟨r, 0, none⟩) l.length cap) l.length (encEnts l)) (gc : g c = p) (gr : g r = p) (hrc : r ≠ c)
    (hb : Below w.heap.size w w3) (hown' : w4.ownsRow 0 126 3 (.slice (some ⟨b', 0, none⟩) (l.length + 1) cap') (l.length + 1) (encEnts l ++ encEnt e)) (hg : w3.grownBy w4 (some r)) (hbr : b' = r ∨ w3.heap.size ≤ b') :
    ∃ g', ChainAt (w4.setCell ⟨c, 0, none⟩ (.slice (some ⟨b', 0, none⟩) (l.length + 1) cap')) g' p c (l ++ [e]) ∧ Evo p (p + 1) g g' w (w4.setCell ⟨c, 0, none⟩ (.slice (some ⟨b', 0, none⟩) (l.length + 1) cap')) := by
  have hr := (hown.lt r rfl).2
  have hcs := lt_of_block hc
  have hc4 : w4.heap[c]? = some (.cells #[.slice (some ⟨r, 0, none⟩) l.length cap] 124 (0, 0)) := by
    rw [hg.block c (Nat.lt_of_lt_of_le hcs hb.size) (by simpa using fun e => hrc e.symm), hb.block c hcs]; exact hc
  have hbc : b' ≠ c := by
    rintro rfl
    rcases hown'.2 with ⟨h, _⟩ | ⟨g', cap'', cur, h, _, hg', _⟩
    · cases h
    · cases h; rw [hc4] at hg'; simp at hg'
  refine ⟨fun b => if b = c ∨ b = b' then p else extc g w p b, ⟨b', cap', ?_, ?_, ?_, ?_, by simp⟩, ⟨?_, ?_, ?_, ?_, ?_, ?_⟩⟩
  · rw [one_setCell hc4]; simp
  · have := ownsRow_setCell_other hown' (a := ⟨c, 0, none⟩) (by simpa [Value.ownBlock] using hbc) (.slice (some ⟨b', 0, none⟩) (l.length + 1) cap')
    simpa [encEnts_append, encEnts] using this
  · simp
  · simp
  · exact hg.os.trans hb.os
  · exact hg.tape.trans hb.tape
  · exact hg.output.trans hb.output
  · simpa using Nat.le_trans hb.size hg.size
  · intro b hbs
    rcases Classical.em (b = c ∨ b = b') with h | h
    · simp only [if_pos h]
      rcases h with rfl | rfl
      · exact gc.symm
      · by_cases e : b = r
        · rw [e]; exact gr.symm
        · exfalso
          have := hb.size
          omega
    · simp only [if_neg h]; exact extc_old hbs
  · intro b hbs hn
    rw [Below.heap_setCell _ _ _ _ (by rintro rfl; exact hn ⟨by simp [gc], by simp [gc]⟩), hg.block b (Nat.lt_of_lt_of_le hbs hb.size) (by rintro ⟨rfl⟩; omega), hb.block b hbs]

theorem Try.infoVer : (Try.prog.info? 126).map (fun i => (i.zero, i.size, i.bytes)) = some (some (.agg #[.int .i64 0, .bool false, .string ByteArray.empty]), 3, 32) := by kernel_rfl

end Go.Proofs.Ytoiobhcgpajogab
