/- The walks of the document's own line of versions (vaultageref.Line), and of SameVersions. -/
import Derived.Test.YtoiobhcgpajogaaGreatDoorChain
namespace Go.Proofs.YtoiobhcgpajogaaGreatDoor
open Go.RowKit

/-- A line is a slice of versions; nobody writes its cells. -/
def LineAt (w : World) (g : Nat → Nat) (p : Nat) (v : Value) (l : List Ent) : Prop :=
  ∃ b off cap, v = .slice (some ⟨b, off, none⟩) l.length cap ∧ l.length ≤ cap ∧ (∀ j u, (encEnts l)[j]? = some u → w.cell? ⟨b, off + j, none⟩ = some u) ∧ g b = p ∧ b < w.heap.size ∧ l ≠ []

theorem LineAt.lift {w w' : World} {g g' : Nat → Nat} {p : Nat} {v : Value} {l : List Ent} (h : LineAt w g p v l) (hz : w.heap.size ≤ w'.heap.size) (hs : ∀ b, b < w.heap.size → g b = p → w'.heap[b]? = w.heap[b]? ∧ g' b = g b) : LineAt w' g' p v l := by
  obtain ⟨b, off, cap, rfl, h1, h2, h3, h4, h5⟩ := h
  have := hs b h4 h3
  exact ⟨b, off, cap, rfl, h1, fun j u hu => (World.cell?_of_block (w := w) (a := ⟨b, off + j, none⟩) this.1).trans (h2 j u hu), this.2.trans h3, by omega, h5⟩

theorem LineAt.frame {lo hi : Nat} {g g' : Nat → Nat} {w w' : World} {p : Nat} {v : Value} {l : List Ent} (h : LineAt w g p v l) (k : Evo lo hi g g' w w') (hc : p < lo ∨ hi ≤ p) : LineAt w' g' p v l :=
  h.lift k.size fun b hb hp => ⟨k.same b hb (by omega), k.col b hb⟩

theorem LineAt.below {w w' : World} {g : Nat → Nat} {p : Nat} {v : Value} {l : List Ent} (h : LineAt w g p v l) (k : Below w.heap.size w w') : LineAt w' g p v l :=
  h.lift k.size fun b hb _ => ⟨k.block b hb, rfl⟩

theorem LineAt.alloc {w : World} {g : Nat → Nat} {p : Nat} {v : Value} {l : List Ent} (h : LineAt w g p v l) (o : Obj) : LineAt (w.alloc o) g p v l := h.below ((Below.refl _ _).alloc (Nat.le_refl _) _)

theorem LineAt.facts {w : World} {g : Nat → Nat} {p : Nat} {v : Value} {l : List Ent} (h : LineAt w g p v l) :
    ∃ b off cap, v = .slice (some ⟨b, off, none⟩) l.length cap ∧ l.length ≤ cap ∧ b < w.heap.size ∧ 0 < l.length ∧
      (∀ i (hi : i < l.length), w.cell? ⟨b, off + i * 3, none⟩ = some (.int .i64 l[i].n) ∧ w.cell? ⟨b, off + i * 3 + 1, none⟩ = some (.bool l[i].v.there) ∧ w.cell? ⟨b, off + i * 3 + 2, none⟩ = some (.string l[i].v.bytes)) ∧
      (∀ j u, (encEnts l)[j]? = some u → w.cell? ⟨b, off + j, none⟩ = some u) ∧ g b = p := by
  obtain ⟨b, off, cap, rfl, h1, h2, h3, h4, h5⟩ := h
  refine ⟨b, off, cap, rfl, h1, h4, List.length_pos_iff.2 h5, fun i hi => ?_, h2, h3⟩
  have g := encEnts_get l i hi
  exact ⟨h2 _ _ g.1, h2 _ _ g.2.1, h2 _ _ g.2.2⟩

theorem line_New (g : Nat → Nat) (p : Nat) (w : World) : Calls Tryz.prog 45 #[] w fun e w' => ∃ v, e = .returned v ∧ Below w.heap.size w w' ∧ LineAt w' (extc g w p) p v [⟨0, Val.zero⟩] := by
  go_enter Tryz.func45, Tryz.ntmps45
  go_wp2
  go_ret
  refine ⟨_, rfl, (Below.refl _ _).alloc (Nat.le_refl _) _, w.heap.size, 0, 1, rfl, by simp, ?_, extc_new (Nat.le_refl _), by simp, by simp⟩
  intro j u hu
  rw [Nat.zero_add, World.cell?_alloc_new, List.getElem?_toArray]
  exact hu

theorem ref_IsKey (k : Int) (w : World) :
    Calls Tryz.prog 106 #[.int .i64 k] w fun e w' => e = .returned (.bool (decide (0 ≤ k) && decide (k < 8))) ∧ w = w' := by
  by_cases h : 0 ≤ k
  · go_enter Tryz.func106, Tryz.ntmps106
    go_wp2
    go_ret
    exact ⟨by simp [h], rfl⟩
  · have h' : decide (0 ≤ k) = false := by simpa using h
    go_enter Tryz.func106, Tryz.ntmps106
    go_wp2
    go_ret
    exact ⟨rfl, rfl⟩

theorem isEmpty_size (s : ByteArray) : s.toList.isEmpty = decide (s.size = 0) := by
  rw [← decide_eq_emptyBytes]
  have : s = ByteArray.empty ↔ s.size = 0 := by
    constructor
    · rintro rfl; rfl
    · intro h
      cases s with | mk d =>
      have : d = #[] := Array.eq_empty_of_size_eq_zero h
      subst this; rfl
  exact decide_eq_decide.2 this

theorem ckV_long {t : Bool} {s : ByteArray} (h : 12 < s.size) : ckV ⟨t, s⟩ = 2 := by simp [ckV, h]
theorem ckV_form {s : ByteArray} (h : s.size ≤ 12) (h2 : 0 < s.size) : ckV ⟨false, s⟩ = 4 := by
  have e : decide (s.size = 0) = false := decide_eq_false (by omega)
  unfold ckV
  rw [if_neg (show ¬ 12 < s.size by omega), isEmpty_size, e]; rfl
theorem ckV_there {s : ByteArray} (h : s.size ≤ 12) : ckV ⟨true, s⟩ = 0 := by simp [ckV, show ¬ 12 < s.size by omega]
theorem ckV_none {t : Bool} {s : ByteArray} (h : s.size = 0) : ckV ⟨t, s⟩ = 0 := by simp [ckV, isEmpty_size, h]

theorem ref_ValueFault (t : Bool) (s : ByteArray) (w : World) (hs : s.size ≤ maxLen) :
    Calls Tryz.prog 109 #[.agg #[.bool t, .string s]] w (ValPost (ckV ⟨t, s⟩) w) := by
  unfold maxLen at hs
  have fin : ∀ x, x = ckV ⟨t, s⟩ → ∀ w' : World, Below w.heap.size w w' → ValPost (ckV ⟨t, s⟩) w (.returned (.int .i64 x)) w' := fun x hx w' hb => ⟨by rw [hx], hb⟩
  have F := hid fin
  clear fin
  by_cases h1 : 12 < s.size
  · go_enter Tryz.func109, Tryz.ntmps109
    go_wp2
    go_ret
    exact F.out _ (ckV_long h1).symm _ ((Below.refl _ _).alloc (Nat.le_refl _) _)
  · have h1' : s.size ≤ 12 := by omega
    by_cases h2 : 0 < s.size
    · cases t
      · go_enter Tryz.func109, Tryz.ntmps109
        go_wp2
        go_ret
        exact F.out _ (ckV_form h1' h2).symm _ ((Below.refl _ _).alloc (Nat.le_refl _) _)
      · go_enter Tryz.func109, Tryz.ntmps109
        go_wp2
        go_ret
        exact F.out _ (ckV_there h1').symm _ ((Below.refl _ _).alloc (Nat.le_refl _) _)
    · have h2' : s.size = 0 := by omega
      have H := hid h2'
      clear h2'
      have h3 : ¬ ((0 : Int) < (s.size : Int)) := by omega
      cases t
      all_goals
        go_enter Tryz.func109, Tryz.ntmps109
        go_wp2
        go_ret
        exact F.out _ (ckV_none H.out).symm _ ((Below.refl _ _).alloc (Nat.le_refl _) _)

theorem line_First (g : Nat → Nat) (p : Nat) (v : Value) (l : List Ent) (w : World) (hL : LineAt w g p v l) :
    Calls Tryz.prog 70 #[v] w fun e w' => e = .returned (.int .i64 (firstN l)) ∧ w = w' := by
  obtain ⟨b, off, cap, rfl, h1, h2, hl, hv, -, -⟩ := hL.facts
  have g1 := (hv 0 hl).1
  rw [firstN_get l hl] at g1
  simp only [Nat.zero_mul, Nat.add_zero] at g1
  have hl' : (0 : Int) < (l.length : Int) := by omega
  clear hv
  go_enter Tryz.func70, Tryz.ntmps70
  go_wp2
  go_ret
  exact ⟨rfl, rfl⟩

theorem line_Last (g : Nat → Nat) (p : Nat) (v : Value) (l : List Ent) (w : World) (hn : l.length ≤ 1000000) (hL : LineAt w g p v l) :
    Calls Tryz.prog 111 #[v] w fun e w' => e = .returned (.int .i64 (lastN l)) ∧ w = w' := by
  obtain ⟨b, off, cap, rfl, h1, h2, hl, hv, -, -⟩ := hL.facts
  have g1 := (hv (l.length - 1) (by omega)).1
  rw [lastN_get l hl] at g1
  obtain ⟨n, hn'⟩ : ∃ n, l.length = n + 1 := ⟨l.length - 1, by omega⟩
  rw [hn'] at g1 hn
  rw [hn']
  simp only [Nat.add_sub_cancel] at g1
  clear hv hn' hl
  go_enter Tryz.func111, Tryz.ntmps111
  go_wp2
  go_ret
  exact ⟨rfl, rfl⟩

/-- What the document's line reads. -/
def readR (l : List Ent) (a : Int) : Val × Int :=
  if a < 0 then (Val.zero, 1) else match l.reverse.find? (fun e => decide (e.n ≤ a)) with
    | some e => (e.v, 0)
    | none => (Val.zero, 12)

theorem find_none_take (l : List Ent) (a : Int) (k : Nat) (hk : k < l.length) (h : ∀ i (hi : i < l.length), k < i → ¬ l[i].n ≤ a) (hle : l[k].n ≤ a) :
    l.reverse.find? (fun e => decide (e.n ≤ a)) = some l[k] := by
  have e : l.reverse = (l.take k ++ l[k] :: l.drop (k + 1)).reverse := by rw [List.getElem_cons_drop, List.take_append_drop]
  rw [e, List.reverse_append, List.find?_append]
  have h1 : (l[k] :: l.drop (k + 1)).reverse.find? (fun e => decide (e.n ≤ a)) = some l[k] := by
    rw [List.reverse_cons, List.find?_append]
    have : (l.drop (k + 1)).reverse.find? (fun e => decide (e.n ≤ a)) = none := by
      rw [List.find?_eq_none]
      intro x hx
      rw [List.mem_reverse] at hx
      obtain ⟨i, hi, rfl⟩ := List.getElem_of_mem hx
      rw [List.getElem_drop]
      simp only [List.length_drop] at hi
      simpa using h (k + 1 + i) (by omega) (by omega)
    rw [this]
    simp [hle]
  rw [h1]
  rfl

set_option maxHeartbeats 1000000 in
set_option maxRecDepth 100000 in
theorem line_Read (g : Nat → Nat) (p : Nat) (v : Value) (l : List Ent) (w : World) (a : Int) (hn : l.length ≤ 1000000) (hL : LineAt w g p v l) :
    Calls Tryz.prog 132 #[v, .int .i64 a] w (ReadPost (readR l a) w) := by
  obtain ⟨b, off, cap, rfl, h1, h2, hl, hv, -, -⟩ := hL.facts
  by_cases h0 : a < 0
  · have e1 : readR l a = (Val.zero, 1) := by simp [readR, h0]
    rw [e1]
    clear hv
    go_enter Tryz.func132, Tryz.ntmps132
    go_wp2
    refine bodyPost_ret (v := .tuple #[.agg #[.bool false, .string ByteArray.empty], .int .i64 1]) (by simp [results, Tryz.results132, go_sem]; rfl) rfl ⟨rfl, ?_⟩
    exact (Below.refl _ _).alloc (Nat.le_refl _) _
  · have h0' : 0 ≤ a := by omega
    have HV := hid hv
    have fin1 : ∀ k (hk : k < l.length), (∀ i (hi : i < l.length), k < i → a < l[i].n) → l[k].n ≤ a → readR l a = (l[k].v, 0) := by
      intro k hk h hle
      simp [readR, h0, find_none_take l a k hk (fun i hi hh => by have := h i hi hh; omega) hle]
    have fin2 : (∀ i (hi : i < l.length), a < l[i].n) → readR l a = (Val.zero, 12) := by
      intro h
      have : l.reverse.find? (fun e => decide (e.n ≤ a)) = none := by
        rw [List.find?_eq_none]
        intro x hx
        rw [List.mem_reverse] at hx
        obtain ⟨i, hi, rfl⟩ := List.getElem_of_mem hx
        simpa using h i hi
      simp [readR, h0, this]
    have F1 := hid fin1
    have F2 := hid fin2
    clear fin1 fin2 hv h0 hL
    go_enter Tryz.func132, Tryz.ntmps132
    go_wp2
    go_loop [6] (fun i => ∃ k : Nat, k ≤ l.length ∧ i = .int .i64 ((k : Int) - 1) ∧ Hid (∀ i (hi : i < l.length), k ≤ i → a < l[i].n)) (fun i => (intOf i + 1).toNat)
    case atStart => exact ⟨l.length, Nat.le_refl _, rfl, hid (fun i hi h => by omega)⟩
    case round =>
      obtain ⟨k, hk, rfl, HH⟩ := hrel
      cases k with
      | zero =>
        have e := F2.out (fun i hi => HH.out i hi (Nat.zero_le _))
        have E := hid e
        clear e
        go_wp2
        refine bodyPost_ret (v := .tuple #[.agg #[.bool false, .string ByteArray.empty], .int .i64 12]) (by simp [results, Tryz.results132, go_sem]; rfl) rfl ⟨by rw [E.out]; rfl, ?_⟩
        exact (Below.refl _ _).alloc (Nat.le_refl _) _
      | succ k =>
        have e1 : (((k + 1 : Nat) : Int) - 1) = (k : Int) := by omega
        rw [e1]
        clear e1
        have hkl : k < l.length := by omega
        obtain ⟨g1, g2, g3⟩ := HV.out k hkl
        by_cases hle : l[k].n ≤ a
        · have e := F1.out k hkl (fun i hi h => HH.out i hi h) hle
          have E := hid e
          clear e
          go_wp2
          refine bodyPost_ret (v := .tuple #[.agg #[.bool l[k].v.there, .string l[k].v.bytes], .int .i64 0]) (by simp [results, Tryz.results132, go_sem]) rfl ⟨by rw [E.out], ?_⟩
          exact (Below.refl _ _).alloc (Nat.le_refl _) _
        · have hh : Hid (∀ i (hi : i < l.length), k ≤ i → a < l[i].n) := hid (fun i hi h => by
            by_cases e : i = k
            · subst e; omega
            · exact HH.out i hi (by omega))
          go_wp2
          go_round
          case rel => exact ⟨k, by omega, by go_num, hh⟩
          case measure => simp [intOf]

end Go.Proofs.YtoiobhcgpajogaaGreatDoor
/- The walks of Put and Clear of the document's line, and of SameVersions. -/
namespace Go.Proofs.YtoiobhcgpajogaaGreatDoor
open Go.RowKit

/-- Behind the call the old memory is as it was, but that at the address a there is v'. -/
structure Stored (a : Addr) (v' : Value) (w w' : World) : Prop where
  os : w'.os = w.os
  tape : w'.tape = w.tape
  output : w'.output = w.output
  size : w.heap.size ≤ w'.heap.size
  block : ∀ k, k < w.heap.size → w'.heap[k]? = (w.setCell a v').heap[k]?

/-- A line whose slice lies at the address a; what it leads to has the colour p, the cell's own block another. -/
def LinePost (g : Nat → Nat) (p : Nat) (a : Addr) (x : Int × List Ent) (w : World) (e : Ending) (w' : World) : Prop :=
  e = .returned (.int .i64 x.1) ∧ ∃ v' g', LineAt w' g' p v' x.2 ∧ Stored a v' w w' ∧ ∀ b, b < w.heap.size → g' b = g b

theorem setCell_self {w : World} {a : Addr} {v : Value} (h : w.cell? a = some v) : ∀ k : Nat, (w.setCell a v).heap[k]? = w.heap[k]? := by
  intro k
  by_cases hk : k = a.block
  · subst hk
    unfold World.cell? at h
    split at h
    · rename_i cs e f hb
      split at h
      · cases h
      · rename_i hs
        have hs' : a.spot.isSome = false := by simpa using hs
        simp only [World.setCell, Array.getElem?_modify, if_true, hb, hs']
        simp only [Option.map_some, Bool.false_eq_true, if_false]
        congr 2
        have hlt := (Array.getElem?_eq_some_iff.1 h).1
        have hv := (Array.getElem?_eq_some_iff.1 h).2
        rw [← hv]
        apply Array.ext_getElem?
        intro i
        rw [Array.getElem?_setIfInBounds]
        split
        · rename_i e
          subst e
          exact (Array.getElem?_eq_getElem hlt).symm
        · rfl
    · cases h
  · exact Below.heap_setCell _ _ _ _ hk

theorem line_same {g : Nat → Nat} {p : Nat} {a : Addr} {v : Value} {x : Int × List Ent} {w w' : World} (hL : LineAt w g p v x.2) (hc : w.cell? a = some v) (hb : Below w.heap.size w w') :
    LinePost g p a x w (.returned (.int .i64 x.1)) w' :=
  ⟨rfl, v, g, hL.below hb, ⟨hb.os, hb.tape, hb.output, hb.size, fun k hk => by rw [setCell_self hc, hb.block k hk]⟩, fun _ _ => rfl⟩

theorem line_more {g : Nat → Nat} {p r cap : Nat} {a : Addr} {l : List Ent} {e : Ent} {w w4 : World} (ha : a.block < w.heap.size)
    (hb : Below w.heap.size w w4) (hr : w.heap.size ≤ r) (ho : w4.ownsRow 0 145 3 (.slice (some ⟨r, 0, none⟩) (l.length + 1) cap) (l.length + 1) (encEnts l ++ encEnt e)) :
    LinePost g p a (0, l ++ [e]) w (.returned (.int .i64 0)) (w4.setCell a (.slice (some ⟨r, 0, none⟩) (l.length + 1) cap)) := by
  have hcap : l.length + 1 ≤ cap := by
    rcases ho.2 with ⟨h, _⟩ | ⟨g', cap', cur, h, _, hg, hn, _⟩
    · cases h
    · cases h; exact hn
  have hr4 := (ho.lt r rfl).2
  refine ⟨rfl, .slice (some ⟨r, 0, none⟩) (l.length + 1) cap, extc g w p, ⟨r, 0, cap, by simp, by simpa using hcap, ?_, extc_new hr, by simpa using hr4, by simp⟩, ⟨hb.os, hb.tape, hb.output, by simpa using hb.size, fun k hk => ?_⟩, fun b hb => extc_old hb⟩
  · intro j u hu
    rw [encEnts_append] at hu
    have hne : a ≠ ⟨r, 0 + j, none⟩ := by rintro rfl; simp only at ha; omega
    rw [World.cell?_setCell_other _ _ _ _ hne, Nat.zero_add]
    have hj := (List.getElem?_eq_some_iff.1 hu).1
    rw [ho.cellAt j (by simp [encEnts_length, encEnts, encEnt] at hj; omega)]
    simpa [encEnts] using hu
  · by_cases e : k = a.block
    · subst e
      simp only [World.setCell, Array.getElem?_modify, if_true]
      rw [hb.block _ hk]
    · rw [Below.heap_setCell _ _ _ _ e, Below.heap_setCell _ _ _ _ e, hb.block k hk]

set_option maxHeartbeats 2000000 in
set_option maxRecDepth 100000 in
theorem line_Put (g : Nat → Nat) (p ab ao : Nat) (v : Value) (l : List Ent) (w : World) (x : Int) (t : Bool) (s : ByteArray) (hs : s.size ≤ maxLen) (hn : l.length ≤ 1000000) (hL : LineAt w g p v l)
    (hc : w.cell? ⟨ab, ao, none⟩ = some v) (hf : w.frozen? ⟨ab, ao, none⟩ = false) :
    Calls Tryz.prog 131 #[.pointer (some ⟨ab, ao, none⟩), .int .i64 x, .agg #[.bool t, .string s]] w (LinePost g p ⟨ab, ao, none⟩ (putC l x ⟨t, s⟩) w) := by
  have K := ref_ValueFault t s (w.alloc (.cells #[.bool t, .string s] 99)) hs
  have hab := World.block_lt_of_cell? w _ hc
  simp only at hab
  by_cases h1 : ckV ⟨t, s⟩ = 0
  case neg =>
    have e1 : putC l x ⟨t, s⟩ = (ckV ⟨t, s⟩, l) := by simp [putC, h1]
    rw [e1]
    have h1' : ((ckV ⟨t, s⟩ : Int) == 0) = false := by simpa using h1
    generalize ckV ⟨t, s⟩ = z at *
    have K' := hid K
    have HC := hid hc
    clear K h1
    go_enter Tryz.func131, Tryz.ntmps131
    go_wp2_with fail
    refine K'.out.mono ?_
    rintro e w1 ⟨rfl, hb1⟩
    go_wp2_with fail
    go_ret
    exact line_same hL HC.out (((Below.refl _ _).alloc (Nat.le_refl _) _).trans (hb1.mono (by simp)))
  case pos =>
    rw [h1] at K
    have K' := hid K
    clear K
    by_cases h2 : x ≤ lastN l
    · have e1 : putC l x ⟨t, s⟩ = (5, l) := by simp [putC, h1, h2]
      rw [e1]
      clear h1
      go_enter Tryz.func131, Tryz.ntmps131
      go_wp2_with fail
      refine K'.out.mono ?_
      rintro e w1 ⟨rfl, hb1⟩
      have hb : Below w.heap.size w w1 := ((Below.refl _ _).alloc (Nat.le_refl _) _).trans (hb1.mono (by simp))
      have m1 := (hb.cell (p := ⟨ab, ao, none⟩) hab).trans hc
      have HB := hid hb
      clear hb hb1
      go_wp2_with fail
      refine (line_Last g p v l _ hn (hL.below HB.out)).mono ?_
      rintro e w2 ⟨rfl, rfl⟩
      go_wp2_with fail
      go_ret
      exact line_same hL hc HB.out
    · have e1 : putC l x ⟨t, s⟩ = (0, l ++ [⟨x, ⟨t, s⟩⟩]) := by simp [putC, h1, h2]
      rw [e1]
      clear h1
      obtain ⟨i0, hi, hz0, hz1, hz2⟩ := info_parts Tryz.infoVer
      go_enter Tryz.func131, Tryz.ntmps131
      go_wp2_with fail
      refine K'.out.mono ?_
      rintro e w1 ⟨rfl, hb⟩
      clear K'
      simp only [World.size_alloc] at hb
      have hsz := hb.size
      simp only [World.size_alloc] at hsz
      have b0 := (hb.cell (p := ⟨w.heap.size, 0, none⟩) (by simp)).trans (World.cell?_alloc_new w _ _ 0)
      have b1 := (hb.cell (p := ⟨w.heap.size, 1, none⟩) (by simp)).trans (World.cell?_alloc_new w _ _ 1)
      simp at b0 b1
      have hb' : Below w.heap.size w w1 := ((Below.refl _ _).alloc (Nat.le_refl _) _).trans (hb.mono (by omega))
      have m1 := (hb'.cell (p := ⟨ab, ao, none⟩) hab).trans hc
      have m2 := (hb'.frozen (p := ⟨ab, ao, none⟩) hab).trans hf
      have HB := hid hb'
      clear hb hb'
      go_wp2_with fail
      refine (line_Last g p v l _ hn (hL.below HB.out)).mono ?_
      rintro e w2 ⟨rfl, rfl⟩
      obtain ⟨b, off, cap, rfl, h3, h4, hl, -, hcells, hgb⟩ := (hL.below HB.out).facts
      -- whatever world comes behind w1 without a turn in what was there
      have keep : ∀ W, Below w1.heap.size w1 W → W.cell? ⟨ab, ao, none⟩ = some (.slice (some ⟨b, off, none⟩) l.length cap) ∧ W.frozen? ⟨ab, ao, none⟩ = false ∧ W.cell? ⟨w.heap.size, 0, none⟩ = some (.bool t) ∧ W.cell? ⟨w.heap.size, 1, none⟩ = some (.string s) :=
        fun W hW => ⟨(hW.cell (p := ⟨ab, ao, none⟩) (by simp; omega)).trans m1, (hW.frozen (p := ⟨ab, ao, none⟩) (by simp; omega)).trans m2, (hW.cell (p := ⟨w.heap.size, 0, none⟩) (by simp; omega)).trans b0, (hW.cell (p := ⟨w.heap.size, 1, none⟩) (by simp; omega)).trans b1⟩
      have cells : ∀ W, Below w1.heap.size w1 W → ∀ j u, (encEnts l)[j]? = some u → W.cell? ((⟨b, off, none⟩ : Addr).add j) = some u := by
        intro W hW j u hu
        have e : (⟨b, off, none⟩ : Addr).add j = ⟨b, off + j, none⟩ := by unfold Addr.add; split <;> simp_all
        rw [e, hW.cell (p := ⟨b, off + j, none⟩) h4]
        exact hcells j u hu
      have KK := hid keep
      have CC := hid cells
      clear keep cells hcells hL hc hf
      have hab1 : ab < w1.heap.size := by omega
      have l1 : 0 + l.length ≤ maxLen := by unfold maxLen; omega
      have l2 : (0 + l.length) * 32 ≤ 140737488355328 := by omega
      have l3 : l.length + 1 ≤ maxLen := by unfold maxLen; omega
      have l4 : (l.length + 1) * 32 ≤ 140737488355328 := by omega
      have B0 : Below w1.heap.size w1 w1.drew := (Below.refl _ _).drew
      have B1 := fun o => B0.alloc (Nat.le_refl _) o
      have HB0 := hid B0
      have HB1 := hid B1
      clear B0 B1
      go_wp2_with fail
      go_region_law (first
        | (refine step_append2 rfl (.tmp 21) (.tmp 24) 92 rfl 145 i0 _ 3 32 Tryz.underlying92 hi hz0 hz1 hz2 rfl (by decide) (.slice none 0 0) 0 [] rfl (World.ownsRow_nil w1.drew _ _ _) ⟨b, off, none⟩ l.length cap (encEnts l) rfl (encEnts_length l) (CC.out _ HB0.out) (encEnts_one l) l1 l2 ?_; intro v1 w3 ho1 hg1 hf1; rw [Nat.zero_add, List.nil_append] at ho1; obtain ⟨r1, cap1, rfl, hc1, -⟩ := ownsRow.some ho1 hl; have hr1 : w1.heap.size ≤ r1 := (hf1.resolve_left (by simp [Value.ownBlock])) r1 rfl; have B3 : Below w1.heap.size w1 w3 := HB0.out.grown hg1 (Nat.le_refl _) (by intro k hk; cases hk); obtain ⟨q1, q2, q3, q4⟩ := KK.out w3 B3; have HB3 := hid B3; have HO1 := hid ho1; clear B3 ho1 hg1 hf1)
        | (refine step_append2 rfl (.tmp 21) (.tmp 24) 92 rfl 145 i0 _ 3 32 Tryz.underlying92 hi hz0 hz1 hz2 rfl (by decide) (.slice none 0 0) 0 [] rfl (World.ownsRow_nil (w1.alloc (.cells (encEnt ⟨x, ⟨t, s⟩⟩).toArray 145)).drew _ _ _) ⟨b, off, none⟩ l.length cap (encEnts l) rfl (encEnts_length l) (CC.out _ (HB1.out _)) (encEnts_one l) l1 l2 ?_; intro v1 w3 ho1 hg1 hf1; rw [Nat.zero_add, List.nil_append] at ho1; obtain ⟨r1, cap1, rfl, hc1, -⟩ := ownsRow.some ho1 hl; have hr1 : w1.heap.size ≤ r1 := Nat.le_of_succ_le (by simpa using (hf1.resolve_left (by simp [Value.ownBlock])) r1 rfl); have B3 : Below w1.heap.size w1 w3 := (HB1.out _).grown hg1 (by simp) (by intro k hk; cases hk); obtain ⟨q1, q2, q3, q4⟩ := KK.out w3 B3; have HN3 := hid (cells_kept (w := w1.drew) (cs := encEnt ⟨x, ⟨t, s⟩⟩) (T := 145) hg1 (by simp [Value.ownBlock])); have HB3 := hid B3; have HO1 := hid ho1; clear B3 ho1 hg1 hf1)
        | (refine step_append2 rfl (.tmp 25) (.tmp 29) 92 rfl 145 i0 _ 3 32 Tryz.underlying92 hi hz0 hz1 hz2 rfl (by decide) (.slice (some ⟨r1, 0, none⟩) l.length cap1) l.length (encEnts l) rfl (HO1.out.alloc _) ⟨w3.heap.size, 0, none⟩ 1 1 (encEnt ⟨x, ⟨t, s⟩⟩) rfl rfl (cells_new w3 _ _) (encEnt_one _) l3 l4 ?_; intro v2 w4 ho2 hg2 hf2; obtain ⟨r2, cap2, rfl, -, -⟩ := ownsRow.some ho2 (Nat.succ_pos _); have B4 : Below w1.heap.size w1 w4 := (HB3.out.alloc HB3.out.size _).grown hg2 (by have := HB3.out.size; simp; omega) (by intro k hk; cases hk; exact hr1); obtain ⟨q1', q2', -, -⟩ := KK.out w4 B4; have hr2 : w1.heap.size ≤ r2 := (by rcases hf2 with h | h; (simp [Value.ownBlock] at h; omega); (have := h r2 rfl; have := HB3.out.size; simp at *; omega)); have HB4 := hid B4; have HO2 := hid ho2; clear B4 ho2 hg2 hf2)
        | (refine step_append2 rfl (.tmp 25) (.tmp 29) 92 rfl 145 i0 _ 3 32 Tryz.underlying92 hi hz0 hz1 hz2 rfl (by decide) (.slice (some ⟨r1, 0, none⟩) l.length cap1) l.length (encEnts l) rfl HO1.out ⟨w1.heap.size, 0, none⟩ 1 1 (encEnt ⟨x, ⟨t, s⟩⟩) rfl rfl HN3.out (encEnt_one _) l3 l4 ?_; intro v2 w4 ho2 hg2 hf2; obtain ⟨r2, cap2, rfl, -, -⟩ := ownsRow.some ho2 (Nat.succ_pos _); have B4 : Below w1.heap.size w1 w4 := HB3.out.grown hg2 HB3.out.size (by intro k hk; cases hk; exact hr1); obtain ⟨q1', q2', -, -⟩ := KK.out w4 B4; have hr2 : w1.heap.size ≤ r2 := (by rcases hf2 with h | h; (simp [Value.ownBlock] at h; omega); (have := h r2 rfl; have := HB3.out.size; omega)); have HB4 := hid B4; have HO2 := hid ho2; clear B4 ho2 hg2 hf2))
      all_goals
        go_wp2
        go_ret
        exact line_more hab (HB.out.trans (HB4.out.mono (by omega))) (by omega) HO2.out

end Go.Proofs.YtoiobhcgpajogaaGreatDoor
/- The walks of Clear of the document's line, and of SameVersions. -/
namespace Go.Proofs.YtoiobhcgpajogaaGreatDoor
open Go.RowKit

theorem Stored.refl {a : Addr} {v : Value} {w : World} (h : w.cell? a = some v) : Stored a v w w := ⟨rfl, rfl, rfl, Nat.le_refl _, fun k _ => (setCell_self h k).symm⟩

theorem setCell_setCell (w : World) (a : Addr) (u v : Value) : ∀ k : Nat, ((w.setCell a u).setCell a v).heap[k]? = (w.setCell a v).heap[k]? := by
  intro k
  simp only [World.setCell, Array.getElem?_modify]
  split
  · cases h : w.heap[k]? with
    | none => rfl
    | some o =>
      cases o <;> simp
      split <;> simp
  · rfl

theorem Stored.again {a : Addr} {u v : Value} {w w' : World} (h : Stored a u w w') (_ha : a.block < w.heap.size) : Stored a v w (w'.setCell a v) :=
  ⟨h.os, h.tape, h.output, by simpa using h.size, fun k hk => by
    rw [← setCell_setCell w a u v k]
    by_cases e : k = a.block
    · subst e
      simp only [World.setCell, Array.getElem?_modify, if_true]
      have := h.block _ hk
      simp only [World.setCell, Array.getElem?_modify, if_true] at this
      rw [this]
    · rw [Below.heap_setCell _ _ _ _ e, Below.heap_setCell _ _ _ _ e]; exact h.block k hk⟩

theorem Stored.there {a : Addr} {u x : Value} {w w' : World} (h : Stored a u w w') (hx : w.cell? a = some x) : w'.cell? a = some u :=
  (World.cell?_of_block (w := w.setCell a u) (h.block _ (World.block_lt_of_cell? w _ hx))).trans (World.cell?_setCell_same w a u hx)

theorem Stored.free {a : Addr} {u : Value} {w w' : World} (h : Stored a u w w') (hx : a.block < w.heap.size) (hf : w.frozen? a = false) : w'.frozen? a = false :=
  (World.frozen?_of_block (w := w.setCell a u) (h.block _ hx)).trans (by rw [World.frozen?_setCell]; exact hf)

theorem Stored.old {a : Addr} {u : Value} {w w' : World} (h : Stored a u w w') {k : Nat} (hk : k < w.heap.size) (hne : k ≠ a.block) : w'.heap[k]? = w.heap[k]? :=
  (h.block k hk).trans (Below.heap_setCell _ _ _ _ hne)

set_option maxHeartbeats 2000000 in
set_option maxRecDepth 100000 in
theorem line_Clear (g : Nat → Nat) (p ab ao : Nat) (v : Value) (l : List Ent) (w : World) (least : Int) (hn : l.length ≤ 1000000) (hL : LineAt w g p v l)
    (hc : w.cell? ⟨ab, ao, none⟩ = some v) (hf : w.frozen? ⟨ab, ao, none⟩ = false) (hg : g ab ≠ p) :
    Calls Tryz.prog 103 #[.pointer (some ⟨ab, ao, none⟩), .int .i64 least] w (LinePost g p ⟨ab, ao, none⟩ ((clearK least l : Nat), l.drop (clearK least l)) w) := by
  have hab := World.block_lt_of_cell? w _ hc
  simp only at hab
  obtain ⟨b, off, cap, rfl, h3, h4, hl, hv, hcells, hgb⟩ := hL.facts
  have hba : b ≠ ab := by rintro rfl; exact hg hgb
  have hne : l ≠ [] := by intro h; subst h; simp at hl
  have hk := clearK_lt least l hne
  have HK := hid (clearK_step least l)
  have HV := hid hv
  have HC := hid hc
  have HF := hid hf
  have HG := hid hgb
  have HX := hid hcells
  clear hv hc hf hgb hcells hL hg hne
  generalize hkk : clearK least l = K at *
  clear hkk
  go_enter Tryz.func103, Tryz.ntmps103
  go_wp2
  go_loopw [5] (fun i wr => ∃ k o m c : Nat, k ≤ K ∧ i = .int .i64 k ∧ Hid (o = off + k * 3) ∧ m + k ≤ l.length ∧ l.length ≤ m + k ∧ Hid (c + k = cap) ∧ Stored ⟨ab, ao, none⟩ (.slice (some ⟨b, o, none⟩) m c) w wr) (fun i _ => K - (intOf i).toNat)
  case atStart => exact ⟨0, off, l.length, cap, Nat.zero_le _, rfl, hid (by omega), by omega, by omega, hid rfl, Stored.refl HC.out⟩
  case round =>
    obtain ⟨k, o, m, c, hkk, rfl, Ho, hm1, hm2, Hc, hS⟩ := hrel
    have n1 := hS.there HC.out
    have n2 := hS.free hab HF.out
    have hst := HK.out k hkk
    have hcm : m ≤ c := by have := Hc.out; omega
    have HS := hid hS
    by_cases hlt : k + 1 < l.length
    · have g1 := (World.cell?_of_block (w := w) (w' := wr) (a := ⟨b, off + (k + 1) * 3, none⟩) (hS.old h4 hba)).trans (HV.out (k + 1) hlt).1
      have e3 : off + (k + 1) * 3 = o + 3 := by rw [Ho.out]; omega
      rw [e3] at g1
      clear e3
      have hc1 : ¬ c = 1 := by omega
      by_cases hle : l[k + 1].n ≤ least
      · have hkK := hst.2 ⟨hlt, hle⟩
        clear hst hS
        generalize l[k + 1] = e at *
        go_wp2
        go_roundw
        case rel => exact ⟨k + 1, o + 3, m - 1, c - 1, by omega, by go_num, hid (by rw [Ho.out]; omega), by omega, by omega, hid (by have := Hc.out; omega), HS.out.again hab⟩
        case measure => simp [intOf]; omega
      · have hkK : ¬ k < K := fun h => by obtain ⟨_, h2⟩ := hst.1 h; exact hle h2
        clear hst hS
        obtain rfl : k = K := by omega
        generalize l[k + 1] = e at *
        go_wp2
        go_ret
        refine ⟨rfl, .slice (some ⟨b, o, none⟩) m c, g, ⟨b, o, c, ?_, ?_, ?_, HG.out, Nat.lt_of_lt_of_le h4 HS.out.size, ?_⟩, HS.out, fun _ _ => rfl⟩
        · rw [List.length_drop]; congr 1; omega
        · simp; omega
        · intro j u hu
          rw [← encEnts_drop, List.getElem?_drop] at hu
          rw [Ho.out, Nat.add_assoc]
          exact (World.cell?_of_block (w := w) (a := ⟨b, off + (k * 3 + j), none⟩) (HS.out.old h4 hba)).trans (HX.out _ _ hu)
        · intro h; have := congrArg List.length h; simp at this; omega
    · have hkK : ¬ k < K := fun h => by obtain ⟨h1, _⟩ := hst.1 h; exact hlt h1
      clear hst hS
      obtain rfl : k = K := by omega
      go_wp2
      go_ret
      refine ⟨rfl, .slice (some ⟨b, o, none⟩) m c, g, ⟨b, o, c, ?_, ?_, ?_, HG.out, Nat.lt_of_lt_of_le h4 HS.out.size, ?_⟩, HS.out, fun _ _ => rfl⟩
      · rw [List.length_drop]; congr 1; omega
      · simp; omega
      · intro j u hu
        rw [← encEnts_drop, List.getElem?_drop] at hu
        rw [Ho.out, Nat.add_assoc]
        exact (World.cell?_of_block (w := w) (a := ⟨b, off + (k * 3 + j), none⟩) (HS.out.old h4 hba)).trans (HX.out _ _ hu)
      · intro h; have := congrArg List.length h; simp at this; omega

end Go.Proofs.YtoiobhcgpajogaaGreatDoor
/- Small things that all walks use. -/
namespace Go.Proofs.YtoiobhcgpajogaaGreatDoor
open Go.RowKit

theorem below_cell {B : Nat} {w w' : World} (h : Below B w w') {b o : Nat} (hb : b < B) : w'.cell? ⟨b, o, none⟩ = w.cell? ⟨b, o, none⟩ := h.cell (p := ⟨b, o, none⟩) hb

theorem Tryz.infoU8 : (Tryz.prog.info? 5).map (fun i => (i.zero, i.size, i.bytes)) = some (some (.int .u8 0), 1, 1) := by kernel_rfl

theorem ba_data (s : ByteArray) : (⟨s.data.toList.toArray⟩ : ByteArray) = s := by simp

theorem toList_data (s : ByteArray) : s.toList = s.data.toList := ByteArray.toList_eq s

theorem ba_eq_iff (l : List UInt8) (t : ByteArray) : (⟨l.toArray⟩ : ByteArray) = t ↔ l = t.data.toList := by
  constructor
  · rintro rfl
    rfl
  · rintro rfl
    exact ba_data t

/-- A list is built by its end. -/
theorem snoc_ind {α : Type} {P : List α → Prop} (nil : P []) (snoc : ∀ l x, P l → P (l ++ [x])) (l : List α) : P l := by
  have h : ∀ r : List α, P r.reverse := by
    intro r
    induction r with
    | nil => exact nil
    | cons x r ih => rw [List.reverse_cons]; exact snoc _ _ ih
  have := h l.reverse
  rwa [List.reverse_reverse] at this

/-- A store into a block of the colour q. -/
theorem evo_store {g : Nat → Nat} {w : World} {b i q : Nat} (v : Value) (hq : g b = q) : Evo q (q + 1) g g w (w.setCell ⟨b, i, none⟩ v) :=
  ⟨rfl, rfl, rfl, by simp, fun _ _ => rfl, fun k _ hn => Below.heap_setCell _ _ _ _ (by rintro rfl; exact hn ⟨by simp [hq], by simp [hq]⟩)⟩

theorem ownsRow.zero {w : World} {B e size : Nat} {v : Value} {n : Nat} {xs : List Value} (h : w.ownsRow B e size v n xs) : w.ownsRow 0 e size v n xs :=
  ⟨h.1, h.2.imp id fun ⟨g, cap, cur, h1, _, h2⟩ => ⟨g, cap, cur, h1, Nat.zero_le _, h2⟩⟩

theorem evo_grown {g : Nat → Nat} {p : Nat} {w w' : World} {r : Option Nat} (hg : w.grownBy w' r) (hr : ∀ k, r = some k → g k = p) : Evo p (p + 1) g (extc g w p) w w' :=
  ⟨hg.os, hg.tape, hg.output, hg.size, fun _ h => extc_old h, fun k hk hn => hg.block k hk (by rintro rfl; have := hr k rfl; exact hn ⟨by omega, by omega⟩)⟩

theorem LocC.set {w : World} {g : Nat → Nat} {q b : Nat} {T : TypeId} {cs : List Value} (h : LocC w g q b T cs) (i : Nat) (v : Value) : LocC (w.setCell ⟨b, i, none⟩ v) g q b T (cs.set i v) := ⟨h.1.set i v, h.2⟩

theorem evo_drewN {lo hi : Nat} {g g' : Nat → Nat} {w w' : World} (h : Evo lo hi g g' w w') (n : Nat) : Evo lo hi g g' w (w'.drewN n) := ⟨h.os, h.tape, h.output, h.size, h.col, h.same⟩

theorem LocC.drewN {w : World} {g : Nat → Nat} {q b : Nat} {T : TypeId} {cs : List Value} (h : LocC w g q b T cs) (n : Nat) : LocC (w.drewN n) g q b T cs := h

end Go.Proofs.YtoiobhcgpajogaaGreatDoor
/- Plain laws of versions: no program. -/
namespace Go.Proofs.YtoiobhcgpajogaaGreatDoor
open Go.RowKit

def Sorted (m : List Ent) : Prop := m ≠ [] ∧ m.Pairwise (fun x y => x.n < y.n) ∧ 0 ≤ firstN m

theorem Sorted.start : Sorted [⟨0, Val.zero⟩] := ⟨by simp, by simp, by simp [firstN]⟩

theorem lastN_ge {m : List Ent} (h : m.Pairwise (fun x y => x.n < y.n)) : ∀ e ∈ m, e.n ≤ lastN m := by
  induction m with
  | nil => intro e he; cases he
  | cons a l ih =>
    intro e he
    rw [List.pairwise_cons] at h
    cases l with
    | nil =>
      rw [List.mem_singleton] at he
      subst he
      simp [lastN]
    | cons b l =>
      have hl : lastN (a :: b :: l) = lastN (b :: l) := by simp [lastN, List.getLast?_cons_cons]
      rw [hl]
      rcases List.mem_cons.1 he with rfl | he
      · have h1 := h.1 b (by simp)
        have h2 := ih h.2 b (by simp)
        omega
      · exact ih h.2 e he

theorem Sorted.put {m : List Ent} (h : Sorted m) (a : Int) (v : Val) : Sorted (putC m a v).2 := by
  unfold putC
  split
  · exact h
  · split
    · exact h
    · rename_i hlt
      refine ⟨by simp, ?_, ?_⟩
      · rw [List.pairwise_append]
        refine ⟨h.2.1, by simp, fun x hx y hy => ?_⟩
        rw [List.mem_singleton] at hy
        subst hy
        have := lastN_ge h.2.1 x hx
        show x.n < a
        omega
      · have h3 := h.2.2
        have h1 := h.1
        cases m with
        | nil => exact absurd rfl h1
        | cons e l => simpa [firstN] using h3

theorem Sorted.drop {m : List Ent} (h : Sorted m) (k : Nat) (hk : k < m.length) : Sorted (m.drop k) := by
  refine ⟨by intro e; have := congrArg List.length e; simp at this; omega, h.2.1.sublist (List.drop_sublist k m), ?_⟩
  have hmem : (m.drop k).headD default ∈ m := by
    cases hd : m.drop k with
    | nil => have := congrArg List.length hd; simp at this; omega
    | cons e l => exact (List.drop_sublist k m).subset (by rw [hd]; simp)
  obtain ⟨h1, h2, h3⟩ := h
  cases m with
  | nil => exact absurd rfl h1
  | cons e l =>
    have h0 : 0 ≤ e.n := h3
    show 0 ≤ ((e :: l).drop k |>.headD default).n
    rcases List.mem_cons.1 hmem with he | he
    · rw [he]; exact h0
    · have := (List.pairwise_cons.1 h2).1 _ he
      omega

theorem lastLe_find (l : List Ent) (a : Int) : lastLe l a = match l.reverse.find? (fun e => decide (e.n ≤ a)) with | some e => e.v | none => Val.zero := by
  have h : ∀ r : List Ent, lastLe r.reverse a = match r.find? (fun e => decide (e.n ≤ a)) with | some e => e.v | none => Val.zero := by
    intro r
    induction r with
    | nil => rfl
    | cons e r ih =>
      rw [List.reverse_cons, lastLe_snoc, List.find?_cons]
      by_cases h : e.n ≤ a
      · simp [h]
      · simp [h, ih]
  have := h l.reverse
  rwa [List.reverse_reverse] at this

theorem find_first {m : List Ent} (h : Sorted m) (a : Int) : (m.reverse.find? (fun e => decide (e.n ≤ a)) = none) ↔ a < firstN m := by
  rw [List.find?_eq_none]
  obtain ⟨h1, h2, h3⟩ := h
  cases m with
  | nil => exact absurd rfl h1
  | cons e l =>
    constructor
    · intro h
      have := h e (by simp)
      simpa [firstN] using this
    · intro h x hx
      rw [List.mem_reverse] at hx
      have he : a < e.n := h
      rcases List.mem_cons.1 hx with rfl | hx
      · simpa using he
      · have := (List.pairwise_cons.1 h2).1 x hx
        simp; omega

theorem read_same {m : List Ent} (h : Sorted m) (a : Int) : readR m a = readC m a := by
  unfold readR readC
  by_cases h0 : a < 0
  · simp [h0]
  · simp only [h0, if_false]
    by_cases h1 : a < firstN m
    · rw [if_pos h1, (find_first h a).2 h1]
    · rw [if_neg h1, lastLe_find]
      cases hf : m.reverse.find? (fun e => decide (e.n ≤ a)) with
      | none => exact absurd ((find_first h a).1 hf) h1
      | some e => rfl

theorem clear_last {m : List Ent} (k : Nat) (hk : k < m.length) : lastN (m.drop k) = lastN m := by
  unfold lastN
  rw [List.getLastD_eq_getLast?, List.getLastD_eq_getLast?, List.getLast?_drop, if_neg (by omega)]

theorem put_read {m : List Ent} (h : m ≠ []) (a x : Int) (v : Val) (hax : x < a) : readC (putC m a v).2 x = readC m x := by
  unfold putC
  split
  · rfl
  · split
    · rfl
    · have hf : firstN (m ++ [⟨a, v⟩]) = firstN m := by
        cases m with
        | nil => exact absurd rfl h
        | cons e l => rfl
      unfold readC
      simp only [hf, lastLe_snoc]
      rw [if_neg (show ¬ a ≤ x by omega)]

theorem put_ne {m : List Ent} (h : m ≠ []) (a : Int) (v : Val) : (putC m a v).2 ≠ [] := by
  unfold putC
  split
  · exact h
  · split
    · exact h
    · simp

end Go.Proofs.YtoiobhcgpajogaaGreatDoor
/- The walk of has. -/
namespace Go.Proofs.YtoiobhcgpajogaaGreatDoor
open Go.RowKit
end Go.Proofs.YtoiobhcgpajogaaGreatDoor
/- The walk of SameVersions, where both are the same. -/
namespace Go.Proofs.YtoiobhcgpajogaaGreatDoor
open Go.RowKit
end Go.Proofs.YtoiobhcgpajogaaGreatDoor
/- append of whatever slice is read, nil or not, onto a row of the call's own: as an operation of a region, and as one step of a region that draws. -/
namespace Go.Proofs.YtoiobhcgpajogaaGreatDoor
open Go.RowKit

section
variable {P : Program} {ops : Array Oper} {rest : List Oper} {o : Oper} {a : Act} {w : World} {K : Act → World → Prop} {Q : Exit → Act → World → Prop}

theorem sliceAt_none {w : World} {cells : List Value} (h : SliceAt w none cells) : cells = [] := by
  rcases h with h | ⟨_, _, h, _⟩
  · exact h
  · cases h

theorem wp_app (s x : Operand) (t : TypeId) (hop : o.op = Op.call { callee := Callee.builtin Builtin.append, args := #[s, x], argTypes := #[t, t] })
    (base : Nat) (e : TypeId) (i : TypeInfo) (z : Value) (size bytes : Nat) (ht : P.underlying t = some (.slice e)) (hi : P.info? e = some i) (hz : i.zero = some z)
    (hsize : i.size = size) (hby : i.bytes = bytes) (hzs : z.cells.size = size) (hsz : 0 < size)
    (v : Value) (n : Nat) (xs : List Value) (hs : a.eval s = v) (hown : w.ownsRow base e size v n xs)
    (ad : Option Addr) (m c : Nat) (news : List Value) (hx : a.eval x = .slice ad m c) (hl : news.length = m * size) (hnews : SliceAt w ad news) (hnone : ad = none → c = 0) (h1 : ∀ u ∈ news, u.oneCell' = true)
    (h63 : n + m ≤ maxLen) (hbytes : (n + m) * bytes ≤ 140737488355328) (hbase : base ≤ w.heap.size)
    (hK : ∀ v' w', w'.ownsRow base e size v' (n + m) (xs ++ news) → w.grownBy w' v.ownBlock → K (a.put o.dst v') w') : o.wp P a w K Q := by
  cases ad with
  | none =>
    have hn := sliceAt_none hnews
    subst hn
    have hm : m = 0 := by
      rcases Nat.mul_eq_zero.1 hl.symm with h | h
      · exact h
      · omega
    have hc := hnone rfl
    subst hm
    subst hc
    have hrun := run_append_owned_none (P := P) (w := w) base t o.type e i size ht hi v n xs hown
    unfold Oper.wp execOp
    simp only [hop, resolve, invoke, builtin, Sem.run_bind, Sem.run_pure, Result.andThen_ok, List.map_toArray, List.map_cons, List.map_nil, hs, hx, hrun]
    exact hK _ _ (by simpa using hown) (World.grownBy.refl _ _)
  | some ad =>
    have hcs : ∀ j u, news[j]? = some u → w.cell? (ad.add j) = some u := by
      intro j u hu
      rcases hnews with h | ⟨b, off, h, hc⟩
      · rw [h] at hu; simp at hu
      · cases h
        have e1 : (⟨b, off, none⟩ : Addr).add j = ⟨b, off + j, none⟩ := by unfold Addr.add; split <;> simp_all
        rw [e1]
        exact hc j u hu
    obtain ⟨v', w', hr, h2, h3, -⟩ := run_append_own (P := P) w base t o.type e i z size bytes ht hi hz hsize hby hzs hsz v n xs hown ad m c news hl hcs h1 h63 hbytes hbase
    unfold Oper.wp execOp
    simp only [hop, resolve, invoke, builtin, Sem.run_bind, Sem.run_pure, Result.andThen_ok, List.map_toArray, List.map_cons, List.map_nil, hs, hx, hr]
    exact hK _ _ h2 h3

theorem wpList_app (hgd : o.guard = none) (s x : Operand) (t : TypeId) (hop : o.op = Op.call { callee := Callee.builtin Builtin.append, args := #[s, x], argTypes := #[t, t] })
    (base : Nat) (e : TypeId) (i : TypeInfo) (z : Value) (size bytes : Nat) (ht : P.underlying t = some (.slice e)) (hi : P.info? e = some i) (hz : i.zero = some z)
    (hsize : i.size = size) (hby : i.bytes = bytes) (hzs : z.cells.size = size) (hsz : 0 < size)
    (v : Value) (n : Nat) (xs : List Value) (hs : a.eval s = v) (hown : w.ownsRow base e size v n xs)
    (ad : Option Addr) (m c : Nat) (news : List Value) (hx : a.eval x = .slice ad m c) (hl : news.length = m * size) (hnews : SliceAt w ad news) (hnone : ad = none → c = 0) (h1 : ∀ u ∈ news, u.oneCell' = true)
    (h63 : n + m ≤ maxLen) (hbytes : (n + m) * bytes ≤ 140737488355328) (hbase : base ≤ w.heap.size)
    (hK : ∀ v' w', w'.ownsRow base e size v' (n + m) (xs ++ news) → w.grownBy w' v.ownBlock → wpList P ops Q rest (a.put o.dst v') w') : wpList P ops Q (o :: rest) a w :=
  wpList_plain hgd fun _ hK' => wp_app s x t hop base e i z size bytes ht hi hz hsize hby hzs hsz v n xs hs hown ad m c news hx hl hnews hnone h1 h63 hbytes hbase fun v' w' h2 h3 => hK' _ _ (hK v' w' h2 h3)

end

theorem SliceAt.take {w : World} {a : Option Addr} {cells : List Value} (h : SliceAt w a cells) (j : Nat) : SliceAt w a (cells.take j) := by
  rcases h with h | ⟨b, off, e, h⟩
  · subst h; exact .inl (by simp)
  · refine .inr ⟨b, off, e, fun k u hu => ?_⟩
    rw [List.getElem?_take] at hu
    split at hu
    · exact h _ _ hu
    · cases hu

end Go.Proofs.YtoiobhcgpajogaaGreatDoor
