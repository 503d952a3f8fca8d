/- The walks of the document's own line of versions (vaultageref.Line), and of SameVersions. -/
import Derived.Test.YtoiobhcgpajogabChain3
import Derived.Test.YtoiobhcgpajogabChain4
namespace Go.Proofs.Ytoiobhcgpajogab
open Go.RowKit

/-- A line is a slice of versions; nobody writes its cells. -/
def LineAt (w : World) (g : Nat → Nat) (p : Nat) (v : Value) (l : List Ent) : Prop :=
  ∃ b off cap, v = .slice (some ⟨b, off, none⟩) l.length cap ∧ l.length ≤ cap ∧ (∀ j u, (encEnts l)[j]? = some u → w.cell? ⟨b, off + j, none⟩ = some u) ∧ g b = p ∧ b < w.heap.size ∧ l ≠ []

theorem LineAt.lift {w w' : World} {g g' : Nat → Nat} {p : Nat} {v : Value} {l : List Ent} (h : LineAt w g p v l) (hz : w.heap.size ≤ w'.heap.size) (hs : ∀ b, b < w.heap.size → g b = p → w'.heap[b]? = w.heap[b]? ∧ g' b = g b) : LineAt w' g' p v l := by
  obtain ⟨b, off, cap, rfl, h1, h2, h3, h4, h5⟩ := h
  have := hs b h4 h3
  exact ⟨b, off, cap, rfl, h1, fun j u hu => (World.cell?_of_block (w := w) (a := ⟨b, off + j, none⟩) this.1).trans (h2 j u hu), this.2.trans h3, by omega, h5⟩

theorem LineAt.frame {lo hi : Nat} {g g' : Nat → Nat} {w w' : World} {p : Nat} {v : Value} {l : List Ent} (h : LineAt w g p v l) (k : Evo lo hi g g' w w') (hc : p < lo ∨ hi ≤ p) : LineAt w' g' p v l :=
  h.lift k.size fun b hb hp => ⟨k.same b hb (by omega), k.col b hb⟩

theorem LineAt.below {w w' : World} {g : Nat → Nat} {p : Nat} {v : Value} {l : List Ent} (h : LineAt w g p v l) (k : Below w.heap.size w w') : LineAt w' g p v l :=
  h.lift k.size fun b hb _ => ⟨k.block b hb, rfl⟩

theorem LineAt.alloc {w : World} {g : Nat → Nat} {p : Nat} {v : Value} {l : List Ent} (h : LineAt w g p v l) (o : Obj) : LineAt (w.alloc o) g p v l := h.below ((Below.refl _ _).alloc (Nat.le_refl _) _)

theorem LineAt.facts {w : World} {g : Nat → Nat} {p : Nat} {v : Value} {l : List Ent} (h : LineAt w g p v l) :
    ∃ b off cap, v = .slice (some ⟨b, off, none⟩) l.length cap ∧ l.length ≤ cap ∧ b < w.heap.size ∧ 0 < l.length ∧
      (∀ i (hi : i < l.length), w.cell? ⟨b, off + i * 3, none⟩ = some (.int .i64 l[i].n) ∧ w.cell? ⟨b, off + i * 3 + 1, none⟩ = some (.bool l[i].v.there) ∧ w.cell? ⟨b, off + i * 3 + 2, none⟩ = some (.string l[i].v.bytes)) ∧
      (∀ j u, (encEnts l)[j]? = some u → w.cell? ⟨b, off + j, none⟩ = some u) ∧ g b = p := by
  obtain ⟨b, off, cap, rfl, h1, h2, h3, h4, h5⟩ := h
  refine ⟨b, off, cap, rfl, h1, h4, List.length_pos_iff.2 h5, fun i hi => ?_, h2, h3⟩
  have g := encEnts_get l i hi
  exact ⟨h2 _ _ g.1, h2 _ _ g.2.1, h2 _ _ g.2.2⟩

theorem line_New (g : Nat → Nat) (p : Nat) (w : World) : Calls Try.prog 76 #[] w fun e w' => ∃ v, e = .returned v ∧ Below w.heap.size w w' ∧ LineAt w' (extc g w p) p v [⟨0, Val.zero⟩] := by
  go_enter Try.func76, Try.ntmps76
  go_wp2
  go_ret
  refine ⟨_, rfl, (Below.refl _ _).alloc (Nat.le_refl _) _, w.heap.size, 0, 1, rfl, by simp, ?_, extc_new (Nat.le_refl _), by simp, by simp⟩
  intro j u hu
  rw [Nat.zero_add, World.cell?_alloc_new, List.getElem?_toArray]
  exact hu

theorem ref_IsKey (k : Int) (w : World) :
    Calls Try.prog 21 #[.int .i64 k] w fun e w' => e = .returned (.bool (decide (0 ≤ k) && decide (k < 8))) ∧ w = w' := by
  by_cases h : 0 ≤ k
  · go_enter Try.func21, Try.ntmps21
    go_wp2
    go_ret
    exact ⟨by simp [h], rfl⟩
  · have h' : decide (0 ≤ k) = false := by simpa using h
    go_enter Try.func21, Try.ntmps21
    go_wp2
    go_ret
    exact ⟨rfl, rfl⟩

theorem isEmpty_size (s : ByteArray) : s.toList.isEmpty = decide (s.size = 0) := by
  rw [← decide_eq_emptyBytes]
  have : s = ByteArray.empty ↔ s.size = 0 := by
    constructor
    · rintro rfl; rfl
    · intro h
      cases s with | mk d =>
      have : d = #[] := Array.eq_empty_of_size_eq_zero h
      subst this; rfl
  exact decide_eq_decide.2 this

theorem ckV_long {t : Bool} {s : ByteArray} (h : 12 < s.size) : ckV ⟨t, s⟩ = 2 := by simp [ckV, h]
theorem ckV_form {s : ByteArray} (h : s.size ≤ 12) (h2 : 0 < s.size) : ckV ⟨false, s⟩ = 4 := by
  have e : decide (s.size = 0) = false := decide_eq_false (by omega)
  unfold ckV
  rw [if_neg (show ¬ 12 < s.size by omega), isEmpty_size, e]; rfl
theorem ckV_there {s : ByteArray} (h : s.size ≤ 12) : ckV ⟨true, s⟩ = 0 := by simp [ckV, show ¬ 12 < s.size by omega]
theorem ckV_none {t : Bool} {s : ByteArray} (h : s.size = 0) : ckV ⟨t, s⟩ = 0 := by simp [ckV, isEmpty_size, h]

theorem ref_ValueFault (t : Bool) (s : ByteArray) (w : World) (hs : s.size ≤ maxLen) :
    Calls Try.prog 83 #[.agg #[.bool t, .string s]] w (ValPost (ckV ⟨t, s⟩) w) := by
  unfold maxLen at hs
  have fin : ∀ x, x = ckV ⟨t, s⟩ → ∀ w' : World, Below w.heap.size w w' → ValPost (ckV ⟨t, s⟩) w (.returned (.int .i64 x)) w' := fun x hx w' hb => ⟨by rw [hx], hb⟩
  have F := hid fin
  clear fin
  by_cases h1 : 12 < s.size
  · go_enter Try.func83, Try.ntmps83
    go_wp2
    go_ret
    exact F.out _ (ckV_long h1).symm _ ((Below.refl _ _).alloc (Nat.le_refl _) _)
  · have h1' : s.size ≤ 12 := by omega
    by_cases h2 : 0 < s.size
    · cases t
      · go_enter Try.func83, Try.ntmps83
        go_wp2
        go_ret
        exact F.out _ (ckV_form h1' h2).symm _ ((Below.refl _ _).alloc (Nat.le_refl _) _)
      · go_enter Try.func83, Try.ntmps83
        go_wp2
        go_ret
        exact F.out _ (ckV_there h1').symm _ ((Below.refl _ _).alloc (Nat.le_refl _) _)
    · have h2' : s.size = 0 := by omega
      have H := hid h2'
      clear h2'
      have h3 : ¬ ((0 : Int) < (s.size : Int)) := by omega
      cases t
      all_goals
        go_enter Try.func83, Try.ntmps83
        go_wp2
        go_ret
        exact F.out _ (ckV_none H.out).symm _ ((Below.refl _ _).alloc (Nat.le_refl _) _)


theorem line_Last (g : Nat → Nat) (p : Nat) (v : Value) (l : List Ent) (w : World) (hn : l.length ≤ 1000000) (hL : LineAt w g p v l) :
    Calls Try.prog 84 #[v] w fun e w' => e = .returned (.int .i64 (lastN l)) ∧ w = w' := by
  obtain ⟨b, off, cap, rfl, h1, h2, hl, hv, -, -⟩ := hL.facts
  have g1 := (hv (l.length - 1) (by omega)).1
  rw [lastN_get l hl] at g1
  obtain ⟨n, hn'⟩ : ∃ n, l.length = n + 1 := ⟨l.length - 1, by omega⟩
  rw [hn'] at g1 hn
  rw [hn']
  simp only [Nat.add_sub_cancel] at g1
  clear hv hn' hl
  go_enter Try.func84, Try.ntmps84
  go_wp2
  go_ret
  exact ⟨rfl, rfl⟩

/-- What the document's line reads. -/
def readR (l : List Ent) (a : Int) : Val × Int :=
  if a < 0 then (Val.zero, 1) else match l.reverse.find? (fun e => decide (e.n ≤ a)) with
    | some e => (e.v, 0)
    | none => (Val.zero, 12)

theorem find_none_take (l : List Ent) (a : Int) (k : Nat) (hk : k < l.length) (h : ∀ i (hi : i < l.length), k < i → ¬ l[i].n ≤ a) (hle : l[k].n ≤ a) :
    l.reverse.find? (fun e => decide (e.n ≤ a)) = some l[k] := by
  have e : l.reverse = (l.take k ++ l[k] :: l.drop (k + 1)).reverse := by rw [List.getElem_cons_drop, List.take_append_drop]
  rw [e, List.reverse_append, List.find?_append]
  have h1 : (l[k] :: l.drop (k + 1)).reverse.find? (fun e => decide (e.n ≤ a)) = some l[k] := by
    rw [List.reverse_cons, List.find?_append]
    have : (l.drop (k + 1)).reverse.find? (fun e => decide (e.n ≤ a)) = none := by
      rw [List.find?_eq_none]
      intro x hx
      rw [List.mem_reverse] at hx
      obtain ⟨i, hi, rfl⟩ := List.getElem_of_mem hx
      rw [List.getElem_drop]
      simp only [List.length_drop] at hi
      simpa using h (k + 1 + i) (by omega) (by omega)
    rw [this]
    simp [hle]
  rw [h1]
  rfl

set_option maxHeartbeats 1000000 in
set_option maxRecDepth 100000 in
theorem line_Read (g : Nat → Nat) (p : Nat) (v : Value) (l : List Ent) (w : World) (a : Int) (hn : l.length ≤ 1000000) (hL : LineAt w g p v l) :
    Calls Try.prog 75 #[v, .int .i64 a] w (ReadPost (readR l a) w) := by
  obtain ⟨b, off, cap, rfl, h1, h2, hl, hv, -, -⟩ := hL.facts
  by_cases h0 : a < 0
  · have e1 : readR l a = (Val.zero, 1) := by simp [readR, h0]
    rw [e1]
    clear hv
    go_enter Try.func75, Try.ntmps75
    go_wp2
    refine bodyPost_ret (v := .tuple #[.agg #[.bool false, .string ByteArray.empty], .int .i64 1]) (by simp [results, Try.results75, go_sem]; rfl) rfl ⟨rfl, ?_⟩
    exact (Below.refl _ _).alloc (Nat.le_refl _) _
  · have h0' : 0 ≤ a := by omega
    have HV := hid hv
    have fin1 : ∀ k (hk : k < l.length), (∀ i (hi : i < l.length), k < i → a < l[i].n) → l[k].n ≤ a → readR l a = (l[k].v, 0) := by
      intro k hk h hle
      simp [readR, h0, find_none_take l a k hk (fun i hi hh => by have := h i hi hh; omega) hle]
    have fin2 : (∀ i (hi : i < l.length), a < l[i].n) → readR l a = (Val.zero, 12) := by
      intro h
      have : l.reverse.find? (fun e => decide (e.n ≤ a)) = none := by
        rw [List.find?_eq_none]
        intro x hx
        rw [List.mem_reverse] at hx
        obtain ⟨i, hi, rfl⟩ := List.getElem_of_mem hx
        simpa using h i hi
      simp [readR, h0, this]
    have F1 := hid fin1
    have F2 := hid fin2
    clear fin1 fin2 hv h0 hL
    go_enter Try.func75, Try.ntmps75
    go_wp2
    go_loop [6] (fun i => ∃ k : Nat, k ≤ l.length ∧ i = .int .i64 ((k : Int) - 1) ∧ Hid (∀ i (hi : i < l.length), k ≤ i → a < l[i].n)) (fun i => (intOf i + 1).toNat)
    case atStart => exact ⟨l.length, Nat.le_refl _, rfl, hid (fun i hi h => by omega)⟩
    case round =>
      obtain ⟨k, hk, rfl, HH⟩ := hrel
      cases k with
      | zero =>
        have e := F2.out (fun i hi => HH.out i hi (Nat.zero_le _))
        have E := hid e
        clear e
        go_wp2
        refine bodyPost_ret (v := .tuple #[.agg #[.bool false, .string ByteArray.empty], .int .i64 12]) (by simp [results, Try.results75, go_sem]; rfl) rfl ⟨by rw [E.out]; rfl, ?_⟩
        exact (Below.refl _ _).alloc (Nat.le_refl _) _
      | succ k =>
        have e1 : (((k + 1 : Nat) : Int) - 1) = (k : Int) := by omega
        rw [e1]
        clear e1
        have hkl : k < l.length := by omega
        obtain ⟨g1, g2, g3⟩ := HV.out k hkl
        by_cases hle : l[k].n ≤ a
        · have e := F1.out k hkl (fun i hi h => HH.out i hi h) hle
          have E := hid e
          clear e
          go_wp2
          refine bodyPost_ret (v := .tuple #[.agg #[.bool l[k].v.there, .string l[k].v.bytes], .int .i64 0]) (by simp [results, Try.results75, go_sem]) rfl ⟨by rw [E.out], ?_⟩
          exact (Below.refl _ _).alloc (Nat.le_refl _) _
        · have hh : Hid (∀ i (hi : i < l.length), k ≤ i → a < l[i].n) := hid (fun i hi h => by
            by_cases e : i = k
            · subst e; omega
            · exact HH.out i hi (by omega))
          go_wp2
          go_round
          case rel => exact ⟨k, by omega, by go_num, hh⟩
          case measure => simp [intOf]

end Go.Proofs.Ytoiobhcgpajogab
