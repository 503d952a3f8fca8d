/- Plain laws of a log: its bytes, the table of bytes. -/
import Derived.Test.YtoiobhcgpajogabGreatDoorTab1
import Derived.Test.YtoiobhcgpajogabGreatDoorCodec7
import Derived.Test.YtoiobhcgpajogabGreatDoorCodec1
namespace Go.Proofs.YtoiobhcgpajogabGreatDoor
open Go.RowKit

def encAll (L : List (List Ent)) : List UInt8 := L.flatMap encL

theorem encAll_snoc (L : List (List Ent)) (w : List Ent) : encAll (L ++ [w]) = encAll L ++ encL w := by simp [encAll]

theorem encAll_cons (L : List (List Ent)) (w : List Ent) : encAll (w :: L) = encL w ++ encAll L := by simp [encAll]

/-- The table of the commits with which bytes begin; how many bytes these have. -/
def tabGo : Nat → Tab → List UInt8 → Tab × Nat
  | 0, T, _ => (T, 0)
  | f + 1, T, b => if (decL b).2.2 ≠ 0 then (T, 0) else if (writeT T (decL b).1).1.2 ≠ 0 then (T, 0) else
      ((tabGo f (writeT T (decL b).1).2 (b.drop (decL b).2.1.toNat)).1, (decL b).2.1.toNat + (tabGo f (writeT T (decL b).1).2 (b.drop (decL b).2.1.toNat)).2)

def tabOf (b : List UInt8) : Tab × Nat := tabGo 41 Tab.new b

def writeAll (T : Tab) (L : List (List Ent)) : Tab := L.foldl (fun T w => (writeT T w).2) T

theorem writeAll_snoc (T : Tab) (L : List (List Ent)) (w : List Ent) : writeAll T (L ++ [w]) = (writeT (writeAll T L) w).2 := by simp [writeAll]

theorem writeAll_ok {T : Tab} (h : T.Ok) (L : List (List Ent)) : (writeAll T L).Ok := by
  unfold writeAll
  induction L generalizing T with
  | nil => exact h
  | cons w L ih => exact ih (write_ok h w)

theorem decL_bound {b : List UInt8} (h : (decL b).2.2 = 0) : 2 ≤ (decL b).2.1.toNat ∧ (decL b).2.1.toNat ≤ b.length ∧ (decL b).2.1 = ((decL b).2.1.toNat : Int) ∧ ckPs (-1) (decL b).1 = 0 ∧ encL (decL b).1 = b.take (decL b).2.1.toNat := by
  have h1 := decL_inv (b := b) (l := (decL b).1) (n := (decL b).2.1) (by rw [← h])
  obtain ⟨i1, i2, i3, i4⟩ := h1
  have h2 := encL_bound i1
  have e : (decL b).2.1.toNat = (encL (decL b).1).length := by omega
  refine ⟨by omega, by omega, by omega, i1, ?_⟩
  rw [e, i4]

theorem write_fine {T : Tab} {w : List Ent} (h : ckPs (-1) w = 0) (hl : T.last < 40) : (writeT T w).1 = ((T.last : Int) + 1, 0) ∧ (writeT T w).2.last = T.last + 1 := by
  unfold writeT
  rw [if_neg (by simpa using h), if_neg (by omega)]
  exact ⟨rfl, rfl⟩

theorem writeAll_last {T : Tab} {L : List (List Ent)} (h : ∀ w ∈ L, ckPs (-1) w = 0) (hl : T.last + L.length ≤ 40) : (writeAll T L).last = T.last + L.length := by
  unfold writeAll
  induction L generalizing T with
  | nil => rfl
  | cons w L ih =>
    simp only [List.length_cons] at hl
    have h1 := write_fine (h w (List.mem_cons_self ..)) (T := T) (by omega)
    rw [List.foldl_cons, ih (fun x hx => h x (List.mem_cons_of_mem _ hx)) (by omega), h1.2]
    simp only [List.length_cons]
    omega

/-- Bytes of commits, and then no more: their table is of these. -/
theorem tabGo_enc (f : Nat) {T : Tab} {L : List (List Ent)} {torn : List UInt8} (h : ∀ w ∈ L, ckPs (-1) w = 0) (hl : T.last + L.length ≤ 40) (hf : L.length < f) (ht : (decL torn).2.2 ≠ 0) :
    tabGo f T (encAll L ++ torn) = (writeAll T L, (encAll L).length) := by
  induction L generalizing T f with
  | nil =>
    cases f with
    | zero => simp at hf
    | succ f =>
      have e : encAll [] ++ torn = torn := rfl
      rw [tabGo, e, if_pos ht]
      rfl
  | cons w L ih =>
    cases f with
    | zero => simp at hf
    | succ f =>
      simp only [List.length_cons] at hl hf
      have hw := h w (List.mem_cons_self ..)
      have h1 := write_fine hw (T := T) (by omega)
      have e : encAll (w :: L) ++ torn = encL w ++ (encAll L ++ torn) := by rw [encAll_cons, List.append_assoc]
      rw [tabGo, e, decL_encL w _ hw]
      simp only [ne_eq, not_true, if_false, h1.1, Int.toNat_natCast, List.drop_left]
      rw [ih f (fun x hx => h x (List.mem_cons_of_mem _ hx)) (by omega) (by omega), encAll_cons, List.length_append]
      rfl

theorem tabOf_enc {L : List (List Ent)} {torn : List UInt8} (h : ∀ w ∈ L, ckPs (-1) w = 0) (hl : L.length ≤ 40) (ht : (decL torn).2.2 ≠ 0) :
    tabOf (encAll L ++ torn) = (writeAll Tab.new L, (encAll L).length) := tabGo_enc 41 h (by simpa [Tab.new] using hl) (by omega) ht

/-- A log: what was put; what is torn behind it. -/
structure Lg where
  l : List (List Ent)
  torn : List UInt8

def Lg.new : Lg := ⟨[], []⟩
def Lg.bytes (G : Lg) : List UInt8 := encAll G.l ++ G.torn

def Lg.Ok (G : Lg) : Prop := (∀ w ∈ G.l, ckPs (-1) w = 0) ∧ G.l.length ≤ 40 ∧ G.bytes.length ≤ 3000 ∧ (decL G.torn).2.2 ≠ 0

theorem Lg.new_ok : Lg.new.Ok := ⟨by simp [Lg.new], by simp [Lg.new], by simp [Lg.new, Lg.bytes, encAll], by simp [Lg.new, decL_nil']⟩
  where decL_nil' : decL [] = ([], 0, 6) := rfl

def putG (G : Lg) (w : List Ent) : Int × Lg :=
  if ckPs (-1) w ≠ 0 then (ckPs (-1) w, G) else if 40 ≤ G.l.length ∨ 3000 < G.bytes.length + (encL w).length then (9, G) else (0, ⟨G.l ++ [w], G.torn⟩)

def tearG (G : Lg) (w : List Ent) (keep : Int) : Int × Lg :=
  if (putG G w).1 ≠ 0 then ((putG G w).1, G) else if ((encL w).length : Int) ≤ keep then (0, ⟨G.l ++ [w], G.torn⟩) else (0, ⟨G.l, G.torn ++ (encL w).take keep.toNat⟩)

def mendG (G : Lg) : Lg := ⟨G.l, []⟩

theorem putG_ok {G : Lg} (h : G.Ok) (ht : G.torn = []) (w : List Ent) : (putG G w).2.Ok ∧ (putG G w).2.torn = [] := by
  unfold putG
  split
  · exact ⟨h, ht⟩
  · rename_i h1
    split
    · exact ⟨h, ht⟩
    · rename_i h2
      refine ⟨⟨?_, ?_, ?_, h.2.2.2⟩, ht⟩
      · intro x hx
        rcases List.mem_append.1 hx with hx | hx
        · exact h.1 x hx
        · rw [List.mem_singleton] at hx; subst hx; simpa using h1
      · simp only [List.length_append, List.length_singleton]; omega
      · simp only [Lg.bytes, ht, List.append_nil, encAll_snoc, List.length_append] at h2 ⊢
        omega

theorem tearG_ok {G : Lg} (h : G.Ok) (ht : G.torn = []) (w : List Ent) (keep : Int) : (tearG G w keep).2.Ok := by
  unfold tearG
  split
  · exact h
  · rename_i h1
    have hp := putG_ok h ht w
    have hz : (putG G w).1 = 0 := by simpa using h1
    unfold putG at hz hp
    split at hz
    · rename_i h2; exact absurd hz h2
    · split at hz
      · simp at hz
      · rename_i h2 h3
        rw [if_neg h2, if_neg h3] at hp
        split
        · exact hp.1
        · rename_i h4
          refine ⟨h.1, h.2.1, ?_, ?_⟩
          · simp only [Lg.bytes, ht, List.append_nil, List.nil_append, List.length_append, List.length_take] at h3 ⊢
            omega
          · simp only [ht, List.nil_append]
            have hb := encL_bound (l := w) (by simpa using h2)
            rw [decL_cut w (by simpa using h2) _ (by omega)]
            simp

theorem mendG_ok {G : Lg} (h : G.Ok) : (mendG G).Ok := by
  refine ⟨h.1, h.2.1, ?_, Lg.new_ok.2.2.2⟩
  have := h.2.2.1
  simp only [Lg.bytes, mendG, List.append_nil, List.length_append] at this ⊢
  omega

theorem Lg.Ok.tab {G : Lg} (h : G.Ok) : tabOf G.bytes = (writeAll Tab.new G.l, (encAll G.l).length) := tabOf_enc h.1 h.2.1 h.2.2.2

theorem Lg.Ok.last {G : Lg} (h : G.Ok) : (writeAll Tab.new G.l).last = G.l.length := by
  rw [writeAll_last h.1 (by have := h.2.1; simpa [Tab.new] using this)]
  simp [Tab.new]

end Go.Proofs.YtoiobhcgpajogabGreatDoor
/- A log in memory; the walks of New, Len, Bytes, Table. -/
namespace Go.Proofs.YtoiobhcgpajogabGreatDoor
open Go.RowKit

/-- The bytes of a log: a slice, at the head of its block (of the colour p), which is no more than it shows, or may be written on. -/
def RowB (w : World) (g : Nat → Nat) (p : Nat) (a : Option Addr) (cap : Nat) (l : List UInt8) : Prop :=
  l.length ≤ cap ∧ SliceAt w a (Lib.byteCells l) ∧ (a = none → cap = 0) ∧ (∀ ad, a = some ad → ad.off = 0 ∧ ad.spot = none ∧ g ad.block = p ∧ ad.block < w.heap.size) ∧
    (cap = l.length ∨ w.ownsRow 0 5 1 (.slice a l.length cap) l.length (Lib.byteCells l))

def LogAt (w : World) (g : Nat → Nat) (p b : Nat) (G : Lg) : Prop :=
  ∃ a cap, LocC w g p b 98 [.slice a G.bytes.length cap, .int .i64 G.l.length] ∧ RowB w g p a cap G.bytes ∧ ∀ ad, a = some ad → ad.block ≠ b

theorem RowB.frame {lo hi : Nat} {g g' : Nat → Nat} {w w' : World} {p : Nat} {a : Option Addr} {cap : Nat} {l : List UInt8} (h : RowB w g p a cap l) (k : Evo lo hi g g' w w') (hc : p < lo ∨ hi ≤ p) : RowB w' g' p a cap l := by
  obtain ⟨h1, h2, h3, h4, h5⟩ := h
  have hb : ∀ ad, a = some ad → w'.heap[ad.block]? = w.heap[ad.block]? := fun ad e => by
    obtain ⟨-, -, i1, i2⟩ := h4 ad e
    exact k.same _ i2 (by omega)
  refine ⟨h1, h2.lift hb, h3, fun ad e => ?_, h5.imp id fun h => ownsRow.lift h (fun r hr => ?_)⟩
  · obtain ⟨i0, i1, i2, i3⟩ := h4 ad e
    exact ⟨i0, i1, (k.col _ i3).trans i2, Nat.lt_of_lt_of_le i3 k.size⟩
  · cases a with
    | none => cases hr
    | some ad => cases hr; exact hb ad rfl

theorem LogAt.frame {lo hi : Nat} {g g' : Nat → Nat} {w w' : World} {p b : Nat} {G : Lg} (h : LogAt w g p b G) (k : Evo lo hi g g' w w') (hc : p < lo ∨ hi ≤ p) : LogAt w' g' p b G := by
  obtain ⟨a, cap, h1, h2, h3⟩ := h
  exact ⟨a, cap, h1.frame k hc, h2.frame k hc, h3⟩

theorem RowB.below {w w' : World} {g : Nat → Nat} {p : Nat} {a : Option Addr} {cap : Nat} {l : List UInt8} (h : RowB w g p a cap l) (k : Below w.heap.size w w') : RowB w' g p a cap l := by
  have := h.frame (Evo.of_below (lo := 0) (hi := 0) g p k) (by omega)
  obtain ⟨h1, h2, h3, h4, h5⟩ := h
  obtain ⟨i1, i2, i3, i4, i5⟩ := this
  refine ⟨i1, i2, i3, fun ad e => ?_, i5⟩
  obtain ⟨j0, j1, j2, j3⟩ := h4 ad e
  exact ⟨j0, j1, j2, Nat.lt_of_lt_of_le j3 k.size⟩

theorem LogAt.below {w w' : World} {g : Nat → Nat} {p b : Nat} {G : Lg} (h : LogAt w g p b G) (k : Below w.heap.size w w') : LogAt w' g p b G := by
  obtain ⟨a, cap, h1, h2, h3⟩ := h
  exact ⟨a, cap, h1.below k, h2.below k, h3⟩

theorem RowB.bytes {w : World} {g : Nat → Nat} {p : Nat} {a : Option Addr} {cap : Nat} {l : List UInt8} (h : RowB w g p a cap l) : BytesIn w a cap l := ⟨h.1, h.2.1⟩

def LNewPost (g : Nat → Nat) (p : Nat) (w : World) (e : Ending) (w' : World) : Prop :=
  ∃ b, e = .returned (.pointer (some ⟨b, 0, none⟩)) ∧ Below w.heap.size w w' ∧ w.heap.size ≤ b ∧ LogAt w' (extc g w p) p b Lg.new

theorem log_New (g : Nat → Nat) (p : Nat) (w : World) : Calls Tryz.prog 28 #[] w (LNewPost g p w) := by
  go_enter Tryz.func28, Tryz.ntmps28
  go_wp2
  go_ret
  exact ⟨_, rfl, (Below.refl _ _).alloc (Nat.le_refl _) _, Nat.le_refl _, none, 0, LocC.new g p w 98 [.slice none 0 0, .int .i64 0], ⟨Nat.le_refl _, .inl rfl, fun _ => rfl, nofun, .inl rfl⟩, nofun⟩

/-- Bytes that are handed back, in new memory or none. -/
def BytesPost (l : List UInt8) (w : World) (e : Ending) (w' : World) : Prop :=
  ∃ a cap, e = .returned (.slice a l.length cap) ∧ BytesIn w' a cap l ∧ Below w.heap.size w w' ∧ (∀ ad, a = some ad → w.heap.size ≤ ad.block ∧ ad.off = 0)

theorem clone_bytes (a : Option Addr) (cap : Nat) (l : List UInt8) (w : World) (hn : l.length ≤ 1000000) (h : BytesIn w a cap l) (hnone : a = none → cap = 0) :
    Calls Tryz.prog 109 #[.slice a l.length cap] w (BytesPost l w) := by
  obtain ⟨i0, hi, hz0, hz1, hz2⟩ := info_parts Tryz.infoU8
  have l1 : 0 + l.length ≤ maxLen := by unfold maxLen; omega
  have l2 : (0 + l.length) * 1 ≤ 140737488355328 := by omega
  have heq := fun (w : World) (a : Option Addr) (n c : Nat) => Lib.run_eql_slice_nil (P := Tryz.prog) w 36 5 a n c 0 0 Tryz.underlying36
  obtain ⟨hcap, hs⟩ := h
  cases a with
  | none =>
    have hl : l = [] := by
      have := sliceAt_none hs
      cases l with
      | nil => rfl
      | cons c l => simp [Lib.byteCells] at this
    subst hl
    go_enter Tryz.func109, Tryz.ntmps109
    go_wp2
    go_ret
    exact ⟨none, 0, rfl, ⟨Nat.le_refl _, .inl rfl⟩, Below.refl _ _, nofun⟩
  | some ad =>
    have HS := hid hs
    have HN := hid hnone
    have HC := hid hcap
    clear hs hnone hcap
    have O0 := hid (World.ownsRow_lit (base := w.heap.size) (e := 5) (size := 1) w #[] 0 (Nat.le_refl _) (by decide) rfl)
    go_enter Tryz.func109, Tryz.ntmps109
    go_wp2_with (refine wpList_app rfl (.tmp 5) (.tmp 6) 36 rfl w.heap.size 5 i0 (.int .u8 0) 1 1 Tryz.underlying36 hi hz0 hz1 hz2 rfl (by decide) (.slice (some ⟨w.heap.size, 0, none⟩) 0 0) 0 [] rfl O0.out (some ad) l.length cap (Lib.byteCells l) rfl (by rw [byteCells_length]; simp) (sliceAt_below HS.out ((Below.refl _ _).alloc (Nat.le_refl _) _)) HN.out (oneCell_bytes _) l1 l2 (by simp) ?_)
    intro v3 w3 ho3 hg3
    have hB3 := hid (((Below.refl w.heap.size w).alloc (Nat.le_refl _) (.cells #[] 5)).grown hg3 (by simp) (fun j hj => (O0.out.lt j hj).1))
    have ho3' : w3.ownsRow w.heap.size 5 1 v3 (0 + l.length) (Lib.byteCells l) := by simpa using ho3
    obtain ⟨a3, cap3, rfl, hx3, -, hx4⟩ := BytesIn.of_row ho3'
    have HX3 := hid hx3
    have HX4 := hid hx4
    clear ho3 ho3' hg3 hx3 hx4
    go_wp2
    go_ret
    exact ⟨a3, cap3, rfl, HX3.out, hB3.out, HX4.out⟩

theorem log_Bytes (g : Nat → Nat) (p b : Nat) (G : Lg) (w : World) (hG : LogAt w g p b G) (hok : G.bytes.length ≤ 1000000) :
    Calls Tryz.prog 91 #[.pointer (some ⟨b, 0, none⟩)] w (BytesPost G.bytes w) := by
  obtain ⟨a, cap, h1, h2, -⟩ := hG
  obtain ⟨c0, c1, -, -⟩ := h1.1.two
  have HC := hid (clone_bytes a cap G.bytes w hok h2.bytes h2.2.2.1)
  clear h1 h2
  go_enter Tryz.func91, Tryz.ntmps91
  go_wp2_with fail
  (with_reducible refine HC.out.mono ?_)
  rintro e w1 ⟨a1, cap1, rfl, hx, hb, hn⟩
  have H := hid (And.intro hx (And.intro hb hn))
  clear hx hb hn
  go_wp2
  go_ret
  exact ⟨a1, cap1, rfl, H.out⟩

end Go.Proofs.YtoiobhcgpajogabGreatDoor
/- The walk of log.Table. -/
namespace Go.Proofs.YtoiobhcgpajogabGreatDoor
open Go.RowKit

/-- A new table, as bytes say; how many of them. -/
def LTabPost (x : Tab × Nat) (w : World) (e : Ending) (w' : World) : Prop :=
  ∃ t g, e = .returned (.tuple #[.pointer (some ⟨t, 0, none⟩), .int .i64 (x.2 : Int)]) ∧ Below w.heap.size w w' ∧ (∀ b, b < w.heap.size → g b = 0) ∧ TableAt w' g 1 t x.1

theorem tabGo_step {T : Tab} {b : List UInt8} (hl : T.last ≤ 40) (h1 : (decL b).2.2 = 0) (h2 : (writeT T (decL b).1).1.2 = 0) :
    tabGo (41 - T.last) T b = ((tabGo (41 - (writeT T (decL b).1).2.last) (writeT T (decL b).1).2 (b.drop (decL b).2.1.toNat)).1, (decL b).2.1.toNat + (tabGo (41 - (writeT T (decL b).1).2.last) (writeT T (decL b).1).2 (b.drop (decL b).2.1.toNat)).2) := by
  have hg := write_good h2
  have e : (writeT T (decL b).1).2.last = T.last + 1 := by rw [hg.2.2]
  obtain ⟨f, hf⟩ : ∃ f, 41 - T.last = f + 1 := ⟨40 - T.last, by omega⟩
  rw [hf, tabGo, if_neg (by simpa using h1), if_neg (by simpa using h2), e, show 41 - (T.last + 1) = f by omega]

theorem tabGo_stop {T : Tab} {b : List UInt8} (hl : T.last ≤ 40) (h : (decL b).2.2 ≠ 0 ∨ (writeT T (decL b).1).1.2 ≠ 0) : tabGo (41 - T.last) T b = (T, 0) := by
  obtain ⟨f, hf⟩ : ∃ f, 41 - T.last = f + 1 := ⟨40 - T.last, by omega⟩
  rw [hf, tabGo]
  split
  · rfl
  · rename_i h1
    rw [if_pos (h.resolve_left h1)]

theorem decL_size {b : List UInt8} (h : (decL b).2.2 = 0) : (∀ x ∈ (decL b).1, x.v.bytes.size ≤ maxLen) ∧ (decL b).1.length ≤ 1000000 := by
  have h1 := (decL_bound h).2.2.2.1
  obtain ⟨i1, i2, -⟩ := ok_of h1
  exact ⟨fun x hx => by have := (i1 x hx).2.2.1; unfold maxLen; omega, by omega⟩

set_option maxHeartbeats 4000000 in
set_option maxRecDepth 100000 in
theorem log_Table (b off cap : Nat) (l : List UInt8) (w : World) (hn : l.length ≤ 1000000) (h : BytesIn w (some ⟨b, off, none⟩) cap l) (hb : b < w.heap.size) :
    Calls Tryz.prog 90 #[.slice (some ⟨b, off, none⟩) l.length cap] w (LTabPost (tabOf l) w) := by
  have HX := hid h
  have hcap := h.1
  clear h
  go_enter Tryz.func90, Tryz.ntmps90
  go_wp2_with fail
  refine (table_New (fun _ => 0) 1 w).mono ?_
  rintro e w1 ⟨t, g1, rfl, hE1, -, hT1⟩
  have B1 := hid ((Base.start w).step hE1 (by omega))
  have T1 := hid hT1
  clear hE1 hT1
  go_wp2_with fail
  go_loopw [5] (fun i wr => ∃ (k : Nat) (g : Nat → Nat) (T : Tab), k ≤ l.length ∧ i = .int .i64 k ∧ Hid (tabOf l = ((tabGo (41 - T.last) T (l.drop k)).1, k + (tabGo (41 - T.last) T (l.drop k)).2)) ∧ Hid (Base w.heap.size w g wr) ∧ Hid (TableAt wr g 1 t T)) (fun i _ => l.length - (intOf i).toNat)
  case atStart => exact ⟨0, g1, Tab.new, Nat.zero_le _, rfl, hid (by simp [tabOf, Tab.new]), B1, T1⟩
  case round =>
    obtain ⟨k, g, T, hk, rfl, HR, B, HT⟩ := hrel
    clear B1 T1
    have hki : (k : Int) ≤ (l.length : Int) := by omega
    have hkc : (k : Int) ≤ (cap : Int) := by omega
    have hk0 : (0 : Int) ≤ (k : Int) := by omega
    have hlc : (l.length : Int) ≤ (cap : Int) := by omega
    have h40 := HT.out.1.2
    have hdec : ∀ a', (k ≠ cap → a' = some ⟨b, off + k, none⟩) → Calls Tryz.prog 107 #[.slice a' (l.length - k) (cap - k)] wr (DecPost2 (decL (l.drop k)) wr) := by
      intro a' ha
      have := codec_Decode2 a' (cap - k) (l.drop k) wr (by rw [List.length_drop]; omega) ⟨by rw [List.length_drop]; omega, ?_⟩
      · rw [List.length_drop] at this; exact this
      · by_cases e : k = cap
        · left
          have : l.drop k = [] := List.drop_eq_nil_of_le (by omega)
          rw [this]; rfl
        · rw [ha e]
          rcases HX.out.2 with h | ⟨b', off', e', h⟩
          · left
            rw [Lib.byteCells, List.map_drop]
            have h' : l.map (fun c => Value.int .u8 c.toNat) = [] := h
            rw [h']; simp
          · cases e'
            refine .inr ⟨b, off + k, rfl, fun j u hu => ?_⟩
            rw [Lib.byteCells, List.map_drop, List.getElem?_drop] at hu
            have := h (k + j) u hu
            rw [show off + k + j = off + (k + j) by omega]
            exact (B.out.cell (p := ⟨b, off + (k + j), none⟩) hb).trans this
    have HD := hid hdec
    have hst1 := hid (fun h1 h2 => tabGo_step (T := T) (b := l.drop k) h40 h1 h2)
    have hst2 := hid (fun h => tabGo_stop (T := T) (b := l.drop k) h40 h)
    have hbd := hid (fun h => decL_bound (b := l.drop k) h)
    have hsz := hid (fun h => decL_size (b := l.drop k) h)
    have hdl : (l.drop k).length = l.length - k := List.length_drop ..
    have HDL := hid hdl
    clear hdec hdl
    by_cases hcap2 : k = cap
    case' pos =>
      subst hcap2
      have HD := hid (fun a' (ha : k ≠ k → a' = some ⟨b, off + k, none⟩) => (by have := HD.out a' ha; rw [show l.length - k = 0 by omega, Nat.sub_self] at this; exact this : Calls Tryz.prog 107 #[.slice a' 0 0] wr (DecPost2 (decL (l.drop k)) wr)))
    all_goals
      go_wp2_with fail
      (with_reducible refine (HD.out _ (by first | exact fun h => absurd rfl h | exact fun _ => rfl)).mono ?_)
      rintro e w2 ⟨a2, c2, rfl, hs2, hb2, hnew⟩
      have hE2 := Evo.of_below (lo := 0) (hi := 0) g 0 hb2
      have B2 := hid (B.out.step hE2 (by omega))
      have T2 := hid (HT.out.frame hE2 (by omega))
      have SC : Hid (SliceC w2 (extc g wr 0) 1 (1 + 9) a2 (encEnts (decL (l.drop k)).1)) := hid (by
        rcases hs2 with h | ⟨b', off', rfl, h⟩
        · exact .inl h
        · by_cases hne : encEnts (decL (l.drop k)).1 = []
          · exact .inl hne
          · have hlt : b' < w2.heap.size := by
              cases hq : encEnts (decL (l.drop k)).1 with
              | nil => exact absurd hq hne
              | cons u us => exact World.block_lt_of_cell? w2 _ (h 0 u (by rw [hq]; rfl))
            exact .inr ⟨b', off', rfl, hlt, .inl (by rw [extc_new (hnew _ rfl)]; omega), h⟩)
      generalize extc g wr 0 = g2 at *
      clear hs2 hb2 hnew hE2 HD
      generalize hx : decL (l.drop k) = x at *
      have HXE := hid hx
      clear hx
      by_cases hc : x.2.2 = 0
      · obtain ⟨n1, n2, n3, -, -⟩ := hbd.out hc
        obtain ⟨z1, z2⟩ := hsz.out hc
        rw [HDL.out] at n2
        have Z1 := hid z1
        have N3 := hid n3
        clear n3
        rw [hc]
        have HC := hid hc
        clear hc z1
        go_wp2_with fail
        (with_reducible refine (table_Write g2 1 t T a2 c2 x.1 w2 z2 Z1.out T2.out SC.out).mono ?_)
        rintro e w3 ⟨rfl, g3, hT3, hE3⟩
        have B3 := hid (B2.out.step hE3 (by omega))
        have T3 := hid hT3
        clear hT3 hE3
        have st1 := hid (hst1.out HC.out)
        have st2 := hid (fun h => hst2.out (.inr h))
        by_cases hcw : (writeT T x.1).1.2 = 0
        · rw [hcw]
          have ST := hid (st1.out hcw)
          rw [N3.out]
          generalize x.2.1.toNat = n at *
          clear st1 st2 hcw
          generalize (writeT T x.1).2 = TT at *
          generalize (writeT T x.1).1.1 = nn at *
          have hkn : (k : Int) + (n : Int) ≤ 1000000 := by omega
          go_wp2
          go_roundw
          case rel =>
            refine ⟨k + n, g3, TT, by omega, by go_num, hid ?_, B3, T3⟩
            rw [HR.out, ST.out, List.drop_drop]
            simp only [Prod.mk.injEq, true_and]
            omega
          case measure => simp [intOf]; omega
        · have hc' : ((writeT T x.1).1.2 != 0) = true := by simpa using hcw
          have ST := hid (st2.out hcw)
          have wb := hid (write_bad hcw)
          clear hcw
          generalize (writeT T x.1).1.2 = code at *
          generalize (writeT T x.1).1.1 = nn at *
          go_wp2
          go_ret2
          refine ⟨t, g3, ?_, B3.out.below, B3.out.zero, ?_⟩
          · rw [HR.out, ST.out]; rfl
          · rw [HR.out, ST.out]
            have := T3.out
            rw [wb.out.1] at this
            exact this
      · have hc' : (x.2.2 != 0) = true := by simpa using hc
        have ST := hid (hst2.out (.inl hc))
        clear hc
        generalize x.2.2 = code at *
        go_wp2
        go_ret2
        refine ⟨t, g2, ?_, B2.out.below, B2.out.zero, ?_⟩
        · rw [HR.out, ST.out]; rfl
        · rw [HR.out, ST.out]
          exact T2.out

end Go.Proofs.YtoiobhcgpajogabGreatDoor
/- The walks of a log that turn it: Put, Tear, Mend. -/
namespace Go.Proofs.YtoiobhcgpajogabGreatDoor
open Go.RowKit

/-- Bytes are laid behind those of a log. -/
theorem row_append (w : World) (g : Nat → Nat) (p : Nat) (ty : TypeId) (a : Option Addr) (cap : Nat) (l : List UInt8) (a2 : Option Addr) (cap2 : Nat) (m : List UInt8) (hl : l.length ≤ 1000000) (hm : m.length ≤ 1000000) (hm0 : m ≠ [])
    (hR : RowB w g p a cap l) (h2 : SliceAt w a2 (Lib.byteCells m)) :
    ∃ a' cap' w', (Builtin.append_ #[36, 36] ty #[.slice a l.length cap, .slice a2 m.length cap2]).run Tryz.prog w = .ok (.slice a' (l.length + m.length) cap') w' ∧ RowB w' (extc g w p) p a' cap' (l ++ m) ∧ Evo p (p + 1) g (extc g w p) w w' ∧
      (∀ ad, a' = some ad → (∃ ad', a = some ad' ∧ ad'.block = ad.block) ∨ w.heap.size ≤ ad.block) ∧ (∀ k, k < w.heap.size → (∀ ad, a = some ad → ad.block ≠ k) → w'.heap[k]? = w.heap[k]?) := by
  obtain ⟨i0, hi, hz0, hz1, hz2⟩ := info_parts Tryz.infoU8
  obtain ⟨r1, r2, r3, r4, r5⟩ := hR
  have hmp : 0 < m.length := List.length_pos_iff.2 hm0
  have l1 : l.length + m.length ≤ maxLen := by unfold maxLen; omega
  have l2 : (l.length + m.length) * 1 ≤ 140737488355328 := by omega
  have hne : Lib.byteCells m ≠ [] := by
    cases m with
    | nil => exact absurd rfl hm0
    | cons c m => simp [Lib.byteCells]
  obtain ⟨b2, o2, rfl, -⟩ := h2.lt hne
  have hnews : ∀ j u, (Lib.byteCells m)[j]? = some u → w.cell? ((⟨b2, o2, none⟩ : Addr).add j) = some u := by
    intro j u hu
    rcases h2 with h | ⟨b', o', e, h⟩
    · exact absurd h hne
    · cases e
      rw [Addr.add_lit]
      exact h j u hu
  have hlm : (Lib.byteCells m).length = m.length * 1 := by rw [byteCells_length]; simp
  have fin : ∀ v' w' (row : Option Nat), w'.ownsRow 0 5 1 v' (l.length + m.length) (Lib.byteCells l ++ Lib.byteCells m) → w.grownBy w' row → (∀ k, row = some k → g k = p ∧ ∃ ad', a = some ad' ∧ ad'.block = k) → (∀ j, v'.ownBlock = some j → row = some j ∨ w.heap.size ≤ j) →
      (Builtin.append_ #[36, 36] ty #[.slice a l.length cap, .slice (some ⟨b2, o2, none⟩) m.length cap2]).run Tryz.prog w = .ok v' w' →
      ∃ a' cap' w', (Builtin.append_ #[36, 36] ty #[.slice a l.length cap, .slice (some ⟨b2, o2, none⟩) m.length cap2]).run Tryz.prog w = .ok (.slice a' (l.length + m.length) cap') w' ∧ RowB w' (extc g w p) p a' cap' (l ++ m) ∧ Evo p (p + 1) g (extc g w p) w w' ∧
        (∀ ad, a' = some ad → (∃ ad', a = some ad' ∧ ad'.block = ad.block) ∨ w.heap.size ≤ ad.block) ∧ (∀ k, k < w.heap.size → (∀ ad, a = some ad → ad.block ≠ k) → w'.heap[k]? = w.heap[k]?) := by
    intro v' w' row ho hg hrow hown hr
    have ho' : w'.ownsRow 0 5 1 v' (l ++ m).length (Lib.byteCells (l ++ m)) := by rw [List.length_append, byteCells_append]; exact ho
    obtain ⟨a', cap', rfl, hx, hnone, hoff⟩ := BytesIn.of_row ho'
    have hE := evo_grown (p := p) hg (fun k hk => (hrow k hk).1)
    refine ⟨a', cap', w', by rw [← List.length_append]; exact hr, ⟨hx.1, hx.2, hnone, fun ad e => ?_, .inr ho'⟩, hE, fun ad e => ?_, fun k hk hn => hg.block k hk (fun e => by obtain ⟨-, ad', e', rfl⟩ := hrow k e.symm; exact hn ad' e' rfl)⟩
    · subst e
      have hlt := (ho.lt ad.block rfl).2
      refine ⟨(hoff ad rfl).2, ?_, ?_, hlt⟩
      · rcases ho.2 with ⟨h, -⟩ | ⟨g', c', cur, h, -⟩
        · cases h
        · obtain ⟨e1, -, -⟩ := Value.slice.inj h
          cases e1; rfl
      · rcases hown ad.block rfl with h | h
        · have hk := hrow _ h
          by_cases hb : ad.block < w.heap.size
          · rw [extc_old hb]; exact hk.1
          · exact extc_new (by omega)
        · exact extc_new h
    · subst e
      rcases hown ad.block rfl with h | h
      · exact .inl (hrow _ h).2
      · exact .inr h
  cases a with
  | none =>
    have hl0 : l = [] := by
      have := sliceAt_none r2
      cases l with
      | nil => rfl
      | cons c l => simp [Lib.byteCells] at this
    subst hl0
    obtain rfl := r3 rfl
    obtain ⟨v', w', hr, h1, h2', h3⟩ := run_append_own (P := Tryz.prog) w w.heap.size 36 ty 5 i0 _ 1 1 Tryz.underlying36 hi hz0 hz1 hz2 rfl (by decide) (.slice none 0 0) 0 [] (World.ownsRow_nil w _ _ 1) ⟨b2, o2, none⟩ m.length cap2 (Lib.byteCells m) hlm hnews (oneCell_bytes m) (by simpa using l1) (by simpa using l2) (Nat.le_refl _)
    refine fin v' w' none ?_ h2' nofun (fun j hj => .inr (h1.lt j hj).1) hr
    have := ownsRow.zero h1
    simpa [Lib.byteCells] using this
  | some ad =>
    obtain ⟨b, off, spot⟩ := ad
    obtain ⟨q1, q2, q3, q4⟩ := r4 _ rfl
    simp only at q1 q2 q3 q4
    subst q1 q2
    rcases r5 with hfull | hown
    · subst hfull
      obtain ⟨v', w', hr, h1, h2'⟩ := run_append_arg_grows (P := Tryz.prog) w 36 ty 5 i0 _ 1 1 Tryz.underlying36 hi hz0 hz1 hz2 rfl (by decide) ⟨b, 0, none⟩ l.length l.length (Lib.byteCells l) (by rw [byteCells_length]; simp)
        (by
          intro j u hu
          rcases r2 with h | ⟨b', o', e, h⟩
          · rw [h] at hu; cases hu
          · cases e
            rw [Addr.add_lit]
            exact h j u hu) ⟨b2, o2, none⟩ m.length cap2 (Lib.byteCells m) hlm hnews (by omega) l1 l2
      exact fin v' w' none (ownsRow.zero h1) h2' nofun (fun j hj => .inr (h1.lt j hj).1) hr
    · obtain ⟨v', w', hr, h1, h2', h3⟩ := run_append2 (P := Tryz.prog) w 36 ty 5 i0 _ 1 1 Tryz.underlying36 hi hz0 hz1 hz2 rfl (by decide) (.slice (some ⟨b, 0, none⟩) l.length cap) l.length (Lib.byteCells l) hown ⟨b2, o2, none⟩ m.length cap2 (Lib.byteCells m) hlm hnews (oneCell_bytes m) l1 l2
      refine fin v' w' (some b) h1 h2' (fun k hk => by cases hk; exact ⟨q3, _, rfl, rfl⟩) (fun j hj => ?_) hr
      rcases h3 with h3 | h3
      · left; rw [← hj, h3]; rfl
      · exact .inr (h3 j hj)

end Go.Proofs.YtoiobhcgpajogabGreatDoor
/- The walks of a log that turn it: Put, Tear, Mend. -/
namespace Go.Proofs.YtoiobhcgpajogabGreatDoor
open Go.RowKit

theorem RowB.other {w : World} {g : Nat → Nat} {p c i : Nat} {a : Option Addr} {cap : Nat} {l : List UInt8} (h : RowB w g p a cap l) (hn : ∀ ad, a = some ad → ad.block ≠ c) (v : Value) : RowB (w.setCell ⟨c, i, none⟩ v) g p a cap l := by
  obtain ⟨h1, h2, h3, h4, h5⟩ := h
  have hb : ∀ ad, a = some ad → (w.setCell ⟨c, i, none⟩ v).heap[ad.block]? = w.heap[ad.block]? := fun ad e => Below.heap_setCell _ _ _ _ (fun e' => hn ad e e')
  refine ⟨h1, h2.lift hb, h3, fun ad e => ?_, h5.imp id fun h => ownsRow.lift h (fun r hr => ?_)⟩
  · obtain ⟨i0, i1, i2, i3⟩ := h4 ad e
    exact ⟨i0, i1, i2, by simpa using i3⟩
  · cases a with
    | none => cases hr
    | some ad => cases hr; exact hb ad rfl

/-- Cut to its first bytes, with no room left. -/
theorem RowB.cut {w : World} {g : Nat → Nat} {p : Nat} {a : Option Addr} {cap : Nat} {l : List UInt8} (h : RowB w g p a cap l) (n : Nat) (hn : n ≤ l.length) : RowB w g p a n (l.take n) := by
  obtain ⟨h1, h2, h3, h4, h5⟩ := h
  have e : (l.take n).length = n := by rw [List.length_take]; omega
  refine ⟨by omega, ?_, fun ha => ?_, h4, .inl e.symm⟩
  · rw [Lib.byteCells, List.map_take]; exact h2.take n
  · have := h3 ha; omega

def PutGPost (g : Nat → Nat) (p b : Nat) (x : Int × Lg) (w : World) (e : Ending) (w' : World) : Prop :=
  e = .returned (.int .i64 x.1) ∧ ∃ g', LogAt w' g' p b x.2 ∧ Evo p (p + 1) g g' w w'

theorem put_stay {g : Nat → Nat} {p b : Nat} {x : Int} {G : Lg} {w w' : World} (hG : LogAt w g p b G) (hb : Below w.heap.size w w') : PutGPost g p b (x, G) w (.returned (.int .i64 x)) w' :=
  ⟨rfl, extc g w p, hG.frame (Evo.of_below (lo := 0) (hi := 0) g p hb) (by omega), Evo.of_below g p hb⟩

set_option maxHeartbeats 2000000 in
set_option maxRecDepth 100000 in
theorem log_Put (g : Nat → Nat) (p b : Nat) (G : Lg) (a : Option Addr) (cap : Nat) (l : List Ent) (w : World) (hl : l.length ≤ 1000000) (hv : ∀ x ∈ l, x.v.bytes.size ≤ maxLen) (hok : G.Ok) (ht : G.torn = []) (hG : LogAt w g p b G) (h : SliceAt w a (encEnts l)) :
    Calls Tryz.prog 129 #[.pointer (some ⟨b, 0, none⟩), .slice a l.length cap] w (PutGPost g p b (putG G l) w) := by
  have HE := hid (codec_Encode a cap l w hl hv h)
  have HG := hid hG
  have hlen := hok.2.2.1
  have hn40 := hok.2.1
  by_cases hc : ckPs (-1) l = 0
  · obtain ⟨e1, e2⟩ := encL_bound hc
    have hbytes : Lg.bytes ⟨G.l ++ [l], G.torn⟩ = G.bytes ++ encL l := by simp [Lg.bytes, ht, encAll_snoc]
    have hput : putG G l = if 40 ≤ G.l.length ∨ 3000 < G.bytes.length + (encL l).length then (9, G) else (0, ⟨G.l ++ [l], G.torn⟩) := by unfold putG; rw [if_neg (by simpa using hc)]
    have HP := hid hput
    have HBY := hid hbytes
    have hne : encL l ≠ [] := by intro h; rw [h] at e1; simp at e1
    clear hput hbytes hv h hG
    go_enter Tryz.func129, Tryz.ntmps129
    go_wp2_with fail
    (with_reducible refine HE.out.mono ?_)
    rintro e w1 ⟨v, n, rfl, hown, hb⟩
    rw [if_pos hc] at hown
    rw [hc]
    obtain ⟨a1, c1, rfl, hx, -, -⟩ := BytesIn.of_row hown
    have HX := hid hx
    have hEv := Evo.of_below (lo := 0) (hi := 0) g p hb
    have hG1 := HG.out.frame hEv (by omega)
    obtain ⟨a0, c0, L, R, N⟩ := hG1
    have HBW := hid hb
    have HL := hid L
    have HR := hid R
    have HN := hid N
    have hnn : n = (encL l).length := by have := hown.1; rw [byteCells_length] at this; omega
    subst hnn
    generalize encL l = el at *
    obtain ⟨q0, q1, -, -⟩ := L.1.two
    have q1f := L.1.free 1
    have q0f := L.1.free 0
    clear hx hb hown L R N hEv HE hc
    generalize hgl : G.bytes = gb at *
    have HGL := hid hgl
    clear hgl
    by_cases h40 : 40 ≤ G.l.length
    · have h40' : (40 : Int) ≤ (G.l.length : Int) := by omega
      go_wp2
      go_ret
      rw [HP.out, if_pos (.inl h40)]
      exact put_stay HG.out HBW.out
    · have h40' : (G.l.length : Int) < 40 := by omega
      by_cases h3 : 3000 < gb.length + el.length
      · have h3' : (3000 : Int) < (gb.length : Int) + (el.length : Int) := by omega
        go_wp2
        go_ret
        rw [HP.out, if_pos (.inr h3)]
        exact put_stay HG.out HBW.out
      · have h3' : (gb.length : Int) + (el.length : Int) ≤ 3000 := by omega
        have hap := row_append w1 (extc g w p) p 36 a0 c0 gb a1 c1 el (by omega) (by omega) hne HR.out HX.out.2
        obtain ⟨a2, c2, w2, hrun, R2, E2, N2, K2⟩ := hap
        have L2 : LocC w2 (extc (extc g w p) w1 p) p b 98 [.slice a0 gb.length c0, .int .i64 G.l.length] := ⟨(K2 b HL.out.1.lt (fun ad e => HN.out ad e)).trans HL.out.1, (extc_old HL.out.1.lt).trans HL.out.2⟩
        have N2' : ∀ ad, a2 = some ad → ad.block ≠ b := by
          intro ad e
          rcases N2 ad e with ⟨ad', e', h⟩ | h
          · rw [← h]; exact HN.out ad' e'
          · have := HL.out.1.lt; omega
        have HRUN := hid hrun
        have HR2 := hid R2
        have HE2 := hid E2
        have HL2 := hid L2
        have HN2 := hid N2'
        obtain ⟨r0, r1, -, -⟩ := L2.1.two
        have r1f := L2.1.free 1
        have r0f := L2.1.free 0
        clear hrun R2 E2 N2 K2 L2 N2' q0f q1f
        go_wp2_with (refine wpList_append_run rfl (.tmp 37) (.tmp 38) 36 rfl (.slice a0 gb.length c0) (.slice a1 el.length c1) (.slice a2 (gb.length + el.length) c2) w2 rfl rfl HRUN.out ?_)
        go_ret
        rw [HP.out, if_neg (by omega)]
        refine ⟨rfl, extc (extc g w p) w1 p, ⟨a2, c2, ?_, ?_, HN2.out⟩, ?_⟩
        · have := (HL2.out.set 0 (.slice a2 (gb.length + el.length) c2)).set 1 (.int .i64 ((G.l.length : Int) + 1))
          rw [HBY.out]
          simpa using this
        · have := (HR2.out.other HN2.out (i := 0) (.slice a2 (gb.length + el.length) c2)).other HN2.out (i := 1) (.int .i64 ((G.l.length : Int) + 1))
          rw [HBY.out]
          exact this
        · refine ((Evo.of_below g p HBW.out).trans HE2.out).trans ?_
          refine (evo_store (g := extc (extc g w p) w1 p) (w := w2) (b := b) (i := 0) (q := p) _ HL2.out.2).trans (evo_store _ HL2.out.2)
  · have hput : putG G l = (ckPs (-1) l, G) := by unfold putG; rw [if_pos hc]
    have hc' : (ckPs (-1) l != 0) = true := by simpa using hc
    rw [hput]
    clear hput hc hv h hG
    go_enter Tryz.func129, Tryz.ntmps129
    go_wp2_with fail
    (with_reducible refine HE.out.mono ?_)
    rintro e w1 ⟨v, n, rfl, -, hb⟩
    have HB := hid hb
    clear hb HE
    generalize ckPs (-1) l = code at *
    go_wp2
    go_ret
    exact put_stay HG.out HB.out

end Go.Proofs.YtoiobhcgpajogabGreatDoor
/- The walks of a log that tear it and mend it. -/
namespace Go.Proofs.YtoiobhcgpajogabGreatDoor
open Go.RowKit

theorem take_more (x y : List UInt8) (k : Nat) : (x ++ y).take (x.length + k) = x ++ y.take k := by
  induction x with
  | nil => simp
  | cons a x ih => rw [List.length_cons, Nat.add_right_comm, List.cons_append, List.take_succ_cons, ih, List.cons_append]

theorem LogC.cut {w : World} {g : Nat → Nat} {p b : Nat} {G G' : Lg} {a : Option Addr} {cap m : Nat} {k : Int} (hL : LocC w g p b 98 [.slice a G.bytes.length cap, .int .i64 k]) (hR : RowB w g p a cap G.bytes) (hN : ∀ ad, a = some ad → ad.block ≠ b)
    (hm : m ≤ G.bytes.length) (hG : G'.bytes = G.bytes.take m) :
    LogAt ((w.setCell ⟨b, 0, none⟩ (.slice a m m)).setCell ⟨b, 1, none⟩ (.int .i64 G'.l.length)) g p b G' ∧ Evo p (p + 1) g g w ((w.setCell ⟨b, 0, none⟩ (.slice a m m)).setCell ⟨b, 1, none⟩ (.int .i64 G'.l.length)) := by
  have hlen : G'.bytes.length = m := by rw [hG, List.length_take]; omega
  have hR' := ((hR.cut m hm).other hN (i := 0) (.slice a m m)).other hN (i := 1) (.int .i64 G'.l.length)
  rw [← hG] at hR'
  refine ⟨⟨a, m, ?_, hR', hN⟩, (evo_store _ hL.2).trans (evo_store _ hL.2)⟩
  have := (hL.set 0 (.slice a m m)).set 1 (.int .i64 G'.l.length)
  rw [hlen]
  simpa using this

set_option maxHeartbeats 2000000 in
set_option maxRecDepth 100000 in
theorem log_Tear (g : Nat → Nat) (p b : Nat) (G : Lg) (a : Option Addr) (cap : Nat) (l : List Ent) (keep : Int) (w : World) (hl : l.length ≤ 1000000) (hv : ∀ x ∈ l, x.v.bytes.size ≤ maxLen) (hok : G.Ok) (ht : G.torn = []) (hG : LogAt w g p b G) (h : SliceAt w a (encEnts l)) :
    Calls Tryz.prog 117 #[.pointer (some ⟨b, 0, none⟩), .slice a l.length cap, .int .i64 keep] w (PutGPost g p b (tearG G l keep) w) := by
  have HPut := hid (fun (W : World) (hB : Below w.heap.size w W) => log_Put g p b G a cap l W hl hv hok ht (hG.below hB) (sliceAt_below h hB))
  obtain ⟨a0, c0, L0, R0, N0⟩ := hG
  obtain ⟨q0, q1, -, -⟩ := L0.1.two
  have hlen := hok.2.2.1
  have hn40 := hok.2.1
  clear L0 R0 N0 h hv
  go_enter Tryz.func117, Tryz.ntmps117
  go_wp2_with fail
  go_quiet (fail)
  have HB := hid (below_drewN w nq)
  generalize w.drewN nq = w1 at *
  have hE1 := hid (Evo.of_below (lo := 0) (hi := 0) g p HB.out)
  clear q0 q1
  go_wp2_with fail
  (with_reducible refine (HPut.out w1 HB.out).mono ?_)
  rintro e w2 ⟨rfl, g2, hG2, hE2⟩
  have HE2 := hid ((⟨HB.out.os, HB.out.tape, HB.out.output, HB.out.size, fun _ _ => rfl, fun k hk _ => HB.out.block k hk⟩ : Evo p (p + 1) g g w w1).trans hE2)
  have HG2 := hid hG2
  clear hG2 hE2 hE1 HPut
  by_cases hc : (putG G l).1 = 0
  · have hp : ckPs (-1) l = 0 ∧ (putG G l).2 = ⟨G.l ++ [l], G.torn⟩ := by
      unfold putG at hc ⊢
      split at hc
      · rename_i h; exact absurd hc h
      · rename_i h1
        split at hc
        · simp at hc
        · rename_i h2; rw [if_neg h1, if_neg h2]; exact ⟨by simpa using h1, rfl⟩
    obtain ⟨hck, hp2⟩ := hp
    obtain ⟨e1, e2⟩ := encL_bound hck
    have htear : tearG G l keep = if ((encL l).length : Int) ≤ keep then (0, ⟨G.l ++ [l], G.torn⟩) else (0, ⟨G.l, G.torn ++ (encL l).take keep.toNat⟩) := by unfold tearG; rw [if_neg (by simpa using hc)]
    rw [hc]
    rw [hp2] at HG2
    have hbytes : Lg.bytes ⟨G.l ++ [l], G.torn⟩ = G.bytes ++ encL l := by simp [Lg.bytes, ht, encAll_snoc]
    have hbytes2 : ∀ k, Lg.bytes ⟨G.l, G.torn ++ (encL l).take k⟩ = G.bytes ++ (encL l).take k := by intro k; simp [Lg.bytes, ht]
    have HT := hid htear
    have hG1len : (Lg.bytes ⟨G.l ++ [l], G.torn⟩).length = G.bytes.length + (encL l).length := by rw [hbytes, List.length_append]
    have HBY := hid hbytes
    have HBY2 := hid hbytes2
    obtain ⟨a2, c2, L2, R2, N2⟩ := HG2.out
    rw [hG1len] at L2
    obtain ⟨r0, r1, r0f, r1f⟩ := L2.1.two
    have HL2 := hid L2
    have HR2 := hid R2
    have HN2 := hid N2
    have hcap := R2.1
    rw [hG1len] at hcap
    have HLEN := hid hG1len
    clear hc hck hp2 htear hbytes hbytes2 L2 R2 N2 hG1len
    generalize hel : encL l = el at *
    generalize hgb : G.bytes = gb at *
    have HGB := hid hgb
    have hw1 : IntKind.i64.wrap ((gb.length : Int) + (el.length : Int) - (gb.length : Int)) = (el.length : Int) := by rw [show (gb.length : Int) + (el.length : Int) - (gb.length : Int) = (el.length : Int) by omega]; exact IntWalk.i64_in _ ⟨by omega, by omega⟩
    clear hel hgb
    by_cases hk : (el.length : Int) ≤ keep
    · have hk0 : (0 : Int) ≤ keep := by omega
      have hmax : (if keep < 0 then (0 : Int) else keep) = keep := if_neg (by omega)
      have hmax2 : max keep 0 = keep := by omega
      have hlt : (el.length : Int) ≤ keep := hk
      go_wp2
      go_ret
      rw [HT.out, if_pos hk]
      exact ⟨rfl, g2, HG2.out, HE2.out⟩
    · have hk' : keep < (el.length : Int) := by omega
      obtain ⟨K, hK, hKl⟩ : ∃ K : Nat, max keep 0 = (K : Int) ∧ keep.toNat = K := ⟨keep.toNat, by omega, rfl⟩
      have hKe : K < el.length := by omega
      have hKi : (K : Int) < (el.length : Int) := by omega
      have hK0 : (0 : Int) ≤ (K : Int) := by omega
      have hci : (gb.length : Int) + (el.length : Int) ≤ (c2 : Int) := by omega
      have hcut := LogC.cut (G := ⟨G.l ++ [l], G.torn⟩) (G' := ⟨G.l, G.torn ++ el.take K⟩) (m := gb.length + K) (k := ((G.l ++ [l]).length : Nat)) (by rw [HLEN.out]; exact HL2.out) HR2.out HN2.out (by rw [HLEN.out]; omega)
        (by rw [HBY.out, HBY2.out, take_more])
      have HCUT := hid hcut
      have hKm : (if keep < 0 then (0 : Int) else keep) = (K : Int) := by split <;> omega
      clear hcut hk hk'
      go_wp2
      go_ret
      rw [HT.out, if_neg (by omega), hKl]
      exact ⟨rfl, g2, HCUT.out.1, HE2.out.trans HCUT.out.2⟩
  · have hput : (putG G l).2 = G := by
      unfold putG at hc ⊢
      split
      · rfl
      · rename_i h1
        split
        · rfl
        · rename_i h2; rw [if_neg h1, if_neg h2] at hc; exact absurd rfl hc
    have htear : tearG G l keep = ((putG G l).1, G) := by unfold tearG; rw [if_pos hc]
    have hc' : ((putG G l).1 != 0) = true := by simpa using hc
    rw [hput] at HG2
    have HT := hid htear
    clear hc htear hput
    generalize (putG G l).1 = code at *
    go_wp2
    go_ret
    rw [HT.out]
    exact ⟨rfl, g2, HG2.out, HE2.out⟩

/-- The table of no bytes. -/
theorem log_Table_nil (w : World) : Calls Tryz.prog 90 #[.slice none 0 0] w (LTabPost (tabOf []) w) := by
  have HD := hid (fun W => codec_Decode2 none 0 [] W (by simp) ⟨Nat.le_refl _, .inl rfl⟩)
  have e : decL [] = ([], 0, 6) := rfl
  rw [e] at HD
  have et : tabOf [] = (Tab.new, 0) := rfl
  rw [et]
  go_enter Tryz.func90, Tryz.ntmps90
  go_wp2_with fail
  refine (table_New (fun _ => 0) 1 w).mono ?_
  rintro e w1 ⟨t, g1, rfl, hE1, -, hT1⟩
  have B1 := hid ((Base.start w).step hE1 (by omega))
  have T1 := hid hT1
  clear hE1 hT1
  go_wp2_with fail
  go_loopw [5] (fun i wr => i = .int .i64 0 ∧ wr = w1) (fun _ _ => 0)
  case atStart => exact ⟨rfl, rfl⟩
  case round =>
    obtain ⟨rfl, rfl⟩ := hrel
    go_wp2_with fail
    refine (HD.out _).mono ?_
    rintro e w2 ⟨a2, c2, rfl, -, hb2, -⟩
    have B2 := hid (B1.out.below' hb2)
    have T2 := hid (T1.out.below hb2)
    clear hb2
    go_wp2
    go_ret2
    exact ⟨t, g1, rfl, B2.out.below, B2.out.zero, T2.out⟩

set_option maxHeartbeats 2000000 in
set_option maxRecDepth 100000 in
theorem log_Mend (g : Nat → Nat) (p b : Nat) (G : Lg) (w : World) (hok : G.Ok) (hG : LogAt w g p b G) :
    Calls Tryz.prog 89 #[.pointer (some ⟨b, 0, none⟩)] w (PutGPost g p b ((G.torn.length : Int), mendG G) w) := by
  have htab := hok.tab
  have hlast := hok.last
  have hlen := hok.2.2.1
  obtain ⟨a, cap, L, R, N⟩ := hG
  obtain ⟨q0, q1, q0f, q1f⟩ := L.1.two
  have hcapR := R.1
  have hT : Calls Tryz.prog 90 #[.slice a G.bytes.length cap] w (LTabPost (tabOf G.bytes) w) := by
    cases a with
    | none =>
      have h0 : G.bytes = [] := by
        have := sliceAt_none R.2.1
        cases hq : G.bytes with
        | nil => rfl
        | cons c l => rw [hq] at this; simp [Lib.byteCells] at this
      rw [h0, R.2.2.1 rfl]
      exact log_Table_nil w
    | some ad =>
      obtain ⟨b', off', spot'⟩ := ad
      obtain ⟨i0, i1, -, i3⟩ := R.2.2.2.1 _ rfl
      simp only at i0 i1 i3
      subst i0 i1
      exact log_Table b' 0 cap G.bytes w (by omega) R.bytes i3
  rw [htab] at hT
  have hlens : G.bytes.length = (encAll G.l).length + G.torn.length := by simp [Lg.bytes]
  have hmb : (mendG G).bytes = G.bytes.take (encAll G.l).length := by simp [Lg.bytes, mendG]
  have HT := hid hT
  have HL := hid L
  have HR := hid R
  have HN := hid N
  have HMB := hid hmb
  have HLS := hid hlast
  have HLN := hid hlens
  have hn0 := hok.2.1
  have hw1 : IntKind.i64.wrap ((G.bytes.length : Int) - ((encAll G.l).length : Int)) = (G.torn.length : Int) := by rw [hlens]; rw [show (((encAll G.l).length + G.torn.length : Nat) : Int) - ((encAll G.l).length : Int) = (G.torn.length : Int) by omega]; exact IntWalk.i64_in _ ⟨by omega, by omega⟩
  have hle : (encAll G.l).length ≤ G.bytes.length := by omega
  clear htab hlast hT L R N hmb hlens
  generalize htn : G.torn.length = tn at *
  generalize hwa : writeAll Tab.new G.l = TT at *
  generalize hea : (encAll G.l).length = en at *
  generalize hgb : G.bytes.length = gl at *
  have hei : (en : Int) ≤ (gl : Int) := by omega
  have hei0 : (0 : Int) ≤ (en : Int) := by omega
  have hgc : (gl : Int) ≤ (cap : Int) := by omega
  have hec : (en : Int) ≤ (cap : Int) := by omega
  have HW1 := hid hw1
  have HGL := hid hgb
  have hsub : (gl : Int) - (en : Int) = (tn : Int) := by have := HLN.out; omega
  clear hgb hw1 htn hwa hea
  go_enter Tryz.func89, Tryz.ntmps89
  go_wp2_with fail
  (with_reducible refine HT.out.mono ?_)
  rintro e w1 ⟨t, g0, rfl, hb, -, hT1⟩
  have HB := hid hb
  have HT1 := hid hT1
  have hE := Evo.of_below (lo := 0) (hi := 0) g p hb
  have L1 := hid (HL.out.frame hE (by omega))
  have R1 := hid (HR.out.frame hE (by omega))
  have hcut := LogC.cut (w := w1.drew) (G := G) (G' := mendG G) (m := en) (k := (G.l.length : Nat)) (by rw [HGL.out]; exact ⟨L1.out.1.drew, L1.out.2⟩) (R1.out.below (Below.refl _ _).drew) HN.out (by rw [HGL.out]; exact hle) HMB.out
  have HCUT := hid hcut
  obtain ⟨r0, r1, r0f, r1f⟩ := L1.out.1.two
  clear hb hT1 hE q0 q1 q0f q1f hcut
  go_wp2_with fail
  go_region_law (first
    | (go_simp; go_at_call 24; refine (table_Last g0 1 t TT _ (HT1.out.below (Below.refl _ _).drew)).mono ?_; rintro e w2 ⟨rfl, rfl⟩))
  all_goals
    go_wp2
    go_ret
    rw [HLS.out]
    exact ⟨rfl, extc g w p, HCUT.out.1, ((Evo.of_below g p HB.out).trans (Evo.drew _ _ _ _)).trans HCUT.out.2⟩

end Go.Proofs.YtoiobhcgpajogabGreatDoor
