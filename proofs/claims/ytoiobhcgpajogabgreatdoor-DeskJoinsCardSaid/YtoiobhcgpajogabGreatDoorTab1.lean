/- A table of versions, in plain words; its two forms in memory (a table of chains, the document's sheet of lines). -/
import Derived.Test.YtoiobhcgpajogabGreatDoorKit
import Derived.Test.YtoiobhcgpajogabGreatDoorCodec1
import Derived.Deep.RegionHeld3
import Derived.Test.YtoiobhcgpajogabGreatDoorCodec7
namespace Go.Proofs.YtoiobhcgpajogabGreatDoor
open Go.RowKit

def upd {α : Type} (f : Nat → α) (k : Nat) (x : α) : Nat → α := fun j => if j = k then x else f j

theorem upd_same {α : Type} (f : Nat → α) (k : Nat) (x : α) : upd f k x k = x := by simp [upd]
theorem upd_other {α : Type} (f : Nat → α) {k j : Nat} (x : α) (h : j ≠ k) : upd f k x j = f j := by simp [upd, h]
structure Tab where
  l : Nat → List Ent
  last : Nat

def Tab.new : Tab := ⟨fun _ => [⟨0, Val.zero⟩], 0⟩

/-- Its versions are by rising commits, none above the last one; there are not too many commits. -/
def Tab.Ok (T : Tab) : Prop := (∀ k, Sorted (T.l k) ∧ lastN (T.l k) ≤ T.last) ∧ T.last ≤ 40

theorem Tab.new_ok : Tab.new.Ok := ⟨fun _ => ⟨Sorted.start, by simp [Tab.new, lastN]⟩, by simp [Tab.new]⟩

theorem sorted_length {m : List Ent} (h : m.Pairwise (fun x y => x.n < y.n)) (hne : m ≠ []) : firstN m + ((m.length : Int) - 1) ≤ lastN m := by
  induction m with
  | nil => exact absurd rfl hne
  | cons a l ih =>
    cases l with
    | nil => simp [firstN, lastN]
    | cons b l =>
      rw [List.pairwise_cons] at h
      have h1 := ih h.2 (by simp)
      have h2 := h.1 b (by simp)
      have hl : lastN (a :: b :: l) = lastN (b :: l) := by simp [lastN, List.getLast?_cons_cons]
      rw [hl]
      have : firstN (a :: b :: l) = a.n := rfl
      have : firstN (b :: l) = b.n := rfl
      simp only [List.length_cons] at *
      omega

theorem Tab.Ok.length {T : Tab} (h : T.Ok) (k : Nat) : (T.l k).length ≤ 41 := by
  have h1 := (h.1 k).1
  have h2 := sorted_length h1.2.1 h1.1
  have h3 := (h.1 k).2
  have h4 := h.2
  have h5 := h1.2.2
  omega

theorem Tab.Ok.long {T : Tab} (h : T.Ok) (k : Nat) : (T.l k).length ≤ 1000000 := by have := h.length k; omega

theorem firstN_le_lastN {m : List Ent} (h : Sorted m) : firstN m ≤ lastN m := by
  have h2 := sorted_length h.2.1 h.1
  have : 0 < m.length := List.length_pos_iff.2 h.1
  omega

theorem Tab.Ok.set {T : Tab} (h : T.Ok) (k : Nat) {x : List Ent} (hx : Sorted x) (hl : lastN x ≤ T.last) : Tab.Ok ⟨upd T.l k x, T.last⟩ := by
  refine ⟨fun j => ?_, h.2⟩
  by_cases e : j = k
  · subst e; simp only [upd_same]; exact ⟨hx, hl⟩
  · simp only [upd_other _ _ e]; exact h.1 j

theorem putC_last {l : List Ent} {n : Int} (v : Val) (h : lastN l ≤ n) : lastN (putC l n v).2 ≤ n := by
  unfold putC
  split
  · exact h
  · split
    · exact h
    · simp [lastN]

/-! ### What is asked of a table -/

def putsT (n : Int) (l : Nat → List Ent) (w : List Ent) : Nat → List Ent := w.foldl (fun l x => upd l x.n.toNat (putC (l x.n.toNat) n x.v).2) l

theorem putsT_snoc (n : Int) (l : Nat → List Ent) (w : List Ent) (x : Ent) : putsT n l (w ++ [x]) = upd (putsT n l w) x.n.toNat (putC (putsT n l w x.n.toNat) n x.v).2 := by simp [putsT]

def writeT (T : Tab) (w : List Ent) : (Int × Int) × Tab :=
  if ckPs (-1) w ≠ 0 then ((0, ckPs (-1) w), T) else if 40 ≤ T.last then ((0, 9), T) else (((T.last : Int) + 1, 0), ⟨putsT (T.last + 1) T.l w, T.last + 1⟩)

theorem puts_ok {T : Tab} (h : T.Ok) (w : List Ent) (hl : T.last < 40) : Tab.Ok ⟨putsT (T.last + 1) T.l w, T.last + 1⟩ := by
  have h0 : Tab.Ok ⟨T.l, T.last + 1⟩ := ⟨fun k => ⟨(h.1 k).1, by have := (h.1 k).2; simp only; omega⟩, by simp only; omega⟩
  unfold putsT
  generalize T.l = l at h0
  clear h
  induction w generalizing l with
  | nil => exact h0
  | cons x w ih =>
    rw [List.foldl_cons]
    refine ih _ (h0.set x.n.toNat ((h0.1 _).1.put _ _) (putC_last _ ?_))
    have := (h0.1 x.n.toNat).2
    simpa using this

theorem write_ok {T : Tab} (h : T.Ok) (w : List Ent) : (writeT T w).2.Ok := by
  unfold writeT
  split
  · exact h
  · split
    · exact h
    · exact puts_ok h w (by omega)

def readT (T : Tab) (k a : Int) : Val × Int := if k < 0 ∨ 8 ≤ k ∨ (T.last : Int) < a then (Val.zero, 1) else readC (T.l k.toNat) a

def sinceT (T : Tab) (k : Int) : Int := if k < 0 ∨ 8 ≤ k then -1 else lastN (T.l k.toNat)

/-- The greatest of the first commits of the keys below k. -/
def firstGo (T : Tab) : Nat → Int
  | 0 => 0
  | k + 1 => if firstGo T k < firstN (T.l k) then firstN (T.l k) else firstGo T k
def firstT (T : Tab) : Int := firstGo T 8

def clearGo (least : Int) (T : Tab) (ks : List Nat) : Nat × Tab :=
  ks.foldl (fun x k => (x.1 + clearK least (x.2.l k), ⟨upd x.2.l k ((x.2.l k).drop (clearK least (x.2.l k))), x.2.last⟩)) (0, T)

def clearT (T : Tab) (least : Int) : Nat × Tab := clearGo least T (List.range 8)

theorem clear_ok1 {T : Tab} (h : T.Ok) (least : Int) (k : Nat) : Tab.Ok ⟨upd T.l k ((T.l k).drop (clearK least (T.l k))), T.last⟩ := by
  have h1 := h.1 k
  have h2 := clearK_lt least (T.l k) h1.1.1
  exact h.set k (h1.1.drop _ h2) (by rw [clear_last _ h2]; exact h1.2)

theorem clearGo_snoc (least : Int) (T : Tab) (ks : List Nat) (k : Nat) : clearGo least T (ks ++ [k]) =
    ((clearGo least T ks).1 + clearK least ((clearGo least T ks).2.l k), ⟨upd (clearGo least T ks).2.l k (((clearGo least T ks).2.l k).drop (clearK least ((clearGo least T ks).2.l k))), (clearGo least T ks).2.last⟩) := by
  simp [clearGo]

theorem clearGo_ok {T : Tab} (h : T.Ok) (least : Int) (ks : List Nat) : (clearGo least T ks).2.Ok ∧ (clearGo least T ks).1 ≤ 41 * ks.length := by
  induction ks using snoc_ind with
  | nil => exact ⟨h, by simp [clearGo]⟩
  | snoc ks k ih =>
    rw [clearGo_snoc]
    refine ⟨clear_ok1 ih.1 least k, ?_⟩
    have h1 := clearK_lt least _ (ih.1.1 k).1.1
    have h2 := ih.1.length k
    have h3 := ih.2
    simp only [List.length_append, List.length_singleton]
    omega

/-! ### In memory -/

def ptrs (c : Nat → Nat) : List Value := (List.range 8).map (fun k => Value.pointer (some ⟨c k, 0, none⟩))

/-- A table lies at block t: of the colour p its own block, of p + 1 + k the chain of the key k. -/
def TableAt (w : World) (g : Nat → Nat) (p t : Nat) (T : Tab) : Prop :=
  T.Ok ∧ ∃ c : Nat → Nat, LocC w g p t 95 (ptrs c ++ [.int .i64 T.last]) ∧ ∀ k, k < 8 → ChainAt w g (p + 1 + k) (c k) (T.l k)

theorem TableAt.frame {lo hi : Nat} {g g' : Nat → Nat} {w w' : World} {p t : Nat} {T : Tab} (h : TableAt w g p t T) (k : Evo lo hi g g' w w') (hc : p + 9 ≤ lo ∨ hi ≤ p) : TableAt w' g' p t T := by
  obtain ⟨h0, c, h1, h2⟩ := h
  exact ⟨h0, c, h1.frame k (by omega), fun j hj => (h2 j hj).frame k (by omega)⟩

theorem TableAt.below {w w' : World} {g : Nat → Nat} {p t : Nat} {T : Tab} (h : TableAt w g p t T) (k : Below w.heap.size w w') : TableAt w' g p t T := by
  obtain ⟨h0, c, h1, h2⟩ := h
  exact ⟨h0, c, h1.below k, fun j hj => (h2 j hj).below k⟩

theorem get8 (f : Nat → Value) (x : Value) (k : Nat) (h : k < 8) : ((List.range 8).map f ++ [x])[k]? = some (f k) := by
  rw [List.getElem?_append_left (by simpa using h)]
  simp [h]

theorem get8_last (f : Nat → Value) (x : Value) : ((List.range 8).map f ++ [x])[8]? = some x := rfl

end Go.Proofs.YtoiobhcgpajogabGreatDoor
/- Plain laws of a table of versions: what is read behind a commit. -/
namespace Go.Proofs.YtoiobhcgpajogabGreatDoor
open Go.RowKit

def lastV (l : List Ent) : Val := (l.getLastD default).v

theorem lastLe_top {l : List Ent} (h : Sorted l) {a : Int} (ha : lastN l ≤ a) : lastLe l a = lastV l := by
  obtain ⟨h1, h2, -⟩ := h
  rcases List.eq_nil_or_concat l with rfl | ⟨l', e, rfl⟩
  · exact absurd rfl h1
  · rw [List.concat_eq_append] at *
    have he : e.n ≤ a := by simpa [lastN] using ha
    rw [lastLe_snoc, if_pos he]
    simp [lastV]

theorem readC_top {l : List Ent} (h : Sorted l) {a : Int} (ha : lastN l ≤ a) : readC l a = (lastV l, 0) := by
  have h1 := firstN_le_lastN h
  have h2 := h.2.2
  unfold readC
  rw [if_neg (by omega), if_neg (by omega), lastLe_top h ha]

theorem readT_top {T : Tab} (h : T.Ok) {k : Nat} (hk : k < 8) : readT T k T.last = (lastV (T.l k), 0) := by
  unfold readT
  rw [if_neg (by omega)]
  exact readC_top (h.1 k).1 (h.1 k).2

theorem putC_new {l : List Ent} {n : Int} {v : Val} (hv : ckV v = 0) (hl : lastN l < n) : putC l n v = (0, l ++ [⟨n, v⟩]) := by
  unfold putC
  rw [if_neg (by omega), if_neg (by omega)]

theorem ckPs_rise {w : List Ent} : ∀ {pv : Int}, ckPs pv w = 0 → (∀ x ∈ w, 0 ≤ x.n ∧ x.n < 8 ∧ pv < x.n ∧ ckV x.v = 0) ∧ w.Pairwise (fun x y => x.n < y.n) := by
  induction w with
  | nil => intro pv _; exact ⟨by simp, by simp⟩
  | cons x w ih =>
    intro pv h
    rw [ckPs] at h
    split at h
    · omega
    · split at h
      · omega
      · split at h
        · rename_i h1 h2 h3
          exact absurd h h3
        · rename_i h1 h2 h3
          obtain ⟨i1, i2⟩ := ih h
          refine ⟨?_, List.pairwise_cons.2 ⟨fun y hy => (i1 y hy).2.2.1, i2⟩⟩
          intro y hy
          rcases List.mem_cons.1 hy with rfl | hy
          · exact ⟨by omega, by omega, by omega, by simpa using h3⟩
          · have := i1 y hy
            exact ⟨this.1, this.2.1, by omega, this.2.2.2⟩

theorem write_good {T : Tab} {w : List Ent} (h : (writeT T w).1.2 = 0) : ckPs (-1) w = 0 ∧ T.last < 40 ∧ writeT T w = (((T.last : Int) + 1, 0), ⟨putsT (T.last + 1) T.l w, T.last + 1⟩) := by
  unfold writeT at h ⊢
  split at h
  · rename_i hc; exact absurd h hc
  · split at h
    · simp at h
    · rename_i h1 h2
      rw [if_neg h1, if_neg h2]
      exact ⟨by simpa using h1, by omega, rfl⟩

theorem write_bad {T : Tab} {w : List Ent} (h : (writeT T w).1.2 ≠ 0) : (writeT T w).2 = T ∧ (writeT T w).1.1 = 0 := by
  unfold writeT at h ⊢
  split
  · exact ⟨rfl, rfl⟩
  · split
    · exact ⟨rfl, rfl⟩
    · rename_i h1 h2
      rw [if_neg h1, if_neg h2] at h
      exact absurd rfl h

theorem puts_read {n a : Int} (ha : a < n) (w : List Ent) : ∀ (l : Nat → List Ent), (∀ k, l k ≠ []) → ∀ k, readC (putsT n l w k) a = readC (l k) a := by
  induction w with
  | nil => intro l _ k; rfl
  | cons x w ih =>
    intro l hl k
    have e1 : putsT n l (x :: w) = putsT n (upd l x.n.toNat (putC (l x.n.toNat) n x.v).2) w := rfl
    rw [e1, ih]
    · by_cases e : k = x.n.toNat
      · subst e; rw [upd_same, put_read (hl _) _ _ _ ha]
      · rw [upd_other _ _ e]
    · intro j
      by_cases e : j = x.n.toNat
      · subst e; rw [upd_same]; exact put_ne (hl _) _ _
      · rw [upd_other _ _ e]; exact hl j

/-- What is read behind a commit stays so, whatever is written later. -/
theorem read_later {T : Tab} (hT : T.Ok) (w : List Ent) (k : Int) {a : Int} (ha : a ≤ T.last) : readT (writeT T w).2 k a = readT T k a := by
  unfold writeT
  split
  · rfl
  · split
    · rfl
    · unfold readT
      simp only
      rw [puts_read (by omega) w T.l (fun k => (hT.1 k).1.1)]
      by_cases h : k < 0 ∨ 8 ≤ k
      · rw [if_pos (by omega), if_pos (by omega)]
      · rw [if_neg (by omega), if_neg (by omega)]

theorem clearGo_last (least : Int) (T : Tab) (ks : List Nat) : (clearGo least T ks).2.last = T.last := by
  induction ks using snoc_ind with
  | nil => rfl
  | snoc ks k ih => rw [clearGo_snoc]; exact ih

theorem clearGo_l (least : Int) (T : Tab) (ks : List Nat) (hn : ks.Nodup) (k : Nat) : (clearGo least T ks).2.l k = if k ∈ ks then (T.l k).drop (clearK least (T.l k)) else T.l k := by
  induction ks using snoc_ind with
  | nil => rfl
  | snoc ks j ih =>
    rw [List.nodup_append] at hn
    obtain ⟨h1, -, h3⟩ := hn
    have hj : j ∉ ks := fun h => h3 j h j (by simp) rfl
    rw [clearGo_snoc]
    simp only [List.mem_append, List.mem_singleton]
    by_cases e : k = j
    · subst e
      rw [upd_same]
      have ihk := ih h1
      rw [if_neg hj] at ihk
      rw [ihk]
      simp
    · rw [upd_other _ _ e, ih h1]
      simp [e]

theorem clearT_l (T : Tab) (least : Int) {k : Nat} (hk : k < 8) : (clearT T least).2.l k = (T.l k).drop (clearK least (T.l k)) := by
  unfold clearT
  rw [clearGo_l _ _ _ List.nodup_range, if_pos (by simpa using hk)]

theorem clearT_last (T : Tab) (least : Int) : (clearT T least).2.last = T.last := clearGo_last _ _ _

end Go.Proofs.YtoiobhcgpajogabGreatDoor
/- The walks of a table that only read: Last, Read, Since, First. -/
namespace Go.Proofs.YtoiobhcgpajogabGreatDoor
open Go.RowKit

theorem key_nat {k : Int} (h : ¬ (k < 0 ∨ 8 ≤ k)) : ∃ n : Nat, n < 8 ∧ k = n := ⟨k.toNat, by omega, by omega⟩

/-- What the walk wants of a table. -/
theorem TableAt.facts {w : World} {g : Nat → Nat} {p t : Nat} {T : Tab} (h : TableAt w g p t T) :
    ∃ c : Nat → Nat, (∀ k, k < 8 → w.cell? ⟨t, k, none⟩ = some (.pointer (some ⟨c k, 0, none⟩)) ∧ ChainAt w g (p + 1 + k) (c k) (T.l k)) ∧ w.cell? ⟨t, 8, none⟩ = some (.int .i64 T.last) ∧ w.frozen? ⟨t, 8, none⟩ = false ∧ t < w.heap.size ∧ g t = p ∧
      Loc w t 95 (ptrs c ++ [.int .i64 T.last]) := by
  obtain ⟨h0, c, h1, h2⟩ := h
  exact ⟨c, fun k hk => ⟨(h1.1.cell k).trans (get8 _ _ k hk), h2 k hk⟩, (h1.1.cell 8).trans (get8_last _ _), h1.1.free 8, h1.1.lt, h1.2, h1.1⟩

theorem table_Last (g : Nat → Nat) (p t : Nat) (T : Tab) (w : World) (hT : TableAt w g p t T) :
    Calls Tryz.prog 24 #[.pointer (some ⟨t, 0, none⟩)] w fun e w' => e = .returned (.int .i64 T.last) ∧ w = w' := by
  obtain ⟨c, -, h8, -, ht, -, -⟩ := hT.facts
  go_enter Tryz.func24, Tryz.ntmps24
  go_wp2
  go_ret
  exact ⟨rfl, rfl⟩

set_option maxHeartbeats 1000000 in
set_option maxRecDepth 100000 in
theorem table_Read (g : Nat → Nat) (p t : Nat) (T : Tab) (w : World) (k a : Int) (hT : TableAt w g p t T) :
    Calls Tryz.prog 112 #[.pointer (some ⟨t, 0, none⟩), .int .i64 k, .int .i64 a] w (ReadPost (readT T k a) w) := by
  have hlong := hT.1.long
  obtain ⟨c, hc, h8, -, ht, -, -⟩ := hT.facts
  by_cases h0 : k < 0 ∨ 8 ≤ k
  · have e1 : readT T k a = (Val.zero, 1) := by unfold readT; rw [if_pos (by omega)]
    rw [e1]
    have CK := hid (fun w => chain_Key_out k w h0)
    clear hc hlong h0
    go_enter Tryz.func112, Tryz.ntmps112
    go_wp2_with fail
    refine (CK.out _).mono ?_
    rintro e w1 ⟨rfl, rfl⟩
    go_wp2
    refine bodyPost_ret (v := .tuple #[.agg #[.bool false, .string ByteArray.empty], .int .i64 1]) (by simp [results, Tryz.results112, go_sem]; rfl) rfl ⟨rfl, ?_⟩
    exact (Below.refl _ _).alloc (Nat.le_refl _) _
  · obtain ⟨n, hn, rfl⟩ := key_nat h0
    have CK := hid (fun w => chain_Key_in n w ⟨by omega, by omega⟩)
    obtain ⟨hcn, hC⟩ := hc n hn
    by_cases h1 : (T.last : Int) < a
    · have e1 : readT T n a = (Val.zero, 1) := by unfold readT; rw [if_pos (by omega)]
      rw [e1]
      clear hc hlong h0
      go_enter Tryz.func112, Tryz.ntmps112
      go_wp2_with fail
      refine (CK.out _).mono ?_
      rintro e w1 ⟨rfl, rfl⟩
      go_wp2
      refine bodyPost_ret (v := .tuple #[.agg #[.bool false, .string ByteArray.empty], .int .i64 1]) (by simp [results, Tryz.results112, go_sem]; rfl) rfl ⟨rfl, ?_⟩
      exact (Below.refl _ _).alloc (Nat.le_refl _) _
    · have e1 : readT T n a = readC (T.l n) a := by unfold readT; rw [if_neg (by omega)]; rfl
      rw [e1]
      have h1' : a ≤ (T.last : Int) := by omega
      have hl := hlong n
      clear hc hlong h0 e1
      generalize hy : readC (T.l n) a = y at *
      have HY := hid hy
      clear hy
      go_enter Tryz.func112, Tryz.ntmps112
      go_wp2_with fail
      refine (CK.out _).mono ?_
      rintro e w1 ⟨rfl, rfl⟩
      go_wp2_with fail
      refine (chain_Read g _ _ _ _ a hl (hC.alloc _)).mono ?_
      rintro e w2 ⟨rfl, hb⟩
      rw [HY.out]
      have L := (Loc.new w 84 [.bool false, .string ⟨#[]⟩]).keep hb
      have HB := hid hb
      obtain ⟨q1, q2, q3, q4⟩ := L.two
      clear hb
      go_wp2
      refine bodyPost_ret (v := .tuple #[.agg #[.bool y.1.there, .string y.1.bytes], .int .i64 y.2]) (by simp [results, Tryz.results112, go_sem, q1, q2]) rfl ⟨rfl, ?_⟩
      exact ((((Below.refl _ _).alloc (Nat.le_refl _) _).trans (HB.out.mono (by simp))).setCell (by simp) _).setCell (by simp) _

theorem table_Since (g : Nat → Nat) (p t : Nat) (T : Tab) (w : World) (k : Int) (hT : TableAt w g p t T) :
    Calls Tryz.prog 130 #[.pointer (some ⟨t, 0, none⟩), .int .i64 k] w (ValPost (sinceT T k) w) := by
  have hlong := hT.1.long
  obtain ⟨c, hc, h8, -, ht, -, -⟩ := hT.facts
  by_cases h0 : k < 0 ∨ 8 ≤ k
  · have e1 : sinceT T k = -1 := by unfold sinceT; rw [if_pos (by omega)]
    rw [e1]
    have CK := hid (fun w => chain_Key_out k w h0)
    clear hc hlong h0
    go_enter Tryz.func130, Tryz.ntmps130
    go_wp2_with fail
    refine (CK.out _).mono ?_
    rintro e w1 ⟨rfl, rfl⟩
    go_wp2
    go_ret
    exact ⟨rfl, Below.refl _ _⟩
  · obtain ⟨n, hn, rfl⟩ := key_nat h0
    have CK := hid (fun w => chain_Key_in n w ⟨by omega, by omega⟩)
    obtain ⟨hcn, hC⟩ := hc n hn
    have e1 : sinceT T n = lastN (T.l n) := by unfold sinceT; rw [if_neg (by omega)]; rfl
    rw [e1]
    have hl := hlong n
    clear hc hlong h0 e1
    go_enter Tryz.func130, Tryz.ntmps130
    go_wp2_with fail
    refine (CK.out _).mono ?_
    rintro e w1 ⟨rfl, rfl⟩
    go_wp2_with fail
    refine (chain_Last g _ _ _ _ hC hl).mono ?_
    rintro e w2 ⟨rfl, hb⟩
    go_wp2
    go_ret
    exact ⟨rfl, hb⟩

/-- An element of an array of eight pointers, by value. -/
theorem run_ptrs (c : Nat → Nat) (k : Nat) (hk : k < 8) (w : World) : (Instr.index 93 (.agg #[.pointer (some ⟨c 0, 0, none⟩), .pointer (some ⟨c 1, 0, none⟩), .pointer (some ⟨c 2, 0, none⟩), .pointer (some ⟨c 3, 0, none⟩), .pointer (some ⟨c 4, 0, none⟩), .pointer (some ⟨c 5, 0, none⟩), .pointer (some ⟨c 6, 0, none⟩), .pointer (some ⟨c 7, 0, none⟩)]) (.int .i64 (k : Int))).run Tryz.prog w = .ok (.pointer (some ⟨c k, 0, none⟩)) w := by
  have h : k = 0 ∨ k = 1 ∨ k = 2 ∨ k = 3 ∨ k = 4 ∨ k = 5 ∨ k = 6 ∨ k = 7 := by omega
  rcases h with rfl | rfl | rfl | rfl | rfl | rfl | rfl | rfl <;> simp [Instr.index, run_underlying Tryz.underlying93, asIntOf, go_sem] <;> rfl

set_option maxHeartbeats 1000000 in
set_option maxRecDepth 100000 in
theorem table_First (g : Nat → Nat) (p t : Nat) (T : Tab) (w : World) (hT : TableAt w g p t T) :
    Calls Tryz.prog 25 #[.pointer (some ⟨t, 0, none⟩)] w (ValPost (firstT T) w) := by
  obtain ⟨c, hc, -, -, ht, -, -⟩ := hT.facts
  obtain ⟨c0, -⟩ := hc 0 (by omega)
  obtain ⟨c1, -⟩ := hc 1 (by omega)
  obtain ⟨c2, -⟩ := hc 2 (by omega)
  obtain ⟨c3, -⟩ := hc 3 (by omega)
  obtain ⟨c4, -⟩ := hc 4 (by omega)
  obtain ⟨c5, -⟩ := hc 5 (by omega)
  obtain ⟨c6, -⟩ := hc 6 (by omega)
  obtain ⟨c7, -⟩ := hc 7 (by omega)
  have HC := hid hc
  clear hc hT
  have E : ∀ x, firstT T = x → ValPost (firstT T) w (.returned (.int .i64 x)) w := fun x hx => ⟨by rw [hx], Below.refl _ _⟩
  have F := hid E
  clear E
  go_enter Tryz.func25, Tryz.ntmps25
  go_wp2
  clear c0 c1 c2 c3 c4 c5 c6 c7
  go_loop [3, 10] (fun n i => ∃ k : Nat, k ≤ 8 ∧ n = .int .i64 (firstGo T k) ∧ i = .int .i64 k) (fun _ i => 8 - (intOf i).toNat)
  case atStart => exact ⟨0, by omega, rfl, rfl⟩
  case round =>
    obtain ⟨k, hk, rfl, rfl⟩ := hrel
    by_cases hlt : k < 8
    · have hx := run_ptrs c k hlt
      have hC := (HC.out k hlt).2
      have hst : firstGo T (k + 1) = if firstGo T k < firstN (T.l k) then firstN (T.l k) else firstGo T k := rfl
      have HST := hid hst
      clear hst
      generalize firstGo T k = m at *
      go_wp2_with fail
      refine (chain_First g _ _ _ _ hC).mono ?_
      rintro e w2 ⟨rfl, rfl⟩
      go_wp2
      go_round
      case rel => exact ⟨k + 1, by omega, by rw [HST.out], by go_num⟩
      case measure => simp [intOf]; omega
    · obtain rfl : k = 8 := by omega
      go_wp2
      go_ret
      exact F.out _ rfl

end Go.Proofs.YtoiobhcgpajogabGreatDoor
/- The walks of a table that make or turn it: New, Write, Clear. -/
namespace Go.Proofs.YtoiobhcgpajogabGreatDoor
open Go.RowKit

/-- A slice whose cells no one of the colours from lo on, below hi, turns. -/
def SliceC (w : World) (g : Nat → Nat) (lo hi : Nat) (a : Option Addr) (cells : List Value) : Prop :=
  cells = [] ∨ ∃ b off, a = some ⟨b, off, none⟩ ∧ b < w.heap.size ∧ (g b < lo ∨ hi ≤ g b) ∧ ∀ j u, cells[j]? = some u → w.cell? ⟨b, off + j, none⟩ = some u

theorem SliceC.at {w : World} {g : Nat → Nat} {lo hi : Nat} {a : Option Addr} {cells : List Value} (h : SliceC w g lo hi a cells) : SliceAt w a cells := by
  rcases h with h | ⟨b, off, h1, -, -, h2⟩
  · exact .inl h
  · exact .inr ⟨b, off, h1, h2⟩

theorem SliceC.frame {w w' : World} {g g' : Nat → Nat} {lo hi : Nat} {a : Option Addr} {cells : List Value} (h : SliceC w g lo hi a cells) (k : Evo lo hi g g' w w') : SliceC w' g' lo hi a cells := by
  rcases h with h | ⟨b, off, h1, h2, h3, h4⟩
  · exact .inl h
  · refine .inr ⟨b, off, h1, Nat.lt_of_lt_of_le h2 k.size, by rw [k.col b h2]; exact h3, fun j u hu => ?_⟩
    exact (World.cell?_of_block (w := w) (a := ⟨b, off + j, none⟩) (k.same b h2 (by omega))).trans (h4 j u hu)

theorem SliceC.of_base {B : Nat} {w0 w : World} {g : Nat → Nat} {lo hi : Nat} {a : Option Addr} {cells : List Value} (h : SliceAt w0 a cells) (hB : B = w0.heap.size) (k : Base B w0 g w) (hl : 1 ≤ lo) : SliceC w g lo hi a cells := by
  by_cases hne : cells = []
  · exact .inl hne
  · obtain ⟨b, off, rfl, hb⟩ := h.lt hne
    rcases h with h | ⟨b', off', e, h⟩
    · exact absurd h hne
    · cases e
      subst hB
      refine .inr ⟨b, off, rfl, Nat.lt_of_lt_of_le hb k.size, by rw [k.zero b hb]; omega, fun j u hu => ?_⟩
      exact (k.cell (p := ⟨b, off + j, none⟩) hb).trans (h j u hu)

def zeroPtrs (c : Nat → Nat) (n : Nat) : List Value := (List.range 8).map (fun k => if k < n then Value.pointer (some ⟨c k, 0, none⟩) else .pointer none)

theorem zeroPtrs_get (c : Nat → Nat) (n k : Nat) (x : Value) (hk : k < 8) (hn : n ≤ k) : (zeroPtrs c n ++ [x])[k]? = some (.pointer none) := by
  have := get8 (fun k => if k < n then Value.pointer (some ⟨c k, 0, none⟩) else .pointer none) x k hk
  rw [if_neg (by omega)] at this
  exact this

theorem zeroPtrs_set (c : Nat → Nat) (n b : Nat) (x : Value) (hn : n < 8) : (zeroPtrs c n ++ [x]).set n (.pointer (some ⟨b, 0, none⟩)) = zeroPtrs (upd c n b) (n + 1) ++ [x] := by
  rw [List.set_append_left _ _ (by simp [zeroPtrs]; omega)]
  congr 1
  apply List.ext_getElem?
  intro i
  unfold zeroPtrs
  rw [List.getElem?_set]
  by_cases hi : i < 8
  · by_cases e : n = i
    · subst e
      rw [if_pos rfl, if_pos (by simpa using hi)]
      simp [hi, upd]
    · rw [if_neg e]
      simp only [List.getElem?_map, List.getElem?_range hi, Option.map_some]
      rw [upd_other _ _ (Ne.symm e)]
      by_cases h1 : i < n
      · rw [if_pos h1, if_pos (by omega)]
      · rw [if_neg h1, if_neg (by omega)]
  · have h8 : (List.range 8).length ≤ i := by simp; omega
    rw [List.getElem?_map, List.getElem?_map, List.getElem?_eq_none h8]
    split
    · rw [if_neg (by simp; omega)]; rfl
    · rfl

theorem zeroPtrs_all (c : Nat → Nat) : zeroPtrs c 8 = ptrs c := by
  unfold zeroPtrs ptrs
  refine List.map_congr_left fun k hk => ?_
  rw [if_pos (by simpa using hk)]

structure NewT (g0 : Nat → Nat) (w0 : World) (g : Nat → Nat) (w : World) (p t : Nat) (c : Nat → Nat) (n : Nat) : Prop where
  evo : Evo 0 0 g0 g w0 w
  new : w0.heap.size ≤ t
  loc : LocC w g p t 95 (zeroPtrs c n ++ [Value.int .i64 0])
  ch : ∀ k, k < n → ChainAt w g (p + 1 + k) (c k) [⟨0, Val.zero⟩]

theorem NewT.step {g0 g : Nat → Nat} {w0 w w1 : World} {p t b n : Nat} {c : Nat → Nat} (h : NewT g0 w0 g w p t c n) (hn : n < 8) (hb : Below w.heap.size w w1) (hC : ChainAt w1 (extc g w (p + 1 + n)) (p + 1 + n) b [⟨0, Val.zero⟩]) :
    NewT g0 w0 (extc g w (p + 1 + n)) (w1.setCell ⟨t, n, none⟩ (.pointer (some ⟨b, 0, none⟩))) p t (upd c n b) (n + 1) := by
  have hE : Evo 0 0 g (extc g w (p + 1 + n)) w w1 := Evo.of_below g _ hb
  have L := h.loc.frame hE (by omega)
  have hS := evo_store (g := extc g w (p + 1 + n)) (w := w1) (b := t) (i := n) (q := p) (.pointer (some ⟨b, 0, none⟩)) L.2
  refine ⟨?_, h.new, ?_, fun k hk => ?_⟩
  · have h1 := h.evo.trans hE
    refine ⟨h1.os, h1.tape, h1.output, by simpa using h1.size, h1.col, fun k hk hn => ?_⟩
    rw [Below.heap_setCell _ _ _ _ (by have := h.new; simp; omega)]
    exact h1.same k hk hn
  · have := L.set n (.pointer (some ⟨b, 0, none⟩))
    rwa [zeroPtrs_set _ _ _ _ hn] at this
  · by_cases e : k = n
    · subst e
      rw [upd_same]
      exact hC.frame hS (by omega)
    · rw [upd_other _ _ e]
      exact ((h.ch k (by omega)).frame hE (by omega)).frame hS (by omega)

def NewTPost (g : Nat → Nat) (p : Nat) (w : World) (e : Ending) (w' : World) : Prop :=
  ∃ t g', e = .returned (.pointer (some ⟨t, 0, none⟩)) ∧ Evo 0 0 g g' w w' ∧ w.heap.size ≤ t ∧ TableAt w' g' p t Tab.new

set_option maxHeartbeats 1000000 in
set_option maxRecDepth 100000 in
theorem table_New (g : Nat → Nat) (p : Nat) (w : World) : Calls Tryz.prog 27 #[] w (NewTPost g p w) := by
  go_enter Tryz.func27, Tryz.ntmps27
  go_wp2
  have H0 : NewT g w (extc g w p) (w.alloc (.cells (zeroPtrs (fun _ => 0) 0 ++ [Value.int .i64 0]).toArray 95)) p w.heap.size (fun _ => 0) 0 :=
    ⟨Evo.alloc g p w _, Nat.le_refl _, LocC.new _ _ _ _ _, fun k hk => by omega⟩
  have H := hid H0
  clear H0
  go_loopw [2, 5] (fun _ i wr => ∃ (k : Nat) (g' : Nat → Nat) (c : Nat → Nat), k ≤ 8 ∧ i = .int .i64 k ∧ NewT g w g' wr p w.heap.size c k) (fun _ i _ => 8 - (intOf i).toNat)
  case atStart => exact ⟨0, _, _, by omega, rfl, H.out⟩
  case round =>
    obtain ⟨k, g', c, hk, rfl, hN⟩ := hrel
    clear H
    by_cases hlt : k < 8
    · have hki : (k : Int) < 8 := by omega
      have hk0 : (0 : Int) ≤ (k : Int) := by omega
      have c0 : ∀ W', Below wr.heap.size wr W' → Below wr.heap.size wr W' ∧ W'.cell? ⟨w.heap.size, k, none⟩ = some (.pointer none) ∧ W'.frozen? ⟨w.heap.size, k, none⟩ = false := by
        intro W' hb
        have L := hN.loc.1.keep hb
        exact ⟨hb, (L.cell k).trans (zeroPtrs_get c k k _ hlt (Nat.le_refl _)), L.free k⟩
      have KS := hid c0
      have HN := hid hN
      clear c0 hN
      go_wp2_with fail
      go_region_law (first
        | (go_simp; go_at_call 51; refine (chain_New g' (p + 1 + k) _).mono ?_; rintro e w1 ⟨b, rfl, hb, -, -, hC⟩; have HC := hid hC; have HB := hid hb; obtain ⟨-, q1, q2⟩ := KS.out _ ((Below.refl _ _).drew.trans (hb.mono (Nat.le_refl _))); clear hb hC))
      all_goals
        go_wp2
        go_roundw
        case rel => exact ⟨k + 1, _, _, by omega, by go_num, HN.out.step hlt ((Below.refl _ _).drew.trans (HB.out.mono (Nat.le_refl _))) HC.out⟩
        case measure => simp [intOf]; omega
    · obtain rfl : k = 8 := by omega
      have HN := hid hN
      clear hN
      go_wp2
      go_ret
      refine ⟨_, g', rfl, HN.out.evo, HN.out.new, Tab.new_ok, c, ?_, HN.out.ch⟩
      rw [← zeroPtrs_all]
      exact HN.out.loc

end Go.Proofs.YtoiobhcgpajogabGreatDoor
/- The walks of a table: List, Write, Clear. -/
namespace Go.Proofs.YtoiobhcgpajogabGreatDoor
open Go.RowKit
theorem range_drop (m k : Nat) (h : k ≤ m) : (List.range (m + 1)).drop k = k :: (List.range (m + 1)).drop (k + 1) := by
  rw [List.drop_eq_getElem_cons (by simpa using by omega)]
  simp

theorem range_drop_nil (m k : Nat) (h : m < k) : (List.range (m + 1)).drop k = [] := List.drop_eq_nil_of_le (by simpa using by omega)

end Go.Proofs.YtoiobhcgpajogabGreatDoor
/- The walks of a table that turn it: Write, Clear. -/
namespace Go.Proofs.YtoiobhcgpajogabGreatDoor
open Go.RowKit

/-- A table, and where its chains lie. -/
def TableC (w : World) (g : Nat → Nat) (p t : Nat) (T : Tab) (c : Nat → Nat) : Prop :=
  T.Ok ∧ LocC w g p t 95 (ptrs c ++ [.int .i64 T.last]) ∧ ∀ k, k < 8 → ChainAt w g (p + 1 + k) (c k) (T.l k)

theorem TableAt.c {w : World} {g : Nat → Nat} {p t : Nat} {T : Tab} (h : TableAt w g p t T) : ∃ c, TableC w g p t T c := by
  obtain ⟨h0, c, h1, h2⟩ := h
  exact ⟨c, h0, h1, h2⟩

theorem TableC.at {w : World} {g : Nat → Nat} {p t : Nat} {T : Tab} {c : Nat → Nat} (h : TableC w g p t T c) : TableAt w g p t T := ⟨h.1, c, h.2.1, h.2.2⟩

theorem TableC.frame {lo hi : Nat} {g g' : Nat → Nat} {w w' : World} {p t : Nat} {T : Tab} {c : Nat → Nat} (h : TableC w g p t T c) (k : Evo lo hi g g' w w') (hc : p + 9 ≤ lo ∨ hi ≤ p) : TableC w' g' p t T c :=
  ⟨h.1, h.2.1.frame k (by omega), fun j hj => (h.2.2 j hj).frame k (by omega)⟩

theorem TableC.fresh {g g' : Nat → Nat} {w w' : World} {p t : Nat} {T : Tab} {c : Nat → Nat} (h : TableC w g p t T c) (k : Evo 0 0 g g' w w') : TableC w' g' p t T c := h.frame k (by omega)

theorem TableC.cells {w : World} {g : Nat → Nat} {p t : Nat} {T : Tab} {c : Nat → Nat} (h : TableC w g p t T c) {k : Nat} (hk : k < 8) :
    w.cell? ⟨t, k, none⟩ = some (.pointer (some ⟨c k, 0, none⟩)) ∧ w.cell? ⟨t, 8, none⟩ = some (.int .i64 T.last) ∧ ChainAt w g (p + 1 + k) (c k) (T.l k) ∧ t < w.heap.size :=
  ⟨(h.2.1.1.cell k).trans (get8 _ _ k hk), (h.2.1.1.cell 8).trans (get8_last _ _), h.2.2 k hk, h.2.1.1.lt⟩

/-- One of its chains is turned. -/
theorem TableC.turn {w w' : World} {g g' : Nat → Nat} {p t : Nat} {T : Tab} {c : Nat → Nat} (h : TableC w g p t T c) {n : Nat} (_hn : n < 8) {x : List Ent} (hx : Sorted x) (hl : lastN x ≤ T.last)
    (hC : ChainAt w' g' (p + 1 + n) (c n) x) (k : Evo (p + 1 + n) (p + 1 + n + 1) g g' w w') : TableC w' g' p t ⟨upd T.l n x, T.last⟩ c := by
  refine ⟨h.1.set n hx hl, h.2.1.frame k (by omega), fun j hj => ?_⟩
  by_cases e : j = n
  · subst e; simp only [upd_same]; exact hC
  · simp only [upd_other _ _ e]; exact (h.2.2 j hj).frame k (by omega)

theorem Evo.drew (lo hi : Nat) (g : Nat → Nat) (w : World) : Evo lo hi g g w w.drew := ⟨rfl, rfl, rfl, Nat.le_refl _, fun _ _ => rfl, fun _ _ _ => rfl⟩

theorem ptrs_set (c : Nat → Nat) (x y : Value) : (ptrs c ++ [x]).set 8 y = ptrs c ++ [y] := rfl

theorem TableC.more {w : World} {g : Nat → Nat} {p t : Nat} {T : Tab} {c : Nat → Nat} (h : TableC w g p t T c) (hl : T.last < 40) :
    TableC (w.setCell ⟨t, 8, none⟩ (.int .i64 ((T.last : Int) + 1))) g p t ⟨T.l, T.last + 1⟩ c := by
  have hE := evo_store (g := g) (w := w) (b := t) (i := 8) (q := p) (.int .i64 ((T.last : Int) + 1)) h.2.1.2
  refine ⟨⟨fun k => ⟨(h.1.1 k).1, by have := (h.1.1 k).2; simp only; omega⟩, by simp only; omega⟩, ?_, fun j hj => (h.2.2 j hj).frame hE (by omega)⟩
  have := h.2.1.set 8 (.int .i64 ((T.last : Int) + 1))
  rw [ptrs_set] at this
  simpa using this

def WritePost (g : Nat → Nat) (p t : Nat) (x : (Int × Int) × Tab) (w : World) (e : Ending) (w' : World) : Prop :=
  e = .returned (.tuple #[.int .i64 x.1.1, .int .i64 x.1.2]) ∧ ∃ g', TableAt w' g' p t x.2 ∧ Evo p (p + 9) g g' w w'

theorem putsT_take (n : Int) (f : Nat → List Ent) (l : List Ent) (k : Nat) (h : k < l.length) : putsT n f (l.take (k + 1)) = upd (putsT n f (l.take k)) l[k].n.toNat (putC (putsT n f (l.take k) l[k].n.toNat) n l[k].v).2 := by
  rw [List.take_succ_eq_append_getElem h, putsT_snoc]

set_option maxHeartbeats 1000000 in
set_option maxRecDepth 100000 in
theorem table_Write (g : Nat → Nat) (p t : Nat) (T : Tab) (a : Option Addr) (cap : Nat) (l : List Ent) (w : World) (hn : l.length ≤ 1000000) (hv : ∀ x ∈ l, x.v.bytes.size ≤ maxLen) (hT : TableAt w g p t T) (h : SliceC w g p (p + 9) a (encEnts l)) :
    Calls Tryz.prog 108 #[.pointer (some ⟨t, 0, none⟩), .slice a l.length cap] w (WritePost g p t (writeT T l) w) := by
  have HS := hid h
  have CK := hid (table_Check a cap l w hn hv h.at)
  have HV := hid hv
  have HT := hid hT
  clear h hT hv
  by_cases h0 : ckPs (-1) l = 0
  · by_cases h1 : 40 ≤ T.last
    · have e1 : writeT T l = ((0, 9), T) := by unfold writeT; rw [if_neg (by simpa using h0), if_pos h1]
      rw [e1]
      rw [h0] at CK
      have h1' : (40 : Int) ≤ (T.last : Int) := by omega
      clear h0 e1 h1
      go_enter Tryz.func108, Tryz.ntmps108
      go_wp2_with fail
      (with_reducible refine CK.out.mono ?_)
      rintro e w1 ⟨rfl, hb⟩
      obtain ⟨c, hc, h8, -, ht, -, -⟩ := (HT.out.below hb).facts
      have HB := hid hb
      clear hb hc
      go_wp2
      go_ret2
      exact ⟨rfl, extc g w p, HT.out.frame (Evo.of_below (lo := 0) (hi := 0) g p HB.out) (by omega), Evo.of_below g p HB.out⟩
    · have e1 : writeT T l = (((T.last : Int) + 1, 0), ⟨putsT (T.last + 1) T.l l, T.last + 1⟩) := by unfold writeT; rw [if_neg (by simpa using h0), if_neg h1]
      rw [e1]
      have hok := hid (ckPs_zero l (-1) (by omega) (by omega) h0)
      rw [h0] at CK
      have h1' : (T.last : Int) < (40 : Int) := by omega
      have h1n : T.last < 40 := by omega
      clear h0 e1 h1
      go_enter Tryz.func108, Tryz.ntmps108
      go_wp2_with fail
      (with_reducible refine CK.out.mono ?_)
      rintro e w1 ⟨rfl, hb⟩
      have hE := Evo.of_below (lo := 0) (hi := 0) g p hb
      obtain ⟨c, hC⟩ := HT.out.c
      have HC1 := hid (hC.fresh hE)
      have HE1 := hid hE
      have HM := hid (HC1.out.more h1n)
      have HE2 := hid (evo_store (g := extc g w p) (w := w1) (b := t) (i := 8) (q := p) (.int .i64 ((T.last : Int) + 1)) HC1.out.2.1.2)
      have h8 := (HC1.out.2.1.1.cell 8).trans (get8_last _ _)
      have f8 := HC1.out.2.1.1.free 8
      clear hb hE hC CK
      go_wp2_with fail
      generalize w1.setCell ⟨t, 8, none⟩ (.int .i64 ((T.last : Int) + 1)) = w2 at *
      have HE := hid ((HE1.out.none (by omega) : Evo p (p + 9) g (extc g w p) w w1).trans (HE2.out.wide (by omega) (by omega)))
      clear h8 f8 HE2 HC1 HE1
      go_loopw [28] (fun i wr => ∃ (k : Nat) (g' : Nat → Nat), k ≤ l.length ∧ i = .int .i64 k ∧ TableC wr g' p t ⟨putsT (T.last + 1) T.l (l.take k), T.last + 1⟩ c ∧ Evo p (p + 9) g g' w wr) (fun i _ => l.length - (intOf i).toNat)
      case atStart => exact ⟨0, _, Nat.zero_le _, rfl, HM.out, HE.out⟩
      case round =>
        obtain ⟨k, g', hk, rfl, hC, hE⟩ := hrel
        clear HM HE
        by_cases hlt : k < l.length
        · have hst := putsT_take (T.last + 1) T.l l k hlt
          have HS1 := (HS.out.frame hE).at
          obtain ⟨b1, o1, rfl, v1⟩ := HS1.ents (by omega)
          obtain ⟨p1, p2, p3⟩ := v1 k hlt
          have hsz := HV.out l[k] (List.getElem_mem _)
          have hox := hok.out.1 l[k] (List.getElem_mem _)
          have hki : (k : Int) < (l.length : Int) := by omega
          have hk0 : (0 : Int) ≤ (k : Int) := by omega
          generalize l[k] = x at *
          obtain ⟨y1, y2, -, -⟩ := hox
          obtain ⟨n, hn8, hxn⟩ : ∃ n : Nat, n < 8 ∧ x.n = n := ⟨x.n.toNat, by omega, by omega⟩
          rw [hxn, Int.toNat_natCast] at hst
          rw [hxn] at p1
          have hE0 := Evo.alloc g' p wr (.cells #[.int .i64 n, .bool x.v.there, .string x.v.bytes] 107)
          have hC0 := hC.fresh hE0
          have hEE := hE.trans (hE0.none (by omega))
          obtain ⟨q1, q2, q3, q4⟩ := hC0.cells hn8
          have hlen := hC0.1.long n
          have hso := (hC0.1.1 n).1
          have hla := (hC0.1.1 n).2
          have hput := putC_last x.v hla
          generalize putsT (T.last + 1) T.l (l.take k) = S at *
          have hcell := loc_three (Loc.new wr 107 [.int .i64 n, .bool x.v.there, .string x.v.bytes])
          have HST := hid hst
          have HC0 := hid hC0
          have HEE := hid hEE
          have HSO := hid hso
          have HPL := hid hput
          have Q3 := hid q3
          clear hst hC hE hC0 hEE hso hla hput hE0 q3 v1 HS1
          go_wp2_with fail
          generalize wr.alloc (.cells #[.int .i64 n, .bool x.v.there, .string x.v.bytes] 107) = W1 at *
          obtain ⟨Q4, Q5, Q6⟩ := hcell
          clear p1 p2 p3
          have hn0 : (0 : Int) ≤ (n : Int) := by omega
          have hn8' : (n : Int) < 8 := by omega
          go_region_law (first
            | (go_simp; go_at_call 127; refine (chain_Put (extc g' wr p) (p + 1 + n) (c n) (S n) _ _ x.v.there x.v.bytes hsz hlen (Q3.out.below (Below.refl _ _).drew)).mono ?_; rintro e w3 ⟨rfl, g3, hC3, hE3⟩; have HC3 := hid hC3; have HE3 := hid hE3; clear hC3 hE3))
          all_goals
            have HE4 := hid ((Evo.drew _ _ _ _).trans HE3.out)
            have HN := hid (HC0.out.turn hn8 (HSO.out.put _ _) HPL.out HC3.out HE4.out)
            go_wp2
            go_roundw
            case rel =>
              refine ⟨k + 1, g3, by omega, by go_num, ?_, HEE.out.trans (HE4.out.wide (by omega) (by omega))⟩
              rw [HST.out]
              exact HN.out
            case measure => simp [intOf]; omega
        · obtain rfl : k = l.length := by omega
          rw [List.take_length] at hC
          have HC := hid hC
          have HE := hid hE
          have h8 := (hC.2.1.1.cell 8).trans (get8_last _ _)
          clear hC hE
          go_wp2
          go_ret2
          exact ⟨rfl, g', HC.out.at, HE.out⟩
  · have e1 : writeT T l = ((0, ckPs (-1) l), T) := by unfold writeT; rw [if_pos h0]
    have hc' : (ckPs (-1) l != 0) = true := by simpa using h0
    rw [e1]
    clear e1 h0
    generalize ckPs (-1) l = code at *
    go_enter Tryz.func108, Tryz.ntmps108
    go_wp2_with fail
    (with_reducible refine CK.out.mono ?_)
    rintro e w1 ⟨rfl, hb⟩
    have HB := hid hb
    clear hb
    go_wp2
    go_ret2
    exact ⟨rfl, extc g w p, HT.out.frame (Evo.of_below (lo := 0) (hi := 0) g p HB.out) (by omega), Evo.of_below g p HB.out⟩

def ClearPost (g : Nat → Nat) (p t : Nat) (x : Nat × Tab) (w : World) (e : Ending) (w' : World) : Prop :=
  e = .returned (.int .i64 (x.1 : Int)) ∧ ∃ g', TableAt w' g' p t x.2 ∧ Evo p (p + 9) g g' w w'

set_option maxHeartbeats 1000000 in
set_option maxRecDepth 100000 in
theorem table_Clear (g : Nat → Nat) (p t : Nat) (T : Tab) (w : World) (least : Int) (hT : TableAt w g p t T) :
    Calls Tryz.prog 74 #[.pointer (some ⟨t, 0, none⟩), .int .i64 least] w (ClearPost g p t (clearT T least) w) := by
  obtain ⟨c, hC⟩ := hT.c
  have hOK := hid hC.1
  obtain ⟨c0, -, -, ht⟩ := hC.cells (k := 0) (by omega)
  obtain ⟨c1, -⟩ := hC.cells (k := 1) (by omega)
  obtain ⟨c2, -⟩ := hC.cells (k := 2) (by omega)
  obtain ⟨c3, -⟩ := hC.cells (k := 3) (by omega)
  obtain ⟨c4, -⟩ := hC.cells (k := 4) (by omega)
  obtain ⟨c5, -⟩ := hC.cells (k := 5) (by omega)
  obtain ⟨c6, -⟩ := hC.cells (k := 6) (by omega)
  obtain ⟨c7, -⟩ := hC.cells (k := 7) (by omega)
  have HC := hid hC
  have E := hid (show clearT T least = clearGo least T (List.range 8) from rfl)
  clear hT hC
  go_enter Tryz.func74, Tryz.ntmps74
  go_wp2
  clear c0 c1 c2 c3 c4 c5 c6 c7
  go_loopw [5, 12] (fun n i wr => ∃ (k : Nat) (g' : Nat → Nat), k ≤ 8 ∧ n = .int .i64 ((clearGo least T (List.range k)).1 : Int) ∧ i = .int .i64 k ∧ TableC wr g' p t (clearGo least T (List.range k)).2 c ∧ Evo p (p + 9) g g' w wr) (fun _ i _ => 8 - (intOf i).toNat)
  case atStart => exact ⟨0, g, by omega, rfl, rfl, HC.out, Evo.refl _ _ _ _⟩
  case round =>
    obtain ⟨k, g', hk, rfl, rfl, hC, hE⟩ := hrel
    by_cases hlt : k < 8
    · have hx := run_ptrs c k hlt
      have hst := clearGo_snoc least T (List.range k) k
      rw [← List.range_succ] at hst
      have hle := (clearGo_ok hOK.out least (List.range k)).2
      rw [List.length_range] at hle
      obtain ⟨-, -, hCh, -⟩ := hC.cells hlt
      have hlen := hC.1.long k
      have hk41 := hC.1.length k
      have hso := (hC.1.1 k).1
      have hla := (hC.1.1 k).2
      generalize clearGo least T (List.range k) = S at *
      have hlt2 := clearK_lt least (S.2.l k) hso.1
      have hd := hso.drop _ hlt2
      have hdl := clear_last _ hlt2
      have HST := hid hst
      have HCl := hid hC
      have HEl := hid hE
      have HD := hid hd
      have HDL := hid hdl
      have HLA := hid hla
      have HCH := hid hCh
      clear hst hC hE hso hd hdl hla hCh HC
      generalize hN : S.1 = N at *
      generalize hM : clearK least (S.2.l k) = M at *
      have b1 : (N : Int) ≤ 400 := by omega
      have b2 : (M : Int) ≤ 100 := by omega
      go_wp2_with fail
      refine (chain_Clear g' _ _ _ _ least hlen HCH.out).mono ?_
      rintro e w2 ⟨he, g2, hC2, hE2⟩
      simp only [hM] at he hC2
      subst he
      have HC2 := hid hC2
      have HE2 := hid hE2
      clear hC2 hE2
      go_wp2
      go_roundw
      case rel =>
        refine ⟨k + 1, g2, by omega, ?_, by go_num, ?_, HEl.out.trans (HE2.out.wide (by omega) (by omega))⟩
        · rw [HST.out]; simp
        · rw [HST.out]
          exact HCl.out.turn hlt HD.out (by rw [HDL.out]; exact HLA.out) HC2.out HE2.out
      case measure => simp [intOf]; omega
    · obtain rfl : k = 8 := by omega
      have HCl := hid hC
      have HEl := hid hE
      clear hC hE
      go_wp2
      go_ret
      exact ⟨rfl, g', by rw [E.out]; exact HCl.out.at, HEl.out⟩

end Go.Proofs.YtoiobhcgpajogabGreatDoor
