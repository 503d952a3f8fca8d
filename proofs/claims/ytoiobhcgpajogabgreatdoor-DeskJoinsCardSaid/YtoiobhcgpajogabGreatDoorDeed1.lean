/- A deed, in plain words. -/
import Derived.Test.YtoiobhcgpajogabGreatDoorTab1
import Derived.Deep.Cut
namespace Go.Proofs.YtoiobhcgpajogabGreatDoor
open Go.RowKit

structure Ded where
  mode : Int
  beg : Int
  read : Nat → Bool
  wrote : Nat → Option Val

def Ded.new (mode beg : Int) : Ded := ⟨mode, beg, fun _ => false, fun _ => none⟩

/-- What was written may be; a deed that only looks writes nothing. -/
def Ded.Ok (D : Ded) : Prop := (∀ k v, D.wrote k = some v → ckV v = 0) ∧ (D.mode = 3 → ∀ k, D.wrote k = none)

def getD (D : Ded) (T : Tab) (k : Int) : (Val × Int) × Ded :=
  if k < 0 ∨ 8 ≤ k then ((Val.zero, 1), D) else
    match D.wrote k.toNat with
    | some v => ((v, 0), D)
    | none => (readT T k D.beg, if (readT T k D.beg).2 = 0 then ⟨D.mode, D.beg, upd D.read k.toNat true, D.wrote⟩ else D)

def putD (D : Ded) (k : Int) (v : Val) : Int × Ded :=
  if k < 0 ∨ 8 ≤ k then (1, D) else if D.mode = 3 then (3, D) else if ckV v ≠ 0 then (ckV v, D) else (0, ⟨D.mode, D.beg, D.read, upd D.wrote k.toNat (some v)⟩)

def listDGo (T : Tab) : List Nat → Ded → List Ent → (List Ent × Int) × Ded
  | [], D, out => ((out, 0), D)
  | k :: ks, D, out => if (getD D T k).1.2 ≠ 0 then (([], (getD D T k).1.2), (getD D T k).2) else listDGo T ks (getD D T k).2 (if (getD D T k).1.1.there then out ++ [⟨k, (getD D T k).1.1⟩] else out)

def listD (D : Ded) (T : Tab) (f t : Int) : (List Ent × Int) × Ded :=
  if f < 0 ∨ 8 ≤ f ∨ t < 0 ∨ 8 ≤ t then (([], 1), D) else listDGo T ((List.range (t.toNat + 1)).drop f.toNat) D []

def readsTo (D : Ded) (n : Nat) : List Nat := (List.range n).filter D.read
def readsD (D : Ded) : List Nat := readsTo D 8

def writesTo (D : Ded) (n : Nat) : List Ent := (List.range n).flatMap (fun (k : Nat) => match D.wrote k with | some v => [⟨(k : Int), v⟩] | none => [])
def writesD (D : Ded) : List Ent := writesTo D 8

def clashD (D : Ded) (T : Tab) : Bool := (writesD D).any (fun x => decide (D.beg < sinceT T x.n))
def staleD (D : Ded) (T : Tab) : Bool := (readsD D).any (fun (k : Nat) => decide (D.beg < sinceT T k))

def mayD (D : Ded) (T : Tab) : Int := if clashD D T then 10 else if D.mode = 2 ∧ staleD D T then 11 else 0

theorem Ded.new_ok (mode beg : Int) : (Ded.new mode beg).Ok := ⟨by intro k v h; simp [Ded.new] at h, fun _ _ => rfl⟩

theorem getD_ok {D : Ded} (h : D.Ok) (T : Tab) (k : Int) : (getD D T k).2.Ok := by
  unfold getD
  split
  · exact h
  · split
    · exact h
    · simp only
      split
      · exact h
      · exact h

theorem getD_same (D : Ded) (T : Tab) (k : Int) : (getD D T k).2.mode = D.mode ∧ (getD D T k).2.beg = D.beg ∧ (getD D T k).2.wrote = D.wrote := by
  unfold getD
  split
  · exact ⟨rfl, rfl, rfl⟩
  · split
    · exact ⟨rfl, rfl, rfl⟩
    · simp only
      split <;> exact ⟨rfl, rfl, rfl⟩

theorem putD_ok {D : Ded} (h : D.Ok) (k : Int) (v : Val) : (putD D k v).2.Ok := by
  unfold putD
  split
  · exact h
  · split
    · exact h
    · split
      · exact h
      · rename_i h1 h2 h3
        refine ⟨?_, fun hm => absurd hm h2⟩
        intro j u hj
        by_cases e : j = k.toNat
        · subst e
          simp only [upd_same, Option.some.injEq] at hj
          subst hj
          simpa using h3
        · simp only [upd_other _ _ e] at hj
          exact h.1 j u hj

theorem readsTo_succ (D : Ded) (n : Nat) : readsTo D (n + 1) = readsTo D n ++ if D.read n then [n] else [] := by
  unfold readsTo
  rw [List.range_succ, List.filter_append]
  cases h : D.read n <;> simp [h]

theorem writesTo_succ (D : Ded) (n : Nat) : writesTo D (n + 1) = writesTo D n ++ match D.wrote n with | some v => [⟨(n : Int), v⟩] | none => [] := by
  unfold writesTo
  rw [List.range_succ, List.flatMap_append]
  simp

theorem readsTo_length (D : Ded) (n : Nat) : (readsTo D n).length ≤ n := by
  have := List.length_filter_le D.read (List.range n)
  simpa [readsTo] using this

theorem writesTo_length (D : Ded) (n : Nat) : (writesTo D n).length ≤ n := by
  induction n with
  | zero => simp [writesTo]
  | succ n ih =>
    rw [writesTo_succ, List.length_append]
    split <;> simp <;> omega

theorem mem_writesTo {D : Ded} {n : Nat} {x : Ent} : x ∈ writesTo D n ↔ ∃ k, k < n ∧ x.n = k ∧ D.wrote k = some x.v := by
  unfold writesTo
  rw [List.mem_flatMap]
  constructor
  · rintro ⟨k, hk, hx⟩
    split at hx
    · rename_i v hv
      rw [List.mem_singleton] at hx
      subst hx
      exact ⟨k, by simpa using hk, rfl, hv⟩
    · cases hx
  · rintro ⟨k, hk, h1, h2⟩
    refine ⟨k, by simpa using hk, ?_⟩
    rw [h2, List.mem_singleton]
    exact Ent.ext' h1 rfl

theorem ckPs_snoc {l : List Ent} {x : Ent} {pv : Int} (h : ckPs pv l = 0) (hx : 0 ≤ x.n ∧ x.n < 8 ∧ ckV x.v = 0) (hp : ∀ y ∈ l, y.n < x.n) (hpv : pv < x.n) : ckPs pv (l ++ [x]) = 0 := by
  induction l generalizing pv with
  | nil =>
    simp only [List.nil_append]
    rw [ckPs, if_neg (by omega), if_neg (by omega), if_neg (by rw [hx.2.2]; simp)]
    rfl
  | cons y l ih =>
    rw [List.cons_append, ckPs]
    rw [ckPs] at h
    have hy := hp y (List.mem_cons_self ..)
    split at h
    · omega
    · split at h
      · omega
      · split at h
        · rename_i h1 h2 h3; exact absurd h h3
        · rename_i h1 h2 h3
          rw [if_neg h1, if_neg h2, if_neg h3]
          exact ih h (fun z hz => hp z (List.mem_cons_of_mem _ hz)) hy

theorem writesTo_ck {D : Ded} (h : D.Ok) (n : Nat) (hn : n ≤ 8) : ckPs (-1) (writesTo D n) = 0 := by
  induction n with
  | zero => rfl
  | succ n ih =>
    rw [writesTo_succ]
    split
    · rename_i v hv
      refine ckPs_snoc (ih (by omega)) ⟨by simp only; omega, by simp only; omega, h.1 n v hv⟩ ?_ (by simp only; omega)
      intro y hy
      obtain ⟨k, hk, h1, h2⟩ := mem_writesTo.1 hy
      simp only
      omega
    · rw [List.append_nil]; exact ih (by omega)

theorem writesD_ck {D : Ded} (h : D.Ok) : ckPs (-1) (writesD D) = 0 := writesTo_ck h 8 (Nat.le_refl _)

end Go.Proofs.YtoiobhcgpajogabGreatDoor
/- A deed in memory; the walks of New, Get, Put. -/
namespace Go.Proofs.YtoiobhcgpajogabGreatDoor
open Go.RowKit

def hasD (D : Ded) (k : Nat) : Val := (D.wrote k).getD Val.zero

def dedC (D : Ded) : List Value :=
  [.int .i64 D.mode, .int .i64 D.beg, .bool (D.read 0), .bool (D.read 1), .bool (D.read 2), .bool (D.read 3), .bool (D.read 4), .bool (D.read 5), .bool (D.read 6), .bool (D.read 7),
    .bool (D.wrote 0).isSome, .bool (D.wrote 1).isSome, .bool (D.wrote 2).isSome, .bool (D.wrote 3).isSome, .bool (D.wrote 4).isSome, .bool (D.wrote 5).isSome, .bool (D.wrote 6).isSome, .bool (D.wrote 7).isSome,
    .bool (hasD D 0).there, .string (hasD D 0).bytes, .bool (hasD D 1).there, .string (hasD D 1).bytes, .bool (hasD D 2).there, .string (hasD D 2).bytes, .bool (hasD D 3).there, .string (hasD D 3).bytes,
    .bool (hasD D 4).there, .string (hasD D 4).bytes, .bool (hasD D 5).there, .string (hasD D 5).bytes, .bool (hasD D 6).there, .string (hasD D 6).bytes, .bool (hasD D 7).there, .string (hasD D 7).bytes]

def DeedAt (w : World) (g : Nat → Nat) (p d : Nat) (D : Ded) : Prop := D.Ok ∧ LocC w g p d 117 (dedC D)

theorem DeedAt.frame {lo hi : Nat} {g g' : Nat → Nat} {w w' : World} {p d : Nat} {D : Ded} (h : DeedAt w g p d D) (k : Evo lo hi g g' w w') (hc : p < lo ∨ hi ≤ p) : DeedAt w' g' p d D := ⟨h.1, h.2.frame k hc⟩
theorem DeedAt.below {w w' : World} {g : Nat → Nat} {p d : Nat} {D : Ded} (h : DeedAt w g p d D) (k : Below w.heap.size w w') : DeedAt w' g p d D := ⟨h.1, h.2.below k⟩

theorem dedC_get (D : Ded) (k : Nat) (hk : k < 8) : (dedC D)[2 + k]? = some (.bool (D.read k)) ∧ (dedC D)[10 + k]? = some (.bool (D.wrote k).isSome) ∧ (dedC D)[18 + k * 2]? = some (.bool (hasD D k).there) ∧ (dedC D)[18 + k * 2 + 1]? = some (.string (hasD D k).bytes) := by
  have h : k = 0 ∨ k = 1 ∨ k = 2 ∨ k = 3 ∨ k = 4 ∨ k = 5 ∨ k = 6 ∨ k = 7 := by omega
  rcases h with rfl | rfl | rfl | rfl | rfl | rfl | rfl | rfl <;> exact ⟨rfl, rfl, rfl, rfl⟩

theorem dedC_read (D : Ded) (k : Nat) (hk : k < 8) : (dedC D).set (2 + k) (.bool true) = dedC ⟨D.mode, D.beg, upd D.read k true, D.wrote⟩ := by
  have h : k = 0 ∨ k = 1 ∨ k = 2 ∨ k = 3 ∨ k = 4 ∨ k = 5 ∨ k = 6 ∨ k = 7 := by omega
  rcases h with rfl | rfl | rfl | rfl | rfl | rfl | rfl | rfl <;> rfl

theorem dedC_wrote (D : Ded) (k : Nat) (hk : k < 8) (v : Val) : (((dedC D).set (10 + k) (.bool true)).set (18 + k * 2) (.bool v.there)).set (18 + k * 2 + 1) (.string v.bytes) = dedC ⟨D.mode, D.beg, D.read, upd D.wrote k (some v)⟩ := by
  have h : k = 0 ∨ k = 1 ∨ k = 2 ∨ k = 3 ∨ k = 4 ∨ k = 5 ∨ k = 6 ∨ k = 7 := by omega
  rcases h with rfl | rfl | rfl | rfl | rfl | rfl | rfl | rfl <;> rfl

theorem DeedAt.cells {w : World} {g : Nat → Nat} {p d : Nat} {D : Ded} (h : DeedAt w g p d D) : w.cell? ⟨d, 0, none⟩ = some (.int .i64 D.mode) ∧ w.cell? ⟨d, 1, none⟩ = some (.int .i64 D.beg) ∧ d < w.heap.size := ⟨h.2.1.cell 0, h.2.1.cell 1, h.2.1.lt⟩

theorem DeedAt.at {w : World} {g : Nat → Nat} {p d : Nat} {D : Ded} (h : DeedAt w g p d D) {k : Nat} (hk : k < 8) : w.cell? ⟨d, 2 + k, none⟩ = some (.bool (D.read k)) ∧ w.cell? ⟨d, 10 + k, none⟩ = some (.bool (D.wrote k).isSome) ∧
    w.cell? ⟨d, 18 + k * 2, none⟩ = some (.bool (hasD D k).there) ∧ w.cell? ⟨d, 18 + k * 2 + 1, none⟩ = some (.string (hasD D k).bytes) := by
  obtain ⟨h1, h2, h3, h4⟩ := dedC_get D k hk
  exact ⟨(h.2.1.cell _).trans h1, (h.2.1.cell _).trans h2, (h.2.1.cell _).trans h3, (h.2.1.cell _).trans h4⟩

theorem deed_New_in (g : Nat → Nat) (p : Nat) (mode beg : Int) (w : World) (hm : 1 ≤ mode ∧ mode ≤ 3) :
    Calls Tryz.prog 110 #[.int .i64 mode, .int .i64 beg] w fun e w' => ∃ d, e = .returned (.pointer (some ⟨d, 0, none⟩)) ∧ Below w.heap.size w w' ∧ w.heap.size ≤ d ∧ DeedAt w' (extc g w p) p d (Ded.new mode beg) := by
  obtain ⟨h1, h2⟩ := hm
  have h1' : ¬ mode < 1 := by omega
  have h2' : ¬ 3 < mode := by omega
  go_enter Tryz.func110, Tryz.ntmps110
  go_wp2
  go_ret
  exact ⟨_, rfl, (Below.refl _ _).alloc (Nat.le_refl _) _, Nat.le_refl _, Ded.new_ok _ _, LocC.new g p w 117 (dedC (Ded.new mode beg))⟩

theorem deed_New_out (mode beg : Int) (w : World) (hm : mode < 1 ∨ 3 < mode) :
    Calls Tryz.prog 110 #[.int .i64 mode, .int .i64 beg] w fun e w' => e = .returned (.pointer none) ∧ w = w' := by
  by_cases h1 : mode < 1
  · go_enter Tryz.func110, Tryz.ntmps110
    go_wp2
    go_ret
    exact ⟨rfl, rfl⟩
  · have h2 : 3 < mode := by omega
    go_enter Tryz.func110, Tryz.ntmps110
    go_wp2
    go_ret
    exact ⟨rfl, rfl⟩

def DPutPost (g : Nat → Nat) (p d : Nat) (x : Int × Ded) (w : World) (e : Ending) (w' : World) : Prop :=
  e = .returned (.int .i64 x.1) ∧ ∃ g', DeedAt w' g' p d x.2 ∧ Evo p (p + 1) g g' w w'

theorem dput_stay {g : Nat → Nat} {p d : Nat} {x : Int} {D : Ded} {w w' : World} (h : DeedAt w g p d D) (hb : Below w.heap.size w w') : DPutPost g p d (x, D) w (.returned (.int .i64 x)) w' :=
  ⟨rfl, extc g w p, h.frame (Evo.of_below (lo := 0) (hi := 0) g p hb) (by omega), Evo.of_below g p hb⟩

set_option maxHeartbeats 2000000 in
set_option maxRecDepth 100000 in
theorem deed_Put (g : Nat → Nat) (p d : Nat) (D : Ded) (k : Int) (v : Val) (w : World) (hv : v.bytes.size ≤ maxLen) (hD : DeedAt w g p d D) :
    Calls Tryz.prog 94 #[.pointer (some ⟨d, 0, none⟩), .int .i64 k, .agg #[.bool v.there, .string v.bytes]] w (DPutPost g p d (putD D k v) w) := by
  by_cases h0 : k < 0 ∨ 8 ≤ k
  · have e1 : putD D k v = (1, D) := by unfold putD; rw [if_pos h0]
    rw [e1]
    have CK := hid (fun w => chain_Key_out k w h0)
    have HD := hid hD
    clear h0 e1 hD
    go_enter Tryz.func94, Tryz.ntmps94
    go_wp2_with fail
    refine (CK.out _).mono ?_
    rintro e w1 ⟨rfl, rfl⟩
    go_wp2
    go_ret
    exact dput_stay HD.out ((Below.refl _ _).alloc (Nat.le_refl _) _)
  · obtain ⟨n, hn, rfl⟩ := key_nat h0
    have CK := hid (fun w => chain_Key_in n w ⟨by omega, by omega⟩)
    obtain ⟨c0, c1, hlt⟩ := hD.cells
    by_cases h3 : D.mode = 3
    · have e1 : putD D n v = (3, D) := by unfold putD; rw [if_neg h0, if_pos h3]
      rw [e1]
      have HD := hid hD
      rw [h3] at c0
      clear h0 e1 hD h3
      go_enter Tryz.func94, Tryz.ntmps94
      go_wp2_with fail
      refine (CK.out _).mono ?_
      rintro e w1 ⟨rfl, rfl⟩
      go_wp2
      go_ret
      exact dput_stay HD.out ((Below.refl _ _).alloc (Nat.le_refl _) _)
    · have h3' : (D.mode == 3) = false := by simpa using h3
      have HD := hid hD
      have hne : d ≠ w.heap.size := by omega
      by_cases hc : ckV v = 0
      · have e1 : putD D n v = (0, ⟨D.mode, D.beg, D.read, upd D.wrote n (some v)⟩) := by unfold putD; rw [if_neg h0, if_neg h3, if_neg (by simpa using hc)]; rfl
        have hok := hid (putD_ok hD.1 n v)
        rw [e1] at hok ⊢
        have K := hid (chain_Check v.there v.bytes (w.alloc (.cells #[.bool v.there, .string v.bytes] 84)) hv)
        rw [show ckV ⟨v.there, v.bytes⟩ = 0 from hc] at K
        clear h0 e1 hD h3 hc
        go_enter Tryz.func94, Tryz.ntmps94
        go_wp2_with fail
        refine (CK.out _).mono ?_
        rintro e w1 ⟨rfl, rfl⟩
        go_wp2_with fail
        refine K.out.mono ?_
        rintro e w2 ⟨rfl, hb⟩
        have B2 := hid (((Below.refl w.heap.size w).alloc (Nat.le_refl _) (.cells #[.bool v.there, .string v.bytes] 84)).trans (hb.mono (by simp)))
        have L2 := hid ((Loc.new w 84 [.bool v.there, .string v.bytes]).keep hb)
        obtain ⟨t0, t1, -⟩ := L2.out.two
        have D2 := hid (HD.out.frame (Evo.of_below (lo := 0) (hi := 0) g p B2.out) (by omega))
        obtain ⟨x1, x2, x3, x4⟩ := D2.out.at hn
        have f1 := D2.out.2.1.free (10 + n)
        have f2 := D2.out.2.1.free (18 + n * 2)
        have f3 := D2.out.2.1.free (18 + n * 2 + 1)
        have hn0 : (0 : Int) ≤ (n : Int) := by omega
        have hn8 : (n : Int) < 8 := by omega
        clear hb c0 c1 CK K
        go_wp2_with fail
        go_region
        all_goals
          go_wp2
          go_ret
          have L3 := ((D2.out.2.set (10 + n) (.bool true)).set (18 + n * 2) (.bool v.there)).set (18 + n * 2 + 1) (.string v.bytes)
          rw [dedC_wrote D n hn v] at L3
          exact ⟨rfl, extc g w p, ⟨hok.out, L3.1.drew, L3.2⟩, ((Evo.of_below g p B2.out).trans (((evo_store _ D2.out.2.2).trans (evo_store _ D2.out.2.2)).trans (evo_store _ D2.out.2.2))).trans (Evo.drew _ _ _ _)⟩
      · have e1 : putD D n v = (ckV v, D) := by unfold putD; rw [if_neg h0, if_neg h3, if_pos hc]
        have hc' : (ckV v != 0) = true := by simpa using hc
        rw [e1]
        have K := hid (chain_Check v.there v.bytes (w.alloc (.cells #[.bool v.there, .string v.bytes] 84)) hv)
        rw [show ckV ⟨v.there, v.bytes⟩ = ckV v from rfl] at K
        clear h0 e1 hD h3 hc
        generalize ckV v = code at *
        go_enter Tryz.func94, Tryz.ntmps94
        go_wp2_with fail
        refine (CK.out _).mono ?_
        rintro e w1 ⟨rfl, rfl⟩
        go_wp2_with fail
        refine K.out.mono ?_
        rintro e w2 ⟨rfl, hb⟩
        have B2 := hid (((Below.refl w.heap.size w).alloc (Nat.le_refl _) (.cells #[.bool v.there, .string v.bytes] 84)).trans (hb.mono (by simp)))
        clear hb
        go_wp2
        go_ret
        exact dput_stay HD.out B2.out

end Go.Proofs.YtoiobhcgpajogabGreatDoor
/- The walks of a deed: Get, Reads, Writes. -/
namespace Go.Proofs.YtoiobhcgpajogabGreatDoor
open Go.RowKit

def DGetPost (g : Nat → Nat) (p d : Nat) (x : (Val × Int) × Ded) (w : World) (e : Ending) (w' : World) : Prop :=
  e = .returned (.tuple #[.agg #[.bool x.1.1.there, .string x.1.1.bytes], .int .i64 x.1.2]) ∧ ∃ g', DeedAt w' g' p d x.2 ∧ Evo p (p + 1) g g' w w'

set_option maxHeartbeats 4000000 in
set_option maxRecDepth 100000 in
theorem deed_Get (g : Nat → Nat) (p d : Nat) (D : Ded) (gt : Nat → Nat) (q t : Nat) (T : Tab) (k : Int) (w : World) (hD : DeedAt w g p d D) (hT : TableAt w gt q t T) :
    Calls Tryz.prog 93 #[.pointer (some ⟨d, 0, none⟩), .pointer (some ⟨t, 0, none⟩), .int .i64 k] w (DGetPost g p d (getD D T k) w) := by
  by_cases h0 : k < 0 ∨ 8 ≤ k
  · have e1 : getD D T k = ((Val.zero, 1), D) := by unfold getD; rw [if_pos h0]
    rw [e1]
    have CK := hid (fun w => chain_Key_out k w h0)
    have HD := hid hD
    clear h0 e1 hD hT
    go_enter Tryz.func93, Tryz.ntmps93
    go_wp2_with fail
    refine (CK.out _).mono ?_
    rintro e w1 ⟨rfl, rfl⟩
    go_wp2
    have hb : Below w.heap.size w (w.alloc (.cells #[.bool false, .string ByteArray.empty] 84)) := (Below.refl _ _).alloc (Nat.le_refl _) _
    refine bodyPost_ret (v := .tuple #[.agg #[.bool false, .string ByteArray.empty], .int .i64 1]) (by simp [results, Tryz.results93, go_sem]; rfl) rfl ⟨rfl, extc g w p, HD.out.frame (Evo.of_below (lo := 0) (hi := 0) g p hb) (by omega), Evo.of_below g p hb⟩
  · obtain ⟨n, hn, rfl⟩ := key_nat h0
    have CK := hid (fun w => chain_Key_in n w ⟨by omega, by omega⟩)
    obtain ⟨c0, c1, hlt⟩ := hD.cells
    obtain ⟨x1, x2, x3, x4⟩ := hD.at hn
    have hne : d ≠ w.heap.size := by omega
    have HD := hid hD
    have hn0 : (0 : Int) ≤ (n : Int) := by omega
    have hn8 : (n : Int) < 8 := by omega
    cases hw : D.wrote n with
    | some v =>
      have e1 : getD D T n = ((v, 0), D) := by unfold getD; rw [if_neg h0, Int.toNat_natCast, hw]
      rw [e1]
      have hh : hasD D n = v := by unfold hasD; rw [hw]; rfl
      rw [hw] at x2
      rw [hh] at x3 x4
      clear h0 e1 hD hT hw hh
      go_enter Tryz.func93, Tryz.ntmps93
      go_wp2_with fail
      refine (CK.out _).mono ?_
      rintro e w1 ⟨rfl, rfl⟩
      have L6 := Loc.new w 84 [.bool false, .string ByteArray.empty]
      have D6 := hid (HD.out.frame (Evo.alloc g p w (.cells #[.bool false, .string ByteArray.empty] 84)) (by omega))
      have B6 := hid ((Below.refl w.heap.size w).alloc (Nat.le_refl _) (.cells #[.bool false, .string ByteArray.empty] 84))
      obtain ⟨y1, y2, y3, y4⟩ := D6.out.at hn
      go_wp2
      refine bodyPost_ret (v := .tuple #[.agg #[.bool v.there, .string v.bytes], .int .i64 0]) (by simp [results, Tryz.results93, go_sem]) rfl ⟨rfl, extc g w p, ?_, ?_⟩
      · have hb : Below w.heap.size w (w.alloc (.cells #[.bool v.there, .string v.bytes] 84)) := (Below.refl _ _).alloc (Nat.le_refl _) _
        exact HD.out.frame (Evo.of_below (lo := 0) (hi := 0) g p hb) (by omega)
      · have hb : Below w.heap.size w (w.alloc (.cells #[.bool v.there, .string v.bytes] 84)) := (Below.refl _ _).alloc (Nat.le_refl _) _
        exact Evo.of_below g p hb
    | none =>
      have e1 : getD D T n = (readT T n D.beg, if (readT T n D.beg).2 = 0 then ⟨D.mode, D.beg, upd D.read n true, D.wrote⟩ else D) := by unfold getD; rw [if_neg h0, Int.toNat_natCast, hw]
      have E1 := hid e1
      rw [hw] at x2
      have HR := hid (fun W (hb : Below w.heap.size w W) => table_Read gt q t T W n D.beg (hT.below hb))
      generalize readT T n D.beg = y at *
      clear h0 hD hT e1
      go_enter Tryz.func93, Tryz.ntmps93
      go_wp2_with fail
      refine (CK.out _).mono ?_
      rintro e w1 ⟨rfl, rfl⟩
      have B1 := hid ((Below.refl w.heap.size w).alloc (Nat.le_refl _) (.cells #[.bool false, .string ⟨#[]⟩] 84))
      have L1 := hid (Loc.new w 84 [.bool false, .string ⟨#[]⟩])
      go_wp2_with fail
      (with_reducible refine (HR.out _ B1.out).mono ?_)
      rintro e w2 ⟨rfl, hb⟩
      have B2 := hid (B1.out.trans (hb.mono (by simp)))
      have L2 := hid (L1.out.keep hb)
      clear hb HR
      go_upto_region 6 with (fail)
      have B3 := hid (B2.out.alloc B2.out.size (.cells #[.bool y.1.there, .string y.1.bytes] 84))
      have L3 := hid (L2.out.alloc (.cells #[.bool y.1.there, .string y.1.bytes] 84))
      have M3 := hid (Loc.new w2 84 [.bool y.1.there, .string y.1.bytes])
      have hne2 : w2.heap.size ≠ w.heap.size := by have := L2.out.lt; omega
      have hne3 : d ≠ w2.heap.size := by have := B2.out.size; omega
      generalize w2.alloc (.cells #[.bool y.1.there, .string y.1.bytes] 84) = w3 at *
      have D3 := hid (HD.out.frame (Evo.of_below (lo := 0) (hi := 0) g p B3.out) (by omega))
      obtain ⟨z1, z2, z3, z4⟩ := D3.out.at hn
      have f1 := D3.out.2.1.free (2 + n)
      obtain ⟨l1, l2, l3, l4⟩ := L3.out.two
      obtain ⟨m1, m2, -⟩ := M3.out.two
      clear x1 x2 x3 x4 c0 c1
      by_cases hc : y.2 = 0
      · rw [hc]
        rw [hc, if_pos rfl] at E1
        have HC := hid hc
        clear hc
        go_wp2
        refine bodyPost_ret (v := .tuple #[.agg #[.bool y.1.there, .string y.1.bytes], .int .i64 0]) (by simp [results, Tryz.results93, go_sem, l1, l2]) rfl ?_
        rw [E1.out]
        have hL := D3.out.2.set (2 + n) (.bool true)
        rw [dedC_read D n hn] at hL
        refine ⟨by rw [HC.out], extc g w p, ⟨D3.out.1, (hL.1.other (by simpa using hne) _).other (by simpa using hne) _, hL.2⟩, ?_⟩
        have e3 := (Evo.of_below g p B3.out : Evo p (p + 1) g (extc g w p) w w3).trans (evo_store (g := extc g w p) (i := 2 + n) (.bool true) D3.out.2.2)
        have hc6 : extc g w p w.heap.size = p := extc_new (Nat.le_refl _)
        exact (e3.trans (evo_store _ hc6)).trans (evo_store _ hc6)
      · have hc0 : (y.2 == 0) = false := by simpa using hc
        rw [if_neg hc] at E1
        clear hc
        go_wp2
        refine bodyPost_ret (v := .tuple #[.agg #[.bool y.1.there, .string y.1.bytes], .int .i64 y.2]) (by simp [results, Tryz.results93, go_sem, l1, l2]) rfl ?_
        rw [E1.out]
        have hb := (B3.out.setCell (show w.heap.size ≤ (⟨w.heap.size, 0, none⟩ : Addr).block from Nat.le_refl _) (.bool y.1.there)).setCell (show w.heap.size ≤ (⟨w.heap.size, 1, none⟩ : Addr).block from Nat.le_refl _) (.string y.1.bytes)
        exact ⟨rfl, extc g w p, HD.out.frame (Evo.of_below (lo := 0) (hi := 0) g p hb) (by omega), Evo.of_below g p hb⟩

/-- An element of an array of eight truth values, by value. -/
theorem run_bools (f : Nat → Bool) (k : Nat) (hk : k < 8) (w : World) : (Instr.index 114 (.agg #[.bool (f 0), .bool (f 1), .bool (f 2), .bool (f 3), .bool (f 4), .bool (f 5), .bool (f 6), .bool (f 7)]) (.int .i64 (k : Int))).run Tryz.prog w = .ok (.bool (f k)) w := by
  have h : k = 0 ∨ k = 1 ∨ k = 2 ∨ k = 3 ∨ k = 4 ∨ k = 5 ∨ k = 6 ∨ k = 7 := by omega
  rcases h with rfl | rfl | rfl | rfl | rfl | rfl | rfl | rfl <;> simp [Instr.index, run_underlying Tryz.underlying114, asIntOf, go_sem] <;> rfl

/-- Pairs that are handed back, in new memory or none. -/
def PairsPost (l : List Ent) (w : World) (e : Ending) (w' : World) : Prop :=
  ∃ a cap, e = .returned (.slice a l.length cap) ∧ SliceAt w' a (encEnts l) ∧ Below w.heap.size w w' ∧ (∀ ad, a = some ad → w.heap.size ≤ ad.block ∧ ad.block < w'.heap.size) ∧ (a = none → cap = 0)

def encI (l : List Nat) : List Value := l.map (fun (k : Nat) => .int .i64 (k : Int))

def IntsPost (l : List Nat) (w : World) (e : Ending) (w' : World) : Prop :=
  ∃ a cap, e = .returned (.slice a l.length cap) ∧ SliceAt w' a (encI l) ∧ Below w.heap.size w w'

set_option maxHeartbeats 2000000 in
set_option maxRecDepth 100000 in
theorem deed_Writes (g : Nat → Nat) (p d : Nat) (D : Ded) (w : World) (hD : DeedAt w g p d D) :
    Calls Tryz.prog 116 #[.pointer (some ⟨d, 0, none⟩)] w (PairsPost (writesD D) w) := by
  obtain ⟨-, -, hlt⟩ := hD.cells
  obtain ⟨-, c0, -⟩ := hD.at (k := 0) (by omega)
  obtain ⟨-, c1, -⟩ := hD.at (k := 1) (by omega)
  obtain ⟨-, c2, -⟩ := hD.at (k := 2) (by omega)
  obtain ⟨-, c3, -⟩ := hD.at (k := 3) (by omega)
  obtain ⟨-, c4, -⟩ := hD.at (k := 4) (by omega)
  obtain ⟨-, c5, -⟩ := hD.at (k := 5) (by omega)
  obtain ⟨-, c6, -⟩ := hD.at (k := 6) (by omega)
  obtain ⟨-, c7, -⟩ := hD.at (k := 7) (by omega)
  obtain ⟨i0, hi, hz0, hz1, hz2⟩ := info_parts Tryz.infoPair
  have HD := hid hD
  have HW := hid (fun (k : Nat) => writesTo_succ D k)
  have HL := hid (writesTo_length D)
  have N0 := hid (World.ownsRow_nil w w.heap.size 107 3)
  clear hD
  go_enter Tryz.func116, Tryz.ntmps116
  go_wp2
  clear c0 c1 c2 c3 c4 c5 c6 c7
  go_loopw [3, 10] (fun o i wr => ∃ k : Nat, k ≤ 8 ∧ i = .int .i64 k ∧ Hid (wr.ownsRow w.heap.size 107 3 o (writesTo D k).length (encEnts (writesTo D k))) ∧ Hid (Below w.heap.size w wr)) (fun _ i _ => 8 - (intOf i).toNat)
  case atStart => exact ⟨0, by omega, rfl, N0, hid (Below.refl _ _)⟩
  case round =>
    obtain ⟨k, hk, rfl, HO, HB⟩ := hrel
    clear N0
    by_cases h8 : k < 8
    · have hx := run_bools (fun k => (D.wrote k).isSome) k h8
      obtain ⟨-, x2, x3, x4⟩ := (HD.out.below HB.out).at h8
      have hst := HW.out k
      have hle := HL.out k
      have hki : (k : Int) < 8 := by omega
      have hk0 : (0 : Int) ≤ (k : Int) := by omega
      obtain ⟨ao, co, rfl, -, -⟩ := ownsRow.sliceAt HO.out
      generalize writesTo D k = out at *
      have q1 : out.length + 1 ≤ maxLen := by unfold maxLen; omega
      have q2 : (out.length + 1) * 32 ≤ 140737488355328 := by omega
      cases hw : D.wrote k with
      | none =>
        rw [hw, List.append_nil] at hst
        simp only [hw, Option.isSome_none] at hx
        have HST := hid hst
        clear hst hw x2 x3 x4
        go_wp2
        go_roundw
        case rel => exact ⟨k + 1, by omega, by go_num, hid (by rw [HST.out]; exact HO.out), HB⟩
        case measure => simp [intOf]; omega
      | some v =>
        rw [hw] at hst
        simp only at hst
        simp only [hw, Option.isSome_some] at hx
        have hh : hasD D k = v := by unfold hasD; rw [hw]; rfl
        rw [hh] at x3 x4
        have HST := hid hst
        have hwz := HB.out.size
        clear hst hw hh x2
        generalize hye : (⟨(k : Int), v⟩ : Ent) = ye at *
        have hye2 : encEnt ye = [.int .i64 k, .bool v.there, .string v.bytes] := by subst hye; rfl
        have HYE := hid hye2
        clear hye hye2
        go_wp2_with (refine wpList_append_own _ rfl (.tmp 15) (.tmp 24) 85 rfl w.heap.size 107 i0 (.agg #[.int .i64 0, .bool false, .string ByteArray.empty]) 3 32 Tryz.underlying85 hi hz0 hz1 hz2 rfl (by decide) (.slice ao out.length co) out.length (encEnts out) rfl (HO.out.alloc _) ⟨wr.heap.size, 0, none⟩ 1 1 (encEnt ye) rfl (by rw [HYE.out]; rfl) ?c1 (encEnt_one _) q1 q2 ?c5 ?_)
        case c1 => rw [HYE.out]; exact cells_new wr [.int .i64 k, .bool v.there, .string v.bytes] 107
        case c5 => simp; omega
        intro v' w2 hown' hgrow _
        have HB2 := hid ((HB.out.alloc HB.out.size (.cells #[.int .i64 k, .bool v.there, .string v.bytes] 107)).grown hgrow (by simp; omega) (fun j hj => (HO.out.lt j hj).1))
        have HO2 := hid (show w2.ownsRow w.heap.size 107 3 v' (out ++ [ye]).length (encEnts (out ++ [ye])) by rw [encEnts_append, List.length_append]; simpa [encEnts] using hown')
        clear hown' hgrow
        go_wp2
        go_roundw
        case rel => exact ⟨k + 1, by omega, by go_num, hid (by rw [HST.out]; exact HO2.out), HB2⟩
        case measure => simp [intOf]; omega
    · obtain rfl : k = 8 := by omega
      obtain ⟨a, cap, rfl, hs, hb⟩ := ownsRow.sliceAt HO.out
      have hn := hid (fun (ad : Addr) (e : a = some ad) => HO.out.lt ad.block (hb ad e))
      have HS := hid hs
      clear hs hb
      go_wp2
      go_ret
      refine ⟨a, cap, rfl, HS.out, HB.out, hn.out, fun e => ?_⟩
      subst e
      rcases HO.out.2 with ⟨h, -⟩ | ⟨g', cap', cur, h, -⟩
      · exact (Value.slice.inj h).2.2
      · cases h

theorem Tryz.infoInt : (Tryz.prog.info? 3).map (fun i => (i.zero, i.size, i.bytes)) = some (some (.int .i64 0), 1, 8) := by kernel_rfl

theorem encI_append (a b : List Nat) : encI (a ++ b) = encI a ++ encI b := by simp [encI]
set_option maxHeartbeats 2000000 in
set_option maxRecDepth 100000 in
theorem deed_Reads (g : Nat → Nat) (p d : Nat) (D : Ded) (w : World) (hD : DeedAt w g p d D) :
    Calls Tryz.prog 131 #[.pointer (some ⟨d, 0, none⟩)] w (IntsPost (readsD D) w) := by
  obtain ⟨-, -, hlt⟩ := hD.cells
  obtain ⟨c0, -⟩ := hD.at (k := 0) (by omega)
  obtain ⟨c1, -⟩ := hD.at (k := 1) (by omega)
  obtain ⟨c2, -⟩ := hD.at (k := 2) (by omega)
  obtain ⟨c3, -⟩ := hD.at (k := 3) (by omega)
  obtain ⟨c4, -⟩ := hD.at (k := 4) (by omega)
  obtain ⟨c5, -⟩ := hD.at (k := 5) (by omega)
  obtain ⟨c6, -⟩ := hD.at (k := 6) (by omega)
  obtain ⟨c7, -⟩ := hD.at (k := 7) (by omega)
  obtain ⟨i0, hi, hz0, hz1, hz2⟩ := info_parts Tryz.infoInt
  have HW := hid (fun (k : Nat) => readsTo_succ D k)
  have HL := hid (readsTo_length D)
  have N0 := hid (World.ownsRow_nil w w.heap.size 3 1)
  clear hD
  go_enter Tryz.func131, Tryz.ntmps131
  go_wp2
  clear c0 c1 c2 c3 c4 c5 c6 c7
  go_loopw [3, 10] (fun o i wr => ∃ k : Nat, k ≤ 8 ∧ i = .int .i64 k ∧ Hid (wr.ownsRow w.heap.size 3 1 o (readsTo D k).length (encI (readsTo D k))) ∧ Hid (Below w.heap.size w wr)) (fun _ i _ => 8 - (intOf i).toNat)
  case atStart => exact ⟨0, by omega, rfl, N0, hid (Below.refl _ _)⟩
  case round =>
    obtain ⟨k, hk, rfl, HO, HB⟩ := hrel
    clear N0
    by_cases h8 : k < 8
    · have hx := run_bools (fun k => D.read k) k h8
      have hst := HW.out k
      have hle := HL.out k
      have hki : (k : Int) < 8 := by omega
      have hk0 : (0 : Int) ≤ (k : Int) := by omega
      obtain ⟨ao, co, rfl, -, -⟩ := ownsRow.sliceAt HO.out
      generalize readsTo D k = out at *
      have q1 : out.length + 1 ≤ maxLen := by unfold maxLen; omega
      have q2 : (out.length + 1) * 8 ≤ 140737488355328 := by omega
      cases hw : D.read k with
      | false =>
        rw [hw] at hst
        simp only [Bool.false_eq_true, if_false, List.append_nil] at hst
        simp only [hw] at hx
        have HST := hid hst
        clear hst hw
        go_wp2
        go_roundw
        case rel => exact ⟨k + 1, by omega, by go_num, hid (by rw [HST.out]; exact HO.out), HB⟩
        case measure => simp [intOf]; omega
      | true =>
        rw [hw, if_pos rfl] at hst
        simp only [hw] at hx
        have HST := hid hst
        have hwz := HB.out.size
        clear hst hw
        go_wp2_with (refine wpList_append_own _ rfl (.tmp 15) (.tmp 17) 54 rfl w.heap.size 3 i0 (.int .i64 0) 1 8 Tryz.underlying54 hi hz0 hz1 hz2 rfl (by decide) (.slice ao out.length co) out.length (encI out) rfl (HO.out.alloc _) ⟨wr.heap.size, 0, none⟩ 1 1 [.int .i64 k] rfl rfl ?c1 ?c2 q1 q2 ?c5 ?_)
        case c1 => exact cells_new wr [.int .i64 k] 3
        case c2 => intro u hu; simp at hu; subst hu; rfl
        case c5 => simp; omega
        intro v' w2 hown' hgrow _
        have HB2 := hid ((HB.out.alloc HB.out.size (.cells #[.int .i64 k] 3)).grown hgrow (by simp; omega) (fun j hj => (HO.out.lt j hj).1))
        have HO2 := hid (show w2.ownsRow w.heap.size 3 1 v' (out ++ [k]).length (encI (out ++ [k])) by rw [encI_append, List.length_append]; exact hown')
        clear hown' hgrow
        go_wp2
        go_roundw
        case rel => exact ⟨k + 1, by omega, by go_num, hid (by rw [HST.out]; exact HO2.out), HB2⟩
        case measure => simp [intOf]; omega
    · obtain rfl : k = 8 := by omega
      obtain ⟨a, cap, rfl, hs, -⟩ := ownsRow.sliceAt HO.out
      have HS := hid hs
      clear hs
      go_wp2
      go_ret
      exact ⟨a, cap, rfl, HS.out, HB.out⟩

end Go.Proofs.YtoiobhcgpajogabGreatDoor
