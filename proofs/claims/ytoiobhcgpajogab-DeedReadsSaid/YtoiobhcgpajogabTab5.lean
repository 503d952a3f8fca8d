/- The walks of a table that turn it: Write, Clear. -/
import Derived.Test.YtoiobhcgpajogabTab4
namespace Go.Proofs.Ytoiobhcgpajogab
open Go.RowKit

/-- A table, and where its chains lie. -/
def TableC (w : World) (g : Nat → Nat) (p t : Nat) (T : Tab) (c : Nat → Nat) : Prop :=
  T.Ok ∧ LocC w g p t 103 (ptrs c ++ [.int .i64 T.last]) ∧ ∀ k, k < 8 → ChainAt w g (p + 1 + k) (c k) (T.l k)

theorem TableAt.c {w : World} {g : Nat → Nat} {p t : Nat} {T : Tab} (h : TableAt w g p t T) : ∃ c, TableC w g p t T c := by
  obtain ⟨h0, c, h1, h2⟩ := h
  exact ⟨c, h0, h1, h2⟩

theorem TableC.at {w : World} {g : Nat → Nat} {p t : Nat} {T : Tab} {c : Nat → Nat} (h : TableC w g p t T c) : TableAt w g p t T := ⟨h.1, c, h.2.1, h.2.2⟩

theorem TableC.frame {lo hi : Nat} {g g' : Nat → Nat} {w w' : World} {p t : Nat} {T : Tab} {c : Nat → Nat} (h : TableC w g p t T c) (k : Evo lo hi g g' w w') (hc : p + 9 ≤ lo ∨ hi ≤ p) : TableC w' g' p t T c :=
  ⟨h.1, h.2.1.frame k (by omega), fun j hj => (h.2.2 j hj).frame k (by omega)⟩

theorem TableC.fresh {g g' : Nat → Nat} {w w' : World} {p t : Nat} {T : Tab} {c : Nat → Nat} (h : TableC w g p t T c) (k : Evo 0 0 g g' w w') : TableC w' g' p t T c := h.frame k (by omega)

theorem TableC.cells {w : World} {g : Nat → Nat} {p t : Nat} {T : Tab} {c : Nat → Nat} (h : TableC w g p t T c) {k : Nat} (hk : k < 8) :
    w.cell? ⟨t, k, none⟩ = some (.pointer (some ⟨c k, 0, none⟩)) ∧ w.cell? ⟨t, 8, none⟩ = some (.int .i64 T.last) ∧ ChainAt w g (p + 1 + k) (c k) (T.l k) ∧ t < w.heap.size :=
  ⟨(h.2.1.1.cell k).trans (get8 _ _ k hk), (h.2.1.1.cell 8).trans (get8_last _ _), h.2.2 k hk, h.2.1.1.lt⟩

/-- One of its chains is turned. -/
theorem TableC.turn {w w' : World} {g g' : Nat → Nat} {p t : Nat} {T : Tab} {c : Nat → Nat} (h : TableC w g p t T c) {n : Nat} (_hn : n < 8) {x : List Ent} (hx : Sorted x) (hl : lastN x ≤ T.last)
    (hC : ChainAt w' g' (p + 1 + n) (c n) x) (k : Evo (p + 1 + n) (p + 1 + n + 1) g g' w w') : TableC w' g' p t ⟨upd T.l n x, T.last⟩ c := by
  refine ⟨h.1.set n hx hl, h.2.1.frame k (by omega), fun j hj => ?_⟩
  by_cases e : j = n
  · subst e; simp only [upd_same]; exact hC
  · simp only [upd_other _ _ e]; exact (h.2.2 j hj).frame k (by omega)

theorem Evo.drew (lo hi : Nat) (g : Nat → Nat) (w : World) : Evo lo hi g g w w.drew := ⟨rfl, rfl, rfl, Nat.le_refl _, fun _ _ => rfl, fun _ _ _ => rfl⟩

theorem ptrs_set (c : Nat → Nat) (x y : Value) : (ptrs c ++ [x]).set 8 y = ptrs c ++ [y] := rfl

theorem TableC.more {w : World} {g : Nat → Nat} {p t : Nat} {T : Tab} {c : Nat → Nat} (h : TableC w g p t T c) (hl : T.last < 40) :
    TableC (w.setCell ⟨t, 8, none⟩ (.int .i64 ((T.last : Int) + 1))) g p t ⟨T.l, T.last + 1⟩ c := by
  have hE := evo_store (g := g) (w := w) (b := t) (i := 8) (q := p) (.int .i64 ((T.last : Int) + 1)) h.2.1.2
  refine ⟨⟨fun k => ⟨(h.1.1 k).1, by have := (h.1.1 k).2; simp only; omega⟩, by simp only; omega⟩, ?_, fun j hj => (h.2.2 j hj).frame hE (by omega)⟩
  have := h.2.1.set 8 (.int .i64 ((T.last : Int) + 1))
  rw [ptrs_set] at this
  simpa using this

def WritePost (g : Nat → Nat) (p t : Nat) (x : (Int × Int) × Tab) (w : World) (e : Ending) (w' : World) : Prop :=
  e = .returned (.tuple #[.int .i64 x.1.1, .int .i64 x.1.2]) ∧ ∃ g', TableAt w' g' p t x.2 ∧ Evo p (p + 9) g g' w w'

theorem putsT_take (n : Int) (f : Nat → List Ent) (l : List Ent) (k : Nat) (h : k < l.length) : putsT n f (l.take (k + 1)) = upd (putsT n f (l.take k)) l[k].n.toNat (putC (putsT n f (l.take k) l[k].n.toNat) n l[k].v).2 := by
  rw [List.take_succ_eq_append_getElem h, putsT_snoc]

set_option maxHeartbeats 1000000 in
set_option maxRecDepth 100000 in
theorem table_Write (g : Nat → Nat) (p t : Nat) (T : Tab) (a : Option Addr) (cap : Nat) (l : List Ent) (w : World) (hn : l.length ≤ 1000000) (hv : ∀ x ∈ l, x.v.bytes.size ≤ maxLen) (hT : TableAt w g p t T) (h : SliceC w g p (p + 9) a (encEnts l)) :
    Calls Try.prog 20 #[.pointer (some ⟨t, 0, none⟩), .slice a l.length cap] w (WritePost g p t (writeT T l) w) := by
  have HS := hid h
  have CK := hid (table_Check a cap l w hn hv h.at)
  have HV := hid hv
  have HT := hid hT
  clear h hT hv
  by_cases h0 : ckPs (-1) l = 0
  · by_cases h1 : 40 ≤ T.last
    · have e1 : writeT T l = ((0, 9), T) := by unfold writeT; rw [if_neg (by simpa using h0), if_pos h1]
      rw [e1]
      rw [h0] at CK
      have h1' : (40 : Int) ≤ (T.last : Int) := by omega
      clear h0 e1 h1
      go_enter Try.func20, Try.ntmps20
      go_wp2_with fail
      (with_reducible refine CK.out.mono ?_)
      rintro e w1 ⟨rfl, hb⟩
      obtain ⟨c, hc, h8, -, ht, -, -⟩ := (HT.out.below hb).facts
      have HB := hid hb
      clear hb hc
      go_wp2
      go_ret2
      exact ⟨rfl, extc g w p, HT.out.frame (Evo.of_below (lo := 0) (hi := 0) g p HB.out) (by omega), Evo.of_below g p HB.out⟩
    · have e1 : writeT T l = (((T.last : Int) + 1, 0), ⟨putsT (T.last + 1) T.l l, T.last + 1⟩) := by unfold writeT; rw [if_neg (by simpa using h0), if_neg h1]
      rw [e1]
      have hok := hid (ckPs_zero l (-1) (by omega) (by omega) h0)
      rw [h0] at CK
      have h1' : (T.last : Int) < (40 : Int) := by omega
      have h1n : T.last < 40 := by omega
      clear h0 e1 h1
      go_enter Try.func20, Try.ntmps20
      go_wp2_with fail
      (with_reducible refine CK.out.mono ?_)
      rintro e w1 ⟨rfl, hb⟩
      have hE := Evo.of_below (lo := 0) (hi := 0) g p hb
      obtain ⟨c, hC⟩ := HT.out.c
      have HC1 := hid (hC.fresh hE)
      have HE1 := hid hE
      have HM := hid (HC1.out.more h1n)
      have HE2 := hid (evo_store (g := extc g w p) (w := w1) (b := t) (i := 8) (q := p) (.int .i64 ((T.last : Int) + 1)) HC1.out.2.1.2)
      have h8 := (HC1.out.2.1.1.cell 8).trans (get8_last _ _)
      have f8 := HC1.out.2.1.1.free 8
      clear hb hE hC CK
      go_wp2_with fail
      generalize w1.setCell ⟨t, 8, none⟩ (.int .i64 ((T.last : Int) + 1)) = w2 at *
      have HE := hid ((HE1.out.none (by omega) : Evo p (p + 9) g (extc g w p) w w1).trans (HE2.out.wide (by omega) (by omega)))
      clear h8 f8 HE2 HC1 HE1
      go_loopw [28] (fun i wr => ∃ (k : Nat) (g' : Nat → Nat), k ≤ l.length ∧ i = .int .i64 k ∧ TableC wr g' p t ⟨putsT (T.last + 1) T.l (l.take k), T.last + 1⟩ c ∧ Evo p (p + 9) g g' w wr) (fun i _ => l.length - (intOf i).toNat)
      case atStart => exact ⟨0, _, Nat.zero_le _, rfl, HM.out, HE.out⟩
      case round =>
        obtain ⟨k, g', hk, rfl, hC, hE⟩ := hrel
        clear HM HE
        by_cases hlt : k < l.length
        · have hst := putsT_take (T.last + 1) T.l l k hlt
          have HS1 := (HS.out.frame hE).at
          obtain ⟨b1, o1, rfl, v1⟩ := HS1.ents (by omega)
          obtain ⟨p1, p2, p3⟩ := v1 k hlt
          have hsz := HV.out l[k] (List.getElem_mem _)
          have hox := hok.out.1 l[k] (List.getElem_mem _)
          have hki : (k : Int) < (l.length : Int) := by omega
          have hk0 : (0 : Int) ≤ (k : Int) := by omega
          generalize l[k] = x at *
          obtain ⟨y1, y2, -, -⟩ := hox
          obtain ⟨n, hn8, hxn⟩ : ∃ n : Nat, n < 8 ∧ x.n = n := ⟨x.n.toNat, by omega, by omega⟩
          rw [hxn, Int.toNat_natCast] at hst
          rw [hxn] at p1
          have hE0 := Evo.alloc g' p wr (.cells #[.int .i64 n, .bool x.v.there, .string x.v.bytes] 42)
          have hC0 := hC.fresh hE0
          have hEE := hE.trans (hE0.none (by omega))
          obtain ⟨q1, q2, q3, q4⟩ := hC0.cells hn8
          have hlen := hC0.1.long n
          have hso := (hC0.1.1 n).1
          have hla := (hC0.1.1 n).2
          have hput := putC_last x.v hla
          generalize putsT (T.last + 1) T.l (l.take k) = S at *
          have hcell := loc_three (Loc.new wr 42 [.int .i64 n, .bool x.v.there, .string x.v.bytes])
          have HST := hid hst
          have HC0 := hid hC0
          have HEE := hid hEE
          have HSO := hid hso
          have HPL := hid hput
          have Q3 := hid q3
          clear hst hC hE hC0 hEE hso hla hput hE0 q3 v1 HS1
          go_wp2_with fail
          generalize wr.alloc (.cells #[.int .i64 n, .bool x.v.there, .string x.v.bytes] 42) = W1 at *
          obtain ⟨Q4, Q5, Q6⟩ := hcell
          clear p1 p2 p3
          have hn0 : (0 : Int) ≤ (n : Int) := by omega
          have hn8' : (n : Int) < 8 := by omega
          go_region_law (first
            | (go_simp; go_at_call 56; refine (chain_Put (extc g' wr p) (p + 1 + n) (c n) (S n) _ _ x.v.there x.v.bytes hsz hlen (Q3.out.below (Below.refl _ _).drew)).mono ?_; rintro e w3 ⟨rfl, g3, hC3, hE3⟩; have HC3 := hid hC3; have HE3 := hid hE3; clear hC3 hE3))
          all_goals
            have HE4 := hid ((Evo.drew _ _ _ _).trans HE3.out)
            have HN := hid (HC0.out.turn hn8 (HSO.out.put _ _) HPL.out HC3.out HE4.out)
            go_wp2
            go_roundw
            case rel =>
              refine ⟨k + 1, g3, by omega, by go_num, ?_, HEE.out.trans (HE4.out.wide (by omega) (by omega))⟩
              rw [HST.out]
              exact HN.out
            case measure => simp [intOf]; omega
        · obtain rfl : k = l.length := by omega
          rw [List.take_length] at hC
          have HC := hid hC
          have HE := hid hE
          have h8 := (hC.2.1.1.cell 8).trans (get8_last _ _)
          clear hC hE
          go_wp2
          go_ret2
          exact ⟨rfl, g', HC.out.at, HE.out⟩
  · have e1 : writeT T l = ((0, ckPs (-1) l), T) := by unfold writeT; rw [if_pos h0]
    have hc' : (ckPs (-1) l != 0) = true := by simpa using h0
    rw [e1]
    clear e1 h0
    generalize ckPs (-1) l = code at *
    go_enter Try.func20, Try.ntmps20
    go_wp2_with fail
    (with_reducible refine CK.out.mono ?_)
    rintro e w1 ⟨rfl, hb⟩
    have HB := hid hb
    clear hb
    go_wp2
    go_ret2
    exact ⟨rfl, extc g w p, HT.out.frame (Evo.of_below (lo := 0) (hi := 0) g p HB.out) (by omega), Evo.of_below g p HB.out⟩

def ClearPost (g : Nat → Nat) (p t : Nat) (x : Nat × Tab) (w : World) (e : Ending) (w' : World) : Prop :=
  e = .returned (.int .i64 (x.1 : Int)) ∧ ∃ g', TableAt w' g' p t x.2 ∧ Evo p (p + 9) g g' w w'

set_option maxHeartbeats 1000000 in
set_option maxRecDepth 100000 in
theorem table_Clear (g : Nat → Nat) (p t : Nat) (T : Tab) (w : World) (least : Int) (hT : TableAt w g p t T) :
    Calls Try.prog 22 #[.pointer (some ⟨t, 0, none⟩), .int .i64 least] w (ClearPost g p t (clearT T least) w) := by
  obtain ⟨c, hC⟩ := hT.c
  have hOK := hid hC.1
  obtain ⟨c0, -, -, ht⟩ := hC.cells (k := 0) (by omega)
  obtain ⟨c1, -⟩ := hC.cells (k := 1) (by omega)
  obtain ⟨c2, -⟩ := hC.cells (k := 2) (by omega)
  obtain ⟨c3, -⟩ := hC.cells (k := 3) (by omega)
  obtain ⟨c4, -⟩ := hC.cells (k := 4) (by omega)
  obtain ⟨c5, -⟩ := hC.cells (k := 5) (by omega)
  obtain ⟨c6, -⟩ := hC.cells (k := 6) (by omega)
  obtain ⟨c7, -⟩ := hC.cells (k := 7) (by omega)
  have HC := hid hC
  have E := hid (show clearT T least = clearGo least T (List.range 8) from rfl)
  clear hT hC
  go_enter Try.func22, Try.ntmps22
  go_wp2
  clear c0 c1 c2 c3 c4 c5 c6 c7
  go_loopw [5, 12] (fun n i wr => ∃ (k : Nat) (g' : Nat → Nat), k ≤ 8 ∧ n = .int .i64 ((clearGo least T (List.range k)).1 : Int) ∧ i = .int .i64 k ∧ TableC wr g' p t (clearGo least T (List.range k)).2 c ∧ Evo p (p + 9) g g' w wr) (fun _ i _ => 8 - (intOf i).toNat)
  case atStart => exact ⟨0, g, by omega, rfl, rfl, HC.out, Evo.refl _ _ _ _⟩
  case round =>
    obtain ⟨k, g', hk, rfl, rfl, hC, hE⟩ := hrel
    by_cases hlt : k < 8
    · have hx := run_ptrs c k hlt
      have hst := clearGo_snoc least T (List.range k) k
      rw [← List.range_succ] at hst
      have hle := (clearGo_ok hOK.out least (List.range k)).2
      rw [List.length_range] at hle
      obtain ⟨-, -, hCh, -⟩ := hC.cells hlt
      have hlen := hC.1.long k
      have hk41 := hC.1.length k
      have hso := (hC.1.1 k).1
      have hla := (hC.1.1 k).2
      generalize clearGo least T (List.range k) = S at *
      have hlt2 := clearK_lt least (S.2.l k) hso.1
      have hd := hso.drop _ hlt2
      have hdl := clear_last _ hlt2
      have HST := hid hst
      have HCl := hid hC
      have HEl := hid hE
      have HD := hid hd
      have HDL := hid hdl
      have HLA := hid hla
      have HCH := hid hCh
      clear hst hC hE hso hd hdl hla hCh HC
      generalize hN : S.1 = N at *
      generalize hM : clearK least (S.2.l k) = M at *
      have b1 : (N : Int) ≤ 400 := by omega
      have b2 : (M : Int) ≤ 100 := by omega
      go_wp2_with fail
      refine (chain_Clear g' _ _ _ _ least hlen HCH.out).mono ?_
      rintro e w2 ⟨he, g2, hC2, hE2⟩
      simp only [hM] at he hC2
      subst he
      have HC2 := hid hC2
      have HE2 := hid hE2
      clear hC2 hE2
      go_wp2
      go_roundw
      case rel =>
        refine ⟨k + 1, g2, by omega, ?_, by go_num, ?_, HEl.out.trans (HE2.out.wide (by omega) (by omega))⟩
        · rw [HST.out]; simp
        · rw [HST.out]
          exact HCl.out.turn hlt HD.out (by rw [HDL.out]; exact HLA.out) HC2.out HE2.out
      case measure => simp [intOf]; omega
    · obtain rfl : k = 8 := by omega
      have HCl := hid hC
      have HEl := hid hE
      clear hC hE
      go_wp2
      go_ret
      exact ⟨rfl, g', by rw [E.out]; exact HCl.out.at, HEl.out⟩

end Go.Proofs.Ytoiobhcgpajogab
