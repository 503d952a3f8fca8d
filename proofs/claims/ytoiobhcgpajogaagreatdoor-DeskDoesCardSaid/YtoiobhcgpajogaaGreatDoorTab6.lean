/- The walks of the document's sheet that only read: Read, Since, First, List. -/
import Derived.Test.YtoiobhcgpajogaaGreatDoorTab1
import Derived.Test.YtoiobhcgpajogaaGreatDoorKit
namespace Go.Proofs.YtoiobhcgpajogaaGreatDoor
open Go.RowKit

/-- A sheet, and its lines. -/
def SheetC (w : World) (g : Nat → Nat) (p s : Nat) (T : Tab) (v : Nat → Value) : Prop :=
  T.Ok ∧ LocC w g p s 95 ((List.range 8).map v ++ [.int .i64 T.last]) ∧ ∀ k, k < 8 → LineAt w g (p + 1) (v k) (T.l k)

theorem SheetAt.c {w : World} {g : Nat → Nat} {p s : Nat} {T : Tab} (h : SheetAt w g p s T) : ∃ v, SheetC w g p s T v := by
  obtain ⟨h0, v, h1, h2⟩ := h
  exact ⟨v, h0, h1, h2⟩

theorem SheetC.at {w : World} {g : Nat → Nat} {p s : Nat} {T : Tab} {v : Nat → Value} (h : SheetC w g p s T v) : SheetAt w g p s T := ⟨h.1, v, h.2.1, h.2.2⟩

theorem SheetC.frame {lo hi : Nat} {g g' : Nat → Nat} {w w' : World} {p s : Nat} {T : Tab} {v : Nat → Value} (h : SheetC w g p s T v) (k : Evo lo hi g g' w w') (hc : p + 2 ≤ lo ∨ hi ≤ p) : SheetC w' g' p s T v :=
  ⟨h.1, h.2.1.frame k (by omega), fun j hj => (h.2.2 j hj).frame k (by omega)⟩

theorem SheetC.fresh {g g' : Nat → Nat} {w w' : World} {p s : Nat} {T : Tab} {v : Nat → Value} (h : SheetC w g p s T v) (k : Evo 0 0 g g' w w') : SheetC w' g' p s T v := h.frame k (by omega)

theorem SheetC.cells {w : World} {g : Nat → Nat} {p s : Nat} {T : Tab} {v : Nat → Value} (h : SheetC w g p s T v) {k : Nat} (hk : k < 8) :
    w.cell? ⟨s, k, none⟩ = some (v k) ∧ w.cell? ⟨s, 8, none⟩ = some (.int .i64 T.last) ∧ LineAt w g (p + 1) (v k) (T.l k) ∧ s < w.heap.size ∧ w.frozen? ⟨s, k, none⟩ = false :=
  ⟨(h.2.1.1.cell k).trans (get8 _ _ k hk), (h.2.1.1.cell 8).trans (get8_last _ _), h.2.2 k hk, h.2.1.1.lt, h.2.1.1.free k⟩

set_option maxHeartbeats 1000000 in
set_option maxRecDepth 100000 in
theorem sheet_Read (g : Nat → Nat) (p s : Nat) (T : Tab) (w : World) (k a : Int) (hS : SheetAt w g p s T) :
    Calls Tryz.prog 108 #[.pointer (some ⟨s, 0, none⟩), .int .i64 k, .int .i64 a] w (ReadPost (readT T k a) w) := by
  have hlong := hS.1.long
  have hsort := hid (fun k => (hS.1.1 k).1)
  obtain ⟨v, hC⟩ := hS.c
  obtain ⟨-, h8, -, ht, -⟩ := hC.cells (k := 0) (by omega)
  by_cases h0 : k < 0 ∨ 8 ≤ k
  · have e1 : readT T k a = (Val.zero, 1) := by unfold readT; rw [if_pos (by omega)]
    rw [e1]
    have CK := hid (fun w => ref_IsKey_out k w h0)
    clear hC hlong h0 hS
    go_enter Tryz.func108, Tryz.ntmps108
    go_wp2_with fail
    refine (CK.out _).mono ?_
    rintro e w1 ⟨rfl, rfl⟩
    go_wp2
    refine bodyPost_ret (v := .tuple #[.agg #[.bool false, .string ByteArray.empty], .int .i64 1]) (by simp [results, Tryz.results108, go_sem]; rfl) rfl ⟨rfl, ?_⟩
    exact (Below.refl _ _).alloc (Nat.le_refl _) _
  · obtain ⟨n, hn, rfl⟩ := key_nat h0
    have CK := hid (fun w => ref_IsKey_in n w ⟨by omega, by omega⟩)
    obtain ⟨hcn, -, hL, -⟩ := hC.cells hn
    by_cases h1 : (T.last : Int) < a
    · have e1 : readT T n a = (Val.zero, 1) := by unfold readT; rw [if_pos (by omega)]
      rw [e1]
      clear hC hlong h0 hS hL
      go_enter Tryz.func108, Tryz.ntmps108
      go_wp2_with fail
      refine (CK.out _).mono ?_
      rintro e w1 ⟨rfl, rfl⟩
      go_wp2
      refine bodyPost_ret (v := .tuple #[.agg #[.bool false, .string ByteArray.empty], .int .i64 1]) (by simp [results, Tryz.results108, go_sem]; rfl) rfl ⟨rfl, ?_⟩
      exact (Below.refl _ _).alloc (Nat.le_refl _) _
    · have e1 : readT T n a = readR (T.l n) a := by unfold readT; rw [if_neg (by omega), read_same (hsort.out n)]; rfl
      rw [e1]
      have h1' : a ≤ (T.last : Int) := by omega
      have hl := hlong n
      clear hC hlong h0 e1 hS
      generalize hy : readR (T.l n) a = y at *
      have HY := hid hy
      clear hy
      have HL := hid hL
      clear hL
      go_enter Tryz.func108, Tryz.ntmps108
      go_wp2_with fail
      refine (CK.out _).mono ?_
      rintro e w1 ⟨rfl, rfl⟩
      go_wp2_with fail
      refine (line_Read g _ _ _ _ a hl (HL.out.alloc _)).mono ?_
      rintro e w2 ⟨rfl, hb⟩
      rw [HY.out]
      have L := (Loc.new w 99 [.bool false, .string ⟨#[]⟩]).keep hb
      have HB := hid hb
      obtain ⟨q1, q2, q3, q4⟩ := L.two
      clear hb
      go_wp2
      refine bodyPost_ret (v := .tuple #[.agg #[.bool y.1.there, .string y.1.bytes], .int .i64 y.2]) (by simp [results, Tryz.results108, go_sem, q1, q2]) rfl ⟨rfl, ?_⟩
      exact ((((Below.refl _ _).alloc (Nat.le_refl _) _).trans (HB.out.mono (by simp))).setCell (by simp) _).setCell (by simp) _

set_option maxHeartbeats 1000000 in
theorem sheet_First (g : Nat → Nat) (p s : Nat) (T : Tab) (w : World) (hS : SheetAt w g p s T) :
    Calls Tryz.prog 39 #[.pointer (some ⟨s, 0, none⟩)] w (ValPost (firstT T) w) := by
  obtain ⟨v, hC⟩ := hS.c
  obtain ⟨-, -, -, ht, -⟩ := hC.cells (k := 0) (by omega)
  have HC := hid hC
  clear hC hS
  have E : ∀ x, firstT T = x → ValPost (firstT T) w (.returned (.int .i64 x)) w := fun x hx => ⟨by rw [hx], Below.refl _ _⟩
  have F := hid E
  clear E
  go_enter Tryz.func39, Tryz.ntmps39
  go_wp2
  go_loop [3, 4] (fun n i => ∃ k : Nat, k ≤ 8 ∧ n = .int .i64 (firstGo T k) ∧ i = .int .i64 k) (fun _ i => 8 - (intOf i).toNat)
  case atStart => exact ⟨0, by omega, rfl, rfl⟩
  case round =>
    obtain ⟨k, hk, rfl, rfl⟩ := hrel
    by_cases hlt : k < 8
    · obtain ⟨hcn, -, hL, -⟩ := HC.out.cells hlt
      have hst : firstGo T (k + 1) = if firstGo T k < firstN (T.l k) then firstN (T.l k) else firstGo T k := rfl
      have HST := hid hst
      have HL := hid hL
      have hki : (k : Int) < 8 := by omega
      have hk0 : (0 : Int) ≤ (k : Int) := by omega
      clear hst hL
      generalize firstGo T k = m at *
      go_wp2_with fail
      refine (line_First g _ _ _ _ HL.out).mono ?_
      rintro e w2 ⟨rfl, rfl⟩
      generalize hfn : firstN (T.l k) = fn at *
      have HFN := hid hfn
      clear hfn
      by_cases hgt : m < fn
      · go_wp2_with fail
        refine (line_First g _ _ _ _ HL.out).mono ?_
        rintro e w2 ⟨rfl, rfl⟩
        rw [HFN.out]
        go_wp2
        go_round
        case rel => exact ⟨k + 1, by omega, by rw [HST.out, if_pos (by omega)], by go_num⟩
        case measure => simp [intOf]; omega
      · have hgt' : fn ≤ m := by omega
        go_wp2
        go_round
        case rel => exact ⟨k + 1, by omega, by rw [HST.out, if_neg (by omega)], by go_num⟩
        case measure => simp [intOf]; omega
    · obtain rfl : k = 8 := by omega
      go_wp2
      go_ret
      exact F.out _ rfl

end Go.Proofs.YtoiobhcgpajogaaGreatDoor
/- The walks of the document's sheet that make or turn it: NewSheet, Write, Clear. -/
namespace Go.Proofs.YtoiobhcgpajogaaGreatDoor
open Go.RowKit

theorem Stored.evoq {a : Addr} {u : Value} {g g' : Nat → Nat} {p : Nat} {w w' : World} (h : Stored a u w w') (ha : g a.block = p) (hc : ∀ b, b < w.heap.size → g' b = g b) (hi : Nat) (hp : p < hi) : Evo p hi g g' w w' :=
  ⟨h.os, h.tape, h.output, h.size, hc, fun k hk hn => h.old hk (by rintro rfl; exact hn ⟨by omega, by omega⟩)⟩

theorem map8_set (v : Nat → Value) (x y : Value) (n : Nat) (hn : n < 8) : ((List.range 8).map v ++ [x]).set n y = (List.range 8).map (upd v n y) ++ [x] := by
  rw [List.set_append_left _ _ (by simp; omega)]
  congr 1
  apply List.ext_getElem?
  intro i
  rw [List.getElem?_set]
  by_cases hi : i < 8
  · by_cases e : n = i
    · subst e
      simp [hi, upd]
    · rw [if_neg e]
      simp [hi, upd_other _ _ (Ne.symm e)]
  · have h8 : (List.range 8).length ≤ i := by simp; omega
    rw [List.getElem?_map, List.getElem?_map, List.getElem?_eq_none h8]
    split
    · rw [if_neg (by simp; omega)]; rfl
    · rfl

/-- One of its lines is turned. -/
theorem SheetC.turn {w w' : World} {g g' : Nat → Nat} {p s : Nat} {T : Tab} {v : Nat → Value} (h : SheetC w g p s T v) {n : Nat} (hn : n < 8) {x : List Ent} (hx : Sorted x) (hl : lastN x ≤ T.last) {u : Value}
    (hL : LineAt w' g' (p + 1) u x) (hS : Stored ⟨s, n, none⟩ u w w') (hc : ∀ b, b < w.heap.size → g' b = g b) : SheetC w' g' p s ⟨upd T.l n x, T.last⟩ (upd v n u) ∧ Evo p (p + 2) g g' w w' := by
  have hE := hS.evoq (p := p) h.2.1.2 hc (p + 1) (by omega)
  refine ⟨⟨h.1.set n hx hl, ⟨?_, ?_⟩, fun j hj => ?_⟩, hE.wide (by omega) (by omega)⟩
  · have := h.2.1.1.set n u
    rw [map8_set _ _ _ _ hn] at this
    exact (hS.block _ h.2.1.1.lt).trans this
  · exact (hc _ h.2.1.1.lt).trans h.2.1.2
  · by_cases e : j = n
    · subst e; simp only [upd_same]; exact hL
    · simp only [upd_other _ _ e]; exact (h.2.2 j hj).frame hE (by omega)

theorem SheetC.more {w : World} {g : Nat → Nat} {p s : Nat} {T : Tab} {v : Nat → Value} (h : SheetC w g p s T v) (hl : T.last < 40) :
    SheetC (w.setCell ⟨s, 8, none⟩ (.int .i64 ((T.last : Int) + 1))) g p s ⟨T.l, T.last + 1⟩ v := by
  have hE := evo_store (g := g) (w := w) (b := s) (i := 8) (q := p) (.int .i64 ((T.last : Int) + 1)) h.2.1.2
  refine ⟨⟨fun k => ⟨(h.1.1 k).1, by have := (h.1.1 k).2; simp only; omega⟩, by simp only; omega⟩, ?_, fun j hj => (h.2.2 j hj).frame hE (by omega)⟩
  have := h.2.1.set 8 (.int .i64 ((T.last : Int) + 1))
  have e : ((List.range 8).map v ++ [Value.int .i64 T.last]).set 8 (.int .i64 ((T.last : Int) + 1)) = (List.range 8).map v ++ [.int .i64 ((T.last : Int) + 1)] := rfl
  rw [e] at this
  simpa using this

def SWritePost (g : Nat → Nat) (p s : Nat) (x : (Int × Int) × Tab) (w : World) (e : Ending) (w' : World) : Prop :=
  e = .returned (.tuple #[.int .i64 x.1.1, .int .i64 x.1.2]) ∧ ∃ g', SheetAt w' g' p s x.2 ∧ Evo p (p + 2) g g' w w'

theorem SheetAt.fresh {g g' : Nat → Nat} {w w' : World} {p s : Nat} {T : Tab} (h : SheetAt w g p s T) (k : Evo 0 0 g g' w w') : SheetAt w' g' p s T := h.frame k (by omega)

set_option maxHeartbeats 1000000 in
set_option maxRecDepth 100000 in
theorem sheet_Write (g : Nat → Nat) (p s : Nat) (T : Tab) (a : Option Addr) (cap : Nat) (l : List Ent) (w : World) (hn : l.length ≤ 1000000) (hv : ∀ x ∈ l, x.v.bytes.size ≤ maxLen) (hS : SheetAt w g p s T) (h : SliceC w g p (p + 2) a (encEnts l)) :
    Calls Tryz.prog 105 #[.pointer (some ⟨s, 0, none⟩), .slice a l.length cap] w (SWritePost g p s (writeT T l) w) := by
  have HS := hid h
  have CK := hid (ref_PairsFault a cap l w hn hv h.at)
  have HV := hid hv
  have HT := hid hS
  clear h hS hv
  by_cases h0 : ckPs (-1) l = 0
  · by_cases h1 : 40 ≤ T.last
    · have e1 : writeT T l = ((0, 9), T) := by unfold writeT; rw [if_neg (by simpa using h0), if_pos h1]
      rw [e1]
      rw [h0] at CK
      have h1' : (40 : Int) ≤ (T.last : Int) := by omega
      clear h0 e1 h1
      go_enter Tryz.func105, Tryz.ntmps105
      go_wp2_with fail
      (with_reducible refine CK.out.mono ?_)
      rintro e w1 ⟨rfl, hb⟩
      obtain ⟨v, hC⟩ := (HT.out.below hb).c
      obtain ⟨-, h8, -, ht, -⟩ := hC.cells (k := 0) (by omega)
      have HB := hid hb
      clear hb hC
      go_wp2
      go_ret2
      exact ⟨rfl, extc g w p, HT.out.fresh (Evo.of_below g p HB.out), Evo.of_below g p HB.out⟩
    · have e1 : writeT T l = (((T.last : Int) + 1, 0), ⟨putsT (T.last + 1) T.l l, T.last + 1⟩) := by unfold writeT; rw [if_neg (by simpa using h0), if_neg h1]
      rw [e1]
      have hok := hid (ckPs_zero l (-1) (by omega) (by omega) h0)
      rw [h0] at CK
      have h1' : (T.last : Int) < (40 : Int) := by omega
      have h1n : T.last < 40 := by omega
      clear h0 e1 h1
      go_enter Tryz.func105, Tryz.ntmps105
      go_wp2_with fail
      (with_reducible refine CK.out.mono ?_)
      rintro e w1 ⟨rfl, hb⟩
      have hE := Evo.of_below (lo := 0) (hi := 0) g p hb
      obtain ⟨v0, hC⟩ := HT.out.c
      have HC1 := hid (hC.fresh hE)
      have HE1 := hid hE
      have HM := hid (HC1.out.more h1n)
      have HE2 := hid (evo_store (g := extc g w p) (w := w1) (b := s) (i := 8) (q := p) (.int .i64 ((T.last : Int) + 1)) HC1.out.2.1.2)
      have h8 := (HC1.out.2.1.1.cell 8).trans (get8_last _ _)
      have f8 := HC1.out.2.1.1.free 8
      clear hb hE hC CK
      go_wp2_with fail
      generalize w1.setCell ⟨s, 8, none⟩ (.int .i64 ((T.last : Int) + 1)) = w2 at *
      have HE := hid ((HE1.out.none (by omega) : Evo p (p + 2) g (extc g w p) w w1).trans (HE2.out.wide (by omega) (by omega)))
      clear h8 f8 HE2 HC1 HE1
      go_loopw [7] (fun i wr => ∃ (k : Nat) (g' : Nat → Nat), k ≤ l.length ∧ i = .int .i64 k ∧ SheetAt wr g' p s ⟨putsT (T.last + 1) T.l (l.take k), T.last + 1⟩ ∧ Evo p (p + 2) g g' w wr) (fun i _ => l.length - (intOf i).toNat)
      case atStart => exact ⟨0, _, Nat.zero_le _, rfl, HM.out.at, HE.out⟩
      case round =>
        obtain ⟨k, g', hk, rfl, hC, hE⟩ := hrel
        clear HM HE
        by_cases hlt : k < l.length
        · have hst := putsT_take (T.last + 1) T.l l k hlt
          have HS1 := (HS.out.frame hE).at
          obtain ⟨b1, o1, rfl, v1⟩ := HS1.ents (by omega)
          obtain ⟨p1, p2, p3⟩ := v1 k hlt
          have hsz := HV.out l[k] (List.getElem_mem _)
          have hox := hok.out.1 l[k] (List.getElem_mem _)
          have hki : (k : Int) < (l.length : Int) := by omega
          have hk0 : (0 : Int) ≤ (k : Int) := by omega
          generalize l[k] = x at *
          obtain ⟨y1, y2, -, -⟩ := hox
          obtain ⟨n, hn8, hxn⟩ : ∃ n : Nat, n < 8 ∧ x.n = n := ⟨x.n.toNat, by omega, by omega⟩
          rw [hxn, Int.toNat_natCast] at hst
          rw [hxn] at p1
          obtain ⟨v, hC⟩ := hC.c
          obtain ⟨q1, q2, q3, q4, q5⟩ := hC.cells hn8
          have hlen := hC.1.long n
          have hso := (hC.1.1 n).1
          have hla := (hC.1.1 n).2
          have hput := putC_last x.v hla
          generalize putsT (T.last + 1) T.l (l.take k) = S at *
          have HST := hid hst
          have HC0 := hid hC
          have HEE := hid hE
          have HSO := hid hso
          have HPL := hid hput
          have Q3 := hid q3
          clear hst hC hE hso hla hput q3 v1 HS1
          have hn0 : (0 : Int) ≤ (n : Int) := by omega
          have hn8' : (n : Int) < 8 := by omega
          go_wp2_with fail
          go_region_law (first
            | (go_simp; go_at_call 131; refine (line_Put g' (p + 1) s n (v n) (S n) _ _ x.v.there x.v.bytes hsz hlen (Q3.out.below (Below.refl _ _).drew) q1 q5).mono ?_; rintro e w3 ⟨rfl, u, g3, hL3, hS3, hc3⟩; have HL3 := hid hL3; have HS3 := hid hS3; have HC3 := hid hc3; clear hL3 hS3 hc3))
          all_goals
            have HN := hid ((HC0.out.frame (Evo.drew 0 0 g' wr) (by omega)).turn hn8 (HSO.out.put _ _) HPL.out HL3.out HS3.out HC3.out)
            go_wp2
            go_roundw
            case rel =>
              refine ⟨k + 1, g3, by omega, by go_num, ?_, HEE.out.trans ((Evo.drew _ _ _ _).trans HN.out.2)⟩
              rw [HST.out]
              exact HN.out.1.at
            case measure => simp [intOf]; omega
        · obtain rfl : k = l.length := by omega
          rw [List.take_length] at hC
          obtain ⟨v, hC'⟩ := hC.c
          have HC := hid hC
          have HE := hid hE
          obtain ⟨-, h8, -, -, -⟩ := hC'.cells (k := 0) (by omega)
          clear hC hE hC'
          go_wp2
          go_ret2
          exact ⟨rfl, g', HC.out, HE.out⟩
  · have e1 : writeT T l = ((0, ckPs (-1) l), T) := by unfold writeT; rw [if_pos h0]
    have hc' : (ckPs (-1) l != 0) = true := by simpa using h0
    rw [e1]
    clear e1 h0
    generalize ckPs (-1) l = code at *
    go_enter Tryz.func105, Tryz.ntmps105
    go_wp2_with fail
    (with_reducible refine CK.out.mono ?_)
    rintro e w1 ⟨rfl, hb⟩
    have HB := hid hb
    clear hb
    go_wp2
    go_ret2
    exact ⟨rfl, extc g w p, HT.out.fresh (Evo.of_below g p HB.out), Evo.of_below g p HB.out⟩

def SClearPost (g : Nat → Nat) (p s : Nat) (x : Nat × Tab) (w : World) (e : Ending) (w' : World) : Prop :=
  e = .returned (.int .i64 (x.1 : Int)) ∧ ∃ g', SheetAt w' g' p s x.2 ∧ Evo p (p + 2) g g' w w'

set_option maxHeartbeats 1000000 in
set_option maxRecDepth 100000 in
theorem sheet_Clear (g : Nat → Nat) (p s : Nat) (T : Tab) (w : World) (least : Int) (hS : SheetAt w g p s T) :
    Calls Tryz.prog 71 #[.pointer (some ⟨s, 0, none⟩), .int .i64 least] w (SClearPost g p s (clearT T least) w) := by
  have hOK := hid hS.1
  have HC := hid hS
  have E := hid (show clearT T least = clearGo least T (List.range 8) from rfl)
  clear hS
  go_enter Tryz.func71, Tryz.ntmps71
  go_wp2
  go_loopw [5, 6] (fun n i wr => ∃ (k : Nat) (g' : Nat → Nat), k ≤ 8 ∧ n = .int .i64 ((clearGo least T (List.range k)).1 : Int) ∧ i = .int .i64 k ∧ SheetAt wr g' p s (clearGo least T (List.range k)).2 ∧ Evo p (p + 2) g g' w wr) (fun _ i _ => 8 - (intOf i).toNat)
  case atStart => exact ⟨0, g, by omega, rfl, rfl, HC.out, Evo.refl _ _ _ _⟩
  case round =>
    obtain ⟨k, g', hk, rfl, rfl, hC, hE⟩ := hrel
    by_cases hlt : k < 8
    · have hst := clearGo_snoc least T (List.range k) k
      rw [← List.range_succ] at hst
      have hle := (clearGo_ok hOK.out least (List.range k)).2
      rw [List.length_range] at hle
      obtain ⟨v, hC⟩ := hC.c
      obtain ⟨q1, -, hL, q4, q5⟩ := hC.cells hlt
      have hlen := hC.1.long k
      have hk41 := hC.1.length k
      have hso := (hC.1.1 k).1
      have hla := (hC.1.1 k).2
      have hgs := hC.2.1.2
      generalize clearGo least T (List.range k) = S at *
      have hlt2 := clearK_lt least (S.2.l k) hso.1
      have hd := hso.drop _ hlt2
      have hdl := clear_last _ hlt2
      have HST := hid hst
      have HCl := hid hC
      have HEl := hid hE
      have HD := hid hd
      have HDL := hid hdl
      have HLA := hid hla
      have HL := hid hL
      have HGS := hid hgs
      clear hst hC hE hso hd hdl hla hL HC hgs
      generalize hN : S.1 = N at *
      generalize hM : clearK least (S.2.l k) = M at *
      have b1 : (N : Int) ≤ 400 := by omega
      have b2 : (M : Int) ≤ 100 := by omega
      have hki : (k : Int) < 8 := by omega
      have hk0 : (0 : Int) ≤ (k : Int) := by omega
      go_wp2_with fail
      refine (line_Clear g' (p + 1) s k (v k) _ _ least hlen HL.out q1 q5 (by rw [HGS.out]; omega)).mono ?_
      rintro e w2 ⟨he, u, g2, hL2, hS2, hc2⟩
      simp only [hM] at he hL2
      subst he
      have HN := hid (HCl.out.turn hlt HD.out (by rw [HDL.out]; exact HLA.out) hL2 hS2 hc2)
      clear hL2 hS2 hc2
      go_wp2
      go_roundw
      case rel =>
        refine ⟨k + 1, g2, by omega, ?_, by go_num, ?_, HEl.out.trans HN.out.2⟩
        · rw [HST.out]; simp
        · rw [HST.out]
          exact HN.out.1.at
      case measure => simp [intOf]; omega
    · obtain rfl : k = 8 := by omega
      have HCl := hid hC
      have HEl := hid hE
      clear hC hE
      go_wp2
      go_ret
      exact ⟨rfl, g', by rw [E.out]; exact HCl.out, HEl.out⟩

end Go.Proofs.YtoiobhcgpajogaaGreatDoor
/- The walk of NewSheet. -/
namespace Go.Proofs.YtoiobhcgpajogaaGreatDoor
open Go.RowKit

def zeroC (z : Value) (v : Nat → Value) (n : Nat) : Nat → Value := fun k => if k < n then v k else z

theorem zeroC_set (z y : Value) (v : Nat → Value) (n : Nat) : upd (zeroC z v n) n y = zeroC z (upd v n y) (n + 1) := by
  funext k
  unfold zeroC upd
  by_cases e : k = n
  · subst e; simp
  · by_cases h : k < n
    · simp [e, h, show k < n + 1 by omega]
    · simp [e, h, show ¬ k < n + 1 by omega]

structure NewS (g0 : Nat → Nat) (w0 : World) (g : Nat → Nat) (w : World) (p s : Nat) (v : Nat → Value) (n : Nat) : Prop where
  evo : Evo 0 0 g0 g w0 w
  new : w0.heap.size ≤ s
  loc : LocC w g p s 95 ((List.range 8).map (zeroC (.slice none 0 0) v n) ++ [.int .i64 0])
  ch : ∀ k, k < n → LineAt w g (p + 1) (v k) [⟨0, Val.zero⟩]

theorem NewS.step {g0 g : Nat → Nat} {w0 w w1 : World} {p s n : Nat} {v : Nat → Value} {u : Value} (h : NewS g0 w0 g w p s v n) (hn : n < 8) (hb : Below w.heap.size w w1) (hL : LineAt w1 (extc g w (p + 1)) (p + 1) u [⟨0, Val.zero⟩]) :
    NewS g0 w0 (extc g w (p + 1)) (w1.setCell ⟨s, n, none⟩ u) p s (upd v n u) (n + 1) := by
  have hE : Evo 0 0 g (extc g w (p + 1)) w w1 := Evo.of_below g _ hb
  have L := h.loc.frame hE (by omega)
  have hS := evo_store (g := extc g w (p + 1)) (w := w1) (b := s) (i := n) (q := p) u L.2
  refine ⟨?_, h.new, ?_, fun k hk => ?_⟩
  · have h1 := h.evo.trans hE
    refine ⟨h1.os, h1.tape, h1.output, by simpa using h1.size, h1.col, fun k hk hn => ?_⟩
    rw [Below.heap_setCell _ _ _ _ (by have := h.new; simp; omega)]
    exact h1.same k hk hn
  · have := L.set n u
    rwa [map8_set _ _ _ _ hn, zeroC_set] at this
  · by_cases e : k = n
    · subst e
      rw [upd_same]
      exact hL.frame hS (by omega)
    · rw [upd_other _ _ e]
      exact ((h.ch k (by omega)).frame hE (by omega)).frame hS (by omega)

def NewSPost (g : Nat → Nat) (p : Nat) (w : World) (e : Ending) (w' : World) : Prop :=
  ∃ s g', e = .returned (.pointer (some ⟨s, 0, none⟩)) ∧ Evo 0 0 g g' w w' ∧ w.heap.size ≤ s ∧ SheetAt w' g' p s Tab.new

set_option maxHeartbeats 1000000 in
set_option maxRecDepth 100000 in
theorem sheet_New (g : Nat → Nat) (p : Nat) (w : World) : Calls Tryz.prog 20 #[] w (NewSPost g p w) := by
  go_enter Tryz.func20, Tryz.ntmps20
  go_wp2
  have H0 : NewS g w (extc g w p) (w.alloc (.cells ((List.range 8).map (zeroC (.slice none 0 0) (fun _ => .slice none 0 0) 0) ++ [Value.int .i64 0]).toArray 95)) p w.heap.size (fun _ => .slice none 0 0) 0 :=
    ⟨Evo.alloc g p w _, Nat.le_refl _, LocC.new _ _ _ _ _, fun k hk => by omega⟩
  have H := hid H0
  clear H0
  go_loopw [2] (fun i wr => ∃ (k : Nat) (g' : Nat → Nat) (v : Nat → Value), k ≤ 8 ∧ i = .int .i64 k ∧ NewS g w g' wr p w.heap.size v k) (fun i _ => 8 - (intOf i).toNat)
  case atStart => exact ⟨0, _, _, by omega, rfl, H.out⟩
  case round =>
    obtain ⟨k, g', v, hk, rfl, hN⟩ := hrel
    clear H
    by_cases hlt : k < 8
    · have hki : (k : Int) < 8 := by omega
      have hk0 : (0 : Int) ≤ (k : Int) := by omega
      have c0 : ∀ W', Below wr.heap.size wr W' → Below wr.heap.size wr W' ∧ W'.cell? ⟨w.heap.size, k, none⟩ = some (.slice none 0 0) ∧ W'.frozen? ⟨w.heap.size, k, none⟩ = false := by
        intro W' hb
        have L := hN.loc.1.keep hb
        have := get8 (zeroC (.slice none 0 0) v k) (.int .i64 0) k hlt
        rw [show zeroC (.slice none 0 0) v k k = .slice none 0 0 by simp [zeroC]] at this
        exact ⟨hb, (L.cell k).trans this, L.free k⟩
      have KS := hid c0
      have HN := hid hN
      clear c0 hN
      go_wp2_with fail
      go_region_law (first
        | (go_simp; go_at_call 45; refine (line_New g' (p + 1) _).mono ?_; rintro e w1 ⟨u, rfl, hb, hL⟩; have hL0 := hL; obtain ⟨b0, o0, cp0, hu, -⟩ := hL0; subst hu; have HL := hid hL; have HB := hid hb; obtain ⟨-, q1, q2⟩ := KS.out _ ((Below.refl _ _).drew.trans (hb.mono (Nat.le_refl _))); clear hb hL))
      all_goals
        go_wp2
        go_roundw
        case rel => exact ⟨k + 1, _, _, by omega, by go_num, HN.out.step hlt ((Below.refl _ _).drew.trans (HB.out.mono (Nat.le_refl _))) HL.out⟩
        case measure => simp [intOf]; omega
    · obtain rfl : k = 8 := by omega
      have HN := hid hN
      clear hN
      go_wp2
      go_ret
      refine ⟨_, g', rfl, HN.out.evo, HN.out.new, Tab.new_ok, v, HN.out.loc, HN.out.ch⟩

end Go.Proofs.YtoiobhcgpajogaaGreatDoor
