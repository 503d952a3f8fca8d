/- The walks of a court: again, Begin, Least, commit. -/
import Derived.Test.YtoiobhcgpajogaaGreatDoorCourt1
import Derived.Test.YtoiobhcgpajogaaGreatDoorVault2
import Derived.Test.YtoiobhcgpajogaaGreatDoorWork1
import Derived.Test.YtoiobhcgpajogaaGreatDoorHall3
import Derived.Deep.RegionHeld3
namespace Go.Proofs.YtoiobhcgpajogaaGreatDoor
open Go.RowKit

theorem SheetAt.n {w : World} {g : Nat → Nat} {p s : Nat} {T : Tab} (h : SheetAt w g p s T) : w.cell? ⟨s, 8, none⟩ = some (.int .i64 T.last) ∧ s < w.heap.size := by
  obtain ⟨v, hC⟩ := h.c
  obtain ⟨-, h8, -, hs, -⟩ := hC.cells (k := 0) (by omega)
  exact ⟨h8, hs⟩

/-- A court's roll and sheet, while the sheet is written anew. -/
structure AgainS (w0 : World) (g0 : Nat → Nat) (p c s : Nat) (qs : List Value) (T : Tab) (G : Lg) (g : Nat → Nat) (w : World) : Prop where
  roll : RollAt w g p c (.pointer (some ⟨s, 0, none⟩)) qs G
  sheet : SheetAt w g (p + 4) s T
  evo : Evo p (p + 6) g0 g w0 w

theorem AgainS.drew {w0 w : World} {g0 g : Nat → Nat} {p c s : Nat} {qs : List Value} {T : Tab} {G : Lg} (h : AgainS w0 g0 p c s qs T G g w) : AgainS w0 g0 p c s qs T G g w.drew :=
  ⟨h.roll.below (Below.refl _ _).drew, h.sheet.below (Below.refl _ _).drew, h.evo.trans (Evo.of_same (Below.refl _ _).drew)⟩

theorem AgainS.write {w0 w w' : World} {g0 g g' : Nat → Nat} {p c s : Nat} {qs : List Value} {T T' : Tab} {G : Lg} (h : AgainS w0 g0 p c s qs T G g w) (e : Evo (p + 4) (p + 4 + 2) g g' w w') (d : SheetAt w' g' (p + 4) s T') : AgainS w0 g0 p c s qs T' G g' w' :=
  ⟨h.roll.frame e (by omega), d, h.evo.trans (e.wide (by omega) (by omega))⟩

def AgainPost (g : Nat → Nat) (p c : Nat) (ds : Nat → Nat) (N : Nat) (G : Lg) (w : World) (e : Ending) (w' : World) : Prop :=
  e = .returned (.tuple #[]) ∧ ∃ g' s, CourtL w' g' p c s ds N (writeAll Tab.new G.l) (mendG G) (fun _ => none) ∧ Evo p (p + 6) g g' w w'

set_option maxHeartbeats 4000000 in
set_option maxRecDepth 100000 in
theorem court_again (g : Nat → Nat) (p c s : Nat) (ds : Nat → Nat) (N : Nat) (T : Tab) (G : Lg) (S : Nat → Option Ded) (w : World) (hC : CourtL w g p c s ds N T G S) :
    Calls Tryz.prog 72 #[.pointer (some ⟨c, 0, none⟩)] w (AgainPost g p c ds N G w) := by
  have HM := hid (roll_Mend g p c G w hC.roll)
  have HOK := hid hC.lok
  have HCK := hid (mendG_ok hC.lok)
  have h40 := (mendG_ok hC.lok).2.1
  have HGL := hid (show (mendG G).l = G.l from rfl)
  rw [show (mendG G).l = G.l from rfl] at h40
  clear hC
  generalize hg' : mendG G = G' at *
  have HGE := hid hg'
  clear hg'
  go_enter Tryz.func72, Tryz.ntmps72
  go_wp2_with fail
  (with_reducible refine HM.out.mono ?_)
  rintro e w1 ⟨rfl, g1, hR1, hE1⟩
  have R1 := hid hR1
  have E1 := hid (hE1.wide (lo' := p) (hi' := p + 6) (by omega) (by omega))
  clear hR1 hE1 HM
  go_wp2_with fail
  (with_reducible refine (sheet_New g1 (p + 4) w1).mono ?_)
  rintro e w2 ⟨s', g2, rfl, hE2, -, hS2⟩
  have R2 := hid (R1.out.frame hE2 (by omega))
  have E2 := hid (E1.out.trans (hE2.none (Nat.le_refl _)))
  have S2 := hid hS2
  clear hE2 hS2 R1 E1
  obtain ⟨-, -, k0, k1⟩ := R2.out.mem
  go_upto_region 2 with (fail)
  obtain ⟨hR3, hE3⟩ := R2.out.store (i := 0) (v := .pointer (some ⟨s', 0, none⟩)) (sv' := .pointer (some ⟨s', 0, none⟩)) (qs' := seatW ds S) (fun _ _ => rfl)
  have A3 : Hid (AgainS w g p c s' (seatW ds S) Tab.new G' g2 (w2.setCell ⟨c, 0, none⟩ (.pointer (some ⟨s', 0, none⟩)))) := hid ⟨hR3, S2.out.frame hE3 (by omega), E2.out.trans (hE3.wide (by omega) (by omega))⟩
  clear hR3 hE3 R2 S2 E2 k0 k1
  generalize w2.setCell ⟨c, 0, none⟩ (.pointer (some ⟨s', 0, none⟩)) = w3 at *
  go_wp2_with fail
  go_loopw [2] (fun i wr => ∃ (k : Nat) (g' : Nat → Nat), k ≤ G.l.length ∧ i = .int .i64 k ∧ Hid (AgainS w g p c s' (seatW ds S) (writeAll Tab.new (G.l.take k)) G' g' wr)) (fun i _ => G.l.length - (intOf i).toNat)
  case atStart => exact ⟨0, g2, Nat.zero_le _, rfl, A3⟩
  case round =>
    clear A3
    obtain ⟨k, g', hk, rfl, A⟩ := hrel
    obtain ⟨la, lc, c1, hrr, hln⟩ := A.out.roll.line
    rw [HGL.out] at c1
    have c0 := A.out.roll.mem.2.2.1
    by_cases hlt : k < G.l.length
    · have hki : (k : Int) < (G.l.length : Int) := by omega
      have hk0 : (0 : Int) ≤ (k : Int) := by omega
      obtain ⟨r, a, cc, rfl, hlc, hcell, hsl⟩ := hln k (by rw [HGL.out]; exact hlt)
      obtain ⟨hr1, hr2⟩ := hrr r rfl
      have hm := A.out.roll.mem
      have KR := hid (fun (W : World) (gg : Nat → Nat) (hE : Evo (p + 4) (p + 4 + 2) g' gg wr.drew W) => (⟨hE.same c hm.1 (by rw [hm.2.1]; omega), hE.same r hr1 (by rw [hr2]; omega)⟩ : W.heap[c]? = wr.heap[c]? ∧ W.heap[r]? = wr.heap[r]?))
      clear hrr hr1 hr2 hm
      simp only [HGL.out] at hcell hsl hlc
      have hck := HOK.out.1 G.l[k] (List.getElem_mem _)
      obtain ⟨j1, j2, -⟩ := ok_of hck
      have hst := hid (show writeAll Tab.new (G.l.take (k + 1)) = (writeT (writeAll Tab.new (G.l.take k)) G.l[k]).2 by rw [List.take_succ_eq_append_getElem hlt, writeAll_snoc])
      have HW := hid (sheet_Write g' (p + 4) s' (writeAll Tab.new (G.l.take k)) a cc G.l[k] wr.drew (by omega) (fun x hx => by have := (j1 x hx).2.2.1; unfold maxLen; omega) A.out.drew.sheet (hsl.frame (Evo.of_same (Below.refl _ _).drew)))
      generalize G.l[k] = x at *
      generalize writeAll Tab.new (G.l.take k) = Tk at *
      clear hsl hck j1 j2 hln
      go_wp2_with fail
      go_region_held3 (fun W' : World => W'.cell? ⟨c, 0, none⟩ = some (.pointer (some ⟨s', 0, none⟩)) ∧ W'.cell? ⟨c, 1, none⟩ = some (.slice (some ⟨r, 0, none⟩) G.l.length lc) ∧ W'.cell? ⟨r, k, none⟩ = some (.slice a x.length cc))
        (first | assumption | exact ⟨c0, c1, hcell⟩)
        (first
          | (go_at_call 105; (with_reducible refine HW.out.mono ?_); rintro e w4 ⟨rfl, g4, hS4, hE4⟩; have A4 := hid (A.out.drew.write hE4 hS4); have hS' : w4.cell? ⟨c, 0, none⟩ = some (.pointer (some ⟨s', 0, none⟩)) ∧ w4.cell? ⟨c, 1, none⟩ = some (.slice (some ⟨r, 0, none⟩) G.l.length lc) ∧ w4.cell? ⟨r, k, none⟩ = some (.slice a x.length cc) := ⟨(World.cell?_of_block (w := wr) (a := ⟨c, 0, none⟩) (KR.out _ _ hE4).1).trans c0, (World.cell?_of_block (w := wr) (a := ⟨c, 1, none⟩) (KR.out _ _ hE4).1).trans c1, (World.cell?_of_block (w := wr) (a := ⟨r, k, none⟩) (KR.out _ _ hE4).2).trans hcell⟩; clear hS4 hE4))
      go_wp2
      go_roundw
      case rel => exact ⟨k + 1, g4, by omega, by go_num, hid (by rw [hst.out]; exact A4.out)⟩
      case measure => simp [intOf]; omega
    · obtain rfl : k = G.l.length := by omega
      rw [List.take_length] at A
      have l0 : wr.cell? ⟨c, 3, none⟩ = some (seatP ds S 0) := (A.out.roll.seat 0).1
      have l1 : wr.cell? ⟨c, 4, none⟩ = some (seatP ds S 1) := (A.out.roll.seat 1).1
      have l2 : wr.cell? ⟨c, 5, none⟩ = some (seatP ds S 2) := (A.out.roll.seat 2).1
      have l3 : wr.cell? ⟨c, 6, none⟩ = some (seatP ds S 3) := (A.out.roll.seat 3).1
      have l4 : wr.cell? ⟨c, 7, none⟩ = some (seatP ds S 4) := (A.out.roll.seat 4).1
      have r0 : wr.frozen? ⟨c, 3, none⟩ = false := (A.out.roll.seat 0).2
      have r1 : wr.frozen? ⟨c, 4, none⟩ = false := (A.out.roll.seat 1).2
      have r2 : wr.frozen? ⟨c, 5, none⟩ = false := (A.out.roll.seat 2).2
      have r3 : wr.frozen? ⟨c, 6, none⟩ = false := (A.out.roll.seat 3).2
      have r4 : wr.frozen? ⟨c, 7, none⟩ = false := (A.out.roll.seat 4).2
      obtain ⟨hR, hE⟩ := A.out.roll.five rfl
      have HR := hid hR
      have HE := hid hE
      clear hR hE hln hrr
      go_wp2
      refine bodyPost_end (v := .tuple #[]) (by simp [results, Tryz.results72, go_sem]) rfl ⟨rfl, g', s', by rw [HGE.out]; exact ⟨HCK.out, HR.out, A.out.sheet.frame HE.out (by omega), fun i _ D hD => by cases hD⟩, A.out.evo.trans (HE.out.wide (by omega) (by omega))⟩

/-! ### Begin -/

def CBeginPost (g : Nat → Nat) (q : Nat) (x : Option Ded × Int) (w : World) (e : Ending) (w' : World) : Prop :=
  Below w.heap.size w w' ∧ match x.1 with
    | none => e = .returned (.tuple #[.pointer none, .int .i64 x.2])
    | some D => ∃ d, e = .returned (.tuple #[.pointer (some ⟨d, 0, none⟩), .int .i64 x.2]) ∧ w.heap.size ≤ d ∧ WorkAt w' (extc g w q) q d D 0

theorem WorkAt.new (g : Nat → Nat) (q : Nat) (w w1 : World) (hb : Below w.heap.size w w1) (mode beg : Int) :
    WorkAt (w1.alloc (.cells #[.int .i64 mode, .int .i64 beg, .slice none 0 0, .slice none 0 0] 127)) (extc g w q) q w1.heap.size (Ded.new mode beg) 0 :=
  ⟨⟨mode, beg, [], []⟩, .slice none 0 0, .slice none 0 0, Ded.new_ok _ _, absW_new _ _, Nat.le_refl _, Nat.le_refl _, ⟨Loc.new _ _ [.int .i64 mode, .int .i64 beg, .slice none 0 0, .slice none 0 0], extc_new hb.size⟩,
    ⟨World.ownsRow_nil _ _ _ _, nofun⟩, ⟨World.ownsRow_nil _ _ _ _, nofun⟩⟩

set_option maxHeartbeats 2000000 in
set_option maxRecDepth 100000 in
theorem court_Begin (g : Nat → Nat) (p c s : Nat) (ds : Nat → Nat) (N : Nat) (T : Tab) (G : Lg) (S : Nat → Option Ded) (q : Nat) (mode at_ : Int) (w : World) (hC : CourtL w g p c s ds N T G S) :
    Calls Tryz.prog 74 #[.pointer (some ⟨c, 0, none⟩), .int .i64 mode, .int .i64 at_] w (CBeginPost g q (beginV T mode at_) w) := by
  obtain ⟨c0, -, hlt⟩ := hC.top
  obtain ⟨s8, hslt⟩ := hC.sheet.n
  have HF := hid (sheet_First g (p + 4) s T w hC.sheet)
  have EX := hid (show beginV T mode at_ = if mode < 1 ∨ 3 < mode then (none, 3)
    else if (if mode = 3 then at_ else (T.last : Int)) < 0 ∨ (T.last : Int) < (if mode = 3 then at_ else (T.last : Int)) then (none, 1)
    else if (if mode = 3 then at_ else (T.last : Int)) < firstT T then (none, 12)
    else (some (Ded.new mode (if mode = 3 then at_ else (T.last : Int))), 0) from rfl)
  generalize beginV T mode at_ = x at *
  clear hC
  by_cases hm1 : mode < 1
  · have X := hid (EX.out.trans (if_pos (.inl hm1)))
    clear EX
    go_enter Tryz.func74, Tryz.ntmps74
    go_wp2
    go_ret2
    rw [X.out]
    exact ⟨Below.refl _ _, rfl⟩
  by_cases hm3 : 3 < mode
  · have hm1' : 1 ≤ mode := by omega
    have X := hid (EX.out.trans (if_pos (.inr hm3)))
    clear EX hm1
    go_enter Tryz.func74, Tryz.ntmps74
    go_wp2
    go_ret2
    rw [X.out]
    exact ⟨Below.refl _ _, rfl⟩
  have hm1' : 1 ≤ mode := by omega
  have hm3' : mode ≤ 3 := by omega
  have EX2 := hid (EX.out.trans (if_neg (by omega)))
  clear EX hm1 hm3
  by_cases h3 : mode = 3
  · have q3 : (mode != 3) = false := by simpa using h3
    rw [if_pos h3] at EX2
    clear h3
    by_cases h0 : at_ < 0
    · have X := hid (EX2.out.trans (if_pos (.inl h0)))
      clear EX2
      go_enter Tryz.func74, Tryz.ntmps74
      go_wp2
      go_ret2
      rw [X.out]
      exact ⟨Below.refl _ _, rfl⟩
    have h0' : 0 ≤ at_ := by omega
    by_cases h1 : (T.last : Int) < at_
    · have X := hid (EX2.out.trans (if_pos (.inr h1)))
      clear EX2
      go_enter Tryz.func74, Tryz.ntmps74
      go_wp2
      go_ret2
      rw [X.out]
      exact ⟨Below.refl _ _, rfl⟩
    have h1' : at_ ≤ (T.last : Int) := by omega
    have EX3 := hid (EX2.out.trans (if_neg (by omega)))
    clear EX2
    go_enter Tryz.func74, Tryz.ntmps74
    go_wp2_with fail
    (with_reducible refine HF.out.mono ?_)
    rintro e w1 ⟨rfl, hb⟩
    have B1 := hid hb
    clear hb HF
    by_cases h2 : at_ < firstT T
    · have X := hid (EX3.out.trans (if_pos h2))
      clear EX3
      generalize firstT T = fs at *
      go_wp2
      go_ret2
      rw [X.out]
      exact ⟨B1.out, rfl⟩
    · have X := hid (EX3.out.trans (if_neg h2))
      clear EX3
      have h2' : firstT T ≤ at_ := by omega
      generalize firstT T = fs at *
      go_wp2
      go_ret2
      rw [X.out]
      exact ⟨B1.out.alloc B1.out.size _, w1.heap.size, rfl, B1.out.size, WorkAt.new g q w w1 B1.out mode at_⟩
  · have q3 : (mode != 3) = true := by simpa using h3
    rw [if_neg h3] at EX2
    clear h3
    have EX3 := hid (EX2.out.trans (if_neg (by omega)))
    clear EX2
    have hl0 : (0 : Int) ≤ (T.last : Int) := by omega
    go_enter Tryz.func74, Tryz.ntmps74
    go_wp2_with fail
    (with_reducible refine HF.out.mono ?_)
    rintro e w1 ⟨rfl, hb⟩
    have B1 := hid hb
    clear hb HF
    by_cases h2 : (T.last : Int) < firstT T
    · have X := hid (EX3.out.trans (if_pos h2))
      clear EX3
      generalize firstT T = fs at *
      go_wp2
      go_ret2
      rw [X.out]
      exact ⟨B1.out, rfl⟩
    · have X := hid (EX3.out.trans (if_neg h2))
      clear EX3
      have h2' : firstT T ≤ (T.last : Int) := by omega
      generalize firstT T = fs at *
      go_wp2
      go_ret2
      rw [X.out]
      exact ⟨B1.out.alloc B1.out.size _, w1.heap.size, rfl, B1.out.size, WorkAt.new g q w w1 B1.out mode T.last⟩

/-! ### Least -/

theorem WorkAt.beg {w : World} {g : Nat → Nat} {p b : Nat} {D : Ded} {N : Nat} (h : WorkAt w g p b D N) : w.cell? ⟨b, 1, none⟩ = some (.int .i64 D.beg) ∧ w.cell? ⟨b, 0, none⟩ = some (.int .i64 D.mode) ∧ b < w.heap.size := by
  obtain ⟨W, vr, vw, h⟩ := h
  have e : D.beg = W.beg ∧ D.mode = W.mode := by rw [← h.abs]; exact ⟨rfl, rfl⟩
  rw [e.1, e.2]
  exact ⟨h.loc.1.cell 1, h.loc.1.cell 0, h.loc.1.lt⟩

set_option maxHeartbeats 2000000 in
set_option maxRecDepth 100000 in
theorem court_Least (g : Nat → Nat) (p c s : Nat) (ds : Nat → Nat) (N : Nat) (T : Tab) (G : Lg) (S : Nat → Option Ded) (w : World) (hC : CourtL w g p c s ds N T G S) :
    Calls Tryz.prog 40 #[.pointer (some ⟨c, 0, none⟩)] w (fun e w' => e = .returned (.int .i64 (leastGo T S 5)) ∧ w = w') := by
  obtain ⟨c0, -, hlt⟩ := hC.top
  obtain ⟨s8, hslt⟩ := hC.sheet.n
  have HSE := hid (fun i (hi : i < 5) => (hC.seat hi).1)
  have HD := hid (fun i (hi : i < 5) D hD => (hC.work i hi D hD).beg)
  have HS := hid (fun k => (show leastGo T S (k + 1) = match S k with | none => leastGo T S k | some D => min (leastGo T S k) D.beg from rfl))
  have H0 := hid (show leastGo T S 0 = T.last from rfl)
  have HP := hid (fun k => (show seatP ds S k = match S k with | none => .pointer none | some _ => .pointer (some ⟨ds k, 0, none⟩) from rfl))
  clear hC
  generalize leastGo T S = f at *
  generalize seatP ds S = sp at *
  go_enter Tryz.func40, Tryz.ntmps40
  go_wp2
  go_loop [3, 4] (fun n i => ∃ k : Nat, k ≤ 5 ∧ n = .int .i64 (f k) ∧ i = .int .i64 k) (fun _ i => 5 - (intOf i).toNat)
  case atStart => exact ⟨0, by omega, by rw [H0.out], rfl⟩
  case round =>
    obtain ⟨k, hk, rfl, rfl⟩ := hrel
    by_cases h5 : k < 5
    · have hki : (k : Int) < 5 := by omega
      have hk0 : (0 : Int) ≤ (k : Int) := by omega
      have hx := HSE.out k h5
      have hst := HS.out k
      have hsp := HP.out k
      cases hd : S k with
      | none =>
        rw [hd] at hst hsp
        simp only at hst hsp
        rw [hsp] at hx
        have HST := hid hst
        clear hst hd hsp
        go_wp2
        go_round
        case rel => exact ⟨k + 1, by omega, by rw [HST.out], by go_num⟩
        case measure => simp [intOf]; omega
      | some D =>
        obtain ⟨hb1, -, hbl⟩ := HD.out k h5 D hd
        rw [hd] at hst hsp
        simp only at hst hsp
        rw [hsp] at hx
        have HST := hid hst
        clear hst hd hsp
        generalize f k = m at *
        by_cases hle : D.beg < m
        · have hmin := hid (show min m D.beg = D.beg by omega)
          go_wp2
          go_round
          case rel => exact ⟨k + 1, by omega, by rw [HST.out, hmin.out], by go_num⟩
          case measure => simp [intOf]; omega
        · have hmin := hid (show min m D.beg = m by omega)
          have hle' : m ≤ D.beg := by omega
          go_wp2
          go_round
          case rel => exact ⟨k + 1, by omega, by rw [HST.out, hmin.out], by go_num⟩
          case measure => simp [intOf]; omega
    · obtain rfl : k = 5 := by omega
      go_wp2
      go_ret
      exact ⟨rfl, rfl⟩

/-! ### commit -/

def CTurnPost (g : Nat → Nat) (p c s : Nat) (ds : Nat → Nat) (N : Nat) (S : Nat → Option Ded) (x : (Int × Int) × Vt) (w : World) (e : Ending) (w' : World) : Prop :=
  e = .returned (.tuple #[.int .i64 x.1.1, .int .i64 x.1.2]) ∧ ∃ g', CourtL w' g' p c s ds N x.2.tab x.2.log S ∧ Evo p (p + 6) g g' w w'

theorem CTurnPost.same {g : Nat → Nat} {p c s N : Nat} {ds : Nat → Nat} {S : Nat → Option Ded} {a b : Int} {V : Vt} {w w' : World} (h : CourtL w g p c s ds N V.tab V.log S) (hb : Below w.heap.size w w') : CTurnPost g p c s ds N S ((a, b), V) w (.returned (.tuple #[.int .i64 a, .int .i64 b])) w' :=
  ⟨rfl, g, h.below hb, Evo.of_same hb⟩

set_option maxHeartbeats 4000000 in
set_option maxRecDepth 100000 in
theorem court_commit (g : Nat → Nat) (p c s : Nat) (ds : Nat → Nat) (N : Nat) (V : Vt) (S : Nat → Option Ded) (n : Nat) (D : Ded) (w : World) (hN : N ≤ 1000000) (hV : V.Ok) (hn : n < 5) (hD : S n = some D) (hC : CourtL w g p c s ds N V.tab V.log S) :
    Calls Tryz.prog 78 #[.pointer (some ⟨c, 0, none⟩), .pointer (some ⟨ds n, 0, none⟩)] w (CTurnPost g p c s ds N S (commitV V D) w) := by
  have hW := hC.work n hn D hD
  obtain ⟨c0, -, hlt⟩ := hC.top
  have HC := hid hC
  have HM := hid (work_May g (p + 6 + 3 * n) (ds n) D N g (p + 4) s V.tab w hN hW hC.sheet)
  have HW := hid (fun W (h : Below w.heap.size w W) => work_Writes g (p + 6 + 3 * n) (ds n) D N W hN (hW.below h))
  have hDok : D.Ok := by obtain ⟨_, _, _, h⟩ := hW; exact h.ok
  have hwf := writesD_facts hDok
  have hlw := hwf.1
  have HWF := hid hwf
  have HVO := hid hV
  have HCK := hid (writesD_ck hDok)
  have EX : commitV V D = if mayD D V.tab ≠ 0 then ((0, mayD D V.tab), V) else if writesD D = [] then ((0, 0), V) else if (putG V.log (writesD D)).1 ≠ 0 then ((0, (putG V.log (writesD D)).1), V) else ((writeT V.tab (writesD D)).1, ⟨(writeT V.tab (writesD D)).2, (putG V.log (writesD D)).2⟩) := rfl
  generalize commitV V D = x at *
  have HX := hid EX
  clear EX hC hD hwf hW hDok
  generalize writesD D = l at *
  go_enter Tryz.func78, Tryz.ntmps78
  go_wp2_with fail
  (with_reducible refine HM.out.mono ?_)
  rintro e w1 ⟨rfl, hb⟩
  have B1 := hid hb
  clear hb HM
  by_cases hm : mayD D V.tab = 0
  · have X1 := hid (HX.out.trans (if_neg (by rw [hm]; simp)))
    rw [hm]
    clear hm HX
    go_wp2_with fail
    (with_reducible refine (HW.out w1 B1.out).mono ?_)
    rintro e w2 ⟨a2, c2, rfl, hs, hb, hn2, -⟩
    have hB2 := B1.out.trans (hb.mono B1.out.size)
    have B2 := hid hB2
    have S2 := hid (sliceC_new (g := g) (p := p + 21) (lo := p) (hi := p + 6) hs (fun ad e => ⟨Nat.le_trans B1.out.size (hn2 ad e).1, (hn2 ad e).2⟩) (by omega))
    have E2 := hid (Evo.of_below (lo := 0) (hi := 0) g (p + 21) hB2)
    have C2 := hid (HC.out.frame E2.out (by omega))
    obtain ⟨k0, -, k2⟩ := C2.out.top
    generalize extc g w (p + 21) = g2 at *
    clear hs hb hn2 hB2 HW c0
    by_cases hl0 : l = []
    · have X2 := hid (X1.out.trans (if_pos hl0))
      subst hl0
      clear X1
      go_wp2
      go_ret2
      rw [X2.out]
      exact CTurnPost.same HC.out B2.out
    · have X2 := hid (X1.out.trans (if_neg hl0))
      have hpos : 0 < l.length := List.length_pos_iff.2 hl0
      have hlen0 : ((l.length : Int) == 0) = false := by rw [beq_eq_false_iff_ne]; omega
      have hlenN : (l.length == 0) = false := by rw [beq_eq_false_iff_ne]; omega
      clear X1 hl0
      have HP := hid (roll_Put g2 p c V.log a2 c2 l w2 hlw HWF.out.2 HVO.out.1 C2.out.roll S2.out.at)
      have hput := hid (putG_ok HVO.out.1 HVO.out.2.1 l)
      have hbad := hid (fun (h : (putG V.log l).1 ≠ 0) => (show (putG V.log l).2 = V.log by
        unfold putG at h ⊢
        split
        · rfl
        · rename_i h1
          split
          · rfl
          · rename_i h2; rw [if_neg h1, if_neg h2] at h; exact absurd rfl h))
      generalize putG V.log l = y at *
      obtain ⟨yc, G2⟩ := y
      go_wp2_with fail
      (with_reducible refine HP.out.mono ?_)
      rintro e w3 ⟨rfl, g3, hR, hE⟩
      have E3 := hid (E2.out.none (Nat.le_refl _) |>.trans (hE.wide (lo' := p) (hi' := p + 6) (by omega) (by omega)))
      have C3 := hid (C2.out.withRoll hput.out.1 hE hR)
      have S3 := hid (S2.out.frame2 hE (by omega) (by omega))
      clear hR hE HP k0 k2 C2 S2
      by_cases hc : yc = 0
      · have X3 := hid (X2.out.trans (if_neg (by simp [hc])))
        subst hc
        obtain ⟨k0, -, k2⟩ := C3.out.top
        have S3' : Hid (SliceC w3 g3 (p + 4) (p + 4 + 2) a2 (encEnts l)) := hid (by
          rcases S3.out with h | ⟨b', off, h1, h2, h3, h4⟩
          · exact .inl h
          · exact .inr ⟨b', off, h1, h2, by omega, h4⟩)
        clear X2 hbad
        go_wp2_with fail
        (with_reducible refine (sheet_Write g3 (p + 4) s V.tab a2 c2 l w3 hlw HWF.out.2 C3.out.sheet S3'.out).mono ?_)
        rintro e w4 ⟨rfl, g4, hT, hE⟩
        have C4 := hid (C3.out.withSheet hE hT)
        have E4 := hid (E3.out.trans (hE.wide (lo' := p) (hi' := p + 6) (by omega) (by omega)))
        clear hT hE k0 k2
        generalize writeT V.tab l = z at *
        go_wp2
        go_ret2
        rw [X3.out]
        exact ⟨rfl, g4, C4.out, E4.out⟩
      · have X3 := hid (X2.out.trans (if_pos hc))
        have hG := hbad.out hc
        have hc' : (yc != 0) = true := by simpa using hc
        subst hG
        clear hc X2 hbad
        go_wp2
        go_ret2
        rw [X3.out]
        exact ⟨rfl, g3, C3.out, E3.out⟩
  · have X1 := hid (HX.out.trans (if_pos hm))
    have hm' : (mayD D V.tab != 0) = true := by simpa using hm
    clear hm HX
    generalize mayD D V.tab = code at *
    go_wp2
    go_ret2
    rw [X1.out]
    exact CTurnPost.same HC.out B1.out

end Go.Proofs.YtoiobhcgpajogaaGreatDoor
