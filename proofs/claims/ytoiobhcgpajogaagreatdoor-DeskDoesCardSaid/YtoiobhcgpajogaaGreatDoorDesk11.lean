/- A desk: what holds of its hall between the lines. -/
import Derived.Test.YtoiobhcgpajogaaGreatDoorDesk10
import Derived.Test.YtoiobhcgpajogaaGreatDoorHallP
import Derived.Lib.IndexAny
namespace Go.Proofs.YtoiobhcgpajogaaGreatDoor
open Go.RowKit

theorem HallAt.oks {w : World} {g : Nat → Nat} {p h : Nat} {H : Ht} (k : HallAt w g p h H) : H.v.Ok ∧ H.v.tab.Ok ∧ ∀ s, s < 5 → ∀ D, H.seats s = some D → D.Ok := by
  obtain ⟨vp, ds, k⟩ := k
  obtain ⟨t, b, hv⟩ := k.vault
  exact ⟨hv.1, hv.2.2.1.1, fun s hs D hD => (k.deed s hs D hD).1⟩

structure GoodD (H : Ht) : Prop where
  small : SmallT H.v.tab
  sound : H.v.Sound
  begs : BegsH H

theorem GoodD.step {H : Ht} (h : GoodD H) (hV : H.v.Ok) (hT : H.v.tab.Ok) (hDs : ∀ s, s < 5 → ∀ D, H.seats s = some D → D.Ok) (x : St) : GoodD (doH H x).2 :=
  ⟨doH_small h.small x, doH_sound hV hT h.sound x, doH_begs hV hT h.sound h.begs hDs x⟩

theorem GoodD.evok {w : World} {g : Nat → Nat} {p h : Nat} {H : Ht} (k : GoodD H) (hA : HallAt w g p h H) (x : St) : EvOk (doH H x).1 :=
  doH_evok hA.oks.1 hA.oks.2.1 k.small hA.oks.2.2 x

theorem i64_last {T : Tab} (h : T.Ok) : I64 T.last := ⟨by omega, by have := h.2; omega⟩

theorem firstGo_range {T : Tab} (h : T.Ok) : ∀ k, 0 ≤ firstGo T k ∧ firstGo T k ≤ T.last
  | 0 => ⟨Int.le_refl _, by show (0 : Int) ≤ _; omega⟩
  | k + 1 => by
    have ih := firstGo_range h k
    have h1 := firstN_le_lastN (h.1 k).1
    have h2 := (h.1 k).2
    have h3 := (h.1 k).1.2.2
    unfold firstGo
    split <;> omega

theorem i64_first {T : Tab} (h : T.Ok) : I64 (firstT T) := by
  have h1 := firstGo_range h 8
  have h2 := h.2
  exact ⟨by show _ ≤ firstGo T 8; omega, by show firstGo T 8 ≤ _; omega⟩

theorem leastGo_range {H : Ht} (hT : H.v.tab.Ok) (hB : BegsH H) : ∀ k, k ≤ 5 → 0 ≤ leastGo H.v.tab H.seats k ∧ leastGo H.v.tab H.seats k ≤ H.v.tab.last
  | 0, _ => ⟨by show (0 : Int) ≤ (H.v.tab.last : Int); omega, Int.le_refl _⟩
  | k + 1, hk => by
    have ih := leastGo_range hT hB k (by omega)
    unfold leastGo
    cases hD : H.seats k with
    | none => exact ih
    | some D =>
      have h1 := (hB k (by omega) D hD).1 0 (by omega)
      have h2 := (hT.1 0).1.2.2
      show 0 ≤ min _ _ ∧ min _ _ ≤ _
      omega

theorem i64_least {H : Ht} (hT : H.v.tab.Ok) (hB : BegsH H) : I64 (leastH H) := by
  have h1 := leastGo_range hT hB 5 (by omega)
  have h2 := hT.2
  exact ⟨by show _ ≤ leastGo _ _ 5; omega, by show leastGo _ _ 5 ≤ _; omega⟩

end Go.Proofs.YtoiobhcgpajogaaGreatDoor

/- A desk: the walk of Do. -/
namespace Go.Proofs.YtoiobhcgpajogaaGreatDoor
open Go.RowKit

def nlD (l : List UInt8) : Bool := l.contains 10
def faultD (L : List (List UInt8)) : Int × Int :=
  if 150 < L.length then (14, -1) else match L.findIdx? nlD with | some i => (15, (i : Int)) | none => (0, 0)
def doD (H : Ht) (L : List (List UInt8)) : List UInt8 × Ht := if (faultD L).1 = 0 then linesD ([], H) L else ([], H)

theorem faultD_many {L : List (List UInt8)} (h : 150 < L.length) : faultD L = (14, -1) := if_pos h
theorem doD_fault {H : Ht} {L : List (List UInt8)} (h : (faultD L).1 ≠ 0) : doD H L = ([], H) := if_neg h
theorem doD_fine {H : Ht} {L : List (List UInt8)} (h : faultD L = (0, 0)) : doD H L = linesD ([], H) L := by unfold doD; rw [h]; rfl

theorem faultD_line {L : List (List UInt8)} (h : ¬ 150 < L.length) (k : Nat) (hk : k < L.length) (h0 : ∀ j (hj : j < k), nlD (L[j]'(by omega)) = false) (h1 : nlD L[k] = true) : faultD L = (15, (k : Int)) := by
  have e : L.findIdx? nlD = some k := by
    rw [List.findIdx?_eq_some_iff_getElem]
    exact ⟨hk, h1, fun j hj => by simpa using h0 j hj⟩
  unfold faultD
  rw [if_neg h, e]

theorem faultD_fine {L : List (List UInt8)} (h : ¬ 150 < L.length) (h0 : ∀ j (hj : j < L.length), nlD (L[j]'hj) = false) : faultD L = (0, 0) := by
  have e : L.findIdx? nlD = none := by
    rw [List.findIdx?_eq_none_iff]
    intro x hx
    obtain ⟨j, hj, rfl⟩ := List.getElem_of_mem hx
    exact h0 j hj
  unfold faultD
  rw [if_neg h, e]

/-- Lines in memory, of the colour 0. -/
def LinesAt (w : World) (g : Nat → Nat) (a : Option Addr) (xs : List ByteArray) : Prop :=
  xs = [] ∨ ∃ b o, a = some ⟨b, o, none⟩ ∧ b < w.heap.size ∧ g b = 0 ∧ ∀ j x, xs[j]? = some x → w.cell? ⟨b, o + j, none⟩ = some (.string x)

theorem LinesAt.evo {w w' : World} {g g' : Nat → Nat} {lo hi : Nat} {a : Option Addr} {xs : List ByteArray} (h : LinesAt w g a xs) (e : Evo lo hi g g' w w') (h1 : 1 ≤ lo ∨ hi ≤ lo) : LinesAt w' g' a xs := by
  rcases h with h | ⟨b, o, rfl, hb, hg, hc⟩
  · exact .inl h
  · exact .inr ⟨b, o, rfl, Nat.lt_of_lt_of_le hb e.size, (e.col b hb).trans hg, fun j x hj => e.cell (hc j x hj) (by simp only [hg]; omega)⟩

theorem LinesAt.below {w w' : World} {g : Nat → Nat} {a : Option Addr} {xs : List ByteArray} (h : LinesAt w g a xs) (e : Below w.heap.size w w') : LinesAt w' g a xs := by
  rcases h with h | ⟨b, o, rfl, hb, hg, hc⟩
  · exact .inl h
  · exact .inr ⟨b, o, rfl, Nat.lt_of_lt_of_le hb e.size, hg, fun j x hj => cell_below (hc j x hj) e⟩

theorem LinesAt.get {w : World} {g : Nat → Nat} {a : Option Addr} {xs : List ByteArray} (h : LinesAt w g a xs) {k : Nat} (hk : k < xs.length) : ∃ b o, a = some ⟨b, o, none⟩ ∧ w.cell? ⟨b, o + k, none⟩ = some (.string xs[k]) := by
  rcases h with h | ⟨b, o, rfl, hb, hg, hc⟩
  · subst h; simp at hk
  · exact ⟨b, o, rfl, hc k _ (List.getElem?_eq_getElem hk)⟩

/-- A desk between two Do: what its Builder told is frozen. -/
structure DkIdle (w0 : World) (g0 : Nat → Nat) (p d h : Nat) (H : Ht) (g : Nat → Nat) (w : World) : Prop where
  loc : ∃ a0 v, LocC w g p d 44 [a0, v, .pointer (some ⟨h, 0, none⟩)]
  hall : HallAt w g (p + 2) h H
  glob : GlobC w g
  evo : Evo p (p + 21) g0 g w0 w

section
variable {w0 w w' : World} {g0 g g' : Nat → Nat} {p d h lo hi : Nat} {t : List UInt8} {H H' : Ht}
theorem DkIdle.below (k : DkIdle w0 g0 p d h H g w) (e : Below w.heap.size w w') : DkIdle w0 g0 p d h H g w' := by
  obtain ⟨a0, v, hL⟩ := k.loc
  exact ⟨⟨a0, v, hL.below e⟩, k.hall.below e, k.glob.below e, k.evo.trans (Evo.of_same e)⟩
theorem DkIdle.fresh (k : DkIdle w0 g0 p d h H g w) (e : Evo 0 0 g g' w w') : DkIdle w0 g0 p d h H g' w' := by
  obtain ⟨a0, v, hL⟩ := k.loc
  exact ⟨⟨a0, v, hL.frame e (by omega)⟩, k.hall.frame e (by omega), k.glob.frame e (by omega), k.evo.trans (e.none (by omega))⟩
theorem DkIdle.self (k : DkIdle w0 g0 p d h H g w) : DkIdle w g p d h H g w := ⟨k.loc, k.hall, k.glob, Evo.refl _ _ _ _⟩
theorem DkIdle.put1 (k : DkIdle w0 g0 p d h H g w) {b i : Nat} (hg : g b = p + 21) (hb : w0.heap.size ≤ b) (v : Value) : DkIdle w0 g0 p d h H g (w.setCell ⟨b, i, none⟩ v) := by
  have e : Evo (p + 21) (p + 21 + 1) g g w (w.setCell ⟨b, i, none⟩ v) := evo_store v hg
  obtain ⟨a0, u, hL⟩ := k.loc
  exact ⟨⟨a0, u, hL.frame e (by omega)⟩, k.hall.frame e (by omega), k.glob.frame e (by omega), evo_storeNew k.evo hb v⟩
/-- The same desk while others change. -/
theorem DkIdle.apart (k : DkIdle w0 g0 p d h H g w) (e : Evo lo hi g g' w w') (h1 : 1 ≤ lo) (hc : p + 21 ≤ lo ∨ hi ≤ p) : DkIdle w' g' p d h H g' w' := by
  obtain ⟨a0, v, hL⟩ := k.loc
  exact ⟨⟨a0, v, hL.frame e (by omega)⟩, k.hall.frame e (by omega), k.glob.frame e (by omega), Evo.refl _ _ _ _⟩
end

theorem lineD_good {H : Ht} (h : GoodD H) (hV : H.v.Ok) (hT : H.v.tab.Ok) (hDs : ∀ s, s < 5 → ∀ D, H.seats s = some D → D.Ok) (l : List UInt8) : GoodD (lineD H l).2 := by
  unfold lineD
  split
  · exact h
  · exact h
  · exact h
  · exact h.step hV hT hDs _

theorem lineD_le {H : Ht} (hO : ∀ x, EvOk (doH H x).1) (hB1 : I64 H.v.tab.last) (hB2 : I64 (firstT H.v.tab)) (hB3 : I64 (leastH H)) (l : List UInt8) : (lineD H l).1.length ≤ 701 := by
  have l1 := Lib.itoa_length_le _ hB1.1 hB1.2
  have l2 := Lib.itoa_length_le _ hB2.1 hB2.2
  have l3 := Lib.itoa_length_le _ hB3.1 hB3.2
  unfold lineD
  split
  · simp
  · simp [b_what]
  · simp only [List.length_append, List.length_cons, b_last, List.length_nil]; omega
  · have := tellD_le (hO ‹St›) ‹St›
    simp only [List.length_append, List.length_cons, List.length_nil]; omega

theorem linesD_snoc (r : List UInt8 × Ht) (l : List (List UInt8)) (s : List UInt8) : linesD r (l ++ [s]) = ((linesD r l).1 ++ (lineD (linesD r l).2 s).1, (lineD (linesD r l).2 s).2) := by
  rw [linesD_append]; rfl

def DoPostL (g : Nat → Nat) (p d h : Nat) (H : Ht) (L : List (List UInt8)) (w : World) (e : Ending) (w' : World) : Prop :=
  e = .returned (.tuple #[.string ⟨(doD H L).1.toArray⟩, .agg #[.int .i64 (faultD L).1, .int .i64 (faultD L).2]]) ∧ GoodD (doD H L).2 ∧ (doD H L).1.length ≤ 200000 ∧ ∃ g', DkIdle w g p d h (doD H L).2 g' w'

theorem fault_cells {w : World} {g : Nat → Nat} {q b : Nat} {v0 v1 : Value} (h : LocC w g q b 31 [v0, v1]) (x y : Int) :
    ((w.setCell ⟨b, 0, none⟩ (.int .i64 x)).setCell ⟨b, 1, none⟩ (.int .i64 y)).cell? ⟨b, 0, none⟩ = some (.int .i64 x) ∧ ((w.setCell ⟨b, 0, none⟩ (.int .i64 x)).setCell ⟨b, 1, none⟩ (.int .i64 y)).cell? ⟨b, 1, none⟩ = some (.int .i64 y) :=
  have k := (h.set 0 (.int .i64 x)).set 1 (.int .i64 y)
  ⟨k.1.cell 0, k.1.cell 1⟩

theorem nl_index (x : ByteArray) : decide (0 ≤ Lib.indexByte x.data.toList 10) = nlD x.data.toList := (Lib.contains_iff_indexByte _ _).symm

set_option maxHeartbeats 8000000 in
set_option maxRecDepth 100000 in
theorem desk_Do (g : Nat → Nat) (p d h : Nat) (H : Ht) (w : World) (hp : 1 ≤ p) (k : DkIdle w g p d h H g w) (hG : GoodD H) (a : Option Addr) (cap : Nat) (xs : List ByteArray) (hA : LinesAt w g a xs) (hs : ∀ x ∈ xs, x.size ≤ 9500) (hn : xs.length ≤ 1000000) :
    Calls Tryz.prog 8 #[.pointer (some ⟨d, 0, none⟩), .slice a xs.length cap] w (DoPostL g p d h H (xs.map (·.data.toList)) w) := by
  have E1 := Evo.alloc g (p + 21) w (.cells #[.int .i64 0, .int .i64 0] 31)
  have L1 := hid (LocC.new g (p + 21) w 31 [.int .i64 0, .int .i64 0])
  have K1 := hid (k.fresh E1)
  have A1 := hid (hA.evo E1 (by omega))
  have HG := hid hG
  have HS := hid hs
  clear E1 k hA hG hs
  have hni : (xs.length : Int) ≤ 1000000 := by omega
  go_enter Tryz.func8, Tryz.ntmps8
  go_upto_region 1 with (fail)
  have hb5 : w.heap.size ≤ w.heap.size := Nat.le_refl _
  generalize hw1 : w.alloc (.cells #[.int .i64 0, .int .i64 0] 31) = w1 at *
  generalize extc g w (p + 21) = g1 at *
  clear hw1
  generalize hbx : w.heap.size = b5 at *
  have HB5 := hid hbx
  clear hbx hb5
  have c50 : w1.cell? ⟨b5, 0, none⟩ = some (.int .i64 0) := L1.out.1.cell 0
  have c51 : w1.cell? ⟨b5, 1, none⟩ = some (.int .i64 0) := L1.out.1.cell 1
  have f50 : w1.frozen? ⟨b5, 0, none⟩ = false := L1.out.1.free 0
  have f51 : w1.frozen? ⟨b5, 1, none⟩ = false := L1.out.1.free 1
  by_cases h150 : 150 < xs.length
  · have hf : faultD (xs.map (·.data.toList)) = (14, -1) := faultD_many (by simpa using h150)
    have hd : doD H (xs.map (·.data.toList)) = ([], H) := doD_fault (by rw [hf]; decide)
    have HP := hid (show ∃ g', DkIdle w g p d h (doD H (xs.map (·.data.toList))).2 g' ((w1.setCell ⟨b5, 0, none⟩ (.int .i64 14)).setCell ⟨b5, 1, none⟩ (.int .i64 (-1))) from ⟨g1, by rw [hd]; exact (K1.out.put1 L1.out.2 (by rw [HB5.out]; exact Nat.le_refl _) _).put1 L1.out.2 (by rw [HB5.out]; exact Nat.le_refl _) _⟩)
    have HF := hid (And.intro hf hd)
    have h1 : (150 : Int) < (xs.length : Int) := by omega
    have HC := hid (fault_cells L1.out 14 (-1))
    clear hf hd h150
    go_wp2
    generalize (w1.setCell ⟨b5, 0, none⟩ (.int .i64 14)).setCell ⟨b5, 1, none⟩ (.int .i64 (-1)) = w5 at HP HC ⊢
    have c0' := HC.out.1
    have c1' := HC.out.2
    refine bodyPost_ret (v := .tuple #[.string ⟨#[]⟩, .agg #[.int .i64 14, .int .i64 (-1)]]) (by simp [results, Tryz.results8, go_sem, c0', c1']) rfl ?_
    exact ⟨by rw [HF.out.1, HF.out.2], by rw [HF.out.2]; exact HG.out, by rw [HF.out.2]; exact Nat.zero_le _, HP.out⟩
  · have HH := hid h150
    have hle : xs.length ≤ 150 := by omega
    have hle2 : (xs.length : Int) ≤ 150 := by omega
    clear h150
    go_wp2
    go_loopw [16] (fun i wr => ∃ k : Nat, k ≤ xs.length ∧ i = .int .i64 k ∧ Hid (∀ j, j < k → ∀ hl : j < xs.length, nlD xs[j].data.toList = false) ∧ Hid (Below w1.heap.size w1 wr)) (fun i _ => xs.length - (intOf i).toNat)
    case atStart => exact ⟨0, Nat.zero_le _, rfl, hid (fun j hj => absurd hj (by omega)), hid (Below.refl _ _)⟩
    case round =>
      obtain ⟨k, hk, rfl, HN, HB⟩ := hrel
      by_cases hlt : k < xs.length
      · obtain ⟨b, o, rfl, c0⟩ := (A1.out.below HB.out).get hlt
        have hki : (k : Int) < (xs.length : Int) := by omega
        have hk0 : (0 : Int) ≤ (k : Int) := by omega
        have CT := hid (show Calls Tryz.prog 13 #[.string xs[k], .string ⟨#[10]⟩] wr (fun e w' => e = .returned (.bool (nlD xs[k].data.toList)) ∧ w' = wr) from by rw [← nl_index]; exact Tryz.strings_Contains_one xs[k] 10 wr)
        cases hb : nlD xs[k].data.toList with
        | false =>
          rw [hb] at CT
          have HB1 := hid hb
          clear hb
          go_wp2_with fail
          refine CT.out.mono ?_
          rintro e w2 ⟨rfl, hw2⟩
          rw [hw2]
          clear hw2
          go_wp2
          go_roundw
          case rel => exact ⟨k + 1, by omega, by go_num, hid (fun j hj hl => by
            rcases Nat.lt_or_ge j k with h' | h'
            · exact HN.out j h' hl
            · obtain rfl : j = k := by omega
              exact HB1.out), HB⟩
          case measure => simp [intOf]; omega
        | true =>
          rw [hb] at CT
          have hf : faultD (xs.map (·.data.toList)) = (15, (k : Int)) := faultD_line (by rw [List.length_map]; exact HH.out) k (by rw [List.length_map]; exact hlt) (fun j hj => by rw [List.getElem_map]; exact HN.out j hj (by omega)) (by rw [List.getElem_map]; exact hb)
          have hd : doD H (xs.map (·.data.toList)) = ([], H) := doD_fault (by rw [hf]; simp)
          have L2 := L1.out.below HB.out
          have c0' : wr.cell? ⟨b5, 0, none⟩ = some (.int .i64 0) := L2.1.cell 0
          have c1' : wr.cell? ⟨b5, 1, none⟩ = some (.int .i64 0) := L2.1.cell 1
          have f0' : wr.frozen? ⟨b5, 0, none⟩ = false := L2.1.free 0
          have f1' : wr.frozen? ⟨b5, 1, none⟩ = false := L2.1.free 1
          have HP := hid (show ∃ g', DkIdle w g p d h (doD H (xs.map (·.data.toList))).2 g' ((wr.setCell ⟨b5, 0, none⟩ (.int .i64 15)).setCell ⟨b5, 1, none⟩ (.int .i64 k)) from ⟨g1, by rw [hd]; exact ((K1.out.below HB.out).put1 L2.2 (by rw [HB5.out]; exact Nat.le_refl _) _).put1 L2.2 (by rw [HB5.out]; exact Nat.le_refl _) _⟩)
          have HF := hid (And.intro hf hd)
          have HC := hid (fault_cells L2 15 k)
          clear hb hf hd L2
          go_wp2_with fail
          refine CT.out.mono ?_
          rintro e w2 ⟨rfl, hw2⟩
          rw [hw2]
          clear hw2
          go_wp2
          generalize (wr.setCell ⟨b5, 0, none⟩ (.int .i64 15)).setCell ⟨b5, 1, none⟩ (.int .i64 k) = w5 at HP HC ⊢
          have c0' := HC.out.1
          have c1' := HC.out.2
          refine bodyPost_ret (v := .tuple #[.string ⟨#[]⟩, .agg #[.int .i64 15, .int .i64 k]]) (by simp [results, Tryz.results8, go_sem, c0', c1']) rfl ?_
          exact ⟨by rw [HF.out.1, HF.out.2], by rw [HF.out.2]; exact HG.out, by rw [HF.out.2]; exact Nat.zero_le _, HP.out⟩
      · obtain rfl : k = xs.length := by omega
        have HF := hid (show faultD (xs.map (·.data.toList)) = (0, 0) from faultD_fine (by rw [List.length_map]; exact HH.out) (fun j hj => by rw [List.getElem_map]; exact HN.out j (by simpa using hj) (by simpa using hj)))
        have HD := hid (doD_fine (H := H) HF.out)
        have KR := hid (K1.out.below HB.out)
        have LR := hid (L1.out.below HB.out)
        have AR := hid (A1.out.below HB.out)
        clear HN c50 c51 f50 f51 K1 A1 L1 hlt
        obtain ⟨a0, v, hL⟩ := KR.out.loc
        have CR := hid (desk_Reset g1 p d h a0 v wr hL)
        clear hL
        go_wp2_with fail
        refine CR.out.mono ?_
        rintro e w2 ⟨rfl, hD2, hE2⟩
        have K2 := hid (show DkWide w g p d h [] H g1 w2 from ⟨hD2, KR.out.hall.frame hE2 (by omega), KR.out.glob.frame hE2 (by omega), KR.out.evo.trans (hE2.wide (by omega) (by omega))⟩)
        have L2 := hid (LR.out.frame hE2 (by omega))
        have A2 := hid (AR.out.evo hE2 (by omega))
        clear hD2 hE2 CR KR LR AR HB
        go_wp2
        go_loopw [32] (fun i wr => ∃ (k : Nat) (g2 : Nat → Nat), k ≤ xs.length ∧ i = .int .i64 k ∧ Hid (DkWide w g p d h (linesD ([], H) ((xs.map (·.data.toList)).take k)).1 (linesD ([], H) ((xs.map (·.data.toList)).take k)).2 g2 wr) ∧ Hid (GoodD (linesD ([], H) ((xs.map (·.data.toList)).take k)).2) ∧ Hid (LinesAt wr g2 a xs) ∧ Hid (LocC wr g2 (p + 21) b5 31 [.int .i64 0, .int .i64 0]) ∧ Hid ((linesD ([], H) ((xs.map (·.data.toList)).take k)).1.length ≤ 701 * k)) (fun i _ => xs.length - (intOf i).toNat)
        case atStart => exact ⟨0, g1, Nat.zero_le _, rfl, K2, HG, A2, L2, hid (Nat.zero_le _)⟩
        case round =>
          clear K2 A2 L2
          obtain ⟨k, g2, hk, rfl, K3, G3, A3, L3, T3⟩ := hrel
          by_cases hlt : k < xs.length
          · obtain ⟨b, o, rfl, c0⟩ := A3.out.get hlt
            have hki : (k : Int) < (xs.length : Int) := by omega
            have hk0 : (0 : Int) ≤ (k : Int) := by omega
            have TK := hid (show (xs.map (·.data.toList)).take (k + 1) = (xs.map (·.data.toList)).take k ++ [xs[k].data.toList] from by
              rw [List.take_succ_eq_append_getElem (by simpa using hlt), List.getElem_map])
            have hsz := HS.out xs[k] (List.getElem_mem _)
            generalize xs[k] = s at *
            generalize hr : linesD ([], H) ((xs.map (·.data.toList)).take k) = r at *
            obtain ⟨t, H1⟩ := r
            have HR := hid hr
            clear hr
            simp only at K3 G3 T3
            have hok := K3.out.hall.oks
            have hO := fun x => G3.out.evok K3.out.hall x
            have i1 := i64_last hok.2.1
            have i2 := i64_first hok.2.1
            have i3 := i64_least hok.2.1 G3.out.begs
            have CL := hid (desk_line g2 p d h t H1 wr hp ⟨K3.out.desk, K3.out.hall, K3.out.glob, Evo.refl _ _ _ _⟩ hO i1 i2 i3 (by have := T3.out; omega) s hsz)
            have HGN := hid (lineD_good G3.out hok.1 hok.2.1 hok.2.2 s.data.toList)
            have HLN := hid (lineD_le hO i1 i2 i3 s.data.toList)
            clear hok hO i1 i2 i3 hsz
            go_wp2_with fail
            refine CL.out.mono ?_
            rintro e w3 ⟨rfl, g3, hk3⟩
            have K4 := hid (K3.out.trans hk3)
            have A4 := hid (A3.out.evo hk3.evo (by omega))
            have L4 := hid (L3.out.frame hk3.evo (by omega))
            clear hk3 CL K3 A3 L3 c0
            go_wp2
            go_roundw
            case rel =>
              refine ⟨k + 1, g3, by omega, by go_num, ?_⟩
              rw [TK.out, linesD_snoc, HR.out]
              exact ⟨K4, HGN, A4, L4, hid (by have := HLN.out; have := T3.out; simp only [List.length_append]; omega)⟩
            case measure => simp [intOf]; omega
          · obtain rfl : k = xs.length := by omega
            have e : (xs.map (·.data.toList)).take xs.length = xs.map (·.data.toList) := by rw [List.take_of_length_le (by simp)]
            rw [e, ← HD.out] at K3 G3 T3
            clear e hlt
            have CS := hid (desk_String g2 p d h _ wr K3.out.desk)
            go_wp2_with fail
            refine CS.out.mono ?_
            rintro e w3 ⟨rfl, a0, v, g3, hL3, hE3⟩
            have L4 := L3.out.frame hE3 (by omega)
            have c0' : w3.cell? ⟨b5, 0, none⟩ = some (.int .i64 0) := L4.1.cell 0
            have c1' : w3.cell? ⟨b5, 1, none⟩ = some (.int .i64 0) := L4.1.cell 1
            have f0' : w3.frozen? ⟨b5, 0, none⟩ = false := L4.1.free 0
            have f1' : w3.frozen? ⟨b5, 1, none⟩ = false := L4.1.free 1
            have K4 : DkIdle w g p d h (doD H (xs.map (·.data.toList))).2 g3 w3 := ⟨⟨a0, v, hL3⟩, K3.out.hall.frame hE3 (by omega), K3.out.glob.frame hE3 (by omega), K3.out.evo.trans (hE3.wide (by omega) (by omega))⟩
            have HP := hid (show DkIdle w g p d h (doD H (xs.map (·.data.toList))).2 g3 ((w3.setCell ⟨b5, 0, none⟩ (.int .i64 0)).setCell ⟨b5, 1, none⟩ (.int .i64 0)) from (K4.put1 L4.2 (by rw [HB5.out]; exact Nat.le_refl _) _).put1 L4.2 (by rw [HB5.out]; exact Nat.le_refl _) _)
            have HC := hid (fault_cells L4 0 0)
            clear hL3 hE3 L4 K4 CS
            go_wp2
            generalize (w3.setCell ⟨b5, 0, none⟩ (.int .i64 0)).setCell ⟨b5, 1, none⟩ (.int .i64 0) = w5 at HP HC ⊢
            have c0' := HC.out.1
            have c1' := HC.out.2
            refine bodyPost_ret (v := .tuple #[.string ⟨(doD H (xs.map (·.data.toList))).1.toArray⟩, .agg #[.int .i64 0, .int .i64 0]]) (by simp [results, Tryz.results8, go_sem, c0', c1']) rfl ?_
            exact ⟨by rw [HF.out], G3.out, by have := T3.out; omega, g3, HP.out⟩

end Go.Proofs.YtoiobhcgpajogaaGreatDoor

/- A desk: the walks of New, slow; the law deskBegun. -/
namespace Go.Proofs.YtoiobhcgpajogaaGreatDoor
open Go.RowKit

theorem GoodD.new : GoodD Ht.new := ⟨new_small, Vt.new_sound, BegsH.start⟩

def NewPostD (g : Nat → Nat) (p : Nat) (w : World) (e : Ending) (w' : World) : Prop :=
  ∃ d h g', e = .returned (.pointer (some ⟨d, 0, none⟩)) ∧ Evo 0 0 g g' w w' ∧ w.heap.size ≤ d ∧ DkIdle w' g' p d h Ht.new g' w'

set_option maxHeartbeats 2000000 in
theorem desk_New (g : Nat → Nat) (p : Nat) (w : World) (hG : GlobC w g) :
    Calls Tryz.prog 6 #[] w (NewPostD g p w) := by
  have HG := hid hG
  clear hG
  have CN := hid (hall_New g (p + 2) w)
  go_enter Tryz.func6, Tryz.ntmps6
  go_wp2_with fail
  refine CN.out.mono ?_
  rintro e w1 ⟨h, g1, rfl, hE, hh, hH⟩
  have E2 := Evo.alloc g1 p w1 (.cells #[.pointer none, .slice none 0 0, .pointer (some ⟨h, 0, none⟩)] 44)
  have HP := hid (show NewPostD g p w (.returned (.pointer (some ⟨w1.heap.size, 0, none⟩))) (w1.alloc (.cells #[.pointer none, .slice none 0 0, .pointer (some ⟨h, 0, none⟩)] 44)) from
    ⟨w1.heap.size, h, _, rfl, hE.trans E2, hE.size, ⟨⟨_, _, LocC.new g1 p w1 44 [.pointer none, .slice none 0 0, .pointer (some ⟨h, 0, none⟩)]⟩, hH.frame E2 (by omega), HG.out.frame (hE.trans E2) (by omega), Evo.refl _ _ _ _⟩⟩)
  clear hE hh hH E2 CN
  go_wp2
  go_ret
  exact HP.out

set_option maxHeartbeats 2000000 in
theorem law_slow (g : Nat → Nat) (a : Option Addr) (cap : Nat) (xs : List ByteArray) (w : World) (hA : LinesAt w g a xs) (hn : xs.length ≤ maxLen) (hx : ∀ x ∈ xs, x.size ≤ 140737488355328) :
    Calls Tryz.prog 5 #[.slice a xs.length cap] w fun e w' => Below w.heap.size w w' ∧ ∃ b, e = .returned (.bool b) ∧ (b = false → ∀ x ∈ xs, x.size ≤ 9000) := by
  unfold maxLen at hn
  have HA := hid hA
  have HX := hid hx
  clear hA hx
  have hni : (xs.length : Int) ≤ 9223372036854775807 := by omega
  go_enter Tryz.func5, Tryz.ntmps5
  go_wp2
  go_loopw [3, 4] (fun n i wr => ∃ k m : Nat, k ≤ xs.length ∧ i = .int .i64 k ∧ n = .int .i64 m ∧ m ≤ 9000 ∧ Hid (∀ j, j < k → ∀ hl : j < xs.length, xs[j].size ≤ 9000) ∧ Hid (Below w.heap.size w wr)) (fun _ i _ => xs.length - (intOf i).toNat)
  case atStart => exact ⟨0, 0, Nat.zero_le _, rfl, rfl, by omega, hid (fun j hj => absurd hj (by omega)), hid (Below.refl _ _)⟩
  case round =>
    obtain ⟨k, m, hk, rfl, rfl, hm, HN, HB⟩ := hrel
    by_cases hlt : k < xs.length
    · obtain ⟨b, o, rfl, c0⟩ := (HA.out.below HB.out).get hlt
      have hki : (k : Int) < (xs.length : Int) := by omega
      have hk0 : (0 : Int) ≤ (k : Int) := by omega
      have hs := HX.out xs[k] (List.getElem_mem _)
      have HSZ := hid (show ∀ j, j < k + 1 → xs[k].size ≤ 9000 → ∀ hl : j < xs.length, xs[j].size ≤ 9000 from fun j hj h9 hl => by
        rcases Nat.lt_or_ge j k with h' | h'
        · exact HN.out j h' hl
        · obtain rfl : j = k := by omega
          exact h9)
      generalize xs[k] = s at *
      have hsi : (s.size : Int) ≤ 140737488355328 := by omega
      have hmi : (m : Int) ≤ 9000 := by omega
      by_cases h9 : m + s.size ≤ 9000
      · have hq : ¬ (9000 : Int) < (m : Int) + (s.size : Int) := by omega
        go_wp2
        go_roundw
        case rel => exact ⟨k + 1, m + s.size, by omega, by go_num, by go_num, h9, hid (fun j hj hl => HSZ.out j hj (by omega) hl), HB⟩
        case measure => simp [intOf]; omega
      · have hq : (9000 : Int) < (m : Int) + (s.size : Int) := by omega
        go_wp2
        go_ret
        exact ⟨HB.out, true, rfl, nofun⟩
    · obtain rfl : k = xs.length := by omega
      go_wp2
      go_ret
      refine ⟨HB.out, false, rfl, fun _ x hx => ?_⟩
      obtain ⟨j, hj, rfl⟩ := List.getElem_of_mem hx
      exact HN.out j hj hj

def begunL : List (List UInt8) := [[115, 104, 111, 116, 32, 48], [112, 117, 116, 32, 48, 32, 49, 32, 61, 97, 92, 50, 48, 98], [103, 101, 116, 32, 48, 32, 49], [99, 111, 109, 109, 105, 116, 32, 48], [108, 111, 111, 107, 32, 49, 32, 48], [103, 101, 116, 32, 49, 32, 49], [108, 105, 115, 116, 32, 49, 32, 48, 32, 55], [115, 117, 114, 101, 32, 50], [108, 105, 115, 116, 32, 50, 32, 48, 32, 55], [108, 97, 115, 116], [120]]
def begunT : List UInt8 := [111, 107, 10, 111, 107, 10, 104, 97, 115, 32, 61, 97, 92, 50, 48, 98, 10, 111, 107, 32, 49, 10, 111, 107, 10, 104, 97, 115, 32, 45, 10, 97, 108, 108, 10, 111, 107, 10, 97, 108, 108, 32, 49, 61, 97, 92, 50, 48, 98, 10, 108, 97, 115, 116, 32, 49, 32, 48, 32, 48, 10, 119, 104, 97, 116, 10]

theorem begun_fault : faultD begunL = (0, 0) := by decide +kernel
theorem begun_told : (linesD ([], Ht.new) begunL).1 = begunT := by decide +kernel
def begunB : List ByteArray := [⟨#[115, 104, 111, 116, 32, 48]⟩, ⟨#[112, 117, 116, 32, 48, 32, 49, 32, 61, 97, 92, 50, 48, 98]⟩, ⟨#[103, 101, 116, 32, 48, 32, 49]⟩, ⟨#[99, 111, 109, 109, 105, 116, 32, 48]⟩, ⟨#[108, 111, 111, 107, 32, 49, 32, 48]⟩, ⟨#[103, 101, 116, 32, 49, 32, 49]⟩, ⟨#[108, 105, 115, 116, 32, 49, 32, 48, 32, 55]⟩, ⟨#[115, 117, 114, 101, 32, 50]⟩, ⟨#[108, 105, 115, 116, 32, 50, 32, 48, 32, 55]⟩, ⟨#[108, 97, 115, 116]⟩, ⟨#[120]⟩]
theorem begunB_eq : begunB.map (·.data.toList) = begunL := by decide +kernel
theorem begun_doD : (doD Ht.new (begunB.map (·.data.toList))).1 = begunT := by rw [begunB_eq, doD_fine begun_fault, begun_told]

theorem Evo.none0 {H : Nat} {g : Nat → Nat} {w w' : World} (h : Evo 1 H (fun _ => 0) g w w') : Below w.heap.size w w' :=
  ⟨h.os, h.tape, h.output, h.size, fun k hk => h.same k hk (fun ⟨h1, _⟩ => absurd h1 (Nat.not_succ_le_zero 0))⟩

set_option maxHeartbeats 4000000 in
set_option maxRecDepth 100000 in
theorem law_begun (w : World) (hG : GlobC w (fun _ => 0)) :
    Calls Tryz.prog 4 #[] w fun e w' => e = .returned (.bool true) ∧ Below w.heap.size w w' := by
  have CN := hid (desk_New (fun _ => 0) 1 w hG)
  clear hG
  go_enter Tryz.func4, Tryz.ntmps4
  go_wp2_with fail
  refine CN.out.mono ?_
  rintro e w1 ⟨d, h, g1, rfl, hE, hd, hK⟩
  have E2 := Evo.alloc g1 0 w1 (.cells (begunB.map Value.string).toArray 9)
  have K2 := hid (hK.fresh E2)
  have A2 : LinesAt (w1.alloc (.cells (begunB.map Value.string).toArray 9)) (extc g1 w1 0) (some ⟨w1.heap.size, 0, none⟩) begunB := .inr ⟨_, 0, rfl, by rw [World.size_alloc]; omega, extc_new (Nat.le_refl _), cells_strs w1 begunB 9⟩
  have CD := hid (desk_Do (extc g1 w1 0) 1 d h Ht.new _ (by omega) (K2.out.self) GoodD.new (some ⟨w1.heap.size, 0, none⟩) 11 begunB A2 (by decide +kernel) (by decide))
  have HE := hid (hE.trans E2)
  clear hE hK E2 A2 CN
  go_wp2_with fail
  refine CD.out.mono ?_
  rintro e w3 ⟨rfl, -, -, g3, hK3⟩
  rw [begun_doD, begunB_eq, begun_fault]
  have HB := hid ((((HE.out.none (lo' := 1) (hi' := 22) (by omega)).trans hK3.evo).none0))
  clear hK3 CD HE K2
  go_wp2
  go_ret
  exact ⟨rfl, by
    have hb := HB.out
    repeat' first | exact hb | refine Below.setCell ?_ ?_ _ | refine Below.alloc ?_ ?_ _ | refine Below.drew ?_ | exact hb.size⟩

end Go.Proofs.YtoiobhcgpajogaaGreatDoor
