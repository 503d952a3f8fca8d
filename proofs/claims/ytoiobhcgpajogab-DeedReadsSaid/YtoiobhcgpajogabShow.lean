/- The walk of sheet: what all keys had behind a commit. -/
import Derived.Test.YtoiobhcgpajogabVals
namespace Go.Proofs.Ytoiobhcgpajogab
open Go.RowKit

/-- Up to n as f says, and nothing from there on. -/
def cutV (f : Nat → Val) (n : Nat) : Nat → Val := fun k => if k < n then f k else Val.zero

theorem cutV_upd (f : Nat → Val) (n : Nat) : upd (cutV f n) n (f n) = cutV f (n + 1) := by
  funext k
  unfold cutV upd
  by_cases e : k = n
  · subst e; simp
  · by_cases h : k < n
    · simp [e, h, show k < n + 1 by omega]
    · simp [e, h, show ¬ k < n + 1 by omega]

theorem sheetT_stop {T : Tab} {a : Int} {k : Nat} (hk : k < 8) (h : codesT T a k = true) (hc : (readT T k a).2 ≠ 0) : sheetT T a = cutV (fun j => (readT T j a).1) k ∧ codesT T a 8 = false := by
  have h1 : ∀ j, k + 1 ≤ j → codesT T a j = false := by
    intro j hj
    induction j with
    | zero => omega
    | succ j ih =>
      rw [codesT_succ]
      by_cases e : j = k
      · subst e; simp [hc]
      · rw [ih (by omega)]; rfl
  have h2 : ∀ j, j ≤ k → codesT T a j = true := by
    intro j hj
    unfold codesT at *
    rw [List.all_eq_true] at *
    intro i hi
    exact h i (by simp at *; omega)
  refine ⟨funext fun j => ?_, h1 8 (by omega)⟩
  unfold sheetT cutV
  by_cases e : j < k
  · rw [if_pos e, if_pos ⟨by omega, h2 _ (by omega)⟩]
  · rw [if_neg e, if_neg]
    rintro ⟨-, h3⟩
    rw [h1 _ (by omega)] at h3
    cases h3

theorem sheetT_end {T : Tab} {a : Int} (h : codesT T a 8 = true) : sheetT T a = cutV (fun j => (readT T j a).1) 8 := by
  funext j
  unfold sheetT cutV
  by_cases e : j < 8
  · rw [if_pos e, if_pos ⟨e, codesT_mono h (by omega)⟩]
  · rw [if_neg e, if_neg (by omega)]

def SheetPost (f : Nat → Val) (ok : Bool) (w : World) (e : Ending) (w' : World) : Prop :=
  e = .returned (.tuple #[.agg (vals8 f).toArray, .bool ok]) ∧ Below w.heap.size w w'

theorem Loc.set2 {w : World} {b : Nat} {T : TypeId} {f : Nat → Val} {n : Nat} (h : Loc w b T (vals8 f)) (hn : n < 8) (v : Val) : Loc ((w.setCell ⟨b, n * 2, none⟩ (.bool v.there)).setCell ⟨b, n * 2 + 1, none⟩ (.string v.bytes)) b T (vals8 (upd f n v)) := by
  have := (h.set (n * 2) (.bool v.there)).set (n * 2 + 1) (.string v.bytes)
  rwa [vals8_upd f n hn v] at this

set_option maxHeartbeats 4000000 in
set_option maxRecDepth 100000 in
theorem law_sheet (g : Nat → Nat) (p t : Nat) (T : Tab) (w : World) (a : Int) (hT : TableAt w g p t T) :
    Calls Try.prog 18 #[.pointer (some ⟨t, 0, none⟩), .int .i64 a] w (SheetPost (sheetT T a) (codesT T a 8) w) := by
  have HT := hid hT
  clear hT
  have F : ∀ f ok, sheetT T a = f → codesT T a 8 = ok → ∀ w', Below w.heap.size w w' → SheetPost (sheetT T a) (codesT T a 8) w (.returned (.tuple #[.agg (vals8 f).toArray, .bool ok])) w' := by
    rintro f ok rfl rfl w' hb
    exact ⟨rfl, hb⟩
  have HF := hid F
  clear F
  generalize hrt : (fun j : Nat => (readT T j a).1) = rt
  have HRT := hid (fun j : Nat => (congrFun hrt j : (readT T j a).1 = rt j))
  have SST := hid (fun (k : Nat) (hk : k < 8) (h : codesT T a k = true) (hc : (readT T k a).2 ≠ 0) => (hrt ▸ sheetT_stop hk h hc : sheetT T a = cutV rt k ∧ codesT T a 8 = false))
  have SEN := hid (fun (h : codesT T a 8 = true) => (hrt ▸ sheetT_end h : sheetT T a = cutV rt 8))
  clear hrt
  go_enter Try.func18, Try.ntmps18
  go_wp2
  have L0 := hid ((Loc.new w 34 (vals8 (cutV rt 0))).alloc (.cells (vals8 (cutV rt 0)).toArray 34))
  have M0 := hid (Loc.at (n := w.heap.size + 1) (w.alloc (.cells (vals8 (cutV rt 0)).toArray 34)) 34 (vals8 (cutV rt 0)) (by simp))
  have B0 := hid ((((Below.refl w.heap.size w).alloc (Nat.le_refl _) (.cells (vals8 (cutV rt 0)).toArray 34)).alloc (by simp) (.cells (vals8 (cutV rt 0)).toArray 34)))
  go_loopw [7] (fun i wr => ∃ k : Nat, k ≤ 8 ∧ i = .int .i64 k ∧ Hid (codesT T a k = true) ∧ Hid (Loc wr w.heap.size 34 (vals8 (cutV rt 0))) ∧ Hid (Loc wr (w.heap.size + 1) 34 (vals8 (cutV rt k))) ∧ Hid (Below w.heap.size w wr)) (fun i _ => 8 - (intOf i).toNat)
  case atStart => exact ⟨0, by omega, rfl, hid rfl, L0, M0, B0⟩
  case round =>
    obtain ⟨k, hk, rfl, HCo, L, M, B⟩ := hrel
    clear L0 M0 B0
    by_cases hlt : k < 8
    · have hki : (k : Int) < 8 := by omega
      have hk0 : (0 : Int) ≤ (k : Int) := by omega
      go_wp2_with fail
      (with_reducible refine (table_Read g p t T wr k a (HT.out.below B.out)).mono ?_)
      rintro e w1 ⟨rfl, hb⟩
      have L1 := hid (L.out.keep hb)
      have M1 := hid (M.out.keep hb)
      have B1 := hid (B.out.trans (hb.mono B.out.size))
      clear hb L M B
      have hry := HRT.out k
      have hst := SST.out k hlt HCo.out
      have hsu := codesT_succ T a k
      generalize readT T k a = y at *
      have HRY := hid hry
      have HST := hid hst
      have HSU := hid hsu
      clear hry hst hsu
      by_cases hc : y.2 = 0
      · rw [hc]
        have HC2 : Hid (codesT T a (k + 1) = true) := hid (by rw [HSU.out, HCo.out, hc]; rfl)
        clear hc HST
        go_upto_region 8 with (fail)
        have L2 := hid (L1.out.alloc (.cells #[.bool y.1.there, .string y.1.bytes] 32))
        have M2 := hid (M1.out.alloc (.cells #[.bool y.1.there, .string y.1.bytes] 32))
        have N2 := hid (Loc.new w1 32 [.bool y.1.there, .string y.1.bytes])
        have B2 := hid (B1.out.alloc B1.out.size (.cells #[.bool y.1.there, .string y.1.bytes] 32))
        generalize w1.alloc (.cells #[.bool y.1.there, .string y.1.bytes] 32) = w2 at *
        obtain ⟨n1, n2, -⟩ := N2.out.two
        have r1 := M2.out.free (k * 2)
        have r2 := M2.out.free (k * 2 + 1)
        have m1 := (M2.out.cell (k * 2)).trans (vals8_get _ k hlt).1
        have m2 := (M2.out.cell (k * 2 + 1)).trans (vals8_get _ k hlt).2
        go_wp2
        go_roundw
        case rel =>
          refine ⟨k + 1, by omega, by go_num, HC2, hid ((L2.out.other (by simp) _).other (by simp) _), hid ?_, hid ?_⟩
          · have := M2.out.set2 hlt y.1
            rw [HRY.out, cutV_upd] at this
            rw [HRY.out]
            exact this
          · exact (B2.out.setCell (by simp) _).setCell (by simp) _
        case measure => simp [intOf]; omega
      · have hc' : (y.2 != 0) = true := by simpa using hc
        have HS := hid (HST.out hc)
        clear hc HST
        go_upto_region 7 with (fail)
        have L2 := hid (L1.out.alloc (.cells #[.bool y.1.there, .string y.1.bytes] 32))
        have M2 := hid (M1.out.alloc (.cells #[.bool y.1.there, .string y.1.bytes] 32))
        have B2 := hid (B1.out.alloc B1.out.size (.cells #[.bool y.1.there, .string y.1.bytes] 32))
        generalize w1.alloc (.cells #[.bool y.1.there, .string y.1.bytes] 32) = w2 at *
        go_wp2_with (first
          | refine wpList_load_mid rfl 34 (.tmp 6) rfl (w.heap.size + 1) 0 rfl (vals8 (cutV rt k)) _ M2.out.range Try.underlying34 rfl Try.infoWorld ?_
          | (refine wpList_store_mid rfl 34 (.tmp 4) (.tmp 23) rfl w.heap.size 0 (vals8 (cutV rt k)).toArray rfl rfl (L2.out.there8 _) Try.infoWorld (vals8_one _) ?_
             have L3 := hid (L2.out.setAll (vs := (vals8 (cutV rt k)).toArray.toList) rfl)
             have B3 := hid (Below.setCells' (Nat.le_refl _) (vals8 (cutV rt k)).toArray.toList 0 B2.out)
             generalize w2.setCells w.heap.size 0 (vals8 (cutV rt k)).toArray.toList = w3 at *))
        have hr := run_loadVar_mid (P := Try.prog) w3 w.heap.size 0 34 (vals8 (cutV rt k)) _ L3.out.range Try.underlying34 rfl Try.infoWorld
        refine bodyPost_ret (v := .tuple #[.agg (vals8 (cutV rt k)).toArray, .bool false]) (by simp [results, Try.results18, asAddr, hr]) rfl ?_
        exact HF.out _ _ HS.out.1 HS.out.2 _ B3.out
    · obtain rfl : k = 8 := by omega
      have S1 := hid (SEN.out HCo.out)
      go_wp2_with (first
        | refine wpList_load_mid rfl 34 (.tmp 6) rfl (w.heap.size + 1) 0 rfl (vals8 (cutV rt 8)) _ M.out.range Try.underlying34 rfl Try.infoWorld ?_
        | (refine wpList_store_mid rfl 34 (.tmp 4) (.tmp 27) rfl w.heap.size 0 (vals8 (cutV rt 8)).toArray rfl rfl (L.out.there8 _) Try.infoWorld (vals8_one _) ?_
           have L3 := hid (L.out.setAll (vs := (vals8 (cutV rt 8)).toArray.toList) rfl)
           have B3 := hid (Below.setCells' (Nat.le_refl _) (vals8 (cutV rt 8)).toArray.toList 0 B.out)
           generalize wr.setCells w.heap.size 0 (vals8 (cutV rt 8)).toArray.toList = w3 at *))
      have hr := run_loadVar_mid (P := Try.prog) w3 w.heap.size 0 34 (vals8 (cutV rt 8)) _ L3.out.range Try.underlying34 rfl Try.infoWorld
      refine bodyPost_ret (v := .tuple #[.agg (vals8 (cutV rt 8)).toArray, .bool true]) (by simp [results, Try.results18, asAddr, hr]) rfl ?_
      exact HF.out _ _ S1.out HCo.out _ B3.out

end Go.Proofs.Ytoiobhcgpajogab
