/- The walk of the document's table of a log's bytes (SheetOf). -/
import Derived.Test.YtoiobhcgpajogabGreatDoorLog1
import Derived.Test.YtoiobhcgpajogabGreatDoorTab1
import Derived.Test.YtoiobhcgpajogabGreatDoorKit
import Derived.Test.YtoiobhcgpajogabGreatDoorCodec7
namespace Go.Proofs.YtoiobhcgpajogabGreatDoor
open Go.RowKit
set_option maxHeartbeats 4000000 in
set_option maxRecDepth 100000 in
theorem log_Table0 (b off cap : Nat) (l : List UInt8) (w : World) (hn : l.length ≤ 1000000) (h : BytesIn w (some ⟨b, off, none⟩) cap l) :
    Calls Tryz.prog 90 #[.slice (some ⟨b, off, none⟩) l.length cap] w (LTabPost (tabOf l) w) := by
  have HX := hid h
  have hcap := h.1
  clear h
  go_enter Tryz.func90, Tryz.ntmps90
  go_wp2_with fail
  refine (table_New (fun _ => 0) 1 w).mono ?_
  rintro e w1 ⟨t, g1, rfl, hE1, -, hT1⟩
  have B1 := hid ((Base.start w).step hE1 (by omega))
  have T1 := hid hT1
  clear hE1 hT1
  go_wp2_with fail
  go_loopw [5] (fun i wr => ∃ (k : Nat) (g : Nat → Nat) (T : Tab), k ≤ l.length ∧ i = .int .i64 k ∧ Hid (tabOf l = ((tabGo (41 - T.last) T (l.drop k)).1, k + (tabGo (41 - T.last) T (l.drop k)).2)) ∧ Hid (Base w.heap.size w g wr) ∧ Hid (TableAt wr g 1 t T)) (fun i _ => l.length - (intOf i).toNat)
  case atStart => exact ⟨0, g1, Tab.new, Nat.zero_le _, rfl, hid (by simp [tabOf, Tab.new]), B1, T1⟩
  case round =>
    obtain ⟨k, g, T, hk, rfl, HR, B, HT⟩ := hrel
    clear B1 T1
    have hki : (k : Int) ≤ (l.length : Int) := by omega
    have hkc : (k : Int) ≤ (cap : Int) := by omega
    have hk0 : (0 : Int) ≤ (k : Int) := by omega
    have hlc : (l.length : Int) ≤ (cap : Int) := by omega
    have h40 := HT.out.1.2
    have hdec : ∀ a', (k ≠ cap → a' = some ⟨b, off + k, none⟩) → Calls Tryz.prog 107 #[.slice a' (l.length - k) (cap - k)] wr (DecPost2 (decL (l.drop k)) wr) := by
      intro a' ha
      have := codec_Decode2 a' (cap - k) (l.drop k) wr (by rw [List.length_drop]; omega) ⟨by rw [List.length_drop]; omega, ?_⟩
      · rw [List.length_drop] at this; exact this
      · by_cases e : k = cap
        · left
          have : l.drop k = [] := List.drop_eq_nil_of_le (by omega)
          rw [this]; rfl
        · rw [ha e]
          rcases HX.out.2 with h | ⟨b', off', e', h⟩
          · left
            rw [Lib.byteCells, List.map_drop]
            have h' : l.map (fun c => Value.int .u8 c.toNat) = [] := h
            rw [h']; simp
          · cases e'
            refine .inr ⟨b, off + k, rfl, fun j u hu => ?_⟩
            rw [Lib.byteCells, List.map_drop, List.getElem?_drop] at hu
            have := h (k + j) u hu
            rw [show off + k + j = off + (k + j) by omega]
            exact (B.out.cell (p := ⟨b, off + (k + j), none⟩) (World.block_lt_of_cell? w _ this)).trans this
    have HD := hid hdec
    have hst1 := hid (fun h1 h2 => tabGo_step (T := T) (b := l.drop k) h40 h1 h2)
    have hst2 := hid (fun h => tabGo_stop (T := T) (b := l.drop k) h40 h)
    have hbd := hid (fun h => decL_bound (b := l.drop k) h)
    have hsz := hid (fun h => decL_size (b := l.drop k) h)
    have hdl : (l.drop k).length = l.length - k := List.length_drop ..
    have HDL := hid hdl
    clear hdec hdl
    by_cases hcap2 : k = cap
    case' pos =>
      subst hcap2
      have HD := hid (fun a' (ha : k ≠ k → a' = some ⟨b, off + k, none⟩) => (by have := HD.out a' ha; rw [show l.length - k = 0 by omega, Nat.sub_self] at this; exact this : Calls Tryz.prog 107 #[.slice a' 0 0] wr (DecPost2 (decL (l.drop k)) wr)))
    all_goals
      go_wp2_with fail
      (with_reducible refine (HD.out _ (by first | exact fun h => absurd rfl h | exact fun _ => rfl)).mono ?_)
      rintro e w2 ⟨a2, c2, rfl, hs2, hb2, hnew⟩
      have hE2 := Evo.of_below (lo := 0) (hi := 0) g 0 hb2
      have B2 := hid (B.out.step hE2 (by omega))
      have T2 := hid (HT.out.frame hE2 (by omega))
      have SC : Hid (SliceC w2 (extc g wr 0) 1 (1 + 9) a2 (encEnts (decL (l.drop k)).1)) := hid (by
        rcases hs2 with h | ⟨b', off', rfl, h⟩
        · exact .inl h
        · by_cases hne : encEnts (decL (l.drop k)).1 = []
          · exact .inl hne
          · have hlt : b' < w2.heap.size := by
              cases hq : encEnts (decL (l.drop k)).1 with
              | nil => exact absurd hq hne
              | cons u us => exact World.block_lt_of_cell? w2 _ (h 0 u (by rw [hq]; rfl))
            exact .inr ⟨b', off', rfl, hlt, .inl (by rw [extc_new (hnew _ rfl)]; omega), h⟩)
      generalize extc g wr 0 = g2 at *
      clear hs2 hb2 hnew hE2 HD
      generalize hx : decL (l.drop k) = x at *
      have HXE := hid hx
      clear hx
      by_cases hc : x.2.2 = 0
      · obtain ⟨n1, n2, n3, -, -⟩ := hbd.out hc
        obtain ⟨z1, z2⟩ := hsz.out hc
        rw [HDL.out] at n2
        have Z1 := hid z1
        have N3 := hid n3
        clear n3
        rw [hc]
        have HC := hid hc
        clear hc z1
        go_wp2_with fail
        (with_reducible refine (table_Write g2 1 t T a2 c2 x.1 w2 z2 Z1.out T2.out SC.out).mono ?_)
        rintro e w3 ⟨rfl, g3, hT3, hE3⟩
        have B3 := hid (B2.out.step hE3 (by omega))
        have T3 := hid hT3
        clear hT3 hE3
        have st1 := hid (hst1.out HC.out)
        have st2 := hid (fun h => hst2.out (.inr h))
        by_cases hcw : (writeT T x.1).1.2 = 0
        · rw [hcw]
          have ST := hid (st1.out hcw)
          rw [N3.out]
          generalize x.2.1.toNat = n at *
          clear st1 st2 hcw
          generalize (writeT T x.1).2 = TT at *
          generalize (writeT T x.1).1.1 = nn at *
          have hkn : (k : Int) + (n : Int) ≤ 1000000 := by omega
          go_wp2
          go_roundw
          case rel =>
            refine ⟨k + n, g3, TT, by omega, by go_num, hid ?_, B3, T3⟩
            rw [HR.out, ST.out, List.drop_drop]
            simp only [Prod.mk.injEq, true_and]
            omega
          case measure => simp [intOf]; omega
        · have hc' : ((writeT T x.1).1.2 != 0) = true := by simpa using hcw
          have ST := hid (st2.out hcw)
          have wb := hid (write_bad hcw)
          clear hcw
          generalize (writeT T x.1).1.2 = code at *
          generalize (writeT T x.1).1.1 = nn at *
          go_wp2
          go_ret2
          refine ⟨t, g3, ?_, B3.out.below, B3.out.zero, ?_⟩
          · rw [HR.out, ST.out]; rfl
          · rw [HR.out, ST.out]
            have := T3.out
            rw [wb.out.1] at this
            exact this
      · have hc' : (x.2.2 != 0) = true := by simpa using hc
        have ST := hid (hst2.out (.inl hc))
        clear hc
        generalize x.2.2 = code at *
        go_wp2
        go_ret2
        refine ⟨t, g2, ?_, B2.out.below, B2.out.zero, ?_⟩
        · rw [HR.out, ST.out]; rfl
        · rw [HR.out, ST.out]
          exact T2.out

theorem log_Table_empty (ad : Addr) (cap : Nat) (w : World) : Calls Tryz.prog 90 #[.slice (some ad) 0 cap] w (LTabPost (tabOf []) w) := by
  have HD := hid (fun W a' c => codec_Decode2 a' c [] W (by simp) ⟨Nat.zero_le _, .inl rfl⟩)
  have hc0 : (0 : Int) ≤ (cap : Int) := by omega
  have e : decL [] = ([], 0, 6) := rfl
  rw [e] at HD
  have et : tabOf [] = (Tab.new, 0) := rfl
  rw [et]
  go_enter Tryz.func90, Tryz.ntmps90
  go_wp2_with fail
  refine (table_New (fun _ => 0) 1 w).mono ?_
  rintro e w1 ⟨t, g1, rfl, hE1, -, hT1⟩
  have B1 := hid ((Base.start w).step hE1 (by omega))
  have T1 := hid hT1
  clear hE1 hT1
  go_wp2_with fail
  go_loopw [5] (fun i wr => i = .int .i64 0 ∧ wr = w1) (fun _ _ => 0)
  case atStart => exact ⟨rfl, rfl⟩
  case round =>
    obtain ⟨rfl, rfl⟩ := hrel
    go_wp2_with fail
    refine (HD.out _ _ _).mono ?_
    rintro e w2 ⟨a2, c2, rfl, -, hb2, -⟩
    have B2 := hid (B1.out.below' hb2)
    have T2 := hid (T1.out.below hb2)
    clear hb2
    go_wp2
    go_ret2
    exact ⟨t, g1, rfl, B2.out.below, B2.out.zero, T2.out⟩

theorem log_Table_none (cap : Nat) (w : World) : Calls Tryz.prog 90 #[.slice none 0 cap] w (LTabPost (tabOf []) w) := by
  have HD := hid (fun W a' c => codec_Decode2 a' c [] W (by simp) ⟨Nat.zero_le _, .inl rfl⟩)
  have hc0 : (0 : Int) ≤ (cap : Int) := by omega
  have e : decL [] = ([], 0, 6) := rfl
  rw [e] at HD
  have et : tabOf [] = (Tab.new, 0) := rfl
  rw [et]
  go_enter Tryz.func90, Tryz.ntmps90
  go_wp2_with fail
  refine (table_New (fun _ => 0) 1 w).mono ?_
  rintro e w1 ⟨t, g1, rfl, hE1, -, hT1⟩
  have B1 := hid ((Base.start w).step hE1 (by omega))
  have T1 := hid hT1
  clear hE1 hT1
  go_wp2_with fail
  go_loopw [5] (fun i wr => i = .int .i64 0 ∧ wr = w1) (fun _ _ => 0)
  case atStart => exact ⟨rfl, rfl⟩
  case round =>
    obtain ⟨rfl, rfl⟩ := hrel
    go_wp2_with fail
    refine (HD.out _ _ _).mono ?_
    rintro e w2 ⟨a2, c2, rfl, -, hb2, -⟩
    have B2 := hid (B1.out.below' hb2)
    have T2 := hid (T1.out.below hb2)
    clear hb2
    go_wp2
    go_ret2
    exact ⟨t, g1, rfl, B2.out.below, B2.out.zero, T2.out⟩

theorem log_TableA (a : Option Addr) (cap : Nat) (l : List UInt8) (w : World) (hn : l.length ≤ 1000000) (h : BytesIn w a cap l) :
    Calls Tryz.prog 90 #[.slice a l.length cap] w (LTabPost (tabOf l) w) := by
  cases a with
  | none =>
    rcases h.2 with h' | ⟨b, off, e, -⟩
    · obtain rfl : l = [] := by simpa [Lib.byteCells] using h'
      exact log_Table_none cap w
    · cases e
  | some ad =>
    rcases h.2 with h' | ⟨b, off, e, -⟩
    · obtain rfl : l = [] := by simpa [Lib.byteCells] using h'
      exact log_Table_empty ad cap w
    · cases e
      exact log_Table0 b off cap l w hn h

end Go.Proofs.YtoiobhcgpajogabGreatDoor
