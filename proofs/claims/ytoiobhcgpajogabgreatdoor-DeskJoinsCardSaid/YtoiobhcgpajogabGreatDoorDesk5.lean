/- A desk: the walks of word and numbers. -/
import Derived.Test.YtoiobhcgpajogabGreatDoorDesk4
import Derived.Lib.SmallJoins
namespace Go.Proofs.YtoiobhcgpajogabGreatDoor
open Go.RowKit

set_option maxHeartbeats 2000000 in
theorem desk_word (s : ByteArray) (w : World) :
    Calls Tryz.prog 38 #[.string s] w fun e w' => e = .returned (.tuple #[.int .i64 (wordD s.data.toList).1, .int .i64 ((wordD s.data.toList).2 : Nat)]) ∧ w = w' := by
  go_enter Tryz.func38, Tryz.ntmps38
  go_wp2
  all_goals
    go_ret2
    refine ⟨?_, rfl⟩
    simp only [toList_data] at *
    simp_all [wordD, b_get, b_drop, b_list, b_commit, b_abort, b_clear, b_crash, b_tear]

theorem numsD_cons (s : List UInt8) (l : List (List UInt8)) : numsD (s :: l) = match numD s with | none => none | some v => (numsD l).map (v :: ·) := rfl

theorem numsD_none : ∀ (l : List (List UInt8)) (s : List UInt8), s ∈ l → numD s = none → numsD l = none
  | [], _, h, _ => by cases h
  | y :: l, s, h, hs => by
    rw [numsD_cons]
    rcases List.mem_cons.1 h with rfl | h
    · rw [hs]
    · cases numD y with
      | none => rfl
      | some v => simp only; rw [numsD_none l s h hs]; rfl

theorem numsD_snoc : ∀ (l : List (List UInt8)) (s : List UInt8) (vs : List Int) (v : Int), numsD l = some vs → numD s = some v → numsD (l ++ [s]) = some (vs ++ [v])
  | [], s, vs, v, h, hs => by
    cases h
    show numsD [s] = _
    rw [numsD_cons, hs]
    rfl
  | y :: l, s, vs, v, h, hs => by
    rw [List.cons_append, numsD_cons]
    rw [numsD_cons] at h
    cases hy : numD y with
    | none => rw [hy] at h; cases h
    | some u =>
      rw [hy] at h
      simp only [Option.map_eq_some_iff] at h ⊢
      obtain ⟨us, hu, rfl⟩ := h
      exact ⟨us ++ [v], numsD_snoc l s us v hu hs, rfl⟩

theorem numsD_length : ∀ (l : List (List UInt8)) (vs : List Int), numsD l = some vs → vs.length = l.length
  | [], vs, h => by cases h; rfl
  | y :: l, vs, h => by
    rw [numsD_cons] at h
    cases hy : numD y with
    | none => rw [hy] at h; cases h
    | some u =>
      rw [hy] at h
      simp only [Option.map_eq_some_iff] at h
      obtain ⟨us, hu, rfl⟩ := h
      simp [numsD_length l us hu]

theorem atoi_range {l : List UInt8} {v : Int} (h : Lib.atoiAll l = .ok v) : -9223372036854775808 ≤ v ∧ v ≤ 9223372036854775807 := by
  unfold Lib.atoiAll at h
  cases l with
  | nil => cases h
  | cons c r =>
    simp only at h
    split at h
    · cases h
    · cases h
    · rename_i u hu
      split at h
      · cases h
      · split at h
        · cases h
        · cases h
          split <;> omega

/-- What numbers come to. -/
def NumsPost (m : Option (List Int)) (w : World) (e : Ending) (w' : World) : Prop :=
  ∃ v : Value, e = .returned (.tuple #[v, .bool m.isSome]) ∧ (m = none → v = .slice none 0 0) ∧ (∀ vs, m = some vs → w'.ownsRow w.heap.size 3 1 v vs.length (vs.map (Value.int .i64))) ∧ Below w.heap.size w w'

/-- Words in memory. -/
def StrsAt (w : World) (a : Option Addr) (xs : List ByteArray) : Prop := SliceAt w a (xs.map Value.string)

theorem StrsAt.facts {w : World} {a : Option Addr} {xs : List ByteArray} (h : StrsAt w a xs) (h0 : 0 < xs.length) :
    ∃ b off, a = some ⟨b, off, none⟩ ∧ b < w.heap.size ∧ ∀ i (hi : i < xs.length), w.cell? ⟨b, off + i, none⟩ = some (.string xs[i]) := by
  obtain ⟨b, off, rfl, hb⟩ := SliceAt.lt h (by intro e; have := congrArg List.length e; simp at this; subst this; simp at h0)
  rcases h with h1 | ⟨b', off', e, hc⟩
  · have := congrArg List.length h1; simp at this; subst this; simp at h0
  · cases e
    exact ⟨b, off, rfl, hb, fun i hi => hc i _ (by rw [List.getElem?_map, List.getElem?_eq_getElem hi]; rfl)⟩

theorem StrsAt.below {w w' : World} {a : Option Addr} {xs : List ByteArray} (h : StrsAt w a xs) (k : Below w.heap.size w w') : StrsAt w' a xs := sliceAt_below h k

set_option maxHeartbeats 8000000 in
set_option maxRecDepth 100000 in
theorem desk_numbers (g : Nat → Nat) (a : Option Addr) (cap : Nat) (xs : List ByteArray) (w : World) (hn : xs.length ≤ 10000) (hx : ∀ x ∈ xs, x.size ≤ 100000) (hA : StrsAt w a xs) (hG : GlobC w g) :
    Calls Tryz.prog 19 #[.slice a xs.length cap] w (NumsPost (numsD (xs.map (·.data.toList))) w) := by
  obtain ⟨i0, hi, hz0, hz1, hz2⟩ := info_parts Tryz.infoInt
  have HA := hid hA
  have HG := hid hG
  have HX := hid hx
  have hxl : (xs.length : Int) ≤ 9223372036854775807 := by omega
  clear hA hG hx
  go_enter Tryz.func19, Tryz.ntmps19
  go_wp2
  go_loopw [4, 11] (fun o i wr => ∃ (k : Nat) (vs : List Int), k ≤ xs.length ∧ i = .int .i64 k ∧ Hid (numsD ((xs.take k).map (·.data.toList)) = some vs) ∧ vs.length = k ∧ Hid (wr.ownsRow w.heap.size 3 1 o vs.length (vs.map (Value.int .i64))) ∧ Hid (Below w.heap.size w wr)) (fun _ i _ => xs.length - (intOf i).toNat)
  case atStart => exact ⟨0, [], Nat.zero_le _, rfl, hid rfl, rfl, hid (World.ownsRow_nil _ _ _ _), hid (Below.refl _ _)⟩
  case round =>
    obtain ⟨k, vs, hk, rfl, HN, hvl, HO, HB⟩ := hrel
    obtain ⟨ao, co, rfl, -, -⟩ := ownsRow.sliceAt HO.out
    have HVL := hid hvl
    clear hvl
    by_cases hlt : k < xs.length
    · obtain ⟨b, off, rfl, hb, hf⟩ := HA.out.facts (by omega)
      have c0 := (below_cell HB.out hb).trans (hf k hlt)
      have hs := HX.out xs[k] (List.getElem_mem _)
      have TK := hid (show (xs.take (k + 1)).map (·.data.toList) = (xs.take k).map (·.data.toList) ++ [xs[k].data.toList] from by rw [List.take_succ_eq_append_getElem hlt, List.map_append]; rfl)
      have MEM := hid (show xs[k].data.toList ∈ xs.map (·.data.toList) from List.mem_map.2 ⟨_, List.getElem_mem _, rfl⟩)
      have hki : (k : Int) < (xs.length : Int) := by omega
      have hk0 : (0 : Int) ≤ (k : Int) := by omega
      have GG := hid (HG.out.below HB.out)
      clear hf
      generalize xs[k] = s at *
      cases hat : Lib.atoiAll s.data.toList with
      | ok v =>
        have hr := atoi_range hat
        have CT := hid (Tryz.strconv_Atoi_ok s (by omega) v hat wr)
        have HAT := hid hat
        clear hat
        go_wp2_with fail
        refine CT.out.mono ?_
        rintro e w2 ⟨rfl, hw2⟩
        have hb2 : Below wr.heap.size wr w2 := by
          rcases hw2 with rfl | ⟨t, rfl⟩
          · exact Below.refl _ _
          · exact Joins.below_bytesWorld _ _ _ _ (Nat.le_refl _)
        have HB2 := hid (HB.out.trans (hb2.mono HB.out.size))
        have NM := hid (desk_num v hr.1 hr.2 w2 (GG.out.below hb2).tab)
        have HO2 := hid (ownsRow.lift HO.out (fun r hr => hb2.block r (HO.out.lt r hr).2))
        clear hw2 hb2 CT HB HO GG c0
        go_wp2_with fail
        refine NM.out.mono ?_
        rintro e w3 ⟨rfl, hb3⟩
        have HB3 := hid (HB2.out.trans (hb3.mono HB2.out.size))
        have HO3 := hid (ownsRow.lift HO2.out (fun r hr => hb3.block r (HO2.out.lt r hr).2))
        clear hb3 NM HB2 HO2
        by_cases hq : Lib.itoa v = s.data.toList
        · have hq2 : ((⟨(Lib.itoa v).toArray⟩ : ByteArray).toList == s.toList) = true := by rw [toList_data, toList_data, hq]; simp
          have hq3 : (Lib.itoa v == s.toList) = true := by rw [toList_data, hq]; simp
          have HD := hid (show numD s.data.toList = some v from by unfold numD; rw [HAT.out]; simp only; rw [if_pos hq])
          have q1 : vs.length + 1 ≤ maxLen := by have := HVL.out; unfold maxLen; omega
          have q2 : (vs.length + 1) * 8 ≤ 140737488355328 := by have := HVL.out; omega
          clear hq
          go_wp2_with (refine wpList_append_own _ rfl (.tmp 28) (.tmp 30) 54 rfl w.heap.size 3 i0 (.int .i64 0) 1 8 Tryz.underlying54 hi hz0 hz1 hz2 rfl (by decide) (.slice ao vs.length co) vs.length (vs.map (Value.int .i64)) rfl (HO3.out.alloc _) ⟨w3.heap.size, 0, none⟩ 1 1 [.int .i64 v] rfl rfl ?c1 ?c2 q1 q2 ?c5 ?_)
          case c1 => exact cells_new w3 [.int .i64 v] 3
          case c2 => intro u hu; simp at hu; subst hu; rfl
          case c5 => have := HB3.out.size; simp; omega
          intro v' w4 hown' hgrow _
          have HB4 := hid ((HB3.out.alloc HB3.out.size (.cells #[.int .i64 v] 3)).grown hgrow (by have := HB3.out.size; simp; omega) (fun j hj => (HO3.out.lt j hj).1))
          have HO4 := hid (show w4.ownsRow w.heap.size 3 1 v' (vs ++ [v]).length ((vs ++ [v]).map (Value.int .i64)) by rw [List.map_append, List.length_append]; exact hown')
          clear hown' hgrow hq2 hq3
          go_wp2
          go_roundw
          case rel => exact ⟨k + 1, vs ++ [v], by omega, by go_num, hid (by rw [TK.out]; exact numsD_snoc _ _ _ _ HN.out HD.out), by have := HVL.out; simp; omega, HO4, HB4⟩
          case measure => simp [intOf]; omega
        · have hq3 : (Lib.itoa v == s.toList) = false := by rw [toList_data]; simpa using hq
          have HD := hid (show numD s.data.toList = none from by unfold numD; rw [HAT.out]; simp only; rw [if_neg hq])
          have HP := hid (show NumsPost (numsD (xs.map (·.data.toList))) w (.returned (.tuple #[.slice none 0 0, .bool false])) w3 from by rw [numsD_none _ _ MEM.out HD.out]; exact ⟨_, rfl, fun _ => rfl, nofun, HB3.out⟩)
          clear hq
          go_wp2
          go_ret2
          exact HP.out
      | «syntax» =>
        obtain ⟨ev, hv, hev⟩ := GG.out.syn
        have CT := hid (Tryz.strconv_Atoi_syntax s (by omega) hat ev wr hv hev)
        have HD := hid (show numD s.data.toList = none from by unfold numD; rw [hat])
        clear hat hv hev
        go_wp2_with fail
        refine CT.out.mono ?_
        rintro e w2 ⟨N, rfl, -, -, hb2⟩
        have HB2 := hid (HB.out.trans (hb2.mono HB.out.size))
        have HP := hid (show NumsPost (numsD (xs.map (·.data.toList))) w (.returned (.tuple #[.slice none 0 0, .bool false])) w2 from by rw [numsD_none _ _ MEM.out HD.out]; exact ⟨_, rfl, fun _ => rfl, nofun, HB2.out⟩)
        clear hb2 CT HB HO GG c0
        go_wp2
        go_ret2
        exact HP.out
      | range =>
        obtain ⟨ev, hv, hev⟩ := GG.out.rng
        have CT := hid (Tryz.strconv_Atoi_range s (by omega) hat ev wr hv hev)
        have HD := hid (show numD s.data.toList = none from by unfold numD; rw [hat])
        clear hat hv hev
        go_wp2_with fail
        refine CT.out.mono ?_
        rintro e w2 ⟨N, rfl, -, -, hb2⟩
        have HB2 := hid (HB.out.trans (hb2.mono HB.out.size))
        have HP := hid (show NumsPost (numsD (xs.map (·.data.toList))) w (.returned (.tuple #[.slice none 0 0, .bool false])) w2 from by rw [numsD_none _ _ MEM.out HD.out]; exact ⟨_, rfl, fun _ => rfl, nofun, HB2.out⟩)
        clear hb2 CT HB HO GG c0
        go_wp2
        go_ret2
        exact HP.out
    · obtain rfl : k = xs.length := by omega
      have e := List.take_length (l := xs)
      have HP := hid (show NumsPost (numsD (xs.map (·.data.toList))) w (.returned (.tuple #[.slice ao vs.length co, .bool true])) wr from by
        have h := HN.out
        rw [e] at h
        rw [h]
        exact ⟨_, rfl, nofun, fun vs' e => by cases e; exact HO.out, HB.out⟩)
      clear e
      go_wp2
      go_ret2
      exact HP.out

end Go.Proofs.YtoiobhcgpajogabGreatDoor
