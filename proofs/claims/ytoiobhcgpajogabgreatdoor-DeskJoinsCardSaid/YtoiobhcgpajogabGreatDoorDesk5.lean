/- A desk: the walks of word and numbers. -/
import Derived.Test.YtoiobhcgpajogabGreatDoorDesk4
import Derived.Lib.SmallJoins
namespace Go.Proofs.YtoiobhcgpajogabGreatDoor
open Go.RowKit

set_option maxHeartbeats 2000000 in
theorem desk_word (s : ByteArray) (w : World) :
    Calls Tryz.prog 38 #[.string s] w fun e w' => e = .returned (.tuple #[.int .i64 (wordD s.data.toList).1, .int .i64 ((wordD s.data.toList).2 : Nat)]) ∧ w = w' := by
  go_enter Tryz.func38, Tryz.ntmps38
  go_wp2
  all_goals
    go_ret2
    refine ⟨?_, rfl⟩
    simp only [toList_data] at *
    simp_all [wordD, b_get, b_drop, b_list, b_commit, b_abort, b_clear, b_crash, b_tear]

theorem numsD_cons (s : List UInt8) (l : List (List UInt8)) : numsD (s :: l) = match numD s with | none => none | some v => (numsD l).map (v :: ·) := rfl

theorem numsD_none : ∀ (l : List (List UInt8)) (s : List UInt8), s ∈ l → numD s = none → numsD l = none
  | [], _, h, _ => by cases h
  | y :: l, s, h, hs => by
    rw [numsD_cons]
    rcases List.mem_cons.1 h with rfl | h
    · rw [hs]
    · cases numD y with
      | none => rfl
      | some v => simp only; rw [numsD_none l s h hs]; rfl

theorem numsD_snoc : ∀ (l : List (List UInt8)) (s : List UInt8) (vs : List Int) (v : Int), numsD l = some vs → numD s = some v → numsD (l ++ [s]) = some (vs ++ [v])
  | [], s, vs, v, h, hs => by
    cases h
    show numsD [s] = _
    rw [numsD_cons, hs]
    rfl
  | y :: l, s, vs, v, h, hs => by
    rw [List.cons_append, numsD_cons]
    rw [numsD_cons] at h
    cases hy : numD y with
    | none => rw [hy] at h; cases h
    | some u =>
      rw [hy] at h
      simp only [Option.map_eq_some_iff] at h ⊢
      obtain ⟨us, hu, rfl⟩ := h
      exact ⟨us ++ [v], numsD_snoc l s us v hu hs, rfl⟩

theorem numsD_length : ∀ (l : List (List UInt8)) (vs : List Int), numsD l = some vs → vs.length = l.length
  | [], vs, h => by cases h; rfl
  | y :: l, vs, h => by
    rw [numsD_cons] at h
    cases hy : numD y with
    | none => rw [hy] at h; cases h
    | some u =>
      rw [hy] at h
      simp only [Option.map_eq_some_iff] at h
      obtain ⟨us, hu, rfl⟩ := h
      simp [numsD_length l us hu]

theorem atoi_range {l : List UInt8} {v : Int} (h : Lib.atoiAll l = .ok v) : -9223372036854775808 ≤ v ∧ v ≤ 9223372036854775807 := by
  unfold Lib.atoiAll at h
  cases l with
  | nil => cases h
  | cons c r =>
    simp only at h
    split at h
    · cases h
    · cases h
    · rename_i u hu
      split at h
      · cases h
      · split at h
        · cases h
        · cases h
          split <;> omega

/-- What numbers come to. -/
def NumsPost (m : Option (List Int)) (w : World) (e : Ending) (w' : World) : Prop :=
  ∃ v : Value, e = .returned (.tuple #[v, .bool m.isSome]) ∧ (m = none → v = .slice none 0 0) ∧ (∀ vs, m = some vs → w'.ownsRow w.heap.size 3 1 v vs.length (vs.map (Value.int .i64))) ∧ Below w.heap.size w w'

/-- Words in memory. -/
def StrsAt (w : World) (a : Option Addr) (xs : List ByteArray) : Prop := SliceAt w a (xs.map Value.string)

theorem StrsAt.facts {w : World} {a : Option Addr} {xs : List ByteArray} (h : StrsAt w a xs) (h0 : 0 < xs.length) :
    ∃ b off, a = some ⟨b, off, none⟩ ∧ b < w.heap.size ∧ ∀ i (hi : i < xs.length), w.cell? ⟨b, off + i, none⟩ = some (.string xs[i]) := by
  obtain ⟨b, off, rfl, hb⟩ := SliceAt.lt h (by intro e; have := congrArg List.length e; simp at this; subst this; simp at h0)
  rcases h with h1 | ⟨b', off', e, hc⟩
  · have := congrArg List.length h1; simp at this; subst this; simp at h0
  · cases e
    exact ⟨b, off, rfl, hb, fun i hi => hc i _ (by rw [List.getElem?_map, List.getElem?_eq_getElem hi]; rfl)⟩

theorem StrsAt.below {w w' : World} {a : Option Addr} {xs : List ByteArray} (h : StrsAt w a xs) (k : Below w.heap.size w w') : StrsAt w' a xs := sliceAt_below h k

set_option maxHeartbeats 8000000 in
set_option maxRecDepth 100000 in
theorem desk_numbers (g : Nat → Nat) (a : Option Addr) (cap : Nat) (xs : List ByteArray) (w : World) (hn : xs.length ≤ 10000) (hx : ∀ x ∈ xs, x.size ≤ 100000) (hA : StrsAt w a xs) (hG : GlobC w g) :
    Calls Tryz.prog 19 #[.slice a xs.length cap] w (NumsPost (numsD (xs.map (·.data.toList))) w) := by
  obtain ⟨i0, hi, hz0, hz1, hz2⟩ := info_parts Tryz.infoInt
  have HA := hid hA
  have HG := hid hG
  have HX := hid hx
  have hxl : (xs.length : Int) ≤ 9223372036854775807 := by omega
  clear hA hG hx
  go_enter Tryz.func19, Tryz.ntmps19
  go_wp2
  go_loopw [4, 11] (fun o i wr => ∃ (k : Nat) (vs : List Int), k ≤ xs.length ∧ i = .int .i64 k ∧ Hid (numsD ((xs.take k).map (·.data.toList)) = some vs) ∧ vs.length = k ∧ Hid (wr.ownsRow w.heap.size 3 1 o vs.length (vs.map (Value.int .i64))) ∧ Hid (Below w.heap.size w wr)) (fun _ i _ => xs.length - (intOf i).toNat)
  case atStart => exact ⟨0, [], Nat.zero_le _, rfl, hid rfl, rfl, hid (World.ownsRow_nil _ _ _ _), hid (Below.refl _ _)⟩
  case round =>
    obtain ⟨k, vs, hk, rfl, HN, hvl, HO, HB⟩ := hrel
    obtain ⟨ao, co, rfl, -, -⟩ := ownsRow.sliceAt HO.out
    have HVL := hid hvl
    clear hvl
    by_cases hlt : k < xs.length
    · obtain ⟨b, off, rfl, hb, hf⟩ := HA.out.facts (by omega)
      have c0 := (below_cell HB.out hb).trans (hf k hlt)
      have hs := HX.out xs[k] (List.getElem_mem _)
      have TK := hid (show (xs.take (k + 1)).map (·.data.toList) = (xs.take k).map (·.data.toList) ++ [xs[k].data.toList] from by rw [List.take_succ_eq_append_getElem hlt, List.map_append]; rfl)
      have MEM := hid (show xs[k].data.toList ∈ xs.map (·.data.toList) from List.mem_map.2 ⟨_, List.getElem_mem _, rfl⟩)
      have hki : (k : Int) < (xs.length : Int) := by omega
      have hk0 : (0 : Int) ≤ (k : Int) := by omega
      have GG := hid (HG.out.below HB.out)
      clear hf
      generalize xs[k] = s at *
      cases hat : Lib.atoiAll s.data.toList
      case ok v =>
        have hr := atoi_range hat
        have CT := hid (Tryz.strconv_Atoi_ok s (by omega) v hat wr)
        have HAT := hid hat
        clear hat
        go_wp2_with fail
        refine CT.out.mono ?_
        rintro e w2 ⟨rfl, hw2⟩
        have hb2 : Below wr.heap.size wr w2 := by
          rcases hw2 with rfl | ⟨t, rfl⟩
          · exact Below.refl _ _
          · exact Joins.below_bytesWorld _ _ _ _ (Nat.le_refl _)
        have HB2 := hid (HB.out.trans (hb2.mono HB.out.size))
        have NM := hid (desk_num v hr.1 hr.2 w2 (GG.out.below hb2).tab)
        have HO2 := hid (ownsRow.lift HO.out (fun r hr => hb2.block r (HO.out.lt r hr).2))
        clear hw2 hb2 CT HB HO GG c0
        go_wp2_with fail
        refine NM.out.mono ?_
        rintro e w3 ⟨rfl, hb3⟩
        have HB3 := hid (HB2.out.trans (hb3.mono HB2.out.size))
        have HO3 := hid (ownsRow.lift HO2.out (fun r hr => hb3.block r (HO2.out.lt r hr).2))
        clear hb3 NM HB2 HO2
        by_cases hq : Lib.itoa v = s.data.toList
        · have hq2 : ((⟨(Lib.itoa v).toArray⟩ : ByteArray).toList == s.toList) = true := by rw [toList_data, toList_data, hq]; simp
          have hq3 : (Lib.itoa v == s.toList) = true := by rw [toList_data, hq]; simp
          have HD := hid (show numD s.data.toList = some v from by unfold numD; rw [HAT.out]; simp only; rw [if_pos hq])
          have q1 : vs.length + 1 ≤ maxLen := by have := HVL.out; unfold maxLen; omega
          have q2 : (vs.length + 1) * 8 ≤ 140737488355328 := by have := HVL.out; omega
          clear hq
          go_wp2_with (refine wpList_append_own _ rfl (.tmp 28) (.tmp 30) 54 rfl w.heap.size 3 i0 (.int .i64 0) 1 8 Tryz.underlying54 hi hz0 hz1 hz2 rfl (by decide) (.slice ao vs.length co) vs.length (vs.map (Value.int .i64)) rfl (HO3.out.alloc _) ⟨w3.heap.size, 0, none⟩ 1 1 [.int .i64 v] rfl rfl ?c1 ?c2 q1 q2 ?c5 ?_)
          case c1 => exact cells_new w3 [.int .i64 v] 3
          case c2 => intro u hu; simp at hu; subst hu; rfl
          case c5 => have := HB3.out.size; simp; omega
          intro v' w4 hown' hgrow _
          have HB4 := hid ((HB3.out.alloc HB3.out.size (.cells #[.int .i64 v] 3)).grown hgrow (by have := HB3.out.size; simp; omega) (fun j hj => (HO3.out.lt j hj).1))
          have HO4 := hid (show w4.ownsRow w.heap.size 3 1 v' (vs ++ [v]).length ((vs ++ [v]).map (Value.int .i64)) by rw [List.map_append, List.length_append]; exact hown')
          clear hown' hgrow hq2 hq3
          go_wp2
          go_roundw
          case rel => exact ⟨k + 1, vs ++ [v], by omega, by go_num, hid (by rw [TK.out]; exact numsD_snoc _ _ _ _ HN.out HD.out), by have := HVL.out; simp; omega, HO4, HB4⟩
          case measure => simp [intOf]; omega
        · have hq3 : (Lib.itoa v == s.toList) = false := by rw [toList_data]; simpa using hq
          have HD := hid (show numD s.data.toList = none from by unfold numD; rw [HAT.out]; simp only; rw [if_neg hq])
          have HP := hid (show NumsPost (numsD (xs.map (·.data.toList))) w (.returned (.tuple #[.slice none 0 0, .bool false])) w3 from by rw [numsD_none _ _ MEM.out HD.out]; exact ⟨_, rfl, fun _ => rfl, nofun, HB3.out⟩)
          clear hq
          go_wp2
          go_ret2
          exact HP.out
      case _ =>
        obtain ⟨ev, hv, hev⟩ := GG.out.syn
        have CT := hid (Tryz.strconv_Atoi_syntax s (by omega) hat ev wr hv hev)
        have HD := hid (show numD s.data.toList = none from by unfold numD; rw [hat])
        clear hat hv hev
        go_wp2_with fail
        refine CT.out.mono ?_
        rintro e w2 ⟨N, rfl, -, -, hb2⟩
        have HB2 := hid (HB.out.trans (hb2.mono HB.out.size))
        have HP := hid (show NumsPost (numsD (xs.map (·.data.toList))) w (.returned (.tuple #[.slice none 0 0, .bool false])) w2 from by rw [numsD_none _ _ MEM.out HD.out]; exact ⟨_, rfl, fun _ => rfl, nofun, HB2.out⟩)
        clear hb2 CT HB HO GG c0
        go_wp2
        go_ret2
        exact HP.out
      case range =>
        obtain ⟨ev, hv, hev⟩ := GG.out.rng
        have CT := hid (Tryz.strconv_Atoi_range s (by omega) hat ev wr hv hev)
        have HD := hid (show numD s.data.toList = none from by unfold numD; rw [hat])
        clear hat hv hev
        go_wp2_with fail
        refine CT.out.mono ?_
        rintro e w2 ⟨N, rfl, -, -, hb2⟩
        have HB2 := hid (HB.out.trans (hb2.mono HB.out.size))
        have HP := hid (show NumsPost (numsD (xs.map (·.data.toList))) w (.returned (.tuple #[.slice none 0 0, .bool false])) w2 from by rw [numsD_none _ _ MEM.out HD.out]; exact ⟨_, rfl, fun _ => rfl, nofun, HB2.out⟩)
        clear hb2 CT HB HO GG c0
        go_wp2
        go_ret2
        exact HP.out
    · obtain rfl : k = xs.length := by omega
      have e := List.take_length (l := xs)
      have HP := hid (show NumsPost (numsD (xs.map (·.data.toList))) w (.returned (.tuple #[.slice ao vs.length co, .bool true])) wr from by
        have h := HN.out
        rw [e] at h
        rw [h]
        exact ⟨_, rfl, nofun, fun vs' e => by cases e; exact HO.out, HB.out⟩)
      clear e
      go_wp2
      go_ret2
      exact HP.out

end Go.Proofs.YtoiobhcgpajogabGreatDoor

/- A desk: what a step comes to; the walk of begin. -/
namespace Go.Proofs.YtoiobhcgpajogabGreatDoor
open Go.RowKit

/-- What a step tells, and the hall behind it; no step: nothing. -/
def effD (H : Ht) (o : Option St) : List UInt8 × Ht :=
  match o with
  | none => ([], H)
  | some x => (tellD x (doH H x).1 ++ [10], (doH H x).2)

/-- As DkAt, but the row of the colour p + 20 may have turned too. -/
structure DkWide (w0 : World) (g0 : Nat → Nat) (p d h : Nat) (t : List UInt8) (H : Ht) (g : Nat → Nat) (w : World) : Prop where
  desk : DeskB w g p d h t
  hall : HallAt w g (p + 2) h H
  glob : GlobC w g
  evo : Evo p (p + 21) g0 g w0 w

theorem DkAt.wide {w0 w : World} {g0 g : Nat → Nat} {p d h : Nat} {t : List UInt8} {H : Ht} (k : DkAt w0 g0 p d h t H g w) : DkWide w0 g0 p d h t H g w := ⟨k.desk, k.hall, k.glob, k.evo.wide (by omega) (by omega)⟩
theorem DkWide.self {w0 w : World} {g0 g : Nat → Nat} {p d h : Nat} {t : List UInt8} {H : Ht} (k : DkWide w0 g0 p d h t H g w) : DkAt w g p d h t H g w := ⟨k.desk, k.hall, k.glob, Evo.refl _ _ _ _⟩
theorem DkWide.did {w0 w w' : World} {g0 g g' : Nat → Nat} {p d h : Nat} {t t' : List UInt8} {H H' : Ht} (k : DkWide w0 g0 p d h t H g w) (e : DkAt w g p d h t' H' g' w') : DkWide w0 g0 p d h t' H' g' w' := ⟨e.desk, e.hall, e.glob, k.evo.trans (e.evo.wide (by omega) (by omega))⟩
theorem DkAt.far {w0 w w' : World} {g0 g g' : Nat → Nat} {p d h : Nat} {t : List UInt8} {H : Ht} (k : DkAt w0 g0 p d h t H g w) (e : Evo (p + 20) (p + 20 + 1) g g' w w') : DkWide w0 g0 p d h t H g' w' :=
  ⟨k.desk.frame e (by omega), k.hall.frame e (by omega), k.glob.frame e (by omega), (k.evo.wide (by omega) (by omega)).trans (e.wide (by omega) (by omega))⟩
theorem DkWide.fresh {w0 w w' : World} {g0 g g' : Nat → Nat} {p d h : Nat} {t : List UInt8} {H : Ht} (k : DkWide w0 g0 p d h t H g w) (e : Evo 0 0 g g' w w') : DkWide w0 g0 p d h t H g' w' :=
  ⟨k.desk.frame e (by omega), k.hall.frame e (by omega), k.glob.frame e (by omega), k.evo.trans (e.none (by omega))⟩
theorem DkWide.below {w0 w w' : World} {g0 g : Nat → Nat} {p d h : Nat} {t : List UInt8} {H : Ht} (k : DkWide w0 g0 p d h t H g w) (e : Below w.heap.size w w') : DkWide w0 g0 p d h t H g w' :=
  ⟨k.desk.below e, k.hall.below e, k.glob.below e, k.evo.trans (Evo.of_same e)⟩
theorem DkWide.put1 {w0 w : World} {g0 g : Nat → Nat} {p d h : Nat} {t : List UInt8} {H : Ht} (k : DkWide w0 g0 p d h t H g w) {b i : Nat} (hg : g b = p + 20) (v : Value) : DkWide w0 g0 p d h t H g (w.setCell ⟨b, i, none⟩ v) := by
  have e : Evo (p + 20) (p + 20 + 1) g g w (w.setCell ⟨b, i, none⟩ v) := evo_store v hg
  exact ⟨k.desk.frame e (by omega), k.hall.frame e (by omega), k.glob.frame e (by omega), k.evo.trans (e.wide (by omega) (by omega))⟩

def EffAt (w0 : World) (g0 : Nat → Nat) (p d h : Nat) (t : List UInt8) (H : Ht) (o : Option St) (w' : World) : Prop :=
  ∃ g', DkWide w0 g0 p d h (t ++ (effD H o).1) (effD H o).2 g' w'

def EffPost (w0 : World) (g0 : Nat → Nat) (p d h : Nat) (t : List UInt8) (H : Ht) (o : Option St) (e : Ending) (w' : World) : Prop :=
  e = .returned (.bool o.isSome) ∧ EffAt w0 g0 p d h t H o w'

theorem DkAt.self {w0 w : World} {g0 g : Nat → Nat} {p d h : Nat} {t : List UInt8} {H : Ht} (k : DkAt w0 g0 p d h t H g w) : DkAt w g p d h t H g w := ⟨k.desk, k.hall, k.glob, Evo.refl _ _ _ _⟩

theorem DkAt.none {w0 w : World} {g0 g : Nat → Nat} {p d h : Nat} {t : List UInt8} {H : Ht} (k : DkAt w0 g0 p d h t H g w) : EffAt w0 g0 p d h t H Option.none w := ⟨g, by show DkWide w0 g0 p d h (t ++ []) H g w; rw [List.append_nil]; exact k.wide⟩

def DidPost (w0 : World) (g0 : Nat → Nat) (p d h : Nat) (t : List UInt8) (H : Ht) (x : St) (g : Nat → Nat) (w : World) (e : Ending) (w' : World) : Prop :=
  e = .returned (.tuple #[]) ∧ ∃ g', DkAt w0 g0 p d h (t ++ (effD H (some x)).1) (effD H (some x)).2 g' w' ∧ Evo p (p + 19) g g' w w'

theorem desk_did_ok (w0 : World) (g0 g : Nat → Nat) (p d h : Nat) (t : List UInt8) (H : Ht) (x : St) (w : World) (hp : 1 ≤ p) (k : DkAt w0 g0 p d h t H g w) (hx : x.bytes.size ≤ maxLen) (hO : ∀ x, EvOk (doH H x).1) (ht : t.length ≤ 800000000) (hk : ∀ ev : Evt, ev.code = 0 → tellD x ev = b_ok) :
    Calls Tryz.prog 35 #[.pointer (some ⟨d, 0, none⟩), .agg #[.int .i64 x.kind, .int .i64 x.s, .int .i64 x.mode, .int .i64 x.at_, .int .i64 x.key, .int .i64 x.to_, .int .i64 x.keep, .string x.bytes], .func (.func 36) #[] #[]] w (DidPost w0 g0 p d h t H x g w) :=
  (desk_do_ok g p d h t H x w hp k.self hx (hO x) ht hk).mono fun _ _ ⟨he, g', hD, hH, hE⟩ => ⟨he, g', ⟨hD, hH, k.glob.frame hE (by omega), k.evo.trans hE⟩, hE⟩

theorem desk_did_has (w0 : World) (g0 g : Nat → Nat) (p d h : Nat) (t : List UInt8) (H : Ht) (x : St) (w : World) (hp : 1 ≤ p) (k : DkAt w0 g0 p d h t H g w) (hx : x.bytes.size ≤ maxLen) (hO : ∀ x, EvOk (doH H x).1) (ht : t.length ≤ 800000000) (hk : ∀ ev : Evt, ev.code = 0 → tellD x ev = (b_has ++ 32 :: valL ev.v)) :
    Calls Tryz.prog 35 #[.pointer (some ⟨d, 0, none⟩), .agg #[.int .i64 x.kind, .int .i64 x.s, .int .i64 x.mode, .int .i64 x.at_, .int .i64 x.key, .int .i64 x.to_, .int .i64 x.keep, .string x.bytes], .func (.func 39) #[] #[]] w (DidPost w0 g0 p d h t H x g w) :=
  (desk_do_has g p d h t H x w hp k.self hx (hO x) ht hk).mono fun _ _ ⟨he, g', hD, hH, hE⟩ => ⟨he, g', ⟨hD, hH, k.glob.frame hE (by omega), k.evo.trans hE⟩, hE⟩

theorem desk_did_all (w0 : World) (g0 g : Nat → Nat) (p d h : Nat) (t : List UInt8) (H : Ht) (x : St) (w : World) (hp : 1 ≤ p) (k : DkAt w0 g0 p d h t H g w) (hx : x.bytes.size ≤ maxLen) (hO : ∀ x, EvOk (doH H x).1) (ht : t.length ≤ 800000000) (hk : ∀ ev : Evt, ev.code = 0 → tellD x ev = (b_all ++ pairsD ev.l)) :
    Calls Tryz.prog 35 #[.pointer (some ⟨d, 0, none⟩), .agg #[.int .i64 x.kind, .int .i64 x.s, .int .i64 x.mode, .int .i64 x.at_, .int .i64 x.key, .int .i64 x.to_, .int .i64 x.keep, .string x.bytes], .func (.func 41) #[] #[]] w (DidPost w0 g0 p d h t H x g w) :=
  (desk_do_all g p d h t H x w hp k.self hx (hO x) ht hk).mono fun _ _ ⟨he, g', hD, hH, hE⟩ => ⟨he, g', ⟨hD, hH, k.glob.frame hE (by omega), k.evo.trans hE⟩, hE⟩

theorem desk_did_n3 (w0 : World) (g0 g : Nat → Nat) (p d h : Nat) (t : List UInt8) (H : Ht) (x : St) (w : World) (hp : 1 ≤ p) (k : DkAt w0 g0 p d h t H g w) (hx : x.bytes.size ≤ maxLen) (hO : ∀ x, EvOk (doH H x).1) (ht : t.length ≤ 800000000) (hk : ∀ ev : Evt, ev.code = 0 → tellD x ev = (b_ok ++ 32 :: Lib.itoa ev.n)) :
    Calls Tryz.prog 35 #[.pointer (some ⟨d, 0, none⟩), .agg #[.int .i64 x.kind, .int .i64 x.s, .int .i64 x.mode, .int .i64 x.at_, .int .i64 x.key, .int .i64 x.to_, .int .i64 x.keep, .string x.bytes], .func (.func 43) #[] #[]] w (DidPost w0 g0 p d h t H x g w) :=
  (desk_do_n3 g p d h t H x w hp k.self hx (hO x) ht hk).mono fun _ _ ⟨he, g', hD, hH, hE⟩ => ⟨he, g', ⟨hD, hH, k.glob.frame hE (by omega), k.evo.trans hE⟩, hE⟩

theorem desk_did_n4 (w0 : World) (g0 g : Nat → Nat) (p d h : Nat) (t : List UInt8) (H : Ht) (x : St) (w : World) (hp : 1 ≤ p) (k : DkAt w0 g0 p d h t H g w) (hx : x.bytes.size ≤ maxLen) (hO : ∀ x, EvOk (doH H x).1) (ht : t.length ≤ 800000000) (hk : ∀ ev : Evt, ev.code = 0 → tellD x ev = (b_ok ++ 32 :: Lib.itoa ev.n)) :
    Calls Tryz.prog 35 #[.pointer (some ⟨d, 0, none⟩), .agg #[.int .i64 x.kind, .int .i64 x.s, .int .i64 x.mode, .int .i64 x.at_, .int .i64 x.key, .int .i64 x.to_, .int .i64 x.keep, .string x.bytes], .func (.func 44) #[] #[]] w (DidPost w0 g0 p d h t H x g w) :=
  (desk_do_n4 g p d h t H x w hp k.self hx (hO x) ht hk).mono fun _ _ ⟨he, g', hD, hH, hE⟩ => ⟨he, g', ⟨hD, hH, k.glob.frame hE (by omega), k.evo.trans hE⟩, hE⟩

/-- Numbers in memory. -/
theorem ints_facts {w : World} {a : Option Addr} {vs : List Int} (h : SliceAt w a (vs.map (Value.int .i64))) (h0 : 0 < vs.length) :
    ∃ b off, a = some ⟨b, off, none⟩ ∧ b < w.heap.size ∧ ∀ i (hi : i < vs.length), w.cell? ⟨b, off + i, none⟩ = some (.int .i64 vs[i]) := by
  obtain ⟨b, off, rfl, hb⟩ := h.lt (by intro e; have := congrArg List.length e; simp at this; subst this; simp at h0)
  rcases h with h1 | ⟨b', off', e, hc⟩
  · have := congrArg List.length h1; simp at this; subst this; simp at h0
  · cases e
    exact ⟨b, off, rfl, hb, fun i hi => hc i _ (by rw [List.getElem?_map, List.getElem?_eq_getElem hi]; rfl)⟩

theorem sliceAt_get {w : World} {b off : Nat} {cells : List Value} (h : SliceAt w (some ⟨b, off, none⟩) cells) {j : Nat} {u : Value} (hj : cells[j]? = some u) : w.cell? ⟨b, off + j, none⟩ = some u := by
  rcases h with h | ⟨b', off', e, hc⟩
  · subst h; simp at hj
  · cases e; exact hc j u hj

theorem RowC.sliceAt {w : World} {g : Nat → Nat} {q e n cap : Nat} {a : Option Addr} {cells : List Value} (h : RowC w g q e 1 (.slice a n cap) n cells) : SliceAt w a cells := by
  obtain ⟨a', c', e', hs, -⟩ := ownsRow.sliceAt h.1
  cases e'
  exact hs

theorem modeD_idx (s : ByteArray) : Lib.idxOfS (([⟨#[]⟩, ⟨#[115, 104, 111, 116]⟩, ⟨#[115, 117, 114, 101]⟩, ⟨#[108, 111, 111, 107]⟩] : List ByteArray).take 4) s = modeD s.data.toList := by
  have e0 : ((⟨#[]⟩ : ByteArray) = s) = (s.data.toList = []) := propext ((ba_eq_iff [] s).trans eq_comm)
  have e1 : ((⟨#[115, 104, 111, 116]⟩ : ByteArray) = s) = (s.data.toList = b_shot) := propext ((ba_eq_iff b_shot s).trans eq_comm)
  have e2 : ((⟨#[115, 117, 114, 101]⟩ : ByteArray) = s) = (s.data.toList = b_sure) := propext ((ba_eq_iff b_sure s).trans eq_comm)
  have e3 : ((⟨#[108, 111, 111, 107]⟩ : ByteArray) = s) = (s.data.toList = b_look) := propext ((ba_eq_iff b_look s).trans eq_comm)
  show Lib.idxFromS [⟨#[]⟩, ⟨#[115, 104, 111, 116]⟩, ⟨#[115, 117, 114, 101]⟩, ⟨#[108, 111, 111, 107]⟩] s 0 = _
  unfold modeD
  by_cases h0 : s.data.toList = []
  · rw [if_pos h0]; rw [← e0] at h0; simp [Lib.idxFromS, h0]
  · rw [if_neg h0]; rw [← e0] at h0
    by_cases h1 : s.data.toList = b_shot
    · rw [if_pos h1]; rw [← e1] at h1; simp [Lib.idxFromS, h0, h1]
    · rw [if_neg h1]; rw [← e1] at h1
      by_cases h2 : s.data.toList = b_sure
      · rw [if_pos h2]; rw [← e2] at h2; simp [Lib.idxFromS, h0, h1, h2]
      · rw [if_neg h2]; rw [← e2] at h2
        by_cases h3 : s.data.toList = b_look
        · rw [if_pos h3]; rw [← e3] at h3; simp [Lib.idxFromS, h0, h1, h2, h3]
        · rw [if_neg h3]; rw [← e3] at h3; simp [Lib.idxFromS, h0, h1, h2, h3]

theorem modeD_range (l : List UInt8) : -1 ≤ modeD l ∧ modeD l ≤ 3 := by
  unfold modeD
  repeat' split
  all_goals exact ⟨by decide, by decide⟩

set_option maxHeartbeats 4000000 in
set_option maxRecDepth 100000 in
theorem desk_begin (w0 : World) (g0 g : Nat → Nat) (p d h : Nat) (t : List UInt8) (H : Ht) (w : World) (hp : 1 ≤ p) (k : DkAt w0 g0 p d h t H g w) (hO : ∀ x, EvOk (doH H x).1) (ht : t.length ≤ 800000000)
    (s : ByteArray) (vs : List Int) (a : Option Addr) (cap : Nat) (hR : RowC w g (p + 20) 3 1 (.slice a vs.length cap) vs.length (vs.map (Value.int .i64))) (hn : vs.length ≤ 10000) :
    Calls Tryz.prog 21 #[.pointer (some ⟨d, 0, none⟩), .string s, .slice a vs.length cap] w (EffPost w0 g0 p d h t H (beginD s.data.toList vs)) := by
  have OK := hid hO
  have HM := hid (modeD_idx s)
  have HB := hid (show beginD s.data.toList vs = if modeD s.data.toList = 3 ∧ vs.length = 2 then some ⟨1, vs.getD 0 0, 3, vs.getD 1 0, 0, 0, 0, ByteArray.empty⟩ else if 0 < modeD s.data.toList ∧ modeD s.data.toList ≠ 3 ∧ vs.length = 1 then some ⟨1, vs.getD 0 0, modeD s.data.toList, 0, 0, 0, 0, ByteArray.empty⟩ else Option.none from rfl)
  have hm := modeD_range s.data.toList
  have hA := Evo.alloc g 0 w (.cells #[.string ⟨#[]⟩, .string ⟨#[115, 104, 111, 116]⟩, .string ⟨#[115, 117, 114, 101]⟩, .string ⟨#[108, 111, 111, 107]⟩] 9)
  have K1 := hid (k.fresh hA)
  have R1 := hid (hR.frame hA (by omega))
  have CI := hid (Tryz.slices_Index_string w.heap.size 0 4 4 [⟨#[]⟩, ⟨#[115, 104, 111, 116]⟩, ⟨#[115, 117, 114, 101]⟩, ⟨#[108, 111, 111, 107]⟩] s (w.alloc (.cells #[.string ⟨#[]⟩, .string ⟨#[115, 104, 111, 116]⟩, .string ⟨#[115, 117, 114, 101]⟩, .string ⟨#[108, 111, 111, 107]⟩] 9)) (by simp) (by omega) (fun j hj => by
    have := cells_strs w [⟨#[]⟩, ⟨#[115, 104, 111, 116]⟩, ⟨#[115, 117, 114, 101]⟩, ⟨#[108, 111, 111, 107]⟩] 9 j _ (List.getElem?_eq_getElem hj)
    rw [show ([⟨#[]⟩, ⟨#[115, 104, 111, 116]⟩, ⟨#[115, 117, 114, 101]⟩, ⟨#[108, 111, 111, 107]⟩] : List ByteArray).getD j ByteArray.empty = ([⟨#[]⟩, ⟨#[115, 104, 111, 116]⟩, ⟨#[115, 117, 114, 101]⟩, ⟨#[108, 111, 111, 107]⟩] : List ByteArray)[j] from by simp only [List.getD, List.getElem?_eq_getElem hj, Option.getD_some]]
    exact this))
  clear hO k hR hA
  go_enter Tryz.func21, Tryz.ntmps21
  go_wp2_with fail
  refine CI.out.mono ?_
  rintro e w1 ⟨rfl, hw1⟩
  rw [HM.out]
  rw [← hw1] at K1 R1
  clear hw1 CI
  generalize extc g w 0 = g1 at *
  generalize modeD s.data.toList = m at *
  obtain ⟨hm1, hm2⟩ := hm
  by_cases hq : m = 3 ∧ vs.length = 2
  · have HE := hid (HB.out.trans (if_pos hq))
    clear HB
    obtain ⟨rfl, hv⟩ := hq
    match vs, hv with
    | [n0, n1], _ =>
      obtain ⟨b, off, rfl, hb, -⟩ := ints_facts R1.out.sliceAt (by simp)
      have hS0 : w1.drew.cell? ⟨b, off, none⟩ = some (.int .i64 n0) ∧ w1.drew.cell? ⟨b, off + 1, none⟩ = some (.int .i64 n1) := ⟨sliceAt_get R1.out.sliceAt (j := 0) rfl, sliceAt_get R1.out.sliceAt (j := 1) rfl⟩
      go_wp2_with fail
      -- REGION 4
      refine wp_region_noPanic ?_
      refine wp_region_held_drew (S := (fun W : World => W.cell? ⟨b, off, none⟩ = some (.int .i64 n0) ∧ W.cell? ⟨b, off + 1, none⟩ = some (.int .i64 n1))) (by kernel_rfl) ?_ (fun hH0 => ?_)
      · (try dsimp only); (first | assumption | exact hS0)
      refine wpAnyH_take (i := 0) (v := ?_) (by simp only [List.getElem?_toArray, List.getElem?_cons_zero]; rfl) (by kernel_rfl) (by kernel_rfl) (by kernel_rfl) (fun _ _ _ h => h) (Or.inl ⟨by rfl, ?_⟩) (by assumption) ?_
      rotate_left
      · intro w hSw; (try dsimp only at hSw); go_simp; (try with_reducible rfl)
      try simp only [Act.put, List.setIfInBounds_toArray, List.set_cons_zero, List.set_cons_succ]
      refine wpAnyH_take (i := 1) (v := ?_) (by simp only [List.getElem?_toArray, List.getElem?_cons_zero, List.getElem?_cons_succ]; rfl) (by kernel_rfl) (by kernel_rfl) (by kernel_rfl) (fun _ _ _ h => h) (Or.inl ⟨by rfl, ?_⟩) (by assumption) ?_
      rotate_left
      · intro w hSw; (try dsimp only at hSw); go_simp; (try with_reducible rfl)
      try simp only [Act.put, List.setIfInBounds_toArray, List.set_cons_zero, List.set_cons_succ]
      refine wpAnyH_take (i := 2) (v := ?_) (by simp only [List.getElem?_toArray, List.getElem?_cons_zero, List.getElem?_cons_succ]; rfl) (by kernel_rfl) (by kernel_rfl) (by kernel_rfl) (fun _ _ _ h => h) (Or.inl ⟨by rfl, ?_⟩) (by assumption) ?_
      rotate_left
      · intro w hSw; (try dsimp only at hSw); go_simp; (try with_reducible rfl)
      try simp only [Act.put, List.setIfInBounds_toArray, List.set_cons_zero, List.set_cons_succ]
      refine wpAnyH_take (i := 3) (v := ?_) (by simp only [List.getElem?_toArray, List.getElem?_cons_zero, List.getElem?_cons_succ]; rfl) (by kernel_rfl) (by kernel_rfl) (by kernel_rfl) (fun _ _ _ h => h) (Or.inl ⟨by rfl, ?_⟩) (by assumption) ?_
      rotate_left
      · intro w hSw; (try dsimp only at hSw); go_simp; (try with_reducible rfl)
      try simp only [Act.put, List.setIfInBounds_toArray, List.set_cons_zero, List.set_cons_succ]
      refine wpAnyH_take (i := 4) (v := ?_) (by simp only [List.getElem?_toArray, List.getElem?_cons_zero, List.getElem?_cons_succ]; rfl) (by kernel_rfl) (by kernel_rfl) (by kernel_rfl) (fun _ _ _ h => h) (Or.inl ⟨by rfl, ?_⟩) (by assumption) ?_
      rotate_left
      · intro w hSw; (try dsimp only at hSw); go_simp; (try with_reducible rfl)
      try simp only [Act.put, List.setIfInBounds_toArray, List.set_cons_zero, List.set_cons_succ]
      refine wpAnyH_take (i := 5) (v := ?_) (by simp only [List.getElem?_toArray, List.getElem?_cons_zero, List.getElem?_cons_succ]; rfl) (by kernel_rfl) (by kernel_rfl) (by kernel_rfl) (fun _ _ _ h => h) (Or.inl ⟨by rfl, ?_⟩) (by assumption) ?_
      rotate_left
      · intro w hSw; (try dsimp only at hSw); go_simp; (try with_reducible rfl)
      try simp only [Act.put, List.setIfInBounds_toArray, List.set_cons_zero, List.set_cons_succ]
      refine wpAnyH_take (i := 6) (v := ?_) (by simp only [List.getElem?_toArray, List.getElem?_cons_zero, List.getElem?_cons_succ]; rfl) (by kernel_rfl) (by kernel_rfl) (by kernel_rfl) (fun _ _ _ h => h) (Or.inl ⟨by rfl, ?_⟩) (by assumption) ?_
      rotate_left
      · intro w hSw; (try dsimp only at hSw); go_simp; (try with_reducible rfl)
      try simp only [Act.put, List.setIfInBounds_toArray, List.set_cons_zero, List.set_cons_succ]
      refine wpAnyH_take (i := 7) (v := ?_) (by simp only [List.getElem?_toArray, List.getElem?_cons_zero, List.getElem?_cons_succ]; rfl) (by kernel_rfl) (by kernel_rfl) (by kernel_rfl) (fun _ _ _ h => h) (Or.inl ⟨by rfl, ?_⟩) (by assumption) ?_
      rotate_left
      · intro w hSw; (try dsimp only at hSw); go_simp; (try with_reducible rfl)
      try simp only [Act.put, List.setIfInBounds_toArray, List.set_cons_zero, List.set_cons_succ]
      refine wpAnyH_take (i := 8) (v := ?_) (by simp only [List.getElem?_toArray, List.getElem?_cons_zero, List.getElem?_cons_succ]; rfl) (by kernel_rfl) (by kernel_rfl) (by kernel_rfl) (fun _ _ _ h => h) (Or.inl ⟨by rfl, ?_⟩) (by assumption) ?_
      rotate_left
      · intro w hSw; (try dsimp only at hSw); go_simp; (try with_reducible rfl)
      try simp only [Act.put, List.setIfInBounds_toArray, List.set_cons_zero, List.set_cons_succ]
      refine wpAnyH_ready (rs := [9]) (by kernel_rfl) (by simp) ?_
      refine AllReadyH.cons (by simp only [List.getElem?_toArray, List.getElem?_cons_zero, List.getElem?_cons_succ]; rfl) (fun K hK => ?_) AllReadyH.nil
      go_simp
      go_at_call 35
      refine (desk_did_ok w0 g0 g1 p d h t H ⟨1, n0, 3, n1, 0, 0, 0, ByteArray.empty⟩ w1.drew hp (K1.out.below (Below.refl _ _).drew) (by show 0 ≤ maxLen; exact Nat.zero_le _) OK.out ht (fun ev h => by simp [tellD, h])).mono ?_
      rintro e w2 ⟨rfl, g2, hk2, hE2⟩
      have R2 := R1.out.frame ((Evo.drew p (p + 19) g1 w1).trans hE2) (by omega)
      have hS' : w2.cell? ⟨b, off, none⟩ = some (.int .i64 n0) ∧ w2.cell? ⟨b, off + 1, none⟩ = some (.int .i64 n1) := ⟨sliceAt_get R2.sliceAt (j := 0) rfl, sliceAt_get R2.sliceAt (j := 1) rfl⟩
      have HK2 := hid hk2
      clear hk2 hE2 R2
      try go_wp2_with fail
      refine hK.out _ _ ?_ (fun hH1 => ?_)
      · (try dsimp only); (first | assumption | exact hS0)
      clear hK K hH0
      try simp only [Act.put, List.setIfInBounds_toArray, List.set_cons_zero, List.set_cons_succ]
      refine wpAnyH_done (by kernel_rfl) ?_ _
      refine NoPanic.normal ?_
      have HP := hid (show EffPost w0 g0 p d h t H (beginD s.data.toList [n0, n1]) (.returned (.bool true)) w2 from by rw [HE.out]; exact ⟨rfl, g2, HK2.out.wide⟩)
      clear hS' HK2
      go_wp2
      go_ret
      exact HP.out
      -- END 4
  · by_cases hr : 0 < m ∧ m ≠ 3 ∧ vs.length = 1
    · have HE := hid ((HB.out.trans (if_neg hq)).trans (if_pos hr))
      clear HB
      obtain ⟨h0, h3, hv⟩ := hr
      match vs, hv with
      | [n0], _ =>
        obtain ⟨b, off, rfl, hb, -⟩ := ints_facts R1.out.sliceAt (by simp)
        have c0 : w1.cell? ⟨b, off, none⟩ = some (.int .i64 n0) := sliceAt_get R1.out.sliceAt (j := 0) rfl
        have q3 : (m == 3) = false := by simpa using h3
        have q4 : (m != 3) = true := by simpa using h3
        clear hq
        go_wp2_with fail
        refine (desk_did_ok w0 g0 g1 p d h t H ⟨1, n0, m, 0, 0, 0, 0, ByteArray.empty⟩ _ hp K1.out (by show 0 ≤ maxLen; exact Nat.zero_le _) OK.out ht (fun ev h => by simp [tellD, h])).mono ?_
        rintro e w2 ⟨rfl, g2, hk2, -⟩
        have HP := hid (show EffPost w0 g0 p d h t H (beginD s.data.toList [n0]) (.returned (.bool true)) w2 from by rw [HE.out]; exact ⟨rfl, g2, hk2.wide⟩)
        clear hk2 q3 q4
        go_wp2
        go_ret
        exact HP.out
    · have HE := hid ((HB.out.trans (if_neg hq)).trans (if_neg hr))
      have HP := hid (show EffPost w0 g0 p d h t H (beginD s.data.toList vs) (.returned (.bool false)) w1 from by rw [HE.out]; exact ⟨rfl, K1.out.none⟩)
      have hnl : (vs.length : Int) ≤ 10000 := by omega
      clear HB HE
      by_cases h3 : m = 3
      · subst h3
        have q2 : ((vs.length : Int) == 2) = false := by rw [beq_eq_false_iff_ne]; exact fun e => hq ⟨rfl, by omega⟩
        clear hq hr
        go_wp2
        go_ret
        exact HP.out
      · have q3 : (m == 3) = false := by simpa using h3
        have q4 : (m != 3) = true := by simpa using h3
        by_cases h0 : 0 < m
        · have q1 : ((vs.length : Int) == 1) = false := by rw [beq_eq_false_iff_ne]; exact fun e => hr ⟨h0, h3, by omega⟩
          clear hq hr h3
          go_wp2
          go_ret
          exact HP.out
        · clear hq hr h3
          go_wp2
          go_ret
          exact HP.out

end Go.Proofs.YtoiobhcgpajogabGreatDoor
