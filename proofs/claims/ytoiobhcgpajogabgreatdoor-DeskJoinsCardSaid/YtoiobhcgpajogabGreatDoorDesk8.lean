/- A desk: step as a whole; the walk of put. -/
import Derived.Test.YtoiobhcgpajogabGreatDoorDesk7
import Derived.Lib.SplitLaws
import Derived.Shelf.SlicesE.DeleteFunc
namespace Go.Proofs.YtoiobhcgpajogabGreatDoor
open Go.RowKit

theorem wordD_cases (w : List UInt8) : wordD w = (2, 2) ∨ wordD w = (4, 2) ∨ wordD w = (5, 3) ∨ wordD w = (6, 1) ∨ wordD w = (7, 1) ∨ wordD w = (8, 0) ∨ wordD w = (9, 0) ∨ wordD w = (10, 2) ∨ wordD w = (0, 0) := by
  unfold wordD
  repeat' split
  all_goals simp

theorem desk_step (w0 : World) (g0 g : Nat → Nat) (p d h : Nat) (t : List UInt8) (H : Ht) (w : World) (hp : 1 ≤ p) (k : DkAt w0 g0 p d h t H g w) (hO : ∀ x, EvOk (doH H x).1) (ht : t.length ≤ 800000000)
    (s : ByteArray) (vs : List Int) (a : Option Addr) (cap : Nat) (hR : RowC w g (p + 20) 3 1 (.slice a vs.length cap) vs.length (vs.map (Value.int .i64))) (x : St) (hs : stepD s.data.toList vs = some x) :
    Calls Tryz.prog 20 #[.pointer (some ⟨d, 0, none⟩), .string s, .slice a vs.length cap] w (EffPost w0 g0 p d h t H (some x)) := by
  have hq : ¬ ((wordD s.data.toList).1 = 0 ∨ vs.length ≠ (wordD s.data.toList).2) := by
    intro hq
    unfold stepD at hs
    rw [if_pos hq] at hs
    cases hs
  rcases wordD_cases s.data.toList with hw | hw | hw | hw | hw | hw | hw | hw | hw
  · rw [hw] at hq
    match vs, (show vs.length = 2 by simp only at hq; omega), hR, hs with
    | [n0, n1], _, hR, hs =>
      obtain rfl : (⟨2, n0, 0, 0, n1, 0, 0, ByteArray.empty⟩ : St) = x := by simpa [stepD, hw] using hs
      exact desk_step_get w0 g0 g p d h t H w hp k hO ht s n0 n1 a cap hR hw
  · rw [hw] at hq
    match vs, (show vs.length = 2 by simp only at hq; omega), hR, hs with
    | [n0, n1], _, hR, hs =>
      obtain rfl : (⟨4, n0, 0, 0, n1, 0, 0, ByteArray.empty⟩ : St) = x := by simpa [stepD, hw] using hs
      exact desk_step_drop w0 g0 g p d h t H w hp k hO ht s n0 n1 a cap hR hw
  · rw [hw] at hq
    match vs, (show vs.length = 3 by simp only at hq; omega), hR, hs with
    | [n0, n1, n2], _, hR, hs =>
      obtain rfl : (⟨5, n0, 0, 0, n1, n2, 0, ByteArray.empty⟩ : St) = x := by simpa [stepD, hw] using hs
      exact desk_step_list w0 g0 g p d h t H w hp k hO ht s n0 n1 n2 a cap hR hw
  · rw [hw] at hq
    match vs, (show vs.length = 1 by simp only at hq; omega), hR, hs with
    | [n0], _, hR, hs =>
      obtain rfl : (⟨6, n0, 0, 0, 0, 0, 0, ByteArray.empty⟩ : St) = x := by simpa [stepD, hw] using hs
      exact desk_step_commit w0 g0 g p d h t H w hp k hO ht s n0 a cap hR hw
  · rw [hw] at hq
    match vs, (show vs.length = 1 by simp only at hq; omega), hR, hs with
    | [n0], _, hR, hs =>
      obtain rfl : (⟨7, n0, 0, 0, 0, 0, 0, ByteArray.empty⟩ : St) = x := by simpa [stepD, hw] using hs
      exact desk_step_abort w0 g0 g p d h t H w hp k hO ht s n0 a cap hR hw
  · rw [hw] at hq
    match vs, (show vs.length = 0 by simp only at hq; omega), hR, hs with
    | [], _, hR, hs =>
      obtain rfl : (⟨8, 0, 0, 0, 0, 0, 0, ByteArray.empty⟩ : St) = x := by simpa [stepD, hw] using hs
      exact desk_step_clear w0 g0 g p d h t H w hp k hO ht s a cap hR hw
  · rw [hw] at hq
    match vs, (show vs.length = 0 by simp only at hq; omega), hR, hs with
    | [], _, hR, hs =>
      obtain rfl : (⟨9, 0, 0, 0, 0, 0, 0, ByteArray.empty⟩ : St) = x := by simpa [stepD, hw] using hs
      exact desk_step_crash w0 g0 g p d h t H w hp k hO ht s a cap hR hw
  · rw [hw] at hq
    match vs, (show vs.length = 2 by simp only at hq; omega), hR, hs with
    | [n0, n1], _, hR, hs =>
      obtain rfl : (⟨10, n0, 0, 0, 0, 0, n1, ByteArray.empty⟩ : St) = x := by simpa [stepD, hw] using hs
      exact desk_step_tear w0 g0 g p d h t H w hp k hO ht s n0 n1 a cap hR hw
  · rw [hw] at hq
    exact absurd (.inl rfl) hq

/-- Numbers of words, with the desk as it is. -/
def NumsAt (w0 : World) (g0 : Nat → Nat) (p d h : Nat) (t : List UInt8) (H : Ht) (m : Option (List Int)) (g : Nat → Nat) (w : World) (e : Ending) (w' : World) : Prop :=
  ∃ a n cap g', e = .returned (.tuple #[.slice a n cap, .bool m.isSome]) ∧ DkAt w0 g0 p d h t H g' w' ∧ (∀ vs, m = some vs → n = vs.length ∧ RowC w' g' (p + 20) 3 1 (.slice a vs.length cap) vs.length (vs.map (Value.int .i64))) ∧ Below w.heap.size w w' ∧ Evo 0 0 g g' w w'

theorem desk_nums (w0 : World) (g0 g : Nat → Nat) (p d h : Nat) (t : List UInt8) (H : Ht) (w : World) (k : DkAt w0 g0 p d h t H g w) (a : Option Addr) (cap : Nat) (xs : List ByteArray) (hn : xs.length ≤ 10000) (hx : ∀ x ∈ xs, x.size ≤ 100000) (hA : StrsAt w a xs) :
    Calls Tryz.prog 19 #[.slice a xs.length cap] w (NumsAt w0 g0 p d h t H (numsD (xs.map (·.data.toList))) g w) := by
  refine (desk_numbers g a cap xs w hn hx hA k.glob).mono ?_
  rintro e w' ⟨v, rfl, h0, hr, hb⟩
  have hE : Evo 0 0 g (extc g w (p + 20)) w w' := Evo.of_below g (p + 20) hb
  generalize numsD (xs.map (·.data.toList)) = m at *
  cases m with
  | none =>
    rw [h0 rfl]
    exact ⟨Option.none, 0, 0, _, rfl, k.fresh hE, nofun, hb, hE⟩
  | some vs =>
    have h := hr vs rfl
    obtain ⟨a', c', rfl, -, -⟩ := ownsRow.sliceAt h
    exact ⟨a', vs.length, c', _, rfl, k.fresh hE, fun vs' e => by cases e; exact ⟨rfl, ownsRow.zero h, fun r hr => extc_new (h.lt r hr).1⟩, hb, hE⟩

theorem head61 (c : List UInt8) : Lib.hasPrefix c [61] = decide (c.head? = some 61) := by
  cases c with
  | nil => rfl
  | cons x c =>
    simp only [Lib.hasPrefix, List.isPrefixOf, Bool.and_true, List.head?_cons, Option.some.injEq]
    by_cases h : x = 61
    · subst h; rfl
    · rw [decide_eq_false h, beq_eq_false_iff_ne]; exact fun e => h e.symm

theorem trim61 (c : List UInt8) (h : c.head? = some 61) : Lib.trimPrefix c [61] = c.tail := by
  unfold Lib.trimPrefix
  rw [head61, h]
  cases c with
  | nil => cases h
  | cons x c => rfl

theorem trim_le (c : List UInt8) : (Lib.trimPrefix c [61]).length ≤ c.length := by
  unfold Lib.trimPrefix
  split
  · simp
  · exact Nat.le_refl _

theorem meanL_le {t v : List UInt8} (h : meanL t = some v) : v.length ≤ t.length := by
  unfold meanL at h
  simp only [Option.bind_eq_some_iff] at h
  obtain ⟨r, -, h⟩ := h
  split at h
  · rename_i e
    cases h
    rw [← e]
    exact (showL_length v).1
  · cases h

theorem putD3_three (a b c : List UInt8) : putD3 [a, b, c] = match numsD [a, b] with
    | some [s, k] => if c.head? = some 61 then (meanL c.tail).map (fun v => ⟨3, s, 0, 0, k, 0, 0, ⟨v.toArray⟩⟩) else none
    | _ => none := rfl

set_option maxHeartbeats 4000000 in
set_option maxRecDepth 100000 in
theorem desk_put_few (d : Nat) (w : World) (a : Option Addr) (cap n : Nat) (hn : n ≠ 3) (hn2 : n ≤ 1000000) :
    Calls Tryz.prog 18 #[.pointer (some ⟨d, 0, none⟩), .slice a n cap] w (fun e w' => e = .returned (.bool false) ∧ w = w') := by
  have h1 : ((n : Int) != 3) = true := by simp only [bne_iff_ne, ne_eq]; omega
  have h2 : (n : Int) ≤ 1000000 := by omega
  go_enter Tryz.func18, Tryz.ntmps18
  go_wp2
  go_ret
  exact ⟨rfl, rfl⟩

set_option maxHeartbeats 8000000 in
set_option maxRecDepth 100000 in
theorem desk_put (w0 : World) (g0 g : Nat → Nat) (p d h : Nat) (t : List UInt8) (H : Ht) (w : World) (hp : 1 ≤ p) (k : DkAt w0 g0 p d h t H g w) (hO : ∀ x, EvOk (doH H x).1) (ht : t.length ≤ 800000000)
    (bk off cap : Nat) (xa xb xc : ByteArray) (hcap : 3 ≤ cap) (hx : xa.size ≤ 100000 ∧ xb.size ≤ 100000 ∧ xc.size ≤ 100000) (hA : StrsAt w (some ⟨bk, off, none⟩) [xa, xb, xc]) :
    Calls Tryz.prog 18 #[.pointer (some ⟨d, 0, none⟩), .slice (some ⟨bk, off, none⟩) 3 cap] w (EffPost w0 g0 p d h t H (putD3 [xa.data.toList, xb.data.toList, xc.data.toList])) := by
  have OK := hid hO
  have HA := hid hA
  have HPD := hid (putD3_three xa.data.toList xb.data.toList xc.data.toList)
  have hcap2 : (2 : Int) ≤ (cap : Int) := by omega
  have hbk : bk < w.heap.size := by
    obtain ⟨b, o, e, hb⟩ := SliceAt.lt hA (by simp)
    cases e
    exact hb
  have CN := hid (desk_nums w0 g0 g p d h t H w k (some ⟨bk, off, none⟩) cap [xa, xb] (by simp) (by intro x hx'; simp at hx'; rcases hx' with rfl | rfl <;> omega) (by
    rcases hA with h | ⟨b, o, e, hc⟩
    · simp at h
    · cases e
      refine .inr ⟨bk, off, rfl, fun j u hj => hc j u ?_⟩
      match j, hj with
      | 0, hj => exact hj
      | 1, hj => exact hj
      | j + 2, hj => simp at hj))
  have hxc := hx.2.2
  clear hO hA k hx
  go_enter Tryz.func18, Tryz.ntmps18
  go_wp2_with fail
  refine CN.out.mono ?_
  rintro e w1 ⟨a1, n1, c1, g1, rfl, hk1, hr1, hb1, -⟩
  have K1 := hid hk1
  have R1 := hid hr1
  have HPX := hid (show numsD (([xa, xb] : List ByteArray).map (·.data.toList)) = numsD [xa.data.toList, xb.data.toList] from rfl)
  rw [HPX.out] at R1 ⊢
  have hcc : w1.cell? ⟨bk, off + 2, none⟩ = some (.string xc) := (below_cell hb1 hbk).trans (sliceAt_get HA.out (j := 2) rfl)
  have CT := hid (Tryz.strings_TrimPrefix xc ⟨#[61]⟩ w1)
  clear hk1 hr1 CN
  clear hb1
  go_wp2_with fail
  refine CT.out.mono ?_
  rintro e w2 ⟨rfl, hw2⟩
  rw [hw2]
  clear hw2 CT
  have hT : (Lib.trimPrefix xc.data.toList (⟨#[61]⟩ : ByteArray).data.toList).length ≤ 100000 := by
    have := trim_le xc.data.toList
    have h3 : xc.data.toList.length = xc.size := by simp
    show (Lib.trimPrefix xc.data.toList [61]).length ≤ _
    omega
  have HT := hid (show xc.data.toList.head? = some 61 → Lib.trimPrefix xc.data.toList (⟨#[61]⟩ : ByteArray).data.toList = xc.data.toList.tail from trim61 _)
  generalize Lib.trimPrefix xc.data.toList (⟨#[61]⟩ : ByteArray).data.toList = T at *
  have MT := hid (text_Mean ⟨T.toArray⟩ w1 (by show T.toArray.size ≤ _; simp only [List.size_toArray]; omega))
  go_wp2_with fail
  refine MT.out.mono ?_
  rintro e w3 ⟨rfl, hb3⟩
  have HMT := hid (show meanL (⟨T.toArray⟩ : ByteArray).data.toList = meanL T from rfl)
  rw [HMT.out]
  have K3 := hid (K1.out.below hb3)
  have hc3 : w3.cell? ⟨bk, off + 2, none⟩ = some (.string xc) := (below_cell hb3 (World.block_lt_of_cell? _ _ hcc)).trans hcc
  have R3 := hid (fun vs (e : numsD [xa.data.toList, xb.data.toList] = some vs) => And.intro (R1.out vs e).1 ((R1.out vs e).2.frame (Evo.of_same (lo := 0) (hi := 0) hb3) (by omega)))
  have HL2 := hid (fun vs (e : numsD [xa.data.toList, xb.data.toList] = some vs) => numsD_length _ vs e)
  have CH := hid (Tryz.strings_HasPrefix xc ⟨#[61]⟩ w3)
  have HH := hid (show Lib.hasPrefix xc.data.toList (⟨#[61]⟩ : ByteArray).data.toList = decide (xc.data.toList.head? = some 61) from head61 _)
  clear hb3 hcc K1 R1 MT HMT
  generalize hnm : numsD [xa.data.toList, xb.data.toList] = nm at *
  have HNM := hid hnm
  clear hnm
  cases nm with
  | none =>
    have HP := hid (show EffPost w0 g0 p d h t H (putD3 [xa.data.toList, xb.data.toList, xc.data.toList]) (.returned (.bool false)) w3 from by rw [HPD.out]; exact ⟨rfl, K3.out.none⟩)
    clear HPD HL2 CH HH R3 K3 HT
    go_wp2
    go_ret
    exact HP.out
  | some vs =>
  obtain ⟨rfl, hr3⟩ := R3.out vs rfl
  have hv2 := HL2.out vs rfl
  match vs, hv2, hr3 with
  | [n0, n1], _, hr3 =>
  have RW := hid hr3
  clear hr3 R3 HL2
  cases hm : meanL T with
  | none =>
    have HN := hid (show (if xc.data.toList.head? = some 61 then (meanL xc.data.toList.tail).map (fun v => (⟨3, n0, 0, 0, n1, 0, 0, ⟨v.toArray⟩⟩ : St)) else none) = none from by
      by_cases hh : xc.data.toList.head? = some 61
      · rw [if_pos hh, ← HT.out hh, hm]; rfl
      · rw [if_neg hh])
    have HP := hid (show EffPost w0 g0 p d h t H (putD3 [xa.data.toList, xb.data.toList, xc.data.toList]) (.returned (.bool false)) w3 from by rw [HPD.out, show (match some [n0, n1] with | some [s, k] => if xc.data.toList.head? = some 61 then (meanL xc.data.toList.tail).map (fun v => (⟨3, s, 0, 0, k, 0, 0, ⟨v.toArray⟩⟩ : St)) else none | _ => none) = none from HN.out]; exact ⟨rfl, K3.out.none⟩)
    clear HPD CH HH K3 HT HN RW hm
    go_wp2
    go_ret
    exact HP.out
  | some v =>
    have HMV := hid hm
    clear hm
    rw [HH.out] at CH
    go_wp2_with fail
    refine CH.out.mono ?_
    rintro e w4 ⟨rfl, hw4⟩
    rw [hw4]
    clear hw4 CH
    by_cases hh : xc.data.toList.head? = some 61
    · have HN := hid (show putD3 [xa.data.toList, xb.data.toList, xc.data.toList] = some ⟨3, n0, 0, 0, n1, 0, 0, ⟨v.toArray⟩⟩ from by
        rw [HPD.out]
        show (if xc.data.toList.head? = some 61 then (meanL xc.data.toList.tail).map (fun v => (⟨3, n0, 0, 0, n1, 0, 0, ⟨v.toArray⟩⟩ : St)) else none) = _
        rw [if_pos hh, ← HT.out hh, HMV.out]
        rfl)
      have hvl := meanL_le HMV.out
      have hd : decide (xc.data.toList.head? = some 61) = true := by simpa using hh
      rw [hd]
      obtain ⟨b7, o7, rfl, hb7⟩ := SliceAt.lt (cells := [.int .i64 n0, .int .i64 n1]) RW.out.sliceAt (by simp)
      have hS0 : w3.drew.cell? ⟨b7, o7, none⟩ = some (.int .i64 n0) ∧ w3.drew.cell? ⟨b7, o7 + 1, none⟩ = some (.int .i64 n1) := ⟨sliceAt_get RW.out.sliceAt (j := 0) rfl, sliceAt_get RW.out.sliceAt (j := 1) rfl⟩
      clear hd hh HH HT HPD HMV
      go_wp2_with fail
      -- REGION 7
      refine wp_region_noPanic ?_
      refine wp_region_held_drew (S := (fun W : World => W.cell? ⟨b7, o7, none⟩ = some (.int .i64 n0) ∧ W.cell? ⟨b7, o7 + 1, none⟩ = some (.int .i64 n1))) (by kernel_rfl) ?_ (fun hH0 => ?_)
      · (try dsimp only); (first | assumption | exact hS0)
      refine tk 0 (h := ?_)
      try simp only [Act.put, List.setIfInBounds_toArray, List.set_cons_zero, List.set_cons_succ]
      refine tk 1 (h := ?_)
      try simp only [Act.put, List.setIfInBounds_toArray, List.set_cons_zero, List.set_cons_succ]
      refine tk 2 (h := ?_)
      try simp only [Act.put, List.setIfInBounds_toArray, List.set_cons_zero, List.set_cons_succ]
      refine tk 3 (h := ?_)
      try simp only [Act.put, List.setIfInBounds_toArray, List.set_cons_zero, List.set_cons_succ]
      refine tk 4 (h := ?_)
      try simp only [Act.put, List.setIfInBounds_toArray, List.set_cons_zero, List.set_cons_succ]
      refine tk 5 (h := ?_)
      try simp only [Act.put, List.setIfInBounds_toArray, List.set_cons_zero, List.set_cons_succ]
      refine tk 6 (h := ?_)
      try simp only [Act.put, List.setIfInBounds_toArray, List.set_cons_zero, List.set_cons_succ]
      refine tk 7 (h := ?_)
      try simp only [Act.put, List.setIfInBounds_toArray, List.set_cons_zero, List.set_cons_succ]
      refine tk 8 (h := ?_)
      try simp only [Act.put, List.setIfInBounds_toArray, List.set_cons_zero, List.set_cons_succ]
      refine wpAnyH_ready (rs := [9]) (by kernel_rfl) (by simp) ?_
      refine AllReadyH.cons (by simp only [List.getElem?_toArray, List.getElem?_cons_zero, List.getElem?_cons_succ]; rfl) (fun K hK => ?_) AllReadyH.nil
      go_simp
      go_at_call 35
      refine (desk_did_ok w0 g0 g1 p d h t H ⟨3, n0, 0, 0, n1, 0, 0, ⟨v.toArray⟩⟩ w3.drew hp (K3.out.below (Below.refl _ _).drew) (by show v.toArray.size ≤ maxLen; simp only [List.size_toArray]; unfold maxLen; omega) OK.out ht (fun ev h => by simp [tellD, h])).mono ?_
      rintro e w5 ⟨rfl, g5, hk5, hE5⟩
      have R5 := RW.out.frame ((Evo.drew p (p + 19) g1 w3).trans hE5) (by omega)
      have hS' : w5.cell? ⟨b7, o7, none⟩ = some (.int .i64 n0) ∧ w5.cell? ⟨b7, o7 + 1, none⟩ = some (.int .i64 n1) := ⟨sliceAt_get R5.sliceAt (j := 0) rfl, sliceAt_get R5.sliceAt (j := 1) rfl⟩
      have HK5 := hid hk5
      clear hk5 hE5 R5
      try go_wp2_with fail
      refine hK.out _ _ ?_ (fun hH1 => ?_)
      · (try dsimp only); (first | assumption | exact hS0)
      clear hK K hH0
      try simp only [Act.put, List.setIfInBounds_toArray, List.set_cons_zero, List.set_cons_succ]
      refine wpAnyH_done (by kernel_rfl) ?_ _
      refine NoPanic.normal ?_
      have HP := hid (show EffPost w0 g0 p d h t H (putD3 [xa.data.toList, xb.data.toList, xc.data.toList]) (.returned (.bool true)) w5 from by rw [HN.out]; exact ⟨rfl, g5, HK5.out.wide⟩)
      clear hS' HK5
      go_wp2
      go_ret
      exact HP.out
      -- END 7
    · have HN := hid (show putD3 [xa.data.toList, xb.data.toList, xc.data.toList] = none from by
        rw [HPD.out]
        show (if xc.data.toList.head? = some 61 then (meanL xc.data.toList.tail).map (fun v => (⟨3, n0, 0, 0, n1, 0, 0, ⟨v.toArray⟩⟩ : St)) else none) = _
        rw [if_neg hh])
      have hd : decide (xc.data.toList.head? = some 61) = false := by simpa using hh
      rw [hd]
      have HP := hid (show EffPost w0 g0 p d h t H (putD3 [xa.data.toList, xb.data.toList, xc.data.toList]) (.returned (.bool false)) w3 from by rw [HN.out]; exact ⟨rfl, K3.out.none⟩)
      clear HPD HH K3 HT HN RW hh hd
      go_wp2
      go_ret
      exact HP.out

end Go.Proofs.YtoiobhcgpajogabGreatDoor

/- A desk: the words of a line. -/
namespace Go.Proofs.YtoiobhcgpajogabGreatDoor
open Go.RowKit

def wordsB (s : ByteArray) : List ByteArray := (Lib.splitB ⟨#[32]⟩ 0 (Lib.countB s ⟨#[32]⟩) s).filter (fun x => !x.data.toList.isEmpty)

theorem filter_data : ∀ (l : List ByteArray), (l.filter (fun x => !x.data.toList.isEmpty)).map (·.data.toList) = (l.map (·.data.toList)).filter (fun w => decide (w ≠ []))
  | [] => rfl
  | x :: l => by
    rw [List.map_cons, List.filter_cons, List.filter_cons]
    by_cases h : x.data.toList = []
    · rw [if_neg (by simpa using h), if_neg (by simpa using h)]; exact filter_data l
    · rw [if_pos (by simpa using h), if_pos (by simpa using h), List.map_cons, filter_data l]

theorem wordsB_data (s : ByteArray) : (wordsB s).map (·.data.toList) = wordsD s.data.toList := by
  unfold wordsB wordsD
  rw [filter_data, Lib.splitB_data]
  rfl

theorem splitB_le (sep : ByteArray) : ∀ (k : Nat) (s x : ByteArray), x ∈ Lib.splitB sep 0 k s → x.size ≤ s.size
  | 0, s, x, h => by
    rw [Lib.splitB_zero, List.mem_singleton] at h
    subst h; exact Nat.le_refl _
  | k + 1, s, x, h => by
    unfold Lib.splitB at h
    split at h
    · rw [List.mem_singleton] at h; subst h; exact Nat.le_refl _
    · rcases List.mem_cons.1 h with h | h
      · subst h; simp only [ByteArray.size_extract]; omega
      · have := splitB_le sep k _ x h
        simp only [ByteArray.size_extract] at this
        omega

theorem wordsB_le {s x : ByteArray} (h : x ∈ wordsB s) : x.size ≤ s.size := splitB_le _ _ _ _ (List.mem_filter.1 h).1

theorem split_len (s : ByteArray) : (Lib.splitB ⟨#[32]⟩ 0 (Lib.countB s ⟨#[32]⟩) s).length = Lib.countB s ⟨#[32]⟩ + 1 := Lib.splitB_all ⟨#[32]⟩ (by decide) 0 _ s rfl
theorem count_len (s : ByteArray) : Lib.countB s ⟨#[32]⟩ ≤ s.size := Lib.countB_le ⟨#[32]⟩ (by decide) s.size s (Nat.le_refl _)

theorem wordsB_len (s : ByteArray) : (wordsB s).length ≤ Lib.countB s ⟨#[32]⟩ + 1 := by
  rw [← split_len s]
  exact List.length_filter_le _ _

theorem line1_gives (x : ByteArray) (W : World) : FnGives Tryz.prog 17 #[] #[.string x] (.bool x.data.toList.isEmpty) W := by
  show Calls Tryz.prog 17 #[.string x] W _
  go_enter Tryz.func17, Tryz.ntmps17
  go_wp2
  all_goals
    go_ret
    refine ⟨?_, 0, rfl⟩
    simp only [toList_data] at *
    simp_all

def WordsPost (s : ByteArray) (w : World) (e : Ending) (w' : World) : Prop :=
  e = .returned (.slice (some ⟨w.heap.size, 0, none⟩) (wordsB s).length (Lib.countB s ⟨#[32]⟩ + 1)) ∧ Below w.heap.size w w' ∧ StrsAt w' (some ⟨w.heap.size, 0, none⟩) (wordsB s)

set_option maxHeartbeats 4000000 in
set_option maxRecDepth 100000 in
theorem desk_words (s : ByteArray) (w : World) (hs : s.size ≤ 100000) :
    Calls Tryz.prog 15 #[.slice (some ⟨w.heap.size, 0, none⟩) (Lib.countB s ⟨#[32]⟩ + 1) (Lib.countB s ⟨#[32]⟩ + 1), .func (.func 17) #[] #[]] (w.alloc (.cells ((Lib.splitB ⟨#[32]⟩ 0 (Lib.countB s ⟨#[32]⟩) s).map Value.string).toArray 9)) (WordsPost s w) := by
  have eg : ∀ args w, (callFunc 17 args).run Tryz.prog w = .ok (.enter 17 args) w := enters_of Tryz.func17 (by kernel_rfl) rfl
  have hsl := split_len s
  have hcl := count_len s
  have hL := Loc.new w 9 ((Lib.splitB ⟨#[32]⟩ 0 (Lib.countB s ⟨#[32]⟩) s).map Value.string)
  have hdat := wordsB_data s
  unfold WordsPost
  have hwb : wordsB s = (Lib.splitB ⟨#[32]⟩ 0 (Lib.countB s ⟨#[32]⟩) s).filter (fun x => !x.data.toList.isEmpty) := rfl
  rw [hwb]
  generalize Lib.splitB ⟨#[32]⟩ 0 (Lib.countB s ⟨#[32]⟩) s = l at *
  rw [← hsl]
  have hH : Sort.Holds Value.string (w.alloc (.cells (l.map Value.string).toArray 9)) w.heap.size 0 l.toArray := fun j hj => by
    have hj' : j < l.length := by simpa using hj
    refine ⟨?_, hL.free _⟩
    rw [hL.cell, Nat.zero_add, List.getElem?_map, List.getElem?_eq_getElem hj']
    simp [hj']
  have hcon := Tryz.slices_DeleteFunc Value.string (fun _ => rfl) (fun x : ByteArray => x.data.toList.isEmpty) 17 #[] eg ByteArray.empty (fun w => by kernel_rfl) w.heap.size 0 l.length l.toArray (w.alloc (.cells (l.map Value.string).toArray 9)) (fun W x _ => line1_gives x W) (fun n os dk x _ => line1_gives x _) hH (by simp; omega) (by simp)
  simp only [List.size_toArray] at hcon
  refine hcon.mono ?_
  rintro e w' ⟨rfl, q, rfl⟩
  have hfl := List.length_filter_le (fun x : ByteArray => !x.data.toList.isEmpty) l
  have hsz : ((l.filter (fun x => !x.data.toList.isEmpty)) ++ List.replicate (l.length - (l.filter (fun x => !x.data.toList.isEmpty)).length) ByteArray.empty).toArray.size = l.toArray.size := by
    simp only [List.size_toArray, List.length_append, List.length_replicate]
    omega
  refine ⟨rfl, ⟨rfl, rfl, rfl, ?_, fun k hk => ?_⟩, .inr ⟨_, _, rfl, fun j u hj => ?_⟩⟩
  · rw [Sort.size_putRow]
    show w.heap.size ≤ (w.alloc _).heap.size
    rw [World.size_alloc]
    omega
  · unfold Sort.putRow Sort.mapBlock
    rw [Array.getElem?_modify, if_neg (by omega)]
    exact Below.heap_alloc w _ k hk
  · rw [List.getElem?_map] at hj
    obtain ⟨x, hx, rfl⟩ := Option.map_eq_some_iff.1 hj
    have hjl : j < (l.filter (fun x => !x.data.toList.isEmpty)).length := (List.getElem?_eq_some_iff.1 hx).1
    have hc := Sort.cell?_putRow Value.string (Sort.ahead (w.alloc (.cells (l.map Value.string).toArray 9)) q) w.heap.size 0 l.toArray _ (Sort.holds_ahead _ _ q _ _ _ hH) hsz j (by rw [hsz]; simp only [List.size_toArray]; omega)
    refine hc.trans ?_
    congr 2
    rw [getElem!_pos _ j (by rw [hsz]; simp only [List.size_toArray]; omega)]
    simp only [List.getElem_toArray]
    rw [List.getElem_append_left hjl]
    exact (List.getElem?_eq_some_iff.1 hx).2

end Go.Proofs.YtoiobhcgpajogabGreatDoor
