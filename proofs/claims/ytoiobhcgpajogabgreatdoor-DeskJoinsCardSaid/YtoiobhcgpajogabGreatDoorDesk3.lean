/- A desk: what is told of an event; the walks of say and of do. -/
import Derived.Test.YtoiobhcgpajogabGreatDoorDesk2
import Derived.Test.YtoiobhcgpajogabGreatDoorDeskQ
import Derived.Deep.MidRow
namespace Go.Proofs.YtoiobhcgpajogabGreatDoor
open Go.RowKit

set_option maxHeartbeats 2000000 in
theorem desk_tellV (c n : Int) (b : Bool) (s : ByteArray) (hs : s.size ≤ 1000) (a : Option Addr) (len cap : Nat) (w : World) :
    Calls Tryz.prog 39 #[.agg #[.int .i64 c, .int .i64 n, .bool b, .string s, .slice a len cap]] w (StrPost (b_has ++ 32 :: valL ⟨b, s⟩) w) := by
  have hb := hid ((Below.refl w.heap.size w).alloc (Nat.le_refl _) (.cells #[.int .i64 c, .int .i64 n, .bool b, .string s, .slice a len cap] 87))
  have L0 := hid (Loc.new w 87 [.int .i64 c, .int .i64 n, .bool b, .string s, .slice a len cap])
  have hv : (valL ⟨b, s⟩).length ≤ 10000 := by
    have h2 := (showL_length s.data.toList).2
    have h3 : s.data.toList.length = s.size := by simp
    unfold valL
    split <;> simp <;> omega
  have k2 := L0.out.cell 2
  have k3 := L0.out.cell 3
  go_enter Tryz.func39, Tryz.ntmps39
  go_wp2_with fail
  refine (text_Value b s _ (by omega)).mono ?_
  rintro e w1 ⟨rfl, hb1⟩
  have HB2 := hid (hb.out.trans (hb1.mono hb.out.size))
  clear hb1 k2 k3
  go_wp2
  go_ret
  exact ⟨rfl, HB2.out⟩

theorem pairsD_snoc (l : List Ent) (x : Ent) : pairsD (l ++ [x]) = pairsD l ++ (32 :: (Lib.itoa x.n ++ valL x.v)) := by simp [pairsD]

set_option maxHeartbeats 4000000 in
set_option maxRecDepth 100000 in
theorem desk_pairs (a : Option Addr) (cap : Nat) (l : List Ent) (w : World) (h8 : l.length ≤ 8) (hl : ∀ x ∈ l, 0 ≤ x.n ∧ x.n < 8 ∧ ckV x.v = 0) (hA : SliceAt w a (encEnts l)) (hT : Lib.TabIs Tryz.prog w "internal/strconv.uint64pow10" .u64 Lib.pow10Tab) :
    Calls Tryz.prog 42 #[.slice a l.length cap] w (StrPost (pairsD l) w) := by
  have HA := hid hA
  have HT := hid hT
  have HL := hid hl
  have hpl := pairsD_le l hl
  clear hA hT hl
  go_enter Tryz.func42, Tryz.ntmps42
  go_wp2
  go_loopw [3, 8] (fun s i wr => ∃ (k : Nat) (r : ByteArray), k ≤ l.length ∧ i = .int .i64 k ∧ s = .string r ∧ Hid (r = ⟨(pairsD (l.take k)).toArray⟩) ∧ r.size ≤ 59 * k ∧ Hid (Below w.heap.size w wr)) (fun _ i _ => l.length - (intOf i).toNat)
  case atStart => exact ⟨0, ⟨#[]⟩, Nat.zero_le _, rfl, rfl, hid rfl, by simp [ByteArray.size], hid (Below.refl _ _)⟩
  case round =>
    obtain ⟨k, r, hk, rfl, rfl, HR, hr, HB⟩ := hrel
    by_cases hlt : k < l.length
    · obtain ⟨bk, off, rfl, hf⟩ := HA.out.ents (by omega)
      obtain ⟨e0, e1, e2⟩ := hf k hlt
      have hbk : bk < w.heap.size := World.block_lt_of_cell? w _ e0
      have q0 := (below_cell HB.out hbk).trans e0
      have q1 := (below_cell HB.out hbk).trans e1
      have q2 := (below_cell HB.out hbk).trans e2
      obtain ⟨x0, x1, x2⟩ := HL.out l[k] (List.getElem_mem _)
      have ST := hid (show pairsD (l.take (k + 1)) = pairsD (l.take k) ++ (32 :: (Lib.itoa l[k].n ++ valL l[k].v)) from by rw [List.take_succ_eq_append_getElem hlt, pairsD_snoc])
      clear hf e0 e1 e2
      generalize l[k] = x at *
      have hs12 := size12 x2
      have hv37 := valL_le x2
      have hi21 := itoa_le21 x0 (by omega)
      have hki : (k : Int) < (l.length : Int) := by omega
      have hk0 : (0 : Int) ≤ (k : Int) := by omega
      have j1 : ¬ (9223372036854775807 < 1 + (Lib.itoa x.n).length) := by omega
      have j2 : ¬ (9223372036854775807 < 1 + (Lib.itoa x.n).length + (valL x.v).length) := by omega
      have j3 : ¬ (9223372036854775807 < r.size + (1 + (Lib.itoa x.n).length + (valL x.v).length)) := by omega
      go_upto_region 5 with (fail)
      have hbA := (Below.refl wr.heap.size wr).alloc (Nat.le_refl _) (.cells #[.int .i64 x.n, .bool x.v.there, .string x.v.bytes] 107)
      have HB1 := hid (HB.out.trans (hbA.mono HB.out.size))
      have LP := hid (Loc.new wr 107 [.int .i64 x.n, .bool x.v.there, .string x.v.bytes])
      clear hbA HB q0 q1 q2
      generalize wr.alloc (.cells #[.int .i64 x.n, .bool x.v.there, .string x.v.bytes] 107) = w1 at *
      generalize wr.heap.size = bp at *
      have NT := hid (fun W (h : Below w1.heap.size w1 W) => tabIs_below (tabIs_below HT.out HB1.out) h)
      have KS := hid (fun W (h : Below w1.heap.size w1 W) => (show Below w1.heap.size w1 W ∧ W.cell? ⟨bp, 0, none⟩ = some (.int .i64 x.n) ∧ W.cell? ⟨bp, 1, none⟩ = some (.bool x.v.there) ∧ W.cell? ⟨bp, 2, none⟩ = some (.string x.v.bytes) from ⟨h, (LP.out.keep h).cell 0, (LP.out.keep h).cell 1, (LP.out.keep h).cell 2⟩))
      -- REGION 5
      refine wp_region_noPanic ?_
      refine wp_region_held_drew (S := (fun W' : World => Below w1.heap.size w1 W' ∧ W'.cell? ⟨bp, 0, none⟩ = some (.int .i64 x.n) ∧ W'.cell? ⟨bp, 1, none⟩ = some (.bool x.v.there) ∧ W'.cell? ⟨bp, 2, none⟩ = some (.string x.v.bytes))) (by kernel_rfl) ?_ (fun hH0 => ?_)
      · (try dsimp only); (first | assumption | exact KS.out _ (Below.refl w1.heap.size w1).drew)
      refine wpAnyH_take (i := 0) (v := ?_) (by simp only [List.getElem?_toArray, List.getElem?_cons_zero]; rfl) (by kernel_rfl) (by kernel_rfl) (by kernel_rfl) (fun _ _ _ h => h) (Or.inl ⟨by rfl, ?_⟩) (by assumption) ?_
      rotate_left
      · intro w hSw; (try dsimp only at hSw); go_simp; (try with_reducible rfl)
      try simp only [Act.put, List.setIfInBounds_toArray, List.set_cons_zero, List.set_cons_succ]
      refine wpAnyH_take (i := 1) (v := ?_) (by simp only [List.getElem?_toArray, List.getElem?_cons_zero, List.getElem?_cons_succ]; rfl) (by kernel_rfl) (by kernel_rfl) (by kernel_rfl) (fun _ _ _ h => h) (Or.inl ⟨by rfl, ?_⟩) (by assumption) ?_
      rotate_left
      · intro w hSw; (try dsimp only at hSw); go_simp; (try with_reducible rfl)
      try simp only [Act.put, List.setIfInBounds_toArray, List.set_cons_zero, List.set_cons_succ]
      refine wpAnyH_take (i := 2) (v := ?_) (by simp only [List.getElem?_toArray, List.getElem?_cons_zero, List.getElem?_cons_succ]; rfl) (by kernel_rfl) (by kernel_rfl) (by kernel_rfl) (fun _ _ _ h => h) (Or.inl ⟨by rfl, ?_⟩) (by assumption) ?_
      rotate_left
      · intro w hSw; (try dsimp only at hSw); go_simp; (try with_reducible rfl)
      try simp only [Act.put, List.setIfInBounds_toArray, List.set_cons_zero, List.set_cons_succ]
      refine wpAnyH_take (i := 5) (v := ?_) (by simp only [List.getElem?_toArray, List.getElem?_cons_zero, List.getElem?_cons_succ]; rfl) (by kernel_rfl) (by kernel_rfl) (by kernel_rfl) (fun _ _ _ h => h) (Or.inl ⟨by rfl, ?_⟩) (by assumption) ?_
      rotate_left
      · intro w hSw; (try dsimp only at hSw); go_simp; (try with_reducible rfl)
      try simp only [Act.put, List.setIfInBounds_toArray, List.set_cons_zero, List.set_cons_succ]
      refine wpAnyH_take (i := 6) (v := ?_) (by simp only [List.getElem?_toArray, List.getElem?_cons_zero, List.getElem?_cons_succ]; rfl) (by kernel_rfl) (by kernel_rfl) (by kernel_rfl) (fun _ _ _ h => h) (Or.inl ⟨by rfl, ?_⟩) (by assumption) ?_
      rotate_left
      · intro w hSw; (try dsimp only at hSw); go_simp; (try with_reducible rfl)
      try simp only [Act.put, List.setIfInBounds_toArray, List.set_cons_zero, List.set_cons_succ]
      refine wpAnyH_ready (rs := [3]) (by kernel_rfl) (by simp) ?_
      refine AllReadyH.cons (by simp only [List.getElem?_toArray, List.getElem?_cons_zero, List.getElem?_cons_succ]; rfl) (fun K hK => ?_) AllReadyH.nil
      go_simp
      go_at_call 23
      have hS := (‹Below _ w1 _ ∧ _›).1
      (with_reducible refine (desk_num x.n (by omega) (by omega) _ (NT.out _ hS)).mono ?_)
      rintro e w5 ⟨rfl, hb5⟩
      have hS' := KS.out _ (hS.trans (hb5.mono hS.size))
      clear hb5 hS
      try go_wp2_with fail
      refine hK.out _ _ ?_ (fun hH1 => ?_)
      · (try dsimp only); (first | assumption | exact KS.out _ (Below.refl w1.heap.size w1).drew)
      clear hK K hH0
      try simp only [Act.put, List.setIfInBounds_toArray, List.set_cons_zero, List.set_cons_succ]
      refine wpAnyH_take (i := 4) (v := ?_) (by simp only [List.getElem?_toArray, List.getElem?_cons_zero, List.getElem?_cons_succ]; rfl) (by kernel_rfl) (by kernel_rfl) (by kernel_rfl) (fun _ _ _ h => h) (Or.inl ⟨by rfl, ?_⟩) (by assumption) ?_
      rotate_left
      · intro w hSw; (try dsimp only at hSw); go_simp; (try with_reducible rfl)
      try simp only [Act.put, List.setIfInBounds_toArray, List.set_cons_zero, List.set_cons_succ]
      refine wpAnyH_ready (rs := [7]) (by kernel_rfl) (by simp) ?_
      refine AllReadyH.cons (by simp only [List.getElem?_toArray, List.getElem?_cons_zero, List.getElem?_cons_succ]; rfl) (fun K hK => ?_) AllReadyH.nil
      go_simp
      go_at_call 40
      have hS := (‹Below _ w1 _ ∧ _›).1
      (with_reducible refine (text_Value x.v.there x.v.bytes _ (by omega)).mono ?_)
      rintro e w5 ⟨rfl, hb5⟩
      have hS' := KS.out _ (hS.trans (hb5.mono hS.size))
      clear hb5 hS
      try go_wp2_with fail
      refine hK.out _ _ ?_ (fun hH2 => ?_)
      · (try dsimp only); (first | assumption | exact KS.out _ (Below.refl w1.heap.size w1).drew)
      clear hK K hH1
      try simp only [Act.put, List.setIfInBounds_toArray, List.set_cons_zero, List.set_cons_succ]
      refine wpAnyH_take (i := 8) (v := ?_) (by simp only [List.getElem?_toArray, List.getElem?_cons_zero, List.getElem?_cons_succ]; rfl) (by kernel_rfl) (by kernel_rfl) (by kernel_rfl) (fun _ _ _ h => h) (Or.inl ⟨by rfl, ?_⟩) (by assumption) ?_
      rotate_left
      · intro w hSw; (try dsimp only at hSw); go_simp; (try with_reducible rfl)
      try simp only [Act.put, List.setIfInBounds_toArray, List.set_cons_zero, List.set_cons_succ]
      refine wpAnyH_take (i := 9) (v := ?_) (by simp only [List.getElem?_toArray, List.getElem?_cons_zero, List.getElem?_cons_succ]; rfl) (by kernel_rfl) (by kernel_rfl) (by kernel_rfl) (fun _ _ _ h => h) (Or.inl ⟨by rfl, ?_⟩) (by assumption) ?_
      rotate_left
      · intro w hSw; (try dsimp only at hSw); go_simp; (try with_reducible rfl)
      try simp only [Act.put, List.setIfInBounds_toArray, List.set_cons_zero, List.set_cons_succ]
      refine wpAnyH_take (i := 10) (v := ?_) (by simp only [List.getElem?_toArray, List.getElem?_cons_zero, List.getElem?_cons_succ]; rfl) (by kernel_rfl) (by kernel_rfl) (by kernel_rfl) (fun _ _ _ h => h) (Or.inl ⟨by rfl, ?_⟩) (by assumption) ?_
      rotate_left
      · intro w hSw; (try dsimp only at hSw); go_simp; (try with_reducible rfl)
      try simp only [Act.put, List.setIfInBounds_toArray, List.set_cons_zero, List.set_cons_succ]
      refine wpAnyH_done (by kernel_rfl) ?_ _
      refine NoPanic.normal ?_
      rotate_left
      -- END 5
      all_goals
        have HB5 := hid (HB1.out.trans ((‹Below _ w1 w5 ∧ _›).1.mono HB1.out.size))
        clear NT KS hS'
        go_wp2
        go_roundw
        case rel =>
          refine ⟨k + 1, _, by omega, by go_num, rfl, hid ?_, ?_, HB5⟩
          · rw [HR.out, ST.out]
            rw [show (⟨#[32]⟩ : ByteArray) ++ ⟨(Lib.itoa x.n).toArray⟩ = ⟨(32 :: Lib.itoa x.n).toArray⟩ from ba_append [32] _, ba_append (32 :: Lib.itoa x.n) _]
            exact ba_append _ _
          · simp only [ByteArray.size_append]
            show _ + (1 + (Lib.itoa x.n).toArray.size + (valL x.v).toArray.size) ≤ _
            simp only [List.size_toArray]
            omega
        case measure => simp [intOf]; omega
    · obtain rfl : k = l.length := by omega
      have e := List.take_length (l := l)
      rw [e] at HR
      clear e
      go_wp2
      go_ret
      exact ⟨by rw [← HR.out]; rfl, HB.out⟩

set_option maxHeartbeats 2000000 in
theorem desk_tellL (c n : Int) (b : Bool) (s : ByteArray) (a : Option Addr) (l : List Ent) (cap : Nat) (w : World) (h8 : l.length ≤ 8) (hl : ∀ x ∈ l, 0 ≤ x.n ∧ x.n < 8 ∧ ckV x.v = 0) (hA : SliceAt w a (encEnts l)) (hT : Lib.TabIs Tryz.prog w "internal/strconv.uint64pow10" .u64 Lib.pow10Tab) :
    Calls Tryz.prog 41 #[.agg #[.int .i64 c, .int .i64 n, .bool b, .string s, .slice a l.length cap]] w (StrPost (b_all ++ pairsD l) w) := by
  have hb := hid ((Below.refl w.heap.size w).alloc (Nat.le_refl _) (.cells #[.int .i64 c, .int .i64 n, .bool b, .string s, .slice a l.length cap] 87))
  have L0 := hid (Loc.new w 87 [.int .i64 c, .int .i64 n, .bool b, .string s, .slice a l.length cap])
  have HT := hid (tabIs_below hT hb.out)
  have HA := hid (sliceAt_below hA hb.out)
  have HL := hid hl
  have hpl : (pairsD l).length ≤ 472 := by have := pairsD_le l hl; omega
  have j0 : ¬ (9223372036854775807 < 3 + (pairsD l).length) := by omega
  clear hT hA hl
  have k3 := L0.out.cell 4
  go_enter Tryz.func41, Tryz.ntmps41
  go_wp2_with fail
  refine (desk_pairs a cap l _ h8 HL.out HA.out HT.out).mono ?_
  rintro e w1 ⟨rfl, hb1⟩
  have HB2 := hid (hb.out.trans (hb1.mono hb.out.size))
  clear hb1 k3
  go_wp2
  go_ret
  exact ⟨congrArg (fun x => Ending.returned (.string x)) (ba_append [97, 108, 108] _), HB2.out⟩

def SayPost (g : Nat → Nat) (p d h : Nat) (t : List UInt8) (w : World) (e : Ending) (w' : World) : Prop :=
  e = .returned (.tuple #[]) ∧ ∃ g', DeskB w' g' p d h t ∧ Evo p (p + 2) g g' w w'

set_option maxHeartbeats 2000000 in
set_option maxRecDepth 100000 in
theorem desk_say (g : Nat → Nat) (p d h : Nat) (t : List UInt8) (w : World) (bk c : Nat) (xs : List ByteArray) (hcells : ∀ (j : Nat) x, xs[j]? = some x → w.cell? ⟨bk, 0 + j, none⟩ = some (.string x)) (hbk : bk < w.heap.size) (hn : xs.length ≤ 10) (hc : xs.length ≤ c)
    (hlen : (Lib.join (xs.map (·.data.toList)) [32]).length ≤ 100000) (ht : t.length ≤ 900000000) (hD : DeskB w g p d h t) :
    Calls Tryz.prog 22 #[.pointer (some ⟨d, 0, none⟩), .slice (some ⟨bk, 0, none⟩) xs.length c] w (SayPost g p d h (t ++ (Lib.join (xs.map (·.data.toList)) [32] ++ [10])) w) := by
  have HC := hid (show ∀ (j : Nat) x, xs[j]? = some x → w.drew.cell? ⟨bk, 0 + j, none⟩ = some (.string x) from hcells)
  have HD := hid (hD.below (Below.refl _ _).drew)
  have JN := hid (Tryz.strings_Join bk 0 c xs ⟨#[32]⟩ w.drew HC.out hbk (by omega) hc (by show (Lib.join _ [32]).length ≤ _; omega))
  have hE0 := hid (Evo.drew 0 0 g w)
  have HJ := hid (show Lib.join (xs.map (·.data.toList)) [32] = Lib.join (xs.map (·.data.toList)) (⟨#[32]⟩ : ByteArray).data.toList from rfl)
  rw [HJ.out] at hlen ⊢
  generalize Lib.join (xs.map (·.data.toList)) (⟨#[32]⟩ : ByteArray).data.toList = J at *
  have j0 : ¬ (9223372036854775807 < J.length + 1) := by omega
  clear hcells hD HC
  go_enter Tryz.func22, Tryz.ntmps22
  go_wp2_with fail
  -- REGION 0
  refine wp_region_noPanic ?_
  refine wp_region_held_drew (S := (fun _ : World => True)) (by kernel_rfl) ?_ (fun hH0 => ?_)
  · (try dsimp only); all_goals trivial
  refine wpAnyH_take (i := 0) (v := ?_) (by simp only [List.getElem?_toArray, List.getElem?_cons_zero]; rfl) (by kernel_rfl) (by kernel_rfl) (by kernel_rfl) (fun _ _ _ h => h) (Or.inl ⟨by rfl, ?_⟩) (by assumption) ?_
  rotate_left
  · intro w hSw; (try dsimp only at hSw); go_simp; (try with_reducible rfl)
  try simp only [Act.put, List.setIfInBounds_toArray, List.set_cons_zero, List.set_cons_succ]
  refine wpAnyH_take (i := 1) (v := ?_) (by simp only [List.getElem?_toArray, List.getElem?_cons_zero, List.getElem?_cons_succ]; rfl) (by kernel_rfl) (by kernel_rfl) (by kernel_rfl) (fun _ _ _ h => h) (Or.inl ⟨by rfl, ?_⟩) (by assumption) ?_
  rotate_left
  · intro w hSw; (try dsimp only at hSw); go_simp; (try with_reducible rfl)
  try simp only [Act.put, List.setIfInBounds_toArray, List.set_cons_zero, List.set_cons_succ]
  refine wpAnyH_take (i := 2) (v := ?_) (by simp only [List.getElem?_toArray, List.getElem?_cons_zero, List.getElem?_cons_succ]; rfl) (by kernel_rfl) (by kernel_rfl) (by kernel_rfl) (fun _ _ _ h => h) (Or.inl ⟨by rfl, ?_⟩) (by assumption) ?_
  rotate_left
  · intro w hSw; (try dsimp only at hSw); go_simp; (try with_reducible rfl)
  try simp only [Act.put, List.setIfInBounds_toArray, List.set_cons_zero, List.set_cons_succ]
  refine wpAnyH_take (i := 3) (v := ?_) (by simp only [List.getElem?_toArray, List.getElem?_cons_zero, List.getElem?_cons_succ]; rfl) (by kernel_rfl) (by kernel_rfl) (by kernel_rfl) (fun _ _ _ h => h) (Or.inl ⟨by rfl, ?_⟩) (by assumption) ?_
  rotate_left
  · intro w hSw; (try dsimp only at hSw); go_simp; (try with_reducible rfl)
  try simp only [Act.put, List.setIfInBounds_toArray, List.set_cons_zero, List.set_cons_succ]
  refine wpAnyH_ready (rs := [4]) (by kernel_rfl) (by simp) ?_
  refine AllReadyH.cons (by simp only [List.getElem?_toArray, List.getElem?_cons_zero, List.getElem?_cons_succ]; rfl) (fun K hK => ?_) AllReadyH.nil
  go_simp
  go_at_call 47
  refine (JN.out).mono ?_
  rintro e w1 ⟨rfl, hb1⟩
  have HD1 := hid (HD.out.below hb1)
  have HE1 := hid (Evo.of_same (lo := 0) (hi := 0) (g := g) hb1)
  clear hb1
  try go_wp2_with fail
  refine hK.out _ _ ?_ (fun hH1 => ?_)
  · (try dsimp only); all_goals trivial
  clear hK K hH0
  try simp only [Act.put, List.setIfInBounds_toArray, List.set_cons_zero, List.set_cons_succ]
  refine wpAnyH_take (i := 5) (v := ?_) (by simp only [List.getElem?_toArray, List.getElem?_cons_zero, List.getElem?_cons_succ]; rfl) (by kernel_rfl) (by kernel_rfl) (by kernel_rfl) (fun _ _ _ h => h) (Or.inl ⟨by rfl, ?_⟩) (by assumption) ?_
  rotate_left
  · intro w hSw; (try dsimp only at hSw); go_simp; (try with_reducible rfl)
  try simp only [Act.put, List.setIfInBounds_toArray, List.set_cons_zero, List.set_cons_succ]
  refine wpAnyH_ready (rs := [6]) (by kernel_rfl) (by simp) ?_
  refine AllReadyH.cons (by simp only [List.getElem?_toArray, List.getElem?_cons_zero, List.getElem?_cons_succ]; rfl) (fun K hK => ?_) AllReadyH.nil
  go_simp
  go_at_call 46
  refine (desk_WriteString g p d h t _ w1 HD1.out (by rw [ByteArray.size_append]; show t.length + (J.toArray.size + 1) ≤ _; simp only [List.size_toArray]; omega)).mono ?_
  rintro e w2 ⟨rfl, g2, hD2, hE2⟩
  have HD2 := hid hD2
  have HE2 := hid hE2
  clear hD2 hE2
  try go_wp2_with fail
  refine hK.out _ _ ?_ (fun hH2 => ?_)
  · (try dsimp only); all_goals trivial
  clear hK K hH1
  try simp only [Act.put, List.setIfInBounds_toArray, List.set_cons_zero, List.set_cons_succ]
  refine wpAnyH_done (by kernel_rfl) ?_ _
  refine NoPanic.normal ?_
  rotate_left
  -- END 0
  all_goals
    go_wp2
    go_end0
    refine ⟨rfl, g2, ?_, ?_⟩
    · have e1 : ((⟨J.toArray⟩ : ByteArray) ++ ⟨#[10]⟩).data.toList = J ++ [10] := by simp
      have := HD2.out
      rw [e1] at this
      exact this
    · exact ((hE0.out.trans HE1.out).none (by omega)).trans HE2.out
end Go.Proofs.YtoiobhcgpajogabGreatDoor
