/- The walk of TableDoes. -/
import Derived.Test.YtoiobhcgpajogaaLaw02a
import Derived.Test.YtoiobhcgpajogaaLaw02b
namespace Go.Proofs.Ytoiobhcgpajogaa
open Go.RowKit

theorem listGo_length {T : Tab} {a : Int} : ∀ (ks : List Nat) (out : List Ent), (listGo T a ks out).1.length ≤ out.length + ks.length := by
  intro ks
  induction ks with
  | nil => intro out; exact Nat.le_refl _
  | cons k ks ih =>
    intro out
    rw [listGo]
    split
    · simp
    · refine Nat.le_trans (ih _) ?_
      split <;> simp <;> omega

theorem listT_length (T : Tab) (f t a : Int) : (listT T f t a).1.length ≤ 8 := by
  unfold listT
  split
  · simp
  · refine Nat.le_trans (listGo_length _ _) ?_
    simp
    omega

set_option maxHeartbeats 8000000 in
set_option maxRecDepth 100000 in
theorem walk_TableDoes (a : Option Addr) (cap : Nat) (l : List TStep) (a2 : Option Addr) (cap2 : Nat) (q : List Ent) (k to at_ : Int) (w : World) (hl : l.length ≤ 9223372036854775807) (hA : TStepsAt w a l) (hl2 : q.length ≤ 9223372036854775807) (hA2 : PairsAt w a2 q)
    (_hk : (Lit.int .i64 k).wf = true) (_hto : (Lit.int .i64 to).wf = true) (_hat : (Lit.int .i64 at_).wf = true) :
    Calls Try.prog 13 #[.slice a l.length cap, .slice a2 q.length cap2, .int .i64 k, .int .i64 to, .int .i64 at_] w (TruePost w) := by
  have HA := hid hA
  have HA2 := hid hA2
  clear hA hA2 _hk _hto _hat
  go_enter Try.func13, Try.ntmps13
  go_wp2_with fail
  (with_reducible refine (law_tableBegun w).mono ?_)
  rintro e w1 ⟨rfl, hb⟩
  have B1 := hid hb
  clear hb
  go_wp2_with fail
  (with_reducible refine (law_greatTable a cap l w1 hl (HA.out.below B1.out)).mono ?_)
  rintro e w2 ⟨rfl, hb⟩
  have B2 := hid (B1.out.trans (hb.mono B1.out.size))
  clear hb
  cases hg : greatT l with
  | true =>
    clear hg
    go_wp2
    go_ret
    exact ⟨rfl, B2.out⟩
  | false =>
    obtain ⟨h80, h50⟩ := greatT_false hg
    have H50 := hid h50
    clear hg h50
    go_wp2_with fail
    (with_reducible refine (law_greatPairs a2 cap2 q w2 hl2 (HA2.out.below B2.out).sl).mono ?_)
    rintro e w2' ⟨rfl, hb⟩
    have B2' := hid (B2.out.trans (hb.mono B2.out.size))
    clear hb B2
    cases hg : greatP q with
    | true =>
      clear hg
      go_wp2
      go_ret
      exact ⟨rfl, B2'.out⟩
    | false =>
      obtain ⟨hq50, hsz⟩ := greatP_false hg
      have HSZ := hid (fun (x : Ent) (hx : x ∈ q) => (show x.v.bytes.size ≤ maxLen by have := hsz x hx; unfold maxLen; omega))
      have hq6 : q.length ≤ 1000000 := by omega
      clear hg hsz
      go_wp2_with fail
      (with_reducible refine (law_tables a cap l w2' h80 H50.out (HA.out.below B2'.out)).mono ?_)
      rintro e w3 ⟨g, t, s, rfl, h3⟩
      have B3 := hid (B2'.out.trans (h3.base.below.mono B2'.out.size))
      have H3 := hid h3
      generalize runT l = T at *
      clear h3
      go_wp2_with fail
      (with_reducible refine (table_Read g 1 t T w3 k at_ H3.out.tab).mono ?_)
      rintro e w4 ⟨rfl, hb⟩
      have B4 := hid (B3.out.trans (hb.mono B3.out.size))
      have H4 := hid (H3.out.below hb)
      have hy2 := hid (fun w' (h : SheetAt w' (extc g w4 0) 10 s T) => sheet_Read (extc g w4 0) 10 s T w' k at_ h)
      generalize readT T k at_ = y at *
      clear hb
      go_wp2_with fail
      have M5 := hid (Loc.new w4 24 [.bool y.1.there, .string y.1.bytes])
      have H5 := hid (H4.out.fresh (Evo.alloc g 0 w4 (.cells #[.bool y.1.there, .string y.1.bytes] 24)))
      have B5 := hid (B4.out.alloc B4.out.size (.cells #[.bool y.1.there, .string y.1.bytes] 24))
      generalize w4.alloc (.cells #[.bool y.1.there, .string y.1.bytes] 24) = w5 at *
      (with_reducible refine (hy2.out w5 H5.out.sh).mono ?_)
      rintro e w6 ⟨rfl, hb⟩
      have B6 := hid (B5.out.trans (hb.mono B5.out.size))
      have H6 := hid (H5.out.below hb)
      have M6 := hid (M5.out.keep hb)
      clear hb hy2 M5
      go_wp2_with fail
      have N7 := hid (Loc.new w6 24 [.bool y.1.there, .string y.1.bytes])
      have M7 := hid (M6.out.alloc (.cells #[.bool y.1.there, .string y.1.bytes] 24))
      have H7 := hid (H6.out.fresh (Evo.alloc (extc g w4 0) 0 w6 (.cells #[.bool y.1.there, .string y.1.bytes] 24)))
      have B7 := hid (B6.out.alloc B6.out.size (.cells #[.bool y.1.there, .string y.1.bytes] 24))
      generalize w6.alloc (.cells #[.bool y.1.there, .string y.1.bytes] 24) = w7 at *
      generalize extc (extc g w4 0) w6 0 = g7 at *
      have hz2 := hid (fun w' (h : SheetAt w' g7 10 s T) => sheet_List g7 10 s T w' k to at_ h)
      (with_reducible refine (table_List g7 1 t T w7 k to at_ H7.out.tab).mono ?_)
      rintro e w8 ⟨a8, c8, rfl, hs8, hb, -⟩
      have hz8 := listT_length T k to at_
      generalize listT T k to at_ = z at *
      have B8 := hid (B7.out.trans (hb.mono B7.out.size))
      have H8 := hid (H7.out.below hb)
      have M8 := hid (M7.out.keep hb)
      have N8 := hid (N7.out.keep hb)
      have S8 := hid hs8
      clear hb hs8 M7 N7
      go_wp2_with fail
      (with_reducible refine (hz2.out w8 H8.out.sh).mono ?_)
      rintro e w9 ⟨a9, c9, rfl, hs9, hb, -⟩
      have B9 := hid (B8.out.trans (hb.mono B8.out.size))
      have H9 := hid (H8.out.below hb)
      have M9 := hid (M8.out.keep hb)
      have N9 := hid (N8.out.keep hb)
      have S9 := hid (sliceAt_below S8.out hb)
      have S9' := hid hs9
      have hz6 : z.1.length ≤ 1000000 := by omega
      clear hb hs9 M8 N8 S8 hz2 hz8
      go_wp2_with fail
      have keep : ∀ W', Below w9.heap.size w9 W' → (Below w9.heap.size w9 W' ∧ W'.cell? ⟨w4.heap.size, 0, none⟩ = some (.bool y.1.there) ∧ W'.cell? ⟨w4.heap.size, 1, none⟩ = some (.string y.1.bytes) ∧
          W'.cell? ⟨w6.heap.size, 0, none⟩ = some (.bool y.1.there) ∧ W'.cell? ⟨w6.heap.size, 1, none⟩ = some (.string y.1.bytes) ∧ W'.cell? ⟨s, 8, none⟩ = some (.int .i64 T.last)) := by
        intro W' hW
        obtain ⟨b1, b2, -⟩ := (M9.out.keep hW).two
        obtain ⟨c1, c2, -⟩ := (N9.out.keep hW).two
        obtain ⟨v, hC⟩ := (H9.out.sh.below hW).c
        exact ⟨hW, b1, b2, c1, c2, (hC.cells (k := 0) (by omega)).2.1⟩
      have KS := hid keep
      clear keep M9 N9
      go_region_held3 (fun W' : World => Below w9.heap.size w9 W' ∧ W'.cell? ⟨w4.heap.size, 0, none⟩ = some (.bool y.1.there) ∧ W'.cell? ⟨w4.heap.size, 1, none⟩ = some (.string y.1.bytes) ∧
          W'.cell? ⟨w6.heap.size, 0, none⟩ = some (.bool y.1.there) ∧ W'.cell? ⟨w6.heap.size, 1, none⟩ = some (.string y.1.bytes) ∧ W'.cell? ⟨s, 8, none⟩ = some (.int .i64 T.last))
        (first | assumption | exact KS.out _ (Below.refl _ _).drew)
        (first
          | (go_at_call 54; have hS := ‹Below w9.heap.size w9 _ ∧ _›.1; refine (table_Check a2 cap2 q _ hq6 HSZ.out (HA2.out.below (B9.out.trans (hS.mono B9.out.size))).sl).mono ?_; rintro e w' ⟨rfl, hb⟩; have hS' := KS.out _ (hS.trans (hb.mono hS.size)); clear hb hS)
          | (go_at_call 42; have hS := ‹Below w9.heap.size w9 _ ∧ _›.1; refine (ref_PairsFault a2 cap2 q _ hq6 HSZ.out (HA2.out.below (B9.out.trans (hS.mono B9.out.size))).sl).mono ?_; rintro e w' ⟨rfl, hb⟩; have hS' := KS.out _ (hS.trans (hb.mono hS.size)); clear hb hS)
          | (go_at_call 55; have hS := ‹Below w9.heap.size w9 _ ∧ _›.1; refine (table_Last _ _ _ _ _ (H9.out.below hS).tab).mono ?_; rintro e w' ⟨rfl, rfl⟩; clear hS)
          | (go_at_call 46; have hS := ‹Below w9.heap.size w9 _ ∧ _›.1; refine (ref_SamePairs a8 a9 c8 c9 z.1 z.1 _ hz6 hz6 (sliceAt_below S9.out hS) (sliceAt_below S9'.out hS)).mono ?_; rintro e w' ⟨bb, rfl, hbb, hb⟩; obtain rfl : bb = true := hbb.2 rfl; have hS' := KS.out _ (hS.trans (hb.mono hS.size)); clear hb hS hbb)
          | (go_at_call 56; have hS := ‹Below w9.heap.size w9 _ ∧ _›.1; refine (table_Since _ _ _ _ _ k (H9.out.below hS).tab).mono ?_; rintro e w' ⟨rfl, hb⟩; have hS' := KS.out _ (hS.trans (hb.mono hS.size)); clear hb hS)
          | (go_at_call 57; have hS := ‹Below w9.heap.size w9 _ ∧ _›.1; refine (sheet_Since _ _ _ _ _ k (H9.out.below hS).sh).mono ?_; rintro e w' ⟨rfl, hb⟩; have hS' := KS.out _ (hS.trans (hb.mono hS.size)); clear hb hS)
          | (go_at_call 58; have hS := ‹Below w9.heap.size w9 _ ∧ _›.1; refine (table_First _ _ _ _ _ (H9.out.below hS).tab).mono ?_; rintro e w' ⟨rfl, hb⟩; have hS' := KS.out _ (hS.trans (hb.mono hS.size)); clear hb hS)
          | (go_at_call 59; have hS := ‹Below w9.heap.size w9 _ ∧ _›.1; refine (sheet_First _ _ _ _ _ (H9.out.below hS).sh).mono ?_; rintro e w' ⟨rfl, hb⟩; have hS' := KS.out _ (hS.trans (hb.mono hS.size)); clear hb hS))
      have hS := ‹Below w9.heap.size w9 _ ∧ _›.1
      go_wp2
      go_ret
      exact ⟨rfl, B9.out.trans (hS.mono B9.out.size)⟩

end Go.Proofs.Ytoiobhcgpajogaa
