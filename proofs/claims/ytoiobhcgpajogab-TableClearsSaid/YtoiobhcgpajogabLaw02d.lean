/- The walk of TableClears. -/
import Derived.Test.YtoiobhcgpajogabLaw02a
import Derived.Test.YtoiobhcgpajogabLaw02b
import Derived.Test.YtoiobhcgpajogabShow
import Derived.Deep.Cut
namespace Go.Proofs.Ytoiobhcgpajogab
open Go.RowKit

set_option maxHeartbeats 8000000 in
set_option maxRecDepth 100000 in
theorem walk_TableClears (a : Option Addr) (cap : Nat) (l : List TStep) (least at_ : Int) (w : World) (hl : l.length ≤ 9223372036854775807) (hA : TStepsAt w a l) (_ : (Lit.int .i64 least).wf = true) (_ : (Lit.int .i64 at_).wf = true) :
    Calls Try.prog 4 #[.slice a l.length cap, .int .i64 least, .int .i64 at_] w (TruePost w) := by
  have HA := hid hA
  clear hA
  go_enter Try.func4, Try.ntmps4
  go_wp2_with fail
  (with_reducible refine (law_tableBegun w).mono ?_)
  rintro e w1 ⟨rfl, hb⟩
  have B1 := hid hb
  clear hb
  go_wp2_with fail
  (with_reducible refine (law_greatTable a cap l w1 hl (HA.out.below B1.out)).mono ?_)
  rintro e w2 ⟨rfl, hb⟩
  have B2 := hid (B1.out.trans (hb.mono B1.out.size))
  clear hb
  cases hg : greatT l with
  | true =>
    clear hg
    go_wp2
    go_ret
    exact ⟨rfl, B2.out⟩
  | false =>
    obtain ⟨h80, h50⟩ := greatT_false hg
    have H50 := hid h50
    clear hg h50
    by_cases hle : at_ < least
    · go_wp2
      go_ret
      exact ⟨rfl, B2.out⟩
    · have hle' : least ≤ at_ := by omega
      go_wp2_with fail
      (with_reducible refine (law_tables a cap l w2 h80 H50.out (HA.out.below B2.out)).mono ?_)
      rintro e w3 ⟨g, t, s, rfl, h3⟩
      have H3 := hid h3
      generalize runT l = T at *
      have HOK := hid h3.tab.1
      have hcg := sheetT_congr (T := (clearT T least).2) (T' := T) (a := at_) (a' := at_) (fun k _ => read_clear HOK.out k hle')
      have HCG := hid (And.intro (hcg.1 8 (Nat.le_refl _)) hcg.2)
      have HTW := hid (clear_twice T least)
      have HLA := hid (clearT_last T least)
      clear h3 hcg hle
      go_wp2_with fail
      (with_reducible refine (law_sheet g 1 t T w3 at_ H3.out.tab).mono ?_)
      rintro e w4 ⟨rfl, hb⟩
      have H4 := hid (H3.out.below hb)
      clear hb
      have hT4 := hid (fun w' (h : TableAt w' (extc g w4 0) 1 t T) => table_Clear (extc g w4 0) 1 t T w' least h)
      have hS2 := hid (fun w' g' (h : TableAt w' g' 1 t (clearT T least).2) => (law_sheet g' 1 t _ w' at_ h))
      have hC2 := hid (fun w' g' (h : TableAt w' g' 1 t (clearT T least).2) => (table_Clear g' 1 t _ w' least h))
      rw [HCG.out.1, HCG.out.2] at hS2
      generalize sheetT T at_ = f at *
      generalize codesT T at_ 8 = ok at *
      go_wp2_with (refine wpList_new_vals w4 rfl (.tmp 10) (.tmp 37) rfl f rfl rfl ?_; intro w5 hL5 hb5; have L5 := hid (show LocC w5 (extc g w4 0) 0 w4.heap.size 34 (vals8 f) from ⟨hL5, extc_new (Nat.le_refl _)⟩); have H5 := hid (H4.out.fresh (Evo.of_below g 0 hb5)); clear hL5 hb5)
      (with_reducible refine (table_Last _ 1 t T w5 H5.out.tab).mono ?_)
      rintro e w5' ⟨rfl, rfl⟩
      go_wp2_with fail
      (with_reducible refine (hT4.out w5 H5.out.tab).mono ?_)
      rintro e w6 ⟨rfl, g6, hT6, hE6⟩
      have H6 := hid (H5.out.evoT hE6 hT6)
      have L6 := hid (L5.out.frame hE6 (by omega))
      generalize hcl : clearT T least = C at *
      obtain ⟨N, C⟩ := C
      have hN : (0 : Int) ≤ (N : Int) := by omega
      simp only at HLA HTW HCG H6 hS2 hC2
      clear hE6 hT6 L5 H5 hcl
      go_wp2_with fail
      (with_reducible refine (hS2.out w6 g6 H6.out.tab).mono ?_)
      rintro e w7 ⟨rfl, hb⟩
      have H7 := hid (H6.out.below hb)
      have L7 := hid (L6.out.below hb)
      clear hb L6
      go_wp2_with (first
        | (refine wpList_new_vals w7 rfl (.tmp 14) (.tmp 48) rfl f rfl rfl ?_; intro w8 hL8 hb8; have M8 := hid hL8; have L8 := hid (L7.out.1.keep hb8); have H8 := hid (H7.out.fresh (Evo.of_below g6 0 hb8)); clear hL8 hb8)
        | refine wpList_load_vals rfl (.tmp 10) rfl w4.heap.size rfl f L8.out ?_
        | refine wpList_load_vals rfl (.tmp 14) rfl w7.heap.size rfl f M8.out ?_
        | refine wpList_eq_vals rfl (.tmp 58) (.tmp 59) _ rfl f rfl rfl ?_)
      (with_reducible refine (table_Last _ 1 t C w8 H8.out.tab).mono ?_)
      rintro e w8' ⟨rfl, rfl⟩
      rw [HLA.out]
      go_wp2_with fail
      (with_reducible refine (hC2.out w8 _ H8.out.tab).mono ?_)
      rintro e w9 ⟨he, g9, hT9, hE9⟩
      rw [HTW.out] at he
      subst he
      have H9 := hid (H8.out.evoT hE9 hT9)
      clear hE9 hT9
      go_wp2
      go_ret
      exact ⟨rfl, B2.out.trans (H9.out.base.below.mono B2.out.size)⟩

end Go.Proofs.Ytoiobhcgpajogab
