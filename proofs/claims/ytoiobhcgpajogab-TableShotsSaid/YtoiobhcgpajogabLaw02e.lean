/- The walk of TableShots. -/
import Derived.Test.YtoiobhcgpajogabLaw02a
import Derived.Test.YtoiobhcgpajogabLaw02b
import Derived.Test.YtoiobhcgpajogabShow
namespace Go.Proofs.Ytoiobhcgpajogab
open Go.RowKit

def writesT (T : Tab) (l : List TStep) : Tab := l.foldl (fun T x => if x.do_ = 0 then (writeT T x.w).2 else T) T

theorem writesT_snoc (T : Tab) (l : List TStep) (k : Nat) (h : k < l.length) : writesT T (l.take (k + 1)) = if l[k].do_ = 0 then (writeT (writesT T (l.take k)) l[k].w).2 else writesT T (l.take k) := by
  unfold writesT
  rw [List.take_succ_eq_append_getElem h, List.foldl_append]; rfl

theorem writesT_ok {T : Tab} (h : T.Ok) (l : List TStep) : (writesT T l).Ok ∧ T.last ≤ (writesT T l).last ∧ ∀ (k a : Int), a ≤ T.last → readT (writesT T l) k a = readT T k a := by
  unfold writesT
  induction l generalizing T with
  | nil => exact ⟨h, Nat.le_refl _, fun _ _ _ => rfl⟩
  | cons x l ih =>
    rw [List.foldl_cons]
    by_cases hd : x.do_ = 0
    · rw [if_pos hd]
      obtain ⟨i1, i2, i3⟩ := ih (write_ok h x.w)
      have hl : T.last ≤ (writeT T x.w).2.last := by rcases write_last (T := T) (w := x.w) with e | ⟨e, -⟩ <;> omega
      refine ⟨i1, by omega, fun k a ha => ?_⟩
      rw [i3 k a (by omega), read_later h x.w k ha]
    · rw [if_neg hd]
      exact ih h

/-- Behind a commit: what the keys had, and what it wrote. -/
theorem sheet_write {T : Tab} (h : T.Ok) {w : List Ent} (hw : (writeT T w).1.2 = 0) : sheetT (writeT T w).2 ((T.last : Int) + 1) = applyW (sheetT T T.last) w ∧ codesT (writeT T w).2 ((T.last : Int) + 1) 8 = true := by
  obtain ⟨h1, h2, h3⟩ := write_good hw
  have hok := write_ok h w
  have hl : (writeT T w).2.last = T.last + 1 := by rw [h3]
  have hc := codesT_top hok
  rw [hl] at hc
  have hc' : codesT (writeT T w).2 ((T.last : Int) + 1) 8 = true := by simpa using hc
  have hc0 := codesT_top h
  refine ⟨funext fun k => ?_, hc'⟩
  obtain ⟨r1, -⟩ := ckPs_rise h1
  by_cases hk : k < 8
  · have e1 := sheetT_at hc' hk
    have e2 := read_write h hw hk
    have e3 : (sheetT (writeT T w).2 ((T.last : Int) + 1) k, (0 : Int)) = (applyW (fun k => (readT T k T.last).1) w k, 0) := e1.symm.trans e2
    have e4 := (Prod.mk.inj e3).1
    rw [e4]
    have key : ∀ (w : List Ent) (f g : Nat → Val), (∀ j, j < 8 → f j = g j) → ∀ j, j < 8 → applyW f w j = applyW g w j := by
      intro w
      induction w with
      | nil => intro f g h j hj; exact h j hj
      | cons x w ih =>
        intro f g h j hj
        refine ih (upd f x.n.toNat x.v) (upd g x.n.toNat x.v) (fun i hi => ?_) j hj
        unfold upd
        split
        · rfl
        · exact h i hi
    exact key w _ _ (fun j hj => by rw [sheetT_at hc0 hj]) k hk
  · have z : ∀ (S : Tab) (a : Int), sheetT S a k = Val.zero := by
      intro S a
      unfold sheetT
      rw [if_neg (by omega)]
    rw [z]
    have : ∀ (w : List Ent) (f : Nat → Val), (∀ x ∈ w, 0 ≤ x.n ∧ x.n < 8) → applyW f w k = f k := by
      intro w
      induction w with
      | nil => intro f _; rfl
      | cons x w ih =>
        intro f hx
        have h0 := hx x (List.mem_cons_self ..)
        have := ih (upd f x.n.toNat x.v) (fun y hy => hx y (List.mem_cons_of_mem _ hy))
        rw [show applyW f (x :: w) = applyW (upd f x.n.toNat x.v) w from rfl, this, upd_other _ _ (by omega)]
    rw [this w _ (fun x hx => ⟨(r1 x hx).1, (r1 x hx).2.1⟩), z]

theorem TS.store0 {w0 w : World} {g : Nat → Nat} {t s b i : Nat} {T S : Tab} (h : TS w0 g w t s T S) (v : Value) (hb : w0.heap.size ≤ b) (hg : g b = 0) : TS w0 g (w.setCell ⟨b, i, none⟩ v) t s T S :=
  ⟨⟨h.base.below.setCell hb _, by simpa using h.base.size, h.base.zero⟩, h.tab.frame (evo_store v hg) (by omega), h.sh.frame (evo_store v hg) (by omega)⟩

theorem applyW_take (f : Nat → Val) (w : List Ent) (k : Nat) (h : k < w.length) : applyW f (w.take (k + 1)) = upd (applyW f (w.take k)) w[k].n.toNat w[k].v := by
  rw [List.take_succ_eq_append_getElem h, applyW_snoc]

set_option maxHeartbeats 8000000 in
set_option maxRecDepth 100000 in
theorem walk_TableShots (a : Option Addr) (cap : Nat) (l : List TStep) (a2 : Option Addr) (cap2 : Nat) (q : List Ent) (a3 : Option Addr) (cap3 : Nat) (m : List TStep) (w : World) (hl : l.length ≤ 9223372036854775807) (hA : TStepsAt w a l)
    (hl2 : q.length ≤ 9223372036854775807) (hA2 : PairsAt w a2 q) (hl3 : m.length ≤ 9223372036854775807) (hA3 : TStepsAt w a3 m) :
    Calls Try.prog 3 #[.slice a l.length cap, .slice a2 q.length cap2, .slice a3 m.length cap3] w (TruePost w) := by
  have HA := hid hA
  have HA2 := hid hA2
  have HA3 := hid hA3
  clear hA hA2 hA3
  go_enter Try.func3, Try.ntmps3
  go_wp2_with fail
  (with_reducible refine (law_tableBegun w).mono ?_)
  rintro e w1 ⟨rfl, hb⟩
  have B1 := hid hb
  clear hb
  go_wp2_with fail
  (with_reducible refine (law_greatTable a cap l w1 hl (HA.out.below B1.out)).mono ?_)
  rintro e w2 ⟨rfl, hb⟩
  have B2 := hid (B1.out.trans (hb.mono B1.out.size))
  clear hb
  cases hg : greatT l with
  | true =>
    clear hg
    go_wp2
    go_ret
    exact ⟨rfl, B2.out⟩
  | false =>
  obtain ⟨h80, h50⟩ := greatT_false hg
  have H50 := hid h50
  clear hg h50
  go_wp2_with fail
  (with_reducible refine (law_greatTable a3 cap3 m w2 hl3 (HA3.out.below B2.out)).mono ?_)
  rintro e w2a ⟨rfl, hb⟩
  have B2a := hid (B2.out.trans (hb.mono B2.out.size))
  clear hb B2
  cases hg : greatT m with
  | true =>
    clear hg
    go_wp2
    go_ret
    exact ⟨rfl, B2a.out⟩
  | false =>
  obtain ⟨hm80, h50⟩ := greatT_false hg
  have M50 := hid h50
  clear hg h50
  go_wp2_with fail
  (with_reducible refine (law_greatPairs a2 cap2 q w2a hl2 (HA2.out.below B2a.out).sl).mono ?_)
  rintro e w2b ⟨rfl, hb⟩
  have B2b := hid (B2a.out.trans (hb.mono B2a.out.size))
  clear hb B2a
  cases hg : greatP q with
  | true =>
    clear hg
    go_wp2
    go_ret
    exact ⟨rfl, B2b.out⟩
  | false =>
  obtain ⟨hq50, -⟩ := greatP_false hg
  have hq6 : q.length ≤ 1000000 := by omega
  clear hg
  go_wp2_with fail
  (with_reducible refine (law_tables a cap l w2b h80 H50.out (HA.out.below B2b.out)).mono ?_)
  rintro e w3 ⟨g, t, s, rfl, h3⟩
  have H3 := hid h3
  generalize runT l = T at *
  have HOK := hid h3.tab.1
  have h40 := h3.tab.1.2
  clear h3
  go_wp2_with fail
  (with_reducible refine (table_Last _ 1 t T w3 H3.out.tab).mono ?_)
  rintro e w3' ⟨rfl, rfl⟩
  go_wp2_with fail
  have P := law_sheet g 1 t T w3 T.last H3.out.tab
  rw [codesT_top HOK.out] at P
  (with_reducible refine P.mono ?_)
  clear P
  rintro e w4 ⟨rfl, hb⟩
  have H4 := hid (H3.out.below hb)
  clear hb H3
  have hbase : ∀ W g', TS w2b g' W t s T T → TS w2b g' W t s T T := fun _ _ h => h
  clear hbase
  have hWr := hid (fun g' W (h : TS w2b g' W t s T T) => table_Write g' 1 t T a2 cap2 q W hq6 (HA2.out.below B2b.out).sz h.tab (h.slice (HA2.out.below B2b.out).sl 1 (1 + 9) (by omega)))
  have hbad := hid (write_bad (T := T) (w := q))
  have hgood := hid (write_good (T := T) (w := q))
  have hsw := hid (sheet_write (w := q) HOK.out)
  have hwl := hid (write_ok HOK.out q)
  generalize hf0 : sheetT T T.last = f0 at *
  have HF0 := hid hf0
  clear hf0
  go_wp2_with (refine wpList_new_vals w4 rfl (.tmp 10) (.tmp 47) rfl f0 rfl rfl ?_; intro w5 hL5 hb5; have L5 := hid (show LocC w5 (extc g w4 0) 0 w4.heap.size 34 (vals8 f0) from ⟨hL5, extc_new (Nat.le_refl _)⟩); have H5 := hid (H4.out.fresh (Evo.of_below g 0 hb5)); clear hL5 hb5)
  (with_reducible refine (hWr.out _ w5 H5.out).mono ?_)
  rintro e w6 ⟨rfl, g6, hT6, hE6⟩
  have L6 := hid (L5.out.frame hE6 (by omega))
  have H6 := hid (H5.out.evoT hE6 hT6)
  clear hE6 hT6 L5 H5 hWr
  by_cases hc : (writeT T q).1.2 = 0
  case neg =>
    obtain ⟨e1, e2⟩ := hbad.out hc
    have H6b : Hid (TS w2b g6 w6 t s T T) := hid (by have := H6.out; rw [e1] at this; exact this)
    have hc' : ((writeT T q).1.2 != 0) = true := by simpa using hc
    rw [e2]
    clear hc H6 hgood hsw hwl
    generalize (writeT T q).1.2 = code at *
    go_wp2_with fail
    (with_reducible refine (table_Last _ 1 t T w6 H6b.out.tab).mono ?_)
    rintro e w6' ⟨rfl, rfl⟩
    go_wp2_with fail
    have P := law_sheet g6 1 t T w6 T.last H6b.out.tab
    rw [codesT_top HOK.out, HF0.out] at P
    (with_reducible refine P.mono ?_)
    clear P
    rintro e w7 ⟨rfl, hb⟩
    have H7 := hid (H6b.out.below hb)
    have L7 := hid (L6.out.below hb)
    clear hb H6b L6
    go_wp2_with (first
      | (refine wpList_new_vals w7 rfl (.tmp 14) (.tmp 62) rfl f0 rfl rfl ?_; intro w8 hL8 hb8; have M8 := hid hL8; have L8 := hid (L7.out.1.keep hb8); have H8 := hid (H7.out.fresh (Evo.of_below g6 0 hb8)); clear hL8 hb8)
      | refine wpList_load_vals rfl (.tmp 10) rfl w4.heap.size rfl f0 L8.out ?_
      | refine wpList_load_vals rfl (.tmp 14) rfl w7.heap.size rfl f0 M8.out ?_
      | refine wpList_eq_vals rfl (.tmp 73) (.tmp 74) _ rfl f0 rfl rfl ?_)
    go_ret
    exact ⟨rfl, B2b.out.trans (H8.out.base.below.mono B2b.out.size)⟩
  case pos =>
  obtain ⟨c1, c2, c3⟩ := hgood.out hc
  obtain ⟨s1, s2⟩ := hsw.out hc
  have e3 : (writeT T q).1 = ((T.last : Int) + 1, 0) := by rw [c3]
  have e4 : (writeT T q).2.last = T.last + 1 := by rw [c3]
  rw [e3]
  have hok := hid (ckPs_rise c1)
  have HC1 := hid c1
  have hl40 : (T.last : Int) < 40 := by omega
  clear hc hgood hsw hbad c1 c2 c3 e3
  generalize hT1 : (writeT T q).2 = T1 at *
  have S1 := hid s1
  have S2 := hid s2
  have E4 := hid e4
  clear s1 s2 hT1
  go_wp2_with fail
  have P := law_sheet g6 1 t T1 w6 ((T.last : Int) + 1) H6.out.tab
  rw [S2.out] at P
  (with_reducible refine P.mono ?_)
  clear P
  rintro e w7 ⟨rfl, hb⟩
  have H7 := hid (H6.out.below hb)
  have L7 := hid (L6.out.below hb)
  clear hb H6 L6
  generalize hf1 : sheetT T1 ((T.last : Int) + 1) = f1 at *
  have HF1 := hid hf1
  clear hf1
  go_wp2_with (refine wpList_new_vals w7 rfl (.tmp 16) (.tmp 81) rfl f1 rfl rfl ?_; intro w8 hL8 hb8; have M8 := hid (show LocC w8 (extc g6 w7 0) 0 w7.heap.size 34 (vals8 f1) from ⟨hL8, extc_new (Nat.le_refl _)⟩); have L8 := hid (L7.out.frame (Evo.of_below (lo := 0) (hi := 0) g6 0 hb8) (by omega)); have H8 := hid (H7.out.fresh (Evo.of_below g6 0 hb8)); have hne : w4.heap.size ≠ w7.heap.size := (by have := L7.out.1.lt; omega); clear hL8 hb8)
  have L8c := L8.out.2
  have hB4 : w2b.heap.size ≤ w4.heap.size := H4.out.base.size
  have QA := hid (HA2.out.below B2b.out)
  have MA := hid (HA3.out.below B2b.out)
  have L8l := hid L8.out.1
  generalize extc g6 w7 0 = g8 at *
  generalize hb4 : w4.heap.size = b4 at *
  generalize hb7 : w7.heap.size = b7 at *
  clear L7 H7 H4 L8 hb4 hb7
  go_wp2_with fail
  go_loopw [18] (fun i wr => ∃ k : Nat, k ≤ q.length ∧ i = .int .i64 k ∧ Hid (Loc wr b4 34 (vals8 (applyW f0 (q.take k)))) ∧ Hid (LocC wr g8 0 b7 34 (vals8 f1)) ∧ Hid (TS w2b g8 wr t s T1 T)) (fun i _ => q.length - (intOf i).toNat)
  case atStart => exact ⟨0, Nat.zero_le _, rfl, L8l, M8, H8⟩
  case round =>
    obtain ⟨k, hk, rfl, L, M, H⟩ := hrel
    clear L8l M8 H8
    by_cases hlt : k < q.length
    · have hst := applyW_take f0 q k hlt
      have hx8 := hok.out.1 q[k] (List.getElem_mem _)
      obtain ⟨b1, o1, rfl, v1⟩ := (H.out.slice QA.out.sl 1 2 (by omega)).at.ents (by omega)
      obtain ⟨p1, p2, p3⟩ := v1 k hlt
      have hki : (k : Int) < (q.length : Int) := by omega
      have hk0 : (0 : Int) ≤ (k : Int) := by omega
      generalize q[k] = x at *
      generalize applyW f0 (q.take k) = fk at *
      obtain ⟨n, hn8, hxn⟩ : ∃ n : Nat, n < 8 ∧ x.n = n := ⟨x.n.toNat, by omega, by omega⟩
      rw [hxn, Int.toNat_natCast] at hst
      rw [hxn] at p1
      have hn0 : (0 : Int) ≤ (n : Int) := by omega
      have hn8' : (n : Int) < 8 := by omega
      have HST := hid hst
      have m1 := (L.out.cell (n * 2)).trans (vals8_get _ n hn8).1
      have m2 := (L.out.cell (n * 2 + 1)).trans (vals8_get _ n hn8).2
      have r1 := L.out.free (n * 2)
      have r2 := L.out.free (n * 2 + 1)
      have CK := hid (fun W => ref_IsKey_in n W ⟨hn0, hn8'⟩)
      clear hst v1 hx8
      go_wp2_with fail
      refine (CK.out _).mono ?_
      rintro e W ⟨rfl, rfl⟩
      go_wp2_with fail
      go_region
      go_wp2
      go_roundw
      case rel =>
        refine ⟨k + 1, by omega, by go_num, hid ?_, hid ⟨(M.out.1.other (by simpa using hne.symm) _).other (by simpa using hne.symm) _, M.out.2⟩, hid ((H.out.drew.store0 _ hB4 L8c).store0 _ hB4 L8c)⟩
        rw [HST.out]
        exact (L.out.drew).set2 hn8 x.v
      case measure => simp [intOf]; omega
    · obtain rfl : k = q.length := by omega
      rw [List.take_length, ← S1.out] at L
      clear QA
      have e5 : ((T1.last : Nat) : Int) = (T.last : Int) + 1 := by rw [E4.out]; omega
      have E5 := hid e5
      clear e5
      go_wp2_with (first
        | refine wpList_load_vals rfl (.tmp 10) rfl b4 rfl f1 L.out ?_
        | refine wpList_load_vals rfl (.tmp 16) rfl b7 rfl f1 M.out.1 ?_
        | refine wpList_ne_vals rfl (.tmp 113) (.tmp 114) _ rfl f1 rfl rfl ?_)
      (with_reducible refine (table_Last _ 1 t T1 wr H.out.tab).mono ?_)
      rintro e W ⟨rfl, rfl⟩
      rw [E5.out]
      go_wp2_with fail
      clear L
      have hT1ok := hid H.out.tab.1
      go_loopw [19] (fun i wr => ∃ (k : Nat) (g' : Nat → Nat), k ≤ m.length ∧ i = .int .i64 k ∧ Hid (LocC wr g' 0 b7 34 (vals8 f1)) ∧ Hid (TS w2b g' wr t s (writesT T1 (m.take k)) T)) (fun i _ => m.length - (intOf i).toNat)
      case atStart => exact ⟨0, g8, Nat.zero_le _, rfl, M, H⟩
      case round =>
        clear M H
        obtain ⟨k, g9, hk, rfl, M, H⟩ := hrel
        by_cases hlt : k < m.length
        · have hst := writesT_snoc T1 m k hlt
          have hq50 := M50.out m[k] (List.getElem_mem _)
          obtain ⟨b1, o1, rfl, hbb, v1⟩ := MA.out.facts (by omega)
          obtain ⟨p1, p2, p3, p4, -⟩ := v1 k hlt
          have P1 := (H.out.base.cell (p := ⟨b1, _, none⟩) hbb).trans p1
          have P3 := (H.out.base.cell (p := ⟨b1, _, none⟩) hbb).trans p3
          have hki : (k : Int) < (m.length : Int) := by omega
          have hk0 : (0 : Int) ≤ (k : Int) := by omega
          generalize m[k] = x at *
          generalize writesT T1 (m.take k) = Tk at *
          have P4 := hid p4
          have hx6 : x.w.length ≤ 1000000 := by omega
          clear v1 p1 p2 p3 p4
          by_cases hd : x.do_ = 0
          · rw [if_pos hd] at hst
            rw [hd] at P1
            have HST := hid hst
            clear hst hd
            go_wp2_with fail
            (with_reducible refine (table_Write g9 1 t Tk x.a x.cap x.w wr hx6 P4.out.sz H.out.tab (H.out.slice P4.out.sl 1 (1 + 9) (by omega))).mono ?_)
            rintro e w9 ⟨rfl, g10, hT9, hE9⟩
            have M9 := hid (M.out.frame hE9 (by omega))
            have H9 := hid (H.out.evoT hE9 hT9)
            clear hE9 hT9
            go_wp2
            go_roundw
            case rel => exact ⟨k + 1, g10, by omega, by go_num, M9, hid (by rw [HST.out]; exact H9.out)⟩
            case measure => simp [intOf]; omega
          · rw [if_neg hd] at hst
            have HST := hid hst
            have hd0 : (x.do_ == 0) = false := by simpa using hd
            clear hst hd
            go_wp2
            go_roundw
            case rel => exact ⟨k + 1, g9, by omega, by go_num, M, hid (by rw [HST.out]; exact H.out)⟩
            case measure => simp [intOf]; omega
        · obtain rfl : k = m.length := by omega
          rw [List.take_length] at H
          obtain ⟨i1, i2, i3⟩ := writesT_ok hT1ok.out m
          have hcg := sheetT_congr (T := writesT T1 m) (T' := T1) (a := (T.last : Int) + 1) (a' := (T.last : Int) + 1) (fun k _ => i3 k _ (by rw [E5.out]; exact Int.le_refl _))
          have hc8 := hcg.1 8 (Nat.le_refl _)
          have P := law_sheet g9 1 t (writesT T1 m) wr ((T.last : Int) + 1) H.out.tab
          rw [hc8, hcg.2, S2.out, HF1.out] at P
          clear hcg hc8 i1 i2 i3
          go_wp2_with fail
          (with_reducible refine P.mono ?_)
          clear P
          rintro e w11 ⟨rfl, hb⟩
          have H11 := hid (H.out.below hb)
          have M11 := hid (M.out.below hb)
          clear hb H M
          go_wp2_with (first
            | (refine wpList_new_vals w11 rfl (.tmp 20) (.tmp 146) rfl f1 rfl rfl ?_; intro w12 hL12 hb12; have N12 := hid hL12; have M12 := hid (M11.out.1.keep hb12); have H12 := hid (H11.out.fresh (Evo.of_below g9 0 hb12)); clear hL12 hb12)
            | refine wpList_load_vals rfl (.tmp 20) rfl w11.heap.size rfl f1 N12.out ?_
            | refine wpList_load_vals rfl (.tmp 16) rfl b7 rfl f1 M12.out ?_
            | refine wpList_eq_vals rfl (.tmp 150) (.tmp 151) _ rfl f1 rfl rfl ?_)
          go_ret
          exact ⟨rfl, B2b.out.trans (H12.out.base.below.mono B2b.out.size)⟩

end Go.Proofs.Ytoiobhcgpajogab
