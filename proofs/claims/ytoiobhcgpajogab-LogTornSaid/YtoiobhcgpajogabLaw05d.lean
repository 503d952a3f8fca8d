/- The walk of LogTorn. -/
import Derived.Test.YtoiobhcgpajogabLaw05c
namespace Go.Proofs.Ytoiobhcgpajogab
open Go.RowKit

theorem tear_code (G : Lg) (w : List Ent) (keep : Int) : (tearG G w keep).1 = (putG G w).1 := by
  unfold tearG
  split
  · rfl
  · rename_i h
    have h0 : (putG G w).1 = 0 := by simpa using h
    split <;> rw [h0]

theorem mend_own {G : Lg} (h : G.torn = []) : mendG G = G := by unfold mendG; rw [← h]

theorem tear_bad {G : Lg} {w : List Ent} {keep : Int} (h : (putG G w).1 ≠ 0) : (tearG G w keep).2 = G := by unfold tearG; rw [if_pos h]

/-- What a torn commit leaves behind mending. -/
theorem tear_good {G : Lg} {w : List Ent} {keep : Int} (ht : G.torn = []) (h : (putG G w).1 = 0) :
    mendG (tearG G w keep).2 = if ((encL w).length : Int) ≤ keep then ⟨G.l ++ [w], []⟩ else G := by
  unfold tearG
  rw [if_neg (by rw [h]; simp)]
  split
  · unfold mendG; rfl
  · unfold mendG; simp only; rw [← ht]

theorem RowB.recolor {w : World} {g g' : Nat → Nat} {p p' : Nat} {a : Option Addr} {cap : Nat} {l : List UInt8} (h : RowB w g p a cap l) (hg : ∀ k, g k = p → g' k = p') : RowB w g' p' a cap l := by
  obtain ⟨h1, h2, h3, h4, h5⟩ := h
  exact ⟨h1, h2, h3, fun ad e => ⟨(h4 ad e).1, (h4 ad e).2.1, hg _ (h4 ad e).2.2.1, (h4 ad e).2.2.2⟩, h5⟩

theorem LogAt.recolor {w : World} {g g' : Nat → Nat} {p p' b : Nat} {G : Lg} (h : LogAt w g p b G) (hg : ∀ k, g k = p → g' k = p') : LogAt w g' p' b G := by
  obtain ⟨a, cap, h1, h2, h3⟩ := h
  exact ⟨a, cap, ⟨h1.1, hg _ h1.2⟩, h2.recolor hg, h3⟩

/-- Two logs, of the colours 1 and 6. -/
structure G2 (w0 : World) (g : Nat → Nat) (w : World) (b b2 : Nat) (G H : Lg) : Prop where
  base : Base w0.heap.size w0 g w
  log : LogAt w g 1 b G
  other : LogAt w g 6 b2 H

section
variable {w0 w w' : World} {g g' : Nat → Nat} {b b2 : Nat} {G H G' : Lg}
theorem G2.below (h : G2 w0 g w b b2 G H) (k : Below w.heap.size w w') : G2 w0 g w' b b2 G H := ⟨h.base.below' k, h.log.below k, h.other.below k⟩
theorem G2.evo1 (h : G2 w0 g w b b2 G H) (hE : Evo 1 (1 + 1) g g' w w') (hL : LogAt w' g' 1 b G') : G2 w0 g' w' b b2 G' H := ⟨h.base.step hE (by omega), hL, h.other.frame hE (by omega)⟩
theorem G2.evo2 (h : G2 w0 g w b b2 G H) (hE : Evo 6 (6 + 1) g g' w w') (hL : LogAt w' g' 6 b2 G') : G2 w0 g' w' b b2 G G' := ⟨h.base.step hE (by omega), h.log.frame hE (by omega), hL⟩
theorem G2.sl (h : G2 w0 g w b b2 G H) {a : Option Addr} {cells : List Value} (k : SliceAt w0 a cells) : SliceAt w a cells := (SliceC.of_base k rfl h.base (Nat.le_refl 1) : SliceC w g 1 2 a cells).at
end

theorem GS.two {w0 w1 w2 : World} {g1 g2 : Nat → Nat} {b r b2 r2 : Nat} {G H : Lg} (h : GS w0 g1 w1 b r G G) (k : GS w1 g2 w2 b2 r2 H H) : ∃ g, G2 w0 g w2 b b2 G H := by
  have hB := k.base
  have hE : Evo 0 0 g1 (fun j => if g2 j = 1 then 6 else if j < w1.heap.size then g1 j else 9) w1 w2 :=
    ⟨hB.below.os, hB.below.tape, hB.below.output, hB.below.size, fun j hj => by
      show (if g2 j = 1 then 6 else if j < w1.heap.size then g1 j else 9) = g1 j
      rw [if_neg (by rw [hB.zero j hj]; decide), if_pos hj], fun j hj _ => hB.below.block j hj⟩
  exact ⟨_, h.base.step hE (by omega), h.log.frame hE (by omega), k.log.recolor (fun j hj => if_pos hj)⟩

set_option maxHeartbeats 8000000 in
set_option maxRecDepth 100000 in
theorem walk_LogTorn (a : Option Addr) (cap : Nat) (l : List TStep) (a2 : Option Addr) (cap2 : Nat) (q : List Ent) (keep : Int) (w : World) (hl : l.length ≤ 9223372036854775807) (hA : TStepsAt w a l) (hl2 : q.length ≤ 9223372036854775807) (hA2 : PairsAt w a2 q) (_ : (Lit.int .i64 keep).wf = true) :
    Calls Try.prog 7 #[.slice a l.length cap, .slice a2 q.length cap2, .int .i64 keep] w (TruePost w) := by
  have HA := hid hA
  have HA2 := hid hA2
  clear hA hA2
  go_enter Try.func7, Try.ntmps7
  go_wp2_with fail
  (with_reducible refine (law_logBegun w).mono ?_)
  rintro e w1 ⟨rfl, hb⟩
  have B1 := hid hb
  clear hb
  go_wp2_with fail
  (with_reducible refine (law_greatLog a cap l w1 hl (HA.out.below B1.out)).mono ?_)
  rintro e w2 ⟨rfl, hb⟩
  have B2 := hid (B1.out.trans (hb.mono B1.out.size))
  clear hb
  cases hg : greatT l with
  | true =>
    clear hg
    go_wp2
    go_ret
    exact ⟨rfl, B2.out⟩
  | false =>
  obtain ⟨h80, h50⟩ := greatT_false hg
  have H50 := hid h50
  clear hg h50
  go_wp2_with fail
  (with_reducible refine (law_greatPairs a2 cap2 q w2 hl2 (HA2.out.below B2.out).sl).mono ?_)
  rintro e w2b ⟨rfl, hb⟩
  have B2b := hid (B2.out.trans (hb.mono B2.out.size))
  clear hb B2
  cases hg : greatP q with
  | true =>
    clear hg
    go_wp2
    go_ret
    exact ⟨rfl, B2b.out⟩
  | false =>
  obtain ⟨hq50, -⟩ := greatP_false hg
  have hq6 : q.length ≤ 1000000 := by omega
  have QA := hid (HA2.out.below B2b.out)
  clear hg
  go_wp2_with fail
  (with_reducible refine (law_logs a cap l w2b h80 H50.out (HA.out.below B2b.out)).mono ?_)
  rintro e w3 ⟨g1, b, r, rfl, h3, hok, ht⟩
  have H3 := hid h3
  clear h3
  go_wp2_with fail
  (with_reducible refine (law_logs a cap l w3 h80 H50.out (HA.out.below (B2b.out.trans (H3.out.base.below.mono B2b.out.size)))).mono ?_)
  rintro e w4 ⟨g2, b2, r2, rfl, h4, -, -⟩
  obtain ⟨g, h5⟩ := H3.out.two h4
  have H4 := hid h5
  clear h4 h5 H3
  generalize runG l = G at *
  have hlen := hok.2.2.1
  have hn40 := hok.2.1
  have HOK := hid hok
  have HTN := hid ht
  clear hok ht
  go_wp2_with fail
  -- REGION 9
  refine wp_region_noPanic ?_
  refine wp_region_held_drew (S := (fun W' : World => Below w4.heap.size w4 W')) (by kernel_rfl) ?_ (fun hH0 => ?_)
  · (try dsimp only); (first | assumption | exact (Below.refl w4.heap.size w4).drew)
  refine wpAnyH_take (i := 0) (v := ?_) (by simp only [List.getElem?_toArray, List.getElem?_cons_zero]; rfl) (by kernel_rfl) (by kernel_rfl) (by kernel_rfl) (fun _ _ _ h => h) (Or.inl ⟨by rfl, ?_⟩) (by assumption) ?_
  rotate_left
  · intro w hSw; (try dsimp only at hSw); go_simp; (try with_reducible rfl)
  try simp only [Act.put, List.setIfInBounds_toArray, List.set_cons_zero, List.set_cons_succ]
  refine wpAnyH_take (i := 3) (v := ?_) (by simp only [List.getElem?_toArray, List.getElem?_cons_zero, List.getElem?_cons_succ]; rfl) (by kernel_rfl) (by kernel_rfl) (by kernel_rfl) (fun _ _ _ h => h) (Or.inl ⟨by rfl, ?_⟩) (by assumption) ?_
  rotate_left
  · intro w hSw; (try dsimp only at hSw); go_simp; (try with_reducible rfl)
  try simp only [Act.put, List.setIfInBounds_toArray, List.set_cons_zero, List.set_cons_succ]
  refine wpAnyH_ready (rs := [1]) (by kernel_rfl) (by simp) ?_
  refine AllReadyH.cons (by simp only [List.getElem?_toArray, List.getElem?_cons_zero, List.getElem?_cons_succ]; rfl) (fun K hK => ?_) AllReadyH.nil
  go_simp
  go_at_call 30
  have hS := ‹Below w4.heap.size w4 _›
  (with_reducible refine (log_Bytes g 1 b G _ (H4.out.below hS).log (by omega)).mono ?_)
  rintro e w5 ⟨a5, c5, rfl, hx5, hb5, -⟩
  have hc5 := conv_sliceAt w5 a5 c5 _ hx5.2
  have hS' := hS.trans (hb5.mono hS.size)
  clear hx5 hb5 hS
  try go_wp2_with fail
  refine hK.out _ _ ?_ (fun hH1 => ?_)
  · (try dsimp only); (first | assumption | exact (Below.refl w4.heap.size w4).drew)
  clear hK K hH0
  try simp only [Act.put, List.setIfInBounds_toArray, List.set_cons_zero, List.set_cons_succ]
  refine wpAnyH_ready (rs := [2, 4]) (by kernel_rfl) (by simp) ?_
  refine AllReadyH.cons (by simp only [List.getElem?_toArray, List.getElem?_cons_zero, List.getElem?_cons_succ]; rfl) (fun K hK => ?_) ?_
  go_simp
  refine hK.out _ _ ?_ (fun hH2 => ?_)
  · (try dsimp only); (first | assumption | exact (Below.refl w4.heap.size w4).drew)
  clear hK K hH1
  try simp only [Act.put, List.setIfInBounds_toArray, List.set_cons_zero, List.set_cons_succ]
  refine wpAnyH_ready (rs := [4]) (by kernel_rfl) (by simp) ?_
  refine AllReadyH.cons (by simp only [List.getElem?_toArray, List.getElem?_cons_zero, List.getElem?_cons_succ]; rfl) (fun K hK => ?_) AllReadyH.nil
  go_simp
  go_at_call 31
  have hS := ‹Below w4.heap.size w4 _›
  (with_reducible refine (log_Len g 1 b G _ (H4.out.below hS).log).mono ?_)
  rintro e w' ⟨rfl, rfl⟩
  try go_wp2_with fail
  refine hK.out _ _ ?_ (fun hH3 => ?_)
  · (try dsimp only); (first | assumption | exact (Below.refl w4.heap.size w4).drew)
  clear hK K hH2
  try simp only [Act.put, List.setIfInBounds_toArray, List.set_cons_zero, List.set_cons_succ]
  refine wpAnyH_take (i := 5) (v := ?_) (by simp only [List.getElem?_toArray, List.getElem?_cons_zero, List.getElem?_cons_succ]; rfl) (by kernel_rfl) (by kernel_rfl) (by kernel_rfl) (fun _ _ _ h => h) (Or.inl ⟨by rfl, ?_⟩) (by assumption) ?_
  rotate_left
  · intro w hSw; (try dsimp only at hSw); go_simp; (try with_reducible rfl)
  try simp only [Act.put, List.setIfInBounds_toArray, List.set_cons_zero, List.set_cons_succ]
  refine wpAnyH_take (i := 6) (v := ?_) (by simp only [List.getElem?_toArray, List.getElem?_cons_zero, List.getElem?_cons_succ]; rfl) (by kernel_rfl) (by kernel_rfl) (by kernel_rfl) (fun _ _ _ h => h) (Or.inl ⟨by rfl, ?_⟩) (by assumption) ?_
  rotate_left
  · intro w hSw; (try dsimp only at hSw); go_simp; (try with_reducible rfl)
  try simp only [Act.put, List.setIfInBounds_toArray, List.set_cons_zero, List.set_cons_succ]
  refine wpAnyH_done (by kernel_rfl) ?_ _
  refine NoPanic.normal ?_
  rotate_left
  refine AllReadyH.cons (by simp only [List.getElem?_toArray, List.getElem?_cons_zero, List.getElem?_cons_succ]; rfl) (fun K hK => ?_) AllReadyH.nil
  go_simp
  go_at_call 31
  have hS := ‹Below w4.heap.size w4 _›
  (with_reducible refine (log_Len g 1 b G _ (H4.out.below hS).log).mono ?_)
  rintro e w' ⟨rfl, rfl⟩
  try go_wp2_with fail
  refine hK.out _ _ ?_ (fun hH4 => ?_)
  · (try dsimp only); (first | assumption | exact (Below.refl w4.heap.size w4).drew)
  clear hK K hH1
  try simp only [Act.put, List.setIfInBounds_toArray, List.set_cons_zero, List.set_cons_succ]
  refine wpAnyH_ready (rs := [2]) (by kernel_rfl) (by simp) ?_
  refine AllReadyH.cons (by simp only [List.getElem?_toArray, List.getElem?_cons_zero, List.getElem?_cons_succ]; rfl) (fun K hK => ?_) AllReadyH.nil
  go_simp
  refine hK.out _ _ ?_ (fun hH5 => ?_)
  · (try dsimp only); (first | assumption | exact (Below.refl w4.heap.size w4).drew)
  clear hK K hH4
  try simp only [Act.put, List.setIfInBounds_toArray, List.set_cons_zero, List.set_cons_succ]
  refine wpAnyH_take (i := 5) (v := ?_) (by simp only [List.getElem?_toArray, List.getElem?_cons_zero, List.getElem?_cons_succ]; rfl) (by kernel_rfl) (by kernel_rfl) (by kernel_rfl) (fun _ _ _ h => h) (Or.inl ⟨by rfl, ?_⟩) (by assumption) ?_
  rotate_left
  · intro w hSw; (try dsimp only at hSw); go_simp; (try with_reducible rfl)
  try simp only [Act.put, List.setIfInBounds_toArray, List.set_cons_zero, List.set_cons_succ]
  refine wpAnyH_take (i := 6) (v := ?_) (by simp only [List.getElem?_toArray, List.getElem?_cons_zero, List.getElem?_cons_succ]; rfl) (by kernel_rfl) (by kernel_rfl) (by kernel_rfl) (fun _ _ _ h => h) (Or.inl ⟨by rfl, ?_⟩) (by assumption) ?_
  rotate_left
  · intro w hSw; (try dsimp only at hSw); go_simp; (try with_reducible rfl)
  try simp only [Act.put, List.setIfInBounds_toArray, List.set_cons_zero, List.set_cons_succ]
  refine wpAnyH_done (by kernel_rfl) ?_ _
  refine NoPanic.normal ?_
  rotate_left
  -- END 9
  all_goals
    have hS := ‹Below w4.heap.size w4 _›
    have H5 := hid (H4.out.below hS)
    clear H4 hc5
    go_wp2_with fail
    have HTear := hid (log_Tear g 1 b G a2 cap2 q keep _ hq6 QA.out.sz HOK.out HTN.out H5.out.log (H5.out.sl QA.out.sl))
    have htc := tear_code G q keep
    have HXO := hid (tearG_ok HOK.out HTN.out q keep)
    have HXB := hid (fun h => tear_bad (G := G) (w := q) (keep := keep) h)
    have HXG := hid (fun h => tear_good (G := G) (w := q) (keep := keep) HTN.out h)
    have HXM := hid (fun (h : (putG G q).1 ≠ 0) => (show mendG (tearG G q keep).2 = G by rw [HXB.out h]; exact mend_own HTN.out))
    generalize hX : tearG G q keep = X2 at *
    obtain ⟨xc, X⟩ := X2
    simp only at htc HXO HXB HXG HXM
    subst htc
    clear hX
    refine HTear.out.mono ?_
    rintro e w6 ⟨rfl, g6, hC, hE⟩
    have H6 := hid (H5.out.evo1 hE hC)
    clear hC hE H5 HTear
    go_wp2_with fail
    have HPut := hid (log_Put g6 6 b2 G a2 cap2 q w6 hq6 QA.out.sz HOK.out HTN.out H6.out.other (H6.out.sl QA.out.sl))
    refine HPut.out.mono ?_
    rintro e w7 ⟨rfl, g7, hC, hE⟩
    have H7 := hid (H6.out.evo2 hE hC)
    clear hC hE H6 HPut
    go_wp2_with fail
    (with_reducible refine (log_Mend g7 1 b X w7 HXO.out H7.out.log).mono ?_)
    rintro e w8 ⟨rfl, g8, hC, hE⟩
    have H8 := hid (H7.out.evo1 hE hC)
    clear hC hE H7
    have HM0 := hid (mendG_ok HXO.out)
    have hmm : (mendG X).torn = [] := rfl
    generalize mendG X = M at *
    have hmend := mend_own hmm
    have P := log_Mend g8 1 b M w8 HM0.out H8.out.log
    rw [hmend, hmm] at P
    have HP := hid P
    clear P hmend
    by_cases hc : (putG G q).1 = 0
    case neg =>
      have hM := HXM.out hc
      rw [hM] at H8 HP
      have hc0 : ((putG G q).1 == 0) = false := by simpa using hc
      have hc1 : ((putG G q).1 != 0) = true := by simpa using hc
      generalize (putG G q).1 = code at *
      clear hM HXM HXG HXB hc HXO HM0 hmm
      go_wp2_with fail
      refine HP.out.mono ?_
      rintro e w9 ⟨rfl, g9, hC, hE⟩
      have H9 := hid (H8.out.evo1 hE hC)
      clear hC hE H8 HP
      go_wp2_with fail
      (with_reducible refine (log_Len g9 1 b G w9 H9.out.log).mono ?_)
      rintro e w9' ⟨rfl, rfl⟩
      go_wp2_with fail
      (with_reducible refine (log_Bytes g9 1 b G w9 H9.out.log (by omega)).mono ?_)
      rintro e w10 ⟨a10, c10, rfl, hx10, hb10, -⟩
      have hc10 := conv_sliceAt w10 a10 c10 _ hx10.2
      have H10 := hid (H9.out.below hb10)
      clear hx10 hb10 H9
      go_wp2
      go_ret
      exact ⟨rfl, B2b.out.trans (H10.out.base.below.mono B2b.out.size)⟩
    case pos =>
      obtain ⟨p1, p2, p3⟩ := put_good hc
      have hG1 := (putG_ok HOK.out HTN.out q).1
      rw [p3] at H8 hG1
      have hM := HXG.out hc
      have hby := more_bytes (w := q) HTN.out
      have hen := (encL_bound p1).1
      have hl1 := hG1.2.2.1
      have hbl : (Lg.bytes ⟨G.l ++ [q], G.torn⟩).length = G.bytes.length + (encL q).length := by rw [hby, List.length_append]
      have hn1 : ((G.l ++ [q]).length : Int) = (G.l.length : Int) + 1 := by simp
      have HN1 := hid hn1
      rw [hc]
      clear HXM HXG HXB HXO HM0 hmm hby hen hG1 p1 p3 hn1
      have h40 : (G.l.length : Int) < 40 := by omega
      have HC0 := hid hc
      clear hc p2
      have htorn : (⟨G.l ++ [q], []⟩ : Lg) = ⟨G.l ++ [q], G.torn⟩ := by rw [HTN.out]
      by_cases hk : ((encL q).length : Int) ≤ keep
      · rw [if_pos hk, htorn] at hM
        rw [hM] at H8 HP
        generalize hGb : (⟨G.l ++ [q], G.torn⟩ : Lg) = Gm at *
        have HGL := hid (show (Gm.l.length : Int) = (G.l.length : Int) + 1 by rw [← hGb]; exact HN1.out)
        have hsub : IntKind.i64.wrap ((Gm.bytes.length : Int) - (G.bytes.length : Int)) = ((encL q).length : Int) := by rw [show (Gm.bytes.length : Int) - (G.bytes.length : Int) = ((encL q).length : Int) by omega]; exact IntWalk.i64_in _ ⟨by omega, by omega⟩
        generalize (encL q).length = en at *
        clear hM hGb htorn HN1 hbl
        go_wp2_with fail
        refine HP.out.mono ?_
        rintro e w9 ⟨rfl, g9, hC, hE⟩
        have H9 := hid (H8.out.evo1 hE hC)
        clear hC hE H8 HP
        go_wp2_with fail
        (with_reducible refine (log_Len g9 1 b Gm w9 H9.out.log).mono ?_)
        rintro e w9' ⟨rfl, rfl⟩
        rw [HGL.out]
        go_wp2_with fail
        -- REGION 16
        refine wp_region_noPanic ?_
        refine wp_region_held_drew (S := (fun W' : World => Below w9.heap.size w9 W')) (by kernel_rfl) ?_ (fun hH0 => ?_)
        · (try dsimp only); (first | assumption | exact (Below.refl w9.heap.size w9).drew)
        refine wpAnyH_take (i := 0) (v := ?_) (by simp only [List.getElem?_toArray, List.getElem?_cons_zero]; rfl) (by kernel_rfl) (by kernel_rfl) (by kernel_rfl) (fun _ _ _ h => h) (Or.inl ⟨by rfl, ?_⟩) (by assumption) ?_
        rotate_left
        · intro w hSw; (try dsimp only at hSw); go_simp; (try with_reducible rfl)
        try simp only [Act.put, List.setIfInBounds_toArray, List.set_cons_zero, List.set_cons_succ]
        refine wpAnyH_take (i := 3) (v := ?_) (by simp only [List.getElem?_toArray, List.getElem?_cons_zero, List.getElem?_cons_succ]; rfl) (by kernel_rfl) (by kernel_rfl) (by kernel_rfl) (fun _ _ _ h => h) (Or.inl ⟨by rfl, ?_⟩) (by assumption) ?_
        rotate_left
        · intro w hSw; (try dsimp only at hSw); go_simp; (try with_reducible rfl)
        try simp only [Act.put, List.setIfInBounds_toArray, List.set_cons_zero, List.set_cons_succ]
        refine wpAnyH_ready (rs := [1]) (by kernel_rfl) (by simp) ?_
        refine AllReadyH.cons (by simp only [List.getElem?_toArray, List.getElem?_cons_zero, List.getElem?_cons_succ]; rfl) (fun K hK => ?_) AllReadyH.nil
        go_simp
        go_at_call 30
        have hS := ‹Below w9.heap.size w9 _›
        (with_reducible refine (log_Bytes g9 1 b Gm _ (H9.out.below hS).log (by omega)).mono ?_)
        rintro e w10 ⟨a10, c10, rfl, hx10, hb10, -⟩
        have HX10 := hid hx10
        have hc10 := conv_sliceAt w10 a10 c10 _ hx10.2
        have hS' := hS.trans (hb10.mono hS.size)
        clear hx10 hb10 hS
        try go_wp2_with fail
        refine hK.out _ _ ?_ (fun hH1 => ?_)
        · (try dsimp only); (first | assumption | exact (Below.refl w9.heap.size w9).drew)
        clear hK K hH0
        try simp only [Act.put, List.setIfInBounds_toArray, List.set_cons_zero, List.set_cons_succ]
        refine wpAnyH_ready (rs := [2, 4]) (by kernel_rfl) (by simp) ?_
        refine AllReadyH.cons (by simp only [List.getElem?_toArray, List.getElem?_cons_zero, List.getElem?_cons_succ]; rfl) (fun K hK => ?_) ?_
        go_simp
        refine hK.out _ _ ?_ (fun hH2 => ?_)
        · (try dsimp only); (first | assumption | exact (Below.refl w9.heap.size w9).drew)
        clear hK K hH1
        try simp only [Act.put, List.setIfInBounds_toArray, List.set_cons_zero, List.set_cons_succ]
        refine wpAnyH_ready (rs := [4]) (by kernel_rfl) (by simp) ?_
        refine AllReadyH.cons (by simp only [List.getElem?_toArray, List.getElem?_cons_zero, List.getElem?_cons_succ]; rfl) (fun K hK => ?_) AllReadyH.nil
        go_simp
        go_at_call 30
        have hS := ‹Below w9.heap.size w9 _›
        (with_reducible refine (log_Bytes g9 6 b2 Gm _ (H9.out.below hS).other (by omega)).mono ?_)
        rintro e w11 ⟨a11, c11, rfl, hx11, hb11, -⟩
        have HX11 := hid hx11
        have hc11 := conv_sliceAt w11 a11 c11 _ hx11.2
        have hS' := hS.trans (hb11.mono hS.size)
        have hc10' := conv_sliceAt w11 a10 c10 _ (HX10.out.below hb11).2
        clear hx11 hb11 hS
        try go_wp2_with fail
        refine hK.out _ _ ?_ (fun hH3 => ?_)
        · (try dsimp only); (first | assumption | exact (Below.refl w9.heap.size w9).drew)
        clear hK K hH2
        try simp only [Act.put, List.setIfInBounds_toArray, List.set_cons_zero, List.set_cons_succ]
        refine wpAnyH_ready (rs := [5]) (by kernel_rfl) (by simp) ?_
        refine AllReadyH.cons (by simp only [List.getElem?_toArray, List.getElem?_cons_zero, List.getElem?_cons_succ]; rfl) (fun K hK => ?_) AllReadyH.nil
        go_simp
        refine hK.out _ _ ?_ (fun hH4 => ?_)
        · (try dsimp only); (first | assumption | exact (Below.refl w9.heap.size w9).drew)
        clear hK K hH3
        try simp only [Act.put, List.setIfInBounds_toArray, List.set_cons_zero, List.set_cons_succ]
        refine wpAnyH_take (i := 6) (v := ?_) (by simp only [List.getElem?_toArray, List.getElem?_cons_zero, List.getElem?_cons_succ]; rfl) (by kernel_rfl) (by kernel_rfl) (by kernel_rfl) (fun _ _ _ h => h) (Or.inl ⟨by rfl, ?_⟩) (by assumption) ?_
        rotate_left
        · intro w hSw; (try dsimp only at hSw); go_simp; (try with_reducible rfl)
        try simp only [Act.put, List.setIfInBounds_toArray, List.set_cons_zero, List.set_cons_succ]
        refine wpAnyH_take (i := 7) (v := ?_) (by simp only [List.getElem?_toArray, List.getElem?_cons_zero, List.getElem?_cons_succ]; rfl) (by kernel_rfl) (by kernel_rfl) (by kernel_rfl) (fun _ _ _ h => h) (Or.inl ⟨by rfl, ?_⟩) (by assumption) ?_
        rotate_left
        · intro w hSw; (try dsimp only at hSw); go_simp; (try with_reducible rfl)
        try simp only [Act.put, List.setIfInBounds_toArray, List.set_cons_zero, List.set_cons_succ]
        refine wpAnyH_take (i := 8) (v := ?_) (by simp only [List.getElem?_toArray, List.getElem?_cons_zero, List.getElem?_cons_succ]; rfl) (by kernel_rfl) (by kernel_rfl) (by kernel_rfl) (fun _ _ _ h => h) (Or.inl ⟨by rfl, ?_⟩) (by assumption) ?_
        rotate_left
        · intro w hSw; (try dsimp only at hSw); go_simp; (try with_reducible rfl)
        try simp only [Act.put, List.setIfInBounds_toArray, List.set_cons_zero, List.set_cons_succ]
        refine wpAnyH_take (i := 9) (v := ?_) (by simp only [List.getElem?_toArray, List.getElem?_cons_zero, List.getElem?_cons_succ]; rfl) (by kernel_rfl) (by kernel_rfl) (by kernel_rfl) (fun _ _ _ h => h) (Or.inl ⟨by rfl, ?_⟩) (by assumption) ?_
        rotate_left
        · intro w hSw; (try dsimp only at hSw); go_simp; (try with_reducible rfl)
        try simp only [Act.put, List.setIfInBounds_toArray, List.set_cons_zero, List.set_cons_succ]
        refine wpAnyH_take (i := 12) (v := ?_) (by simp only [List.getElem?_toArray, List.getElem?_cons_zero, List.getElem?_cons_succ]; rfl) (by kernel_rfl) (by kernel_rfl) (by kernel_rfl) (fun _ _ _ h => h) (Or.inl ⟨by rfl, ?_⟩) (by assumption) ?_
        rotate_left
        · intro w hSw; (try dsimp only at hSw); go_simp; (try with_reducible rfl)
        try simp only [Act.put, List.setIfInBounds_toArray, List.set_cons_zero, List.set_cons_succ]
        refine wpAnyH_take (i := 13) (v := ?_) (by simp only [List.getElem?_toArray, List.getElem?_cons_zero, List.getElem?_cons_succ]; rfl) (by kernel_rfl) (by kernel_rfl) (by kernel_rfl) (fun _ _ _ h => h) (Or.inl ⟨by rfl, ?_⟩) (by assumption) ?_
        rotate_left
        · intro w hSw; (try dsimp only at hSw); go_simp; (try with_reducible rfl)
        try simp only [Act.put, List.setIfInBounds_toArray, List.set_cons_zero, List.set_cons_succ]
        refine wpAnyH_ready (rs := [10]) (by kernel_rfl) (by simp) ?_
        refine AllReadyH.cons (by simp only [List.getElem?_toArray, List.getElem?_cons_zero, List.getElem?_cons_succ]; rfl) (fun K hK => ?_) AllReadyH.nil
        go_simp
        go_at_call 30
        have hS := ‹Below w9.heap.size w9 _›
        (with_reducible refine (log_Bytes g9 6 b2 Gm _ (H9.out.below hS).other (by omega)).mono ?_)
        rintro e w12 ⟨a12, c12, rfl, hx12, hb12, -⟩
        have HX12 := hid hx12
        have hc12 := conv_sliceAt w12 a12 c12 _ hx12.2
        have hS' := hS.trans (hb12.mono hS.size)
        clear hx12 hb12 hS
        try go_wp2_with fail
        refine hK.out _ _ ?_ (fun hH5 => ?_)
        · (try dsimp only); (first | assumption | exact (Below.refl w9.heap.size w9).drew)
        clear hK K hH4
        try simp only [Act.put, List.setIfInBounds_toArray, List.set_cons_zero, List.set_cons_succ]
        refine wpAnyH_take (i := 11) (v := ?_) (by simp only [List.getElem?_toArray, List.getElem?_cons_zero, List.getElem?_cons_succ]; rfl) (by kernel_rfl) (by kernel_rfl) (by kernel_rfl) (fun _ _ _ h => h) (Or.inl ⟨by rfl, ?_⟩) (by assumption) ?_
        rotate_left
        · intro w hSw; (try dsimp only at hSw); go_simp; (try with_reducible rfl)
        try simp only [Act.put, List.setIfInBounds_toArray, List.set_cons_zero, List.set_cons_succ]
        refine wpAnyH_take (i := 14) (v := ?_) (by simp only [List.getElem?_toArray, List.getElem?_cons_zero, List.getElem?_cons_succ]; rfl) (by kernel_rfl) (by kernel_rfl) (by kernel_rfl) (fun _ _ _ h => h) (Or.inl ⟨by rfl, ?_⟩) (by assumption) ?_
        rotate_left
        · intro w hSw; (try dsimp only at hSw); go_simp; (try with_reducible rfl)
        try simp only [Act.put, List.setIfInBounds_toArray, List.set_cons_zero, List.set_cons_succ]
        refine wpAnyH_take (i := 15) (v := ?_) (by simp only [List.getElem?_toArray, List.getElem?_cons_zero, List.getElem?_cons_succ]; rfl) (by kernel_rfl) (by kernel_rfl) (by kernel_rfl) (fun _ _ _ h => h) (Or.inl ⟨by rfl, ?_⟩) (by assumption) ?_
        rotate_left
        · intro w hSw; (try dsimp only at hSw); go_simp; (try with_reducible rfl)
        try simp only [Act.put, List.setIfInBounds_toArray, List.set_cons_zero, List.set_cons_succ]
        refine wpAnyH_take (i := 16) (v := ?_) (by simp only [List.getElem?_toArray, List.getElem?_cons_zero, List.getElem?_cons_succ]; rfl) (by kernel_rfl) (by kernel_rfl) (by kernel_rfl) (fun _ _ _ h => h) (Or.inl ⟨by rfl, ?_⟩) (by assumption) ?_
        rotate_left
        · intro w hSw; (try dsimp only at hSw); go_simp; (try with_reducible rfl)
        try simp only [Act.put, List.setIfInBounds_toArray, List.set_cons_zero, List.set_cons_succ]
        refine wpAnyH_take (i := 17) (v := ?_) (by simp only [List.getElem?_toArray, List.getElem?_cons_zero, List.getElem?_cons_succ]; rfl) (by kernel_rfl) (by kernel_rfl) (by kernel_rfl) (fun _ _ _ h => h) (Or.inl ⟨by rfl, ?_⟩) (by assumption) ?_
        rotate_left
        · intro w hSw; (try dsimp only at hSw); go_simp; (try with_reducible rfl)
        try simp only [Act.put, List.setIfInBounds_toArray, List.set_cons_zero, List.set_cons_succ]
        refine wpAnyH_done (by kernel_rfl) ?_ _
        refine NoPanic.normal ?_
        rotate_left
        refine AllReadyH.cons (by simp only [List.getElem?_toArray, List.getElem?_cons_zero, List.getElem?_cons_succ]; rfl) (fun K hK => ?_) AllReadyH.nil
        go_simp
        go_at_call 30
        have hS := ‹Below w9.heap.size w9 _›
        (with_reducible refine (log_Bytes g9 6 b2 Gm _ (H9.out.below hS).other (by omega)).mono ?_)
        rintro e w11 ⟨a11, c11, rfl, hx11, hb11, -⟩
        have HX11 := hid hx11
        have hc11 := conv_sliceAt w11 a11 c11 _ hx11.2
        have hS' := hS.trans (hb11.mono hS.size)
        have hc10' := conv_sliceAt w11 a10 c10 _ (HX10.out.below hb11).2
        clear hx11 hb11 hS
        try go_wp2_with fail
        refine hK.out _ _ ?_ (fun hH6 => ?_)
        · (try dsimp only); (first | assumption | exact (Below.refl w9.heap.size w9).drew)
        clear hK K hH1
        try simp only [Act.put, List.setIfInBounds_toArray, List.set_cons_zero, List.set_cons_succ]
        refine wpAnyH_ready (rs := [2, 5]) (by kernel_rfl) (by simp) ?_
        refine AllReadyH.cons (by simp only [List.getElem?_toArray, List.getElem?_cons_zero, List.getElem?_cons_succ]; rfl) (fun K hK => ?_) ?_
        go_simp
        refine hK.out _ _ ?_ (fun hH7 => ?_)
        · (try dsimp only); (first | assumption | exact (Below.refl w9.heap.size w9).drew)
        clear hK K hH6
        try simp only [Act.put, List.setIfInBounds_toArray, List.set_cons_zero, List.set_cons_succ]
        refine wpAnyH_ready (rs := [5]) (by kernel_rfl) (by simp) ?_
        refine AllReadyH.cons (by simp only [List.getElem?_toArray, List.getElem?_cons_zero, List.getElem?_cons_succ]; rfl) (fun K hK => ?_) AllReadyH.nil
        go_simp
        refine hK.out _ _ ?_ (fun hH8 => ?_)
        · (try dsimp only); (first | assumption | exact (Below.refl w9.heap.size w9).drew)
        clear hK K hH7
        try simp only [Act.put, List.setIfInBounds_toArray, List.set_cons_zero, List.set_cons_succ]
        refine wpAnyH_take (i := 6) (v := ?_) (by simp only [List.getElem?_toArray, List.getElem?_cons_zero, List.getElem?_cons_succ]; rfl) (by kernel_rfl) (by kernel_rfl) (by kernel_rfl) (fun _ _ _ h => h) (Or.inl ⟨by rfl, ?_⟩) (by assumption) ?_
        rotate_left
        · intro w hSw; (try dsimp only at hSw); go_simp; (try with_reducible rfl)
        try simp only [Act.put, List.setIfInBounds_toArray, List.set_cons_zero, List.set_cons_succ]
        refine wpAnyH_take (i := 7) (v := ?_) (by simp only [List.getElem?_toArray, List.getElem?_cons_zero, List.getElem?_cons_succ]; rfl) (by kernel_rfl) (by kernel_rfl) (by kernel_rfl) (fun _ _ _ h => h) (Or.inl ⟨by rfl, ?_⟩) (by assumption) ?_
        rotate_left
        · intro w hSw; (try dsimp only at hSw); go_simp; (try with_reducible rfl)
        try simp only [Act.put, List.setIfInBounds_toArray, List.set_cons_zero, List.set_cons_succ]
        refine wpAnyH_take (i := 8) (v := ?_) (by simp only [List.getElem?_toArray, List.getElem?_cons_zero, List.getElem?_cons_succ]; rfl) (by kernel_rfl) (by kernel_rfl) (by kernel_rfl) (fun _ _ _ h => h) (Or.inl ⟨by rfl, ?_⟩) (by assumption) ?_
        rotate_left
        · intro w hSw; (try dsimp only at hSw); go_simp; (try with_reducible rfl)
        try simp only [Act.put, List.setIfInBounds_toArray, List.set_cons_zero, List.set_cons_succ]
        refine wpAnyH_take (i := 9) (v := ?_) (by simp only [List.getElem?_toArray, List.getElem?_cons_zero, List.getElem?_cons_succ]; rfl) (by kernel_rfl) (by kernel_rfl) (by kernel_rfl) (fun _ _ _ h => h) (Or.inl ⟨by rfl, ?_⟩) (by assumption) ?_
        rotate_left
        · intro w hSw; (try dsimp only at hSw); go_simp; (try with_reducible rfl)
        try simp only [Act.put, List.setIfInBounds_toArray, List.set_cons_zero, List.set_cons_succ]
        refine wpAnyH_take (i := 12) (v := ?_) (by simp only [List.getElem?_toArray, List.getElem?_cons_zero, List.getElem?_cons_succ]; rfl) (by kernel_rfl) (by kernel_rfl) (by kernel_rfl) (fun _ _ _ h => h) (Or.inl ⟨by rfl, ?_⟩) (by assumption) ?_
        rotate_left
        · intro w hSw; (try dsimp only at hSw); go_simp; (try with_reducible rfl)
        try simp only [Act.put, List.setIfInBounds_toArray, List.set_cons_zero, List.set_cons_succ]
        refine wpAnyH_take (i := 13) (v := ?_) (by simp only [List.getElem?_toArray, List.getElem?_cons_zero, List.getElem?_cons_succ]; rfl) (by kernel_rfl) (by kernel_rfl) (by kernel_rfl) (fun _ _ _ h => h) (Or.inl ⟨by rfl, ?_⟩) (by assumption) ?_
        rotate_left
        · intro w hSw; (try dsimp only at hSw); go_simp; (try with_reducible rfl)
        try simp only [Act.put, List.setIfInBounds_toArray, List.set_cons_zero, List.set_cons_succ]
        refine wpAnyH_ready (rs := [10]) (by kernel_rfl) (by simp) ?_
        refine AllReadyH.cons (by simp only [List.getElem?_toArray, List.getElem?_cons_zero, List.getElem?_cons_succ]; rfl) (fun K hK => ?_) AllReadyH.nil
        go_simp
        go_at_call 30
        have hS := ‹Below w9.heap.size w9 _›
        (with_reducible refine (log_Bytes g9 6 b2 Gm _ (H9.out.below hS).other (by omega)).mono ?_)
        rintro e w12 ⟨a12, c12, rfl, hx12, hb12, -⟩
        have HX12 := hid hx12
        have hc12 := conv_sliceAt w12 a12 c12 _ hx12.2
        have hS' := hS.trans (hb12.mono hS.size)
        clear hx12 hb12 hS
        try go_wp2_with fail
        refine hK.out _ _ ?_ (fun hH9 => ?_)
        · (try dsimp only); (first | assumption | exact (Below.refl w9.heap.size w9).drew)
        clear hK K hH8
        try simp only [Act.put, List.setIfInBounds_toArray, List.set_cons_zero, List.set_cons_succ]
        refine wpAnyH_take (i := 11) (v := ?_) (by simp only [List.getElem?_toArray, List.getElem?_cons_zero, List.getElem?_cons_succ]; rfl) (by kernel_rfl) (by kernel_rfl) (by kernel_rfl) (fun _ _ _ h => h) (Or.inl ⟨by rfl, ?_⟩) (by assumption) ?_
        rotate_left
        · intro w hSw; (try dsimp only at hSw); go_simp; (try with_reducible rfl)
        try simp only [Act.put, List.setIfInBounds_toArray, List.set_cons_zero, List.set_cons_succ]
        refine wpAnyH_take (i := 14) (v := ?_) (by simp only [List.getElem?_toArray, List.getElem?_cons_zero, List.getElem?_cons_succ]; rfl) (by kernel_rfl) (by kernel_rfl) (by kernel_rfl) (fun _ _ _ h => h) (Or.inl ⟨by rfl, ?_⟩) (by assumption) ?_
        rotate_left
        · intro w hSw; (try dsimp only at hSw); go_simp; (try with_reducible rfl)
        try simp only [Act.put, List.setIfInBounds_toArray, List.set_cons_zero, List.set_cons_succ]
        refine wpAnyH_take (i := 15) (v := ?_) (by simp only [List.getElem?_toArray, List.getElem?_cons_zero, List.getElem?_cons_succ]; rfl) (by kernel_rfl) (by kernel_rfl) (by kernel_rfl) (fun _ _ _ h => h) (Or.inl ⟨by rfl, ?_⟩) (by assumption) ?_
        rotate_left
        · intro w hSw; (try dsimp only at hSw); go_simp; (try with_reducible rfl)
        try simp only [Act.put, List.setIfInBounds_toArray, List.set_cons_zero, List.set_cons_succ]
        refine wpAnyH_take (i := 16) (v := ?_) (by simp only [List.getElem?_toArray, List.getElem?_cons_zero, List.getElem?_cons_succ]; rfl) (by kernel_rfl) (by kernel_rfl) (by kernel_rfl) (fun _ _ _ h => h) (Or.inl ⟨by rfl, ?_⟩) (by assumption) ?_
        rotate_left
        · intro w hSw; (try dsimp only at hSw); go_simp; (try with_reducible rfl)
        try simp only [Act.put, List.setIfInBounds_toArray, List.set_cons_zero, List.set_cons_succ]
        refine wpAnyH_take (i := 17) (v := ?_) (by simp only [List.getElem?_toArray, List.getElem?_cons_zero, List.getElem?_cons_succ]; rfl) (by kernel_rfl) (by kernel_rfl) (by kernel_rfl) (fun _ _ _ h => h) (Or.inl ⟨by rfl, ?_⟩) (by assumption) ?_
        rotate_left
        · intro w hSw; (try dsimp only at hSw); go_simp; (try with_reducible rfl)
        try simp only [Act.put, List.setIfInBounds_toArray, List.set_cons_zero, List.set_cons_succ]
        refine wpAnyH_done (by kernel_rfl) ?_ _
        refine NoPanic.normal ?_
        rotate_left
        refine AllReadyH.cons (by simp only [List.getElem?_toArray, List.getElem?_cons_zero, List.getElem?_cons_succ]; rfl) (fun K hK => ?_) AllReadyH.nil
        go_simp
        refine hK.out _ _ ?_ (fun hH10 => ?_)
        · (try dsimp only); (first | assumption | exact (Below.refl w9.heap.size w9).drew)
        clear hK K hH6
        try simp only [Act.put, List.setIfInBounds_toArray, List.set_cons_zero, List.set_cons_succ]
        refine wpAnyH_ready (rs := [2]) (by kernel_rfl) (by simp) ?_
        refine AllReadyH.cons (by simp only [List.getElem?_toArray, List.getElem?_cons_zero, List.getElem?_cons_succ]; rfl) (fun K hK => ?_) AllReadyH.nil
        go_simp
        refine hK.out _ _ ?_ (fun hH11 => ?_)
        · (try dsimp only); (first | assumption | exact (Below.refl w9.heap.size w9).drew)
        clear hK K hH10
        try simp only [Act.put, List.setIfInBounds_toArray, List.set_cons_zero, List.set_cons_succ]
        refine wpAnyH_take (i := 6) (v := ?_) (by simp only [List.getElem?_toArray, List.getElem?_cons_zero, List.getElem?_cons_succ]; rfl) (by kernel_rfl) (by kernel_rfl) (by kernel_rfl) (fun _ _ _ h => h) (Or.inl ⟨by rfl, ?_⟩) (by assumption) ?_
        rotate_left
        · intro w hSw; (try dsimp only at hSw); go_simp; (try with_reducible rfl)
        try simp only [Act.put, List.setIfInBounds_toArray, List.set_cons_zero, List.set_cons_succ]
        refine wpAnyH_take (i := 7) (v := ?_) (by simp only [List.getElem?_toArray, List.getElem?_cons_zero, List.getElem?_cons_succ]; rfl) (by kernel_rfl) (by kernel_rfl) (by kernel_rfl) (fun _ _ _ h => h) (Or.inl ⟨by rfl, ?_⟩) (by assumption) ?_
        rotate_left
        · intro w hSw; (try dsimp only at hSw); go_simp; (try with_reducible rfl)
        try simp only [Act.put, List.setIfInBounds_toArray, List.set_cons_zero, List.set_cons_succ]
        refine wpAnyH_take (i := 8) (v := ?_) (by simp only [List.getElem?_toArray, List.getElem?_cons_zero, List.getElem?_cons_succ]; rfl) (by kernel_rfl) (by kernel_rfl) (by kernel_rfl) (fun _ _ _ h => h) (Or.inl ⟨by rfl, ?_⟩) (by assumption) ?_
        rotate_left
        · intro w hSw; (try dsimp only at hSw); go_simp; (try with_reducible rfl)
        try simp only [Act.put, List.setIfInBounds_toArray, List.set_cons_zero, List.set_cons_succ]
        refine wpAnyH_take (i := 9) (v := ?_) (by simp only [List.getElem?_toArray, List.getElem?_cons_zero, List.getElem?_cons_succ]; rfl) (by kernel_rfl) (by kernel_rfl) (by kernel_rfl) (fun _ _ _ h => h) (Or.inl ⟨by rfl, ?_⟩) (by assumption) ?_
        rotate_left
        · intro w hSw; (try dsimp only at hSw); go_simp; (try with_reducible rfl)
        try simp only [Act.put, List.setIfInBounds_toArray, List.set_cons_zero, List.set_cons_succ]
        refine wpAnyH_take (i := 12) (v := ?_) (by simp only [List.getElem?_toArray, List.getElem?_cons_zero, List.getElem?_cons_succ]; rfl) (by kernel_rfl) (by kernel_rfl) (by kernel_rfl) (fun _ _ _ h => h) (Or.inl ⟨by rfl, ?_⟩) (by assumption) ?_
        rotate_left
        · intro w hSw; (try dsimp only at hSw); go_simp; (try with_reducible rfl)
        try simp only [Act.put, List.setIfInBounds_toArray, List.set_cons_zero, List.set_cons_succ]
        refine wpAnyH_take (i := 13) (v := ?_) (by simp only [List.getElem?_toArray, List.getElem?_cons_zero, List.getElem?_cons_succ]; rfl) (by kernel_rfl) (by kernel_rfl) (by kernel_rfl) (fun _ _ _ h => h) (Or.inl ⟨by rfl, ?_⟩) (by assumption) ?_
        rotate_left
        · intro w hSw; (try dsimp only at hSw); go_simp; (try with_reducible rfl)
        try simp only [Act.put, List.setIfInBounds_toArray, List.set_cons_zero, List.set_cons_succ]
        refine wpAnyH_ready (rs := [10]) (by kernel_rfl) (by simp) ?_
        refine AllReadyH.cons (by simp only [List.getElem?_toArray, List.getElem?_cons_zero, List.getElem?_cons_succ]; rfl) (fun K hK => ?_) AllReadyH.nil
        go_simp
        go_at_call 30
        have hS := ‹Below w9.heap.size w9 _›
        (with_reducible refine (log_Bytes g9 6 b2 Gm _ (H9.out.below hS).other (by omega)).mono ?_)
        rintro e w12 ⟨a12, c12, rfl, hx12, hb12, -⟩
        have HX12 := hid hx12
        have hc12 := conv_sliceAt w12 a12 c12 _ hx12.2
        have hS' := hS.trans (hb12.mono hS.size)
        clear hx12 hb12 hS
        try go_wp2_with fail
        refine hK.out _ _ ?_ (fun hH12 => ?_)
        · (try dsimp only); (first | assumption | exact (Below.refl w9.heap.size w9).drew)
        clear hK K hH11
        try simp only [Act.put, List.setIfInBounds_toArray, List.set_cons_zero, List.set_cons_succ]
        refine wpAnyH_take (i := 11) (v := ?_) (by simp only [List.getElem?_toArray, List.getElem?_cons_zero, List.getElem?_cons_succ]; rfl) (by kernel_rfl) (by kernel_rfl) (by kernel_rfl) (fun _ _ _ h => h) (Or.inl ⟨by rfl, ?_⟩) (by assumption) ?_
        rotate_left
        · intro w hSw; (try dsimp only at hSw); go_simp; (try with_reducible rfl)
        try simp only [Act.put, List.setIfInBounds_toArray, List.set_cons_zero, List.set_cons_succ]
        refine wpAnyH_take (i := 14) (v := ?_) (by simp only [List.getElem?_toArray, List.getElem?_cons_zero, List.getElem?_cons_succ]; rfl) (by kernel_rfl) (by kernel_rfl) (by kernel_rfl) (fun _ _ _ h => h) (Or.inl ⟨by rfl, ?_⟩) (by assumption) ?_
        rotate_left
        · intro w hSw; (try dsimp only at hSw); go_simp; (try with_reducible rfl)
        try simp only [Act.put, List.setIfInBounds_toArray, List.set_cons_zero, List.set_cons_succ]
        refine wpAnyH_take (i := 15) (v := ?_) (by simp only [List.getElem?_toArray, List.getElem?_cons_zero, List.getElem?_cons_succ]; rfl) (by kernel_rfl) (by kernel_rfl) (by kernel_rfl) (fun _ _ _ h => h) (Or.inl ⟨by rfl, ?_⟩) (by assumption) ?_
        rotate_left
        · intro w hSw; (try dsimp only at hSw); go_simp; (try with_reducible rfl)
        try simp only [Act.put, List.setIfInBounds_toArray, List.set_cons_zero, List.set_cons_succ]
        refine wpAnyH_take (i := 16) (v := ?_) (by simp only [List.getElem?_toArray, List.getElem?_cons_zero, List.getElem?_cons_succ]; rfl) (by kernel_rfl) (by kernel_rfl) (by kernel_rfl) (fun _ _ _ h => h) (Or.inl ⟨by rfl, ?_⟩) (by assumption) ?_
        rotate_left
        · intro w hSw; (try dsimp only at hSw); go_simp; (try with_reducible rfl)
        try simp only [Act.put, List.setIfInBounds_toArray, List.set_cons_zero, List.set_cons_succ]
        refine wpAnyH_take (i := 17) (v := ?_) (by simp only [List.getElem?_toArray, List.getElem?_cons_zero, List.getElem?_cons_succ]; rfl) (by kernel_rfl) (by kernel_rfl) (by kernel_rfl) (fun _ _ _ h => h) (Or.inl ⟨by rfl, ?_⟩) (by assumption) ?_
        rotate_left
        · intro w hSw; (try dsimp only at hSw); go_simp; (try with_reducible rfl)
        try simp only [Act.put, List.setIfInBounds_toArray, List.set_cons_zero, List.set_cons_succ]
        refine wpAnyH_done (by kernel_rfl) ?_ _
        refine NoPanic.normal ?_
        rotate_left
        -- END 16
        all_goals
          have hS := ‹Below w9.heap.size w9 _›
          have H12 := hid (H9.out.below hS)
          go_wp2
          go_ret
          exact ⟨rfl, B2b.out.trans (H12.out.base.below.mono B2b.out.size)⟩
      · rw [if_neg hk] at hM
        rw [hM] at H8 HP
        generalize hGb : (⟨G.l ++ [q], G.torn⟩ : Lg) = Gm at *
        have hsub : IntKind.i64.wrap ((Gm.bytes.length : Int) - (G.bytes.length : Int)) = ((encL q).length : Int) := by rw [show (Gm.bytes.length : Int) - (G.bytes.length : Int) = ((encL q).length : Int) by omega]; exact IntWalk.i64_in _ ⟨by omega, by omega⟩
        generalize (encL q).length = en at *
        have hk' : keep < (en : Int) := by omega
        have hgl := HOK.out.2.1
        have hne : ((G.l.length : Int) == (G.l.length : Int) + 1) = false := by rw [beq_eq_false_iff_ne]; omega
        clear hM hGb htorn HN1 hk hbl
        go_wp2_with fail
        refine HP.out.mono ?_
        rintro e w9 ⟨rfl, g9, hC, hE⟩
        have H9 := hid (H8.out.evo1 hE hC)
        clear hC hE H8 HP
        go_wp2_with fail
        (with_reducible refine (log_Len g9 1 b G w9 H9.out.log).mono ?_)
        rintro e w9' ⟨rfl, rfl⟩
        go_wp2_with fail
        (with_reducible refine (log_Len g9 1 b G w9 H9.out.log).mono ?_)
        rintro e w9' ⟨rfl, rfl⟩
        go_wp2_with fail
        (with_reducible refine (log_Bytes g9 1 b G w9 H9.out.log (by omega)).mono ?_)
        rintro e w10 ⟨a10, c10, rfl, hx10, hb10, -⟩
        have hc10 := conv_sliceAt w10 a10 c10 _ hx10.2
        have H10 := hid (H9.out.below hb10)
        clear hx10 hb10 H9
        go_wp2_with fail
        (with_reducible refine (log_Bytes g9 6 b2 Gm w10 H10.out.other (by omega)).mono ?_)
        rintro e w11 ⟨a11, c11, rfl, hx11, hb11, -⟩
        have H11 := hid (H10.out.below hb11)
        clear hx11 hb11 H10
        go_wp2
        go_ret
        exact ⟨rfl, B2b.out.trans (H11.out.base.below.mono B2b.out.size)⟩

end Go.Proofs.Ytoiobhcgpajogab
