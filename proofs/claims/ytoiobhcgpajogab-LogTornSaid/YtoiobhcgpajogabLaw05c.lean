/- The walk of LogRefuses. -/
import Derived.Test.YtoiobhcgpajogabLaw05a
import Derived.Test.YtoiobhcgpajogabLaw05b
namespace Go.Proofs.Ytoiobhcgpajogab
open Go.RowKit

theorem put_good {G : Lg} {w : List Ent} (h : (putG G w).1 = 0) : ckPs (-1) w = 0 ∧ G.l.length < 40 ∧ (putG G w).2 = ⟨G.l ++ [w], G.torn⟩ := by
  unfold putG at h ⊢
  split at h
  · rename_i h1; exact absurd h h1
  · rename_i h1
    split at h
    · simp at h
    · rename_i h2; rw [if_neg h1, if_neg h2]; exact ⟨by simpa using h1, by omega, rfl⟩

theorem put_bad {G : Lg} {w : List Ent} (h : (putG G w).1 ≠ 0) : (putG G w).2 = G := by
  unfold putG at h ⊢
  split
  · rfl
  · rename_i h1
    split
    · rfl
    · rename_i h2; rw [if_neg h1, if_neg h2] at h; exact absurd rfl h

theorem more_bytes {G : Lg} {w : List Ent} (ht : G.torn = []) : Lg.bytes ⟨G.l ++ [w], G.torn⟩ = G.bytes ++ encL w := by simp [Lg.bytes, ht, encAll_snoc]

set_option maxHeartbeats 8000000 in
set_option maxRecDepth 100000 in
theorem walk_LogRefuses (a : Option Addr) (cap : Nat) (l : List TStep) (a2 : Option Addr) (cap2 : Nat) (q : List Ent) (keep : Int) (w : World) (hl : l.length ≤ 9223372036854775807) (hA : TStepsAt w a l) (hl2 : q.length ≤ 9223372036854775807) (hA2 : PairsAt w a2 q) (_ : (Lit.int .i64 keep).wf = true) :
    Calls Try.prog 8 #[.slice a l.length cap, .slice a2 q.length cap2, .int .i64 keep] w (TruePost w) := by
  have HA := hid hA
  have HA2 := hid hA2
  clear hA hA2
  go_enter Try.func8, Try.ntmps8
  go_wp2_with fail
  (with_reducible refine (law_logBegun w).mono ?_)
  rintro e w1 ⟨rfl, hb⟩
  have B1 := hid hb
  clear hb
  go_wp2_with fail
  (with_reducible refine (law_greatLog a cap l w1 hl (HA.out.below B1.out)).mono ?_)
  rintro e w2 ⟨rfl, hb⟩
  have B2 := hid (B1.out.trans (hb.mono B1.out.size))
  clear hb
  cases hg : greatT l with
  | true =>
    clear hg
    go_wp2
    go_ret
    exact ⟨rfl, B2.out⟩
  | false =>
  obtain ⟨h80, h50⟩ := greatT_false hg
  have H50 := hid h50
  clear hg h50
  go_wp2_with fail
  (with_reducible refine (law_greatPairs a2 cap2 q w2 hl2 (HA2.out.below B2.out).sl).mono ?_)
  rintro e w2b ⟨rfl, hb⟩
  have B2b := hid (B2.out.trans (hb.mono B2.out.size))
  clear hb B2
  cases hg : greatP q with
  | true =>
    clear hg
    go_wp2
    go_ret
    exact ⟨rfl, B2b.out⟩
  | false =>
  obtain ⟨hq50, -⟩ := greatP_false hg
  have hq6 : q.length ≤ 1000000 := by omega
  have QA := hid (HA2.out.below B2b.out)
  clear hg
  go_wp2_with fail
  (with_reducible refine (law_logs a cap l w2b h80 H50.out (HA.out.below B2b.out)).mono ?_)
  rintro e w3 ⟨g, b, r, rfl, h3, hok, ht⟩
  have H3 := hid h3
  generalize runG l = G at *
  have hlen := hok.2.2.1
  have hn40 := hok.2.1
  have HOK := hid hok
  have HTN := hid ht
  clear h3 hok ht
  go_wp2_with fail
  -- REGION 8
  refine wp_region_noPanic ?_
  refine wp_region_held_drew (S := (fun W' : World => Below w3.heap.size w3 W')) (by kernel_rfl) ?_ (fun hH0 => ?_)
  · (try dsimp only); (first | assumption | exact (Below.refl w3.heap.size w3).drew)
  refine wpAnyH_take (i := 0) (v := ?_) (by simp only [List.getElem?_toArray, List.getElem?_cons_zero]; rfl) (by kernel_rfl) (by kernel_rfl) (by kernel_rfl) (fun _ _ _ h => h) (Or.inl ⟨by rfl, ?_⟩) (by assumption) ?_
  rotate_left
  · intro w hSw; (try dsimp only at hSw); go_simp; (try with_reducible rfl)
  try simp only [Act.put, List.setIfInBounds_toArray, List.set_cons_zero, List.set_cons_succ]
  refine wpAnyH_take (i := 3) (v := ?_) (by simp only [List.getElem?_toArray, List.getElem?_cons_zero, List.getElem?_cons_succ]; rfl) (by kernel_rfl) (by kernel_rfl) (by kernel_rfl) (fun _ _ _ h => h) (Or.inl ⟨by rfl, ?_⟩) (by assumption) ?_
  rotate_left
  · intro w hSw; (try dsimp only at hSw); go_simp; (try with_reducible rfl)
  try simp only [Act.put, List.setIfInBounds_toArray, List.set_cons_zero, List.set_cons_succ]
  refine wpAnyH_ready (rs := [1]) (by kernel_rfl) (by simp) ?_
  refine AllReadyH.cons (by simp only [List.getElem?_toArray, List.getElem?_cons_zero, List.getElem?_cons_succ]; rfl) (fun K hK => ?_) AllReadyH.nil
  go_simp
  go_at_call 30
  have hS := ‹Below w3.heap.size w3 _›
  (with_reducible refine (log_Bytes g 1 b G _ (H3.out.below hS).log (by omega)).mono ?_)
  rintro e w5 ⟨a5, c5, rfl, hx5, hb5, -⟩
  have hc5 := conv_sliceAt w5 a5 c5 _ hx5.2
  have hS' := hS.trans (hb5.mono hS.size)
  clear hx5 hb5 hS
  try go_wp2_with fail
  refine hK.out _ _ ?_ (fun hH1 => ?_)
  · (try dsimp only); (first | assumption | exact (Below.refl w3.heap.size w3).drew)
  clear hK K hH0
  try simp only [Act.put, List.setIfInBounds_toArray, List.set_cons_zero, List.set_cons_succ]
  refine wpAnyH_ready (rs := [2, 4]) (by kernel_rfl) (by simp) ?_
  refine AllReadyH.cons (by simp only [List.getElem?_toArray, List.getElem?_cons_zero, List.getElem?_cons_succ]; rfl) (fun K hK => ?_) ?_
  go_simp
  refine hK.out _ _ ?_ (fun hH2 => ?_)
  · (try dsimp only); (first | assumption | exact (Below.refl w3.heap.size w3).drew)
  clear hK K hH1
  try simp only [Act.put, List.setIfInBounds_toArray, List.set_cons_zero, List.set_cons_succ]
  refine wpAnyH_ready (rs := [4]) (by kernel_rfl) (by simp) ?_
  refine AllReadyH.cons (by simp only [List.getElem?_toArray, List.getElem?_cons_zero, List.getElem?_cons_succ]; rfl) (fun K hK => ?_) AllReadyH.nil
  go_simp
  go_at_call 31
  have hS := ‹Below w3.heap.size w3 _›
  (with_reducible refine (log_Len g 1 b G _ (H3.out.below hS).log).mono ?_)
  rintro e w' ⟨rfl, rfl⟩
  try go_wp2_with fail
  refine hK.out _ _ ?_ (fun hH3 => ?_)
  · (try dsimp only); (first | assumption | exact (Below.refl w3.heap.size w3).drew)
  clear hK K hH2
  try simp only [Act.put, List.setIfInBounds_toArray, List.set_cons_zero, List.set_cons_succ]
  refine wpAnyH_take (i := 5) (v := ?_) (by simp only [List.getElem?_toArray, List.getElem?_cons_zero, List.getElem?_cons_succ]; rfl) (by kernel_rfl) (by kernel_rfl) (by kernel_rfl) (fun _ _ _ h => h) (Or.inl ⟨by rfl, ?_⟩) (by assumption) ?_
  rotate_left
  · intro w hSw; (try dsimp only at hSw); go_simp; (try with_reducible rfl)
  try simp only [Act.put, List.setIfInBounds_toArray, List.set_cons_zero, List.set_cons_succ]
  refine wpAnyH_take (i := 6) (v := ?_) (by simp only [List.getElem?_toArray, List.getElem?_cons_zero, List.getElem?_cons_succ]; rfl) (by kernel_rfl) (by kernel_rfl) (by kernel_rfl) (fun _ _ _ h => h) (Or.inl ⟨by rfl, ?_⟩) (by assumption) ?_
  rotate_left
  · intro w hSw; (try dsimp only at hSw); go_simp; (try with_reducible rfl)
  try simp only [Act.put, List.setIfInBounds_toArray, List.set_cons_zero, List.set_cons_succ]
  refine wpAnyH_done (by kernel_rfl) ?_ _
  refine NoPanic.normal ?_
  rotate_left
  refine AllReadyH.cons (by simp only [List.getElem?_toArray, List.getElem?_cons_zero, List.getElem?_cons_succ]; rfl) (fun K hK => ?_) AllReadyH.nil
  go_simp
  go_at_call 31
  have hS := ‹Below w3.heap.size w3 _›
  (with_reducible refine (log_Len g 1 b G _ (H3.out.below hS).log).mono ?_)
  rintro e w' ⟨rfl, rfl⟩
  try go_wp2_with fail
  refine hK.out _ _ ?_ (fun hH4 => ?_)
  · (try dsimp only); (first | assumption | exact (Below.refl w3.heap.size w3).drew)
  clear hK K hH1
  try simp only [Act.put, List.setIfInBounds_toArray, List.set_cons_zero, List.set_cons_succ]
  refine wpAnyH_ready (rs := [2]) (by kernel_rfl) (by simp) ?_
  refine AllReadyH.cons (by simp only [List.getElem?_toArray, List.getElem?_cons_zero, List.getElem?_cons_succ]; rfl) (fun K hK => ?_) AllReadyH.nil
  go_simp
  refine hK.out _ _ ?_ (fun hH5 => ?_)
  · (try dsimp only); (first | assumption | exact (Below.refl w3.heap.size w3).drew)
  clear hK K hH4
  try simp only [Act.put, List.setIfInBounds_toArray, List.set_cons_zero, List.set_cons_succ]
  refine wpAnyH_take (i := 5) (v := ?_) (by simp only [List.getElem?_toArray, List.getElem?_cons_zero, List.getElem?_cons_succ]; rfl) (by kernel_rfl) (by kernel_rfl) (by kernel_rfl) (fun _ _ _ h => h) (Or.inl ⟨by rfl, ?_⟩) (by assumption) ?_
  rotate_left
  · intro w hSw; (try dsimp only at hSw); go_simp; (try with_reducible rfl)
  try simp only [Act.put, List.setIfInBounds_toArray, List.set_cons_zero, List.set_cons_succ]
  refine wpAnyH_take (i := 6) (v := ?_) (by simp only [List.getElem?_toArray, List.getElem?_cons_zero, List.getElem?_cons_succ]; rfl) (by kernel_rfl) (by kernel_rfl) (by kernel_rfl) (fun _ _ _ h => h) (Or.inl ⟨by rfl, ?_⟩) (by assumption) ?_
  rotate_left
  · intro w hSw; (try dsimp only at hSw); go_simp; (try with_reducible rfl)
  try simp only [Act.put, List.setIfInBounds_toArray, List.set_cons_zero, List.set_cons_succ]
  refine wpAnyH_done (by kernel_rfl) ?_ _
  refine NoPanic.normal ?_
  rotate_left
  -- END 8
  all_goals
    have hS := ‹Below w3.heap.size w3 _›
    have H5 := hid (H3.out.below hS)
    clear H3 hc5
    go_wp2_with fail
    (with_reducible refine (log_Put g 1 b G a2 cap2 q w5 hq6 QA.out.sz HOK.out HTN.out H5.out.log (H5.out.sl QA.out.sl)).mono ?_)
    rintro e w6 ⟨rfl, g6, hC, hE⟩
    have H6 := hid (H5.out.evoL hE hC)
    clear hC hE H5
    by_cases hc : (putG G q).1 = 0
    case neg =>
      have hpb := put_bad hc
      have htb : tearG G q keep = ((putG G q).1, G) := by unfold tearG; rw [if_pos hc]
      have hc0 : ((putG G q).1 == 0) = false := by simpa using hc
      rw [hpb] at H6
      have HTB := hid htb
      clear hc hpb htb
      have HTear := hid (log_Tear g6 1 b G a2 cap2 q keep w6 hq6 QA.out.sz HOK.out HTN.out H6.out.log (H6.out.sl QA.out.sl))
      rw [HTB.out] at HTear
      generalize (putG G q).1 = code at *
      go_wp2_with fail
      (with_reducible refine HTear.out.mono ?_)
      rintro e w7 ⟨rfl, g7, hC, hE⟩
      have H7 := hid (H6.out.evoL hE hC)
      clear hC hE H6 HTear
      go_wp2_with fail
      (with_reducible refine (log_Len g7 1 b G _ H7.out.log).mono ?_)
      rintro e w7' ⟨rfl, rfl⟩
      go_wp2_with fail
      (with_reducible refine (log_Bytes g7 1 b G _ H7.out.log (by omega)).mono ?_)
      rintro e w8 ⟨a8, c8, rfl, hx8, hb8, -⟩
      have hc8 := conv_sliceAt w8 a8 c8 _ hx8.2
      have H8 := hid (H7.out.below hb8)
      clear hx8 hb8 H7
      go_wp2_with fail
      have P := log_Mend g7 1 b G w8 HOK.out H8.out.log
      rw [HTN.out] at P
      refine P.mono ?_
      clear P
      rintro e w9 ⟨rfl, g9, hC, hE⟩
      have H9 := hid (H8.out.evoL hE hC)
      clear hC hE
      go_wp2
      go_ret
      exact ⟨rfl, B2b.out.trans (H9.out.base.below.mono B2b.out.size)⟩
    case pos =>
      obtain ⟨p1, p2, p3⟩ := put_good hc
      have hG1 := (putG_ok HOK.out HTN.out q).1
      rw [p3] at H6 hG1
      rw [hc]
      have hby := more_bytes (w := q) HTN.out
      have hen := (encL_bound p1).1
      have hn1 : ((G.l ++ [q]).length : Int) = (G.l.length : Int) + 1 := by simp
      have hl1 := hG1.2.2.1
      have hbl : (Lg.bytes ⟨G.l ++ [q], G.torn⟩).length = G.bytes.length + (encL q).length := by rw [hby, List.length_append]
      have hgt : (G.bytes.length : Int) < ((Lg.bytes ⟨G.l ++ [q], G.torn⟩).length : Int) := by omega
      have htake : (Lg.bytes ⟨G.l ++ [q], G.torn⟩).take G.bytes.length = G.bytes := by rw [hby]; simp
      have HN1 := hid hn1
      have HTK := hid htake
      have h40 : (G.l.length : Int) < 40 := by omega
      clear hc p1 p2 p3 hby hen hn1 hbl htake
      go_wp2_with fail
      (with_reducible refine (log_Len g6 1 b _ w6 H6.out.log).mono ?_)
      rintro e w6' ⟨rfl, rfl⟩
      rw [HN1.out]
      generalize hG1b : Lg.bytes ⟨G.l ++ [q], G.torn⟩ = gb1 at *
      go_wp2_with fail
      (with_reducible refine (log_Bytes g6 1 b ⟨G.l ++ [q], G.torn⟩ w6 H6.out.log (by rw [hG1b]; omega)).mono ?_)
      rintro e w7 ⟨a7, c7, rfl, hx7, hb7, -⟩
      rw [hG1b] at hx7 ⊢
      have H7 := hid (H6.out.below hb7)
      clear hx7 hb7 H6
      go_wp2_with fail
      (with_reducible refine (log_Bytes g6 1 b ⟨G.l ++ [q], G.torn⟩ w7 H7.out.log (by rw [hG1b]; omega)).mono ?_)
      rintro e w8 ⟨a8, c8, rfl, hx8, hb8, -⟩
      rw [hG1b] at hx8 ⊢
      have B8 := hid ((H7.out.below hb8).base.below)
      have hcap8 := hx8.1
      have hbs : SliceAt w8 a8 (Lib.byteCells (gb1.take G.bytes.length)) := by rw [Lib.byteCells, List.map_take]; exact hx8.2.take _
      have hc8 : (convert 60 9 (.slice a8 G.bytes.length c8)).run Try.prog w8 = .ok (.string ⟨G.bytes.toArray⟩) w8 := by
        have := conv_sliceAt w8 a8 c8 _ hbs
        rw [HTK.out] at this
        exact this
      have k1 : (G.bytes.length : Int) ≤ (gb1.length : Int) := by omega
      have k2 : (G.bytes.length : Int) ≤ (c8 : Int) := by omega
      have k0 : (0 : Int) ≤ (G.bytes.length : Int) := by omega
      clear hx8 hb8 hbs H7
      generalize gb1.length = gn at *
      generalize hgl : G.bytes.length = gl at *
      generalize G.bytes = gb at *
      go_wp2
      go_ret
      exact ⟨rfl, B2b.out.trans (B8.out.mono B2b.out.size)⟩

end Go.Proofs.Ytoiobhcgpajogab
