/- The walk of LogTable. -/
import Derived.Test.YtoiobhcgpajogabLaw05e
namespace Go.Proofs.Ytoiobhcgpajogab
open Go.RowKit

/-- How many commits some bytes hold whole. -/
def cutN : List (List Ent) → Nat → Nat
  | [], _ => 0
  | x :: L, k => if (encL x).length ≤ k then cutN L (k - (encL x).length) + 1 else 0

theorem cutN_le : ∀ (L : List (List Ent)) (k : Nat), cutN L k ≤ L.length
  | [], _ => Nat.le_refl _
  | x :: L, k => by
    unfold cutN
    split
    · have := cutN_le L (k - (encL x).length); simp; omega
    · simp

theorem cutN_size : ∀ (L : List (List Ent)) (k : Nat), (encAll (L.take (cutN L k))).length ≤ k
  | [], _ => by simp [cutN, encAll]
  | x :: L, k => by
    unfold cutN
    split
    · have := cutN_size L (k - (encL x).length)
      rw [List.take_succ_cons, encAll_cons, List.length_append]
      omega
    · simp [encAll]

theorem cutN_next : ∀ (L : List (List Ent)) (k : Nat) (h : cutN L k < L.length), k < (encAll (L.take (cutN L k))).length + (encL L[cutN L k]).length
  | [], _, h => by simp [cutN] at h
  | x :: L, k, h => by
    by_cases hx : (encL x).length ≤ k
    · have e : cutN (x :: L) k = cutN L (k - (encL x).length) + 1 := by rw [cutN, if_pos hx]
      have h' : cutN L (k - (encL x).length) < L.length := by rw [e] at h; simpa using h
      have ih := cutN_next L (k - (encL x).length) h'
      simp only [e, List.take_succ_cons, encAll_cons, List.length_append, List.getElem_cons_succ]
      omega
    · have e : cutN (x :: L) k = 0 := by rw [cutN, if_neg hx]
      simp only [e, List.take_zero, List.getElem_cons_zero, encAll, List.flatMap_nil, List.length_nil]
      omega

theorem cutN_take : ∀ (L : List (List Ent)) (k : Nat), (∀ w ∈ L, ckPs (-1) w = 0) → ∃ torn, (encAll L).take k = encAll (L.take (cutN L k)) ++ torn ∧ (decL torn).2.2 ≠ 0
  | [], k, _ => ⟨[], by simp [cutN, encAll], Lg.new_ok.2.2.2⟩
  | x :: L, k, h => by
    have hx := h x (List.mem_cons_self ..)
    unfold cutN
    split
    · rename_i hk
      obtain ⟨torn, h1, h2⟩ := cutN_take L (k - (encL x).length) (fun w hw => h w (List.mem_cons_of_mem _ hw))
      refine ⟨torn, ?_, h2⟩
      rw [List.take_succ_cons, encAll_cons, encAll_cons, List.take_append, List.take_of_length_le hk, h1, List.append_assoc]
    · rename_i hk
      refine ⟨(encL x).take k, ?_, ?_⟩
      · rw [encAll_cons, List.take_append_of_le_length (by omega)]; simp [encAll]
      · have hb := encL_bound hx
        rw [decL_cut x hx _ (by omega)]
        simp

theorem tabOf_cut {L : List (List Ent)} (h : ∀ w ∈ L, ckPs (-1) w = 0) (h40 : L.length ≤ 40) (k : Nat) : tabOf ((encAll L).take k) = (writeAll Tab.new (L.take (cutN L k)), (encAll (L.take (cutN L k))).length) := by
  obtain ⟨torn, h1, h2⟩ := cutN_take L k h
  rw [h1]
  exact tabOf_enc (fun w hw => h w (List.mem_of_mem_take hw)) (by rw [List.length_take]; omega) h2

theorem cut_last {L : List (List Ent)} (h : ∀ w ∈ L, ckPs (-1) w = 0) (h40 : L.length ≤ 40) (k : Nat) (hk : k ≤ L.length) : (writeAll Tab.new (L.take k)).last = k := by
  rw [writeAll_last (fun w hw => h w (List.mem_of_mem_take hw)) (by rw [List.length_take]; simp [Tab.new]; omega)]
  simp [Tab.new]; omega

theorem umod (x m : Int) (h : 1 ≤ m ∧ m ≤ 1000000) : ∃ k : Nat, wrap64 ((IntKind.u64.wrap x).tmod m) = (k : Int) ∧ (k : Int) < m := by
  rw [IntKind.wrap_u64]
  have h1 : 0 ≤ x % 18446744073709551616 := Int.emod_nonneg _ (by decide)
  generalize x % 18446744073709551616 = u at *
  have h2 : 0 ≤ u % m := Int.emod_nonneg _ (by omega)
  have h3 : u % m < m := Int.emod_lt_of_pos _ (by omega)
  rw [Int.tmod_eq_emod_of_nonneg h1]
  exact ⟨(u % m).toNat, by rw [IntWalk.wrap64_in _ ⟨by omega, by omega⟩]; omega, by omega⟩

set_option maxHeartbeats 8000000 in
set_option maxRecDepth 100000 in
theorem walk_LogTable (a : Option Addr) (cap : Nat) (l : List TStep) (cut : Int) (w : World) (hl : l.length ≤ 9223372036854775807) (hA : TStepsAt w a l) (hcut : (Lit.int .i64 cut).wf = true) :
    Calls Try.prog 13 #[.slice a l.length cap, .int .i64 cut] w (TruePost w) := by
  have HA := hid hA
  have HCUT := hid hcut
  clear hA hcut
  go_enter Try.func13, Try.ntmps13
  go_wp2_with fail
  (with_reducible refine (law_logBegun w).mono ?_)
  rintro e w1 ⟨rfl, hb⟩
  have B1 := hid hb
  clear hb
  go_wp2_with fail
  (with_reducible refine (law_greatLog a cap l w1 hl (HA.out.below B1.out)).mono ?_)
  rintro e w2 ⟨rfl, hb⟩
  have B2 := hid (B1.out.trans (hb.mono B1.out.size))
  clear hb
  cases hg : greatT l with
  | true =>
    clear hg
    go_wp2
    go_ret
    exact ⟨rfl, B2.out⟩
  | false =>
  obtain ⟨h80, h50⟩ := greatT_false hg
  have H50 := hid h50
  clear hg h50
  go_wp2_with fail
  (with_reducible refine (law_logs a cap l w2 h80 H50.out (HA.out.below B2.out)).mono ?_)
  rintro e w3 ⟨g, b, r, rfl, h3, hok, ht⟩
  have H3 := hid h3
  generalize runG l = G at *
  have hlen := hok.2.2.1
  have hn40 := hok.2.1
  have HOK := hid hok
  have HTN := hid ht
  clear h3 hok ht
  go_wp2_with fail
  (with_reducible refine (log_Bytes g 1 b G w3 H3.out.log (by omega)).mono ?_)
  rintro e w5 ⟨a5, c5, rfl, hx5, hb5, -⟩
  have HX5 := hid hx5
  have H5 := hid (H3.out.below hb5)
  have B5 := hid (B2.out.trans (H5.out.base.below.mono B2.out.size))
  have hc5 := hx5.1
  obtain ⟨k, hk, hkl⟩ := umod cut ((G.bytes.length : Int) + 1) ⟨by omega, by omega⟩
  have hk0 : (0 : Int) ≤ (k : Int) := by omega
  have hkc : (k : Int) ≤ (c5 : Int) := by omega
  have hby : G.bytes = encAll G.l := by simp [Lg.bytes, HTN.out]
  have HX6 := hid (show BytesIn w5 a5 c5 (G.bytes.take k) from ⟨by rw [List.length_take]; omega, by rw [Lib.byteCells, List.map_take]; exact hx5.2.take _⟩)
  have hlk : (G.bytes.take k).length = k := by rw [List.length_take]; omega
  have hT9 := hid (log_TableA a5 c5 (G.bytes.take k) w5 (by omega) HX6.out)
  rw [hlk, hby, tabOf_cut HOK.out.1 hn40 k] at hT9
  clear hx5 hb5 H3 hlk hby
  go_wp2_with fail
  (with_reducible refine hT9.out.mono ?_)
  rintro e w6 ⟨t, g6, rfl, hb, -, hT⟩
  have HT6 := hid hT
  have H6 := hid (H5.out.below hb)
  have B6 := hid (B5.out.trans (hb.mono B5.out.size))
  have hml := cutN_le G.l k
  have hms := hid (cutN_size G.l k)
  have hmn := hid (fun h => cutN_next G.l k h)
  have hlast := hid (cut_last HOK.out.1 hn40 (cutN G.l k) hml)
  generalize cutN G.l k = m at *
  have HQ6 := hid (fun n => table_LastQ g6 1 t (writeAll Tab.new (G.l.take m)) w6 n HT6.out)
  rw [hlast.out] at HQ6
  obtain ⟨vl6, -, -, la6, lc6, -, hvl6, f60, -, -, hrl6, fe6⟩ := H6.out.roll.facts
  subst hvl6
  have FE := hid fe6
  have F60 := hid f60
  have HRL := hid hrl6
  have hms' : ((encAll (G.l.take m)).length : Int) ≤ (k : Int) := by have := hms.out; omega
  have hmsN := hms.out
  have hml' : (m : Int) ≤ (G.l.length : Int) := by omega
  have HLE := hid (encAll_le G.l)
  have HBG := hid (show G.bytes.length = (encAll G.l).length by simp [Lg.bytes, HTN.out])
  clear hb hT hT9 HX6 H5 fe6 hrl6
  go_wp2_with fail
  go_quiet ((go_at_call 19; exact HQ6.out _))
  have B67 := hid (below_drewN w6 nq)
  have HT7 := hid (HT6.out.below B67.out)
  have B7 := hid (below_dNl B6.out nq)
  have hsz7 : (w6.drewN nq).heap.size = w6.heap.size := rfl
  have FE7 := hid (fun i (hi : i < G.l.length) => (show ∃ rr a c, la6 = some ⟨rr, 0, none⟩ ∧ G.l.length ≤ lc6 ∧ (w6.drewN nq).cell? ⟨rr, i, none⟩ = some (.slice a G.l[i].length c) ∧ SliceAt (w6.drewN nq) a (encEnts G.l[i]) by
    obtain ⟨rr, a, c, e1, e2, e3, e4⟩ := FE.out i hi
    exact ⟨rr, a, c, e1, e2, e3, sliceAt_below e4 (below_drewN _ _)⟩))
  have F70 := hid (show (w6.drewN nq).cell? ⟨r, 0, none⟩ = some (.slice la6 G.l.length lc6) from F60.out)
  have HRL7 := hid (show r < (w6.drewN nq).heap.size from HRL.out)
  generalize w6.drewN nq = w7 at *
  clear f60 HQ6 FE F60 HRL HT6 H6 B6 B67 hsz7
  go_wp2_with fail
  (with_reducible refine (sheet_New (fun _ => 0) 1 w7).mono ?_)
  rintro e w8 ⟨s, g8, rfl, hE8, -, hS8⟩
  have B8 := hid ((Base.start w7).step hE8 (by omega))
  have S8 := hid hS8
  clear hE8 hS8
  go_wp2_with fail
  go_loopw [13, 14] (fun z i wr => ∃ (j : Nat) (gs : Nat → Nat), j ≤ m ∧ i = .int .i64 j ∧ z = .int .i64 (encAll (G.l.take j)).length ∧ Hid (Base w7.heap.size w7 gs wr) ∧ Hid (SheetAt wr gs 1 s (writeAll Tab.new (G.l.take j)))) (fun _ i _ => m - (intOf i).toNat)
  case atStart => exact ⟨0, g8, Nat.zero_le _, rfl, by simp [encAll], B8, S8⟩
  case round =>
    obtain ⟨j, gs, hj, rfl, rfl, HB, HS⟩ := hrel
    clear B8 S8
    go_wp2_with fail
    (with_reducible refine (table_Last g6 1 t (writeAll Tab.new (G.l.take m)) _ (HT7.out.below HB.out.below)).mono ?_)
    rintro e w9 ⟨rfl, rfl⟩
    rw [hlast.out]
    by_cases hlt : j < m
    · have hlt' : (j : Int) < (m : Int) := by omega
      have hjG : j < G.l.length := by omega
      have hjG' : (j : Int) < (G.l.length : Int) := by omega
      have hj0 : (0 : Int) ≤ (j : Int) := by omega
      obtain ⟨rr, a1, c1, rfl, hlc, hcell, hs1⟩ := FE7.out j hjG
      have hrr : rr < w7.heap.size := World.block_lt_of_cell? w7 _ hcell
      have hck := HOK.out.1 G.l[j] (List.getElem_mem _)
      obtain ⟨hv1, hl1, -⟩ := ok_of hck
      have hen := encL_bound hck
      have hst := hid (encAll_take G.l j hjG)
      have hwst := hid (show writeAll Tab.new (G.l.take (j + 1)) = (writeT (writeAll Tab.new (G.l.take j)) G.l[j]).2 by rw [List.take_succ_eq_append_getElem hjG, writeAll_snoc])
      have hle3 : (encAll (G.l.take j)).length + (encL G.l[j]).length ≤ 3000 := by
        have h1 := HLE.out (j + 1)
        have h2 := HBG.out
        rw [hst.out, List.length_append] at h1
        omega
      have q0 := (HB.out.below.cell (p := ⟨r, 0, none⟩) HRL7.out).trans F70.out
      have q1 := (HB.out.below.cell (p := ⟨rr, j, none⟩) hrr).trans hcell
      have SC := hid (SliceC.of_base hs1 rfl HB.out (Nat.le_refl 1) : SliceC _ gs 1 (1 + 2) a1 (encEnts G.l[j]))
      have HS1 := hid hs1
      have HCE := hid hcell
      have HCK := hid hck
      have hl6 : G.l[j].length ≤ 1000000 := by omega
      have HV := hid (fun (y : Ent) (hy : y ∈ G.l[j]) => (show y.v.bytes.size ≤ maxLen by have := (hv1 y hy).2.2.1; unfold maxLen; omega))
      clear hs1 hcell hck hv1 hen
      generalize G.l[j] = x at *
      go_wp2_with fail
      (with_reducible refine (sheet_Write gs 1 s _ a1 c1 x _ hl6 HV.out HS.out SC.out).mono ?_)
      rintro e w10 ⟨rfl, g10, hS10, hE10⟩
      have B10 := hid (HB.out.step hE10 (by omega))
      have S10 := hid hS10
      have q2 := (B10.out.below.cell (p := ⟨r, 0, none⟩) HRL7.out).trans F70.out
      have q3 := (B10.out.below.cell (p := ⟨rr, j, none⟩) hrr).trans HCE.out
      have HBO := hid (ref_BytesOf a1 c1 x w10 HCK.out (sliceAt_below HS1.out B10.out.below))
      clear hS10 hE10 q0 q1 SC HS HB
      go_wp2_with fail
      (with_reducible refine HBO.out.mono ?_)
      rintro e w11 ⟨v2, n2, rfl, hown2, hb2⟩
      have hn2 : n2 = (encL x).length := by have := hown2.1; rw [byteCells_length] at this; omega
      subst hn2
      obtain ⟨a2, c2, rfl, -, -⟩ := ownsRow.sliceAt hown2
      have B11 := hid (B10.out.below' hb2)
      have S11 := hid (S10.out.below hb2)
      clear hown2 hb2 HBO B10 S10
      have hlen3 : (encAll (G.l.take (j + 1))).length = (encAll (G.l.take j)).length + (encL x).length := by rw [hst.out, List.length_append]
      have HL3 := hid hlen3
      clear hlen3
      generalize (encL x).length = xn at *
      generalize (encAll (G.l.take j)).length = jn at *
      go_wp2
      go_roundw
      case rel => exact ⟨j + 1, g10, by omega, by go_num, by rw [HL3.out]; go_num, B11, hid (by rw [hwst.out]; exact S11.out)⟩
      case measure => simp [intOf]; omega
    · have hge : (m : Int) ≤ (j : Int) := by omega
      obtain rfl : m = j := by omega
      have HLs := hid (fun W' (h : Below wr.heap.size wr W') => (by
        have := table_Last g6 1 t (writeAll Tab.new (G.l.take m)) W' (HT7.out.below (HB.out.below.trans (h.mono HB.out.size)))
        rw [hlast.out] at this
        exact this : Calls Try.prog 19 #[.pointer (some ⟨t, 0, none⟩)] W' fun e w' => e = .returned (.int .i64 m) ∧ W' = w'))
      have B9 := hid (B7.out.trans (HB.out.below.mono B7.out.size))
      by_cases hmG : m < G.l.length
      · have hmG' : (m : Int) < (G.l.length : Int) := by omega
        have hm0 : (0 : Int) ≤ (m : Int) := by omega
        obtain ⟨rr, a1, c1, rfl, hlc, hcell, hs1⟩ := FE7.out m hmG
        have hrr : rr < w7.heap.size := World.block_lt_of_cell? w7 _ hcell
        have HCK := hid (HOK.out.1 G.l[m] (List.getElem_mem _))
        have hnx := hmn.out hmG
        have hen := (encL_bound HCK.out).2
        have hs2 := sliceAt_below hs1 HB.out.below
        have KS := hid (fun W' (h : Below wr.heap.size wr W') => (⟨h, (h.cell (p := ⟨r, 0, none⟩) (Nat.lt_of_lt_of_le HRL7.out HB.out.size)).trans ((HB.out.below.cell (p := ⟨r, 0, none⟩) HRL7.out).trans F70.out),
          (h.cell (p := ⟨rr, m, none⟩) (Nat.lt_of_lt_of_le hrr HB.out.size)).trans ((HB.out.below.cell (p := ⟨rr, m, none⟩) hrr).trans hcell)⟩ : Below wr.heap.size wr W' ∧ W'.cell? ⟨r, 0, none⟩ = some (.slice (some ⟨rr, 0, none⟩) G.l.length lc6) ∧ W'.cell? ⟨rr, m, none⟩ = some (.slice a1 G.l[m].length c1)))
        have HBO := hid (fun W' (h : Below wr.heap.size wr W') => ref_BytesOf a1 c1 G.l[m] W' HCK.out (sliceAt_below hs2 h))
        clear hcell hs1 hs2 HCK hmn
        generalize G.l[m] = x at *
        generalize hsz : (encAll (G.l.take m)).length = sz at *
        have hnx' : (k : Int) < (sz : Int) + ((encL x).length : Int) := by omega
        have hszb : (sz : Int) ≤ 3000 := by omega
        generalize hxn : (encL x).length = xn at *
        have HXN := hid hxn
        clear hxn hsz
        have hwr : IntKind.i64.wrap ((sz : Int) + (xn : Int)) = (sz : Int) + (xn : Int) := IntWalk.i64_in _ ⟨by omega, by omega⟩
        go_wp2_with fail
        -- REGION 20
        refine wp_region_noPanic ?_
        refine wp_region_held_drew (S := (fun W' : World => Below wr.heap.size wr W' ∧ W'.cell? ⟨r, 0, none⟩ = some (.slice (some ⟨rr, 0, none⟩) G.l.length lc6) ∧ W'.cell? ⟨rr, m, none⟩ = some (.slice a1 x.length c1))) (by kernel_rfl) ?_ (fun hH0 => ?_)
        · (try dsimp only); (first | assumption | exact KS.out _ (Below.refl wr.heap.size wr).drew)
        refine wpAnyH_take (i := 0) (v := ?_) (by simp only [List.getElem?_toArray, List.getElem?_cons_zero]; rfl) (by kernel_rfl) (by kernel_rfl) (by kernel_rfl) (fun _ _ _ h => h) (Or.inl ⟨by rfl, ?_⟩) (by assumption) ?_
        rotate_left
        · intro w hSw; (try dsimp only at hSw); go_simp; (try with_reducible rfl)
        try simp only [Act.put, List.setIfInBounds_toArray, List.set_cons_zero, List.set_cons_succ]
        refine wpAnyH_take (i := 1) (v := ?_) (by simp only [List.getElem?_toArray, List.getElem?_cons_zero, List.getElem?_cons_succ]; rfl) (by kernel_rfl) (by kernel_rfl) (by kernel_rfl) (fun _ _ _ h => h) (Or.inl ⟨by rfl, ?_⟩) (by assumption) ?_
        rotate_left
        · intro w hSw; (try dsimp only at hSw); go_simp; (try with_reducible rfl)
        try simp only [Act.put, List.setIfInBounds_toArray, List.set_cons_zero, List.set_cons_succ]
        refine wpAnyH_take (i := 2) (v := ?_) (by simp only [List.getElem?_toArray, List.getElem?_cons_zero, List.getElem?_cons_succ]; rfl) (by kernel_rfl) (by kernel_rfl) (by kernel_rfl) (fun _ _ _ h => h) (Or.inl ⟨by rfl, ?_⟩) (by assumption) ?_
        rotate_left
        · intro w hSw; (try dsimp only at hSw); go_simp; (try with_reducible rfl)
        try simp only [Act.put, List.setIfInBounds_toArray, List.set_cons_zero, List.set_cons_succ]
        refine wpAnyH_take (i := 3) (v := ?_) (by simp only [List.getElem?_toArray, List.getElem?_cons_zero, List.getElem?_cons_succ]; rfl) (by kernel_rfl) (by kernel_rfl) (by kernel_rfl) (fun _ _ _ h => h) (Or.inl ⟨by rfl, ?_⟩) (by assumption) ?_
        rotate_left
        · intro w hSw; (try dsimp only at hSw); go_simp; (try with_reducible rfl)
        try simp only [Act.put, List.setIfInBounds_toArray, List.set_cons_zero, List.set_cons_succ]
        refine wpAnyH_take (i := 4) (v := ?_) (by simp only [List.getElem?_toArray, List.getElem?_cons_zero, List.getElem?_cons_succ]; rfl) (by kernel_rfl) (by kernel_rfl) (by kernel_rfl) (fun _ _ _ h => h) (Or.inl ⟨by rfl, ?_⟩) (by assumption) ?_
        rotate_left
        · intro w hSw; (try dsimp only at hSw); go_simp; (try with_reducible rfl)
        try simp only [Act.put, List.setIfInBounds_toArray, List.set_cons_zero, List.set_cons_succ]
        refine wpAnyH_take (i := 6) (v := ?_) (by simp only [List.getElem?_toArray, List.getElem?_cons_zero, List.getElem?_cons_succ]; rfl) (by kernel_rfl) (by kernel_rfl) (by kernel_rfl) (fun _ _ _ h => h) (Or.inl ⟨by rfl, ?_⟩) (by assumption) ?_
        rotate_left
        · intro w hSw; (try dsimp only at hSw); go_simp; (try with_reducible rfl)
        try simp only [Act.put, List.setIfInBounds_toArray, List.set_cons_zero, List.set_cons_succ]
        refine wpAnyH_take (i := 7) (v := ?_) (by simp only [List.getElem?_toArray, List.getElem?_cons_zero, List.getElem?_cons_succ]; rfl) (by kernel_rfl) (by kernel_rfl) (by kernel_rfl) (fun _ _ _ h => h) (Or.inl ⟨by rfl, ?_⟩) (by assumption) ?_
        rotate_left
        · intro w hSw; (try dsimp only at hSw); go_simp; (try with_reducible rfl)
        try simp only [Act.put, List.setIfInBounds_toArray, List.set_cons_zero, List.set_cons_succ]
        refine wpAnyH_take (i := 8) (v := ?_) (by simp only [List.getElem?_toArray, List.getElem?_cons_zero, List.getElem?_cons_succ]; rfl) (by kernel_rfl) (by kernel_rfl) (by kernel_rfl) (fun _ _ _ h => h) (Or.inl ⟨by rfl, ?_⟩) (by assumption) ?_
        rotate_left
        · intro w hSw; (try dsimp only at hSw); go_simp; (try with_reducible rfl)
        try simp only [Act.put, List.setIfInBounds_toArray, List.set_cons_zero, List.set_cons_succ]
        refine wpAnyH_take (i := 9) (v := ?_) (by simp only [List.getElem?_toArray, List.getElem?_cons_zero, List.getElem?_cons_succ]; rfl) (by kernel_rfl) (by kernel_rfl) (by kernel_rfl) (fun _ _ _ h => h) (Or.inl ⟨by rfl, ?_⟩) (by assumption) ?_
        rotate_left
        · intro w hSw; (try dsimp only at hSw); go_simp; (try with_reducible rfl)
        try simp only [Act.put, List.setIfInBounds_toArray, List.set_cons_zero, List.set_cons_succ]
        refine wpAnyH_take (i := 10) (v := ?_) (by simp only [List.getElem?_toArray, List.getElem?_cons_zero, List.getElem?_cons_succ]; rfl) (by kernel_rfl) (by kernel_rfl) (by kernel_rfl) (fun _ _ _ h => h) (Or.inl ⟨by rfl, ?_⟩) (by assumption) ?_
        rotate_left
        · intro w hSw; (try dsimp only at hSw); go_simp; (try with_reducible rfl)
        try simp only [Act.put, List.setIfInBounds_toArray, List.set_cons_zero, List.set_cons_succ]
        refine wpAnyH_ready (rs := [5]) (by kernel_rfl) (by simp) ?_
        refine AllReadyH.cons (by simp only [List.getElem?_toArray, List.getElem?_cons_zero, List.getElem?_cons_succ]; rfl) (fun K hK => ?_) AllReadyH.nil
        go_simp
        go_at_call 19
        have hS := (‹Below wr.heap.size wr _ ∧ _›).1
        (with_reducible refine (HLs.out _ hS).mono ?_)
        rintro e w' ⟨rfl, rfl⟩
        try go_wp2_with fail
        refine hK.out _ _ ?_ (fun hH1 => ?_)
        · (try dsimp only); (first | assumption | exact KS.out _ (Below.refl wr.heap.size wr).drew)
        clear hK K hH0
        try simp only [Act.put, List.setIfInBounds_toArray, List.set_cons_zero, List.set_cons_succ]
        refine wpAnyH_take (i := 11) (v := ?_) (by simp only [List.getElem?_toArray, List.getElem?_cons_zero, List.getElem?_cons_succ]; rfl) (by kernel_rfl) (by kernel_rfl) (by kernel_rfl) (fun _ _ _ h => h) (Or.inl ⟨by rfl, ?_⟩) (by assumption) ?_
        rotate_left
        · intro w hSw; (try dsimp only at hSw); go_simp; (try with_reducible rfl)
        try simp only [Act.put, List.setIfInBounds_toArray, List.set_cons_zero, List.set_cons_succ]
        refine wpAnyH_take (i := 12) (v := ?_) (by simp only [List.getElem?_toArray, List.getElem?_cons_zero, List.getElem?_cons_succ]; rfl) (by kernel_rfl) (by kernel_rfl) (by kernel_rfl) (fun _ _ _ h => h) (Or.inl ⟨by rfl, ?_⟩) (by assumption) ?_
        rotate_left
        · intro w hSw; (try dsimp only at hSw); go_simp; (try with_reducible rfl)
        try simp only [Act.put, List.setIfInBounds_toArray, List.set_cons_zero, List.set_cons_succ]
        refine wpAnyH_take (i := 13) (v := ?_) (by simp only [List.getElem?_toArray, List.getElem?_cons_zero, List.getElem?_cons_succ]; rfl) (by kernel_rfl) (by kernel_rfl) (by kernel_rfl) (fun _ _ _ h => h) (Or.inl ⟨by rfl, ?_⟩) (by assumption) ?_
        rotate_left
        · intro w hSw; (try dsimp only at hSw); go_simp; (try with_reducible rfl)
        try simp only [Act.put, List.setIfInBounds_toArray, List.set_cons_zero, List.set_cons_succ]
        refine wpAnyH_take (i := 14) (v := ?_) (by simp only [List.getElem?_toArray, List.getElem?_cons_zero, List.getElem?_cons_succ]; rfl) (by kernel_rfl) (by kernel_rfl) (by kernel_rfl) (fun _ _ _ h => h) (Or.inl ⟨by rfl, ?_⟩) (by assumption) ?_
        rotate_left
        · intro w hSw; (try dsimp only at hSw); go_simp; (try with_reducible rfl)
        try simp only [Act.put, List.setIfInBounds_toArray, List.set_cons_zero, List.set_cons_succ]
        refine wpAnyH_take (i := 15) (v := ?_) (by simp only [List.getElem?_toArray, List.getElem?_cons_zero, List.getElem?_cons_succ]; rfl) (by kernel_rfl) (by kernel_rfl) (by kernel_rfl) (fun _ _ _ h => h) (Or.inl ⟨by rfl, ?_⟩) (by assumption) ?_
        rotate_left
        · intro w hSw; (try dsimp only at hSw); go_simp; (try with_reducible rfl)
        try simp only [Act.put, List.setIfInBounds_toArray, List.set_cons_zero, List.set_cons_succ]
        refine wpAnyH_take (i := 16) (v := ?_) (by simp only [List.getElem?_toArray, List.getElem?_cons_zero, List.getElem?_cons_succ]; rfl) (by kernel_rfl) (by kernel_rfl) (by kernel_rfl) (fun _ _ _ h => h) (Or.inl ⟨by rfl, ?_⟩) (by assumption) ?_
        rotate_left
        · intro w hSw; (try dsimp only at hSw); go_simp; (try with_reducible rfl)
        try simp only [Act.put, List.setIfInBounds_toArray, List.set_cons_zero, List.set_cons_succ]
        refine wpAnyH_take (i := 17) (v := ?_) (by simp only [List.getElem?_toArray, List.getElem?_cons_zero, List.getElem?_cons_succ]; rfl) (by kernel_rfl) (by kernel_rfl) (by kernel_rfl) (fun _ _ _ h => h) (Or.inl ⟨by rfl, ?_⟩) (by assumption) ?_
        rotate_left
        · intro w hSw; (try dsimp only at hSw); go_simp; (try with_reducible rfl)
        try simp only [Act.put, List.setIfInBounds_toArray, List.set_cons_zero, List.set_cons_succ]
        refine wpAnyH_take (i := 18) (v := ?_) (by simp only [List.getElem?_toArray, List.getElem?_cons_zero, List.getElem?_cons_succ]; rfl) (by kernel_rfl) (by kernel_rfl) (by kernel_rfl) (fun _ _ _ h => h) (Or.inl ⟨by rfl, ?_⟩) (by assumption) ?_
        rotate_left
        · intro w hSw; (try dsimp only at hSw); go_simp; (try with_reducible rfl)
        try simp only [Act.put, List.setIfInBounds_toArray, List.set_cons_zero, List.set_cons_succ]
        refine wpAnyH_take (i := 25) (v := ?_) (by simp only [List.getElem?_toArray, List.getElem?_cons_zero, List.getElem?_cons_succ]; rfl) (by kernel_rfl) (by kernel_rfl) (by kernel_rfl) (fun _ _ _ h => h) (Or.inl ⟨by rfl, ?_⟩) (by assumption) ?_
        rotate_left
        · intro w hSw; (try dsimp only at hSw); go_simp; (try with_reducible rfl)
        try simp only [Act.put, List.setIfInBounds_toArray, List.set_cons_zero, List.set_cons_succ]
        refine wpAnyH_ready (rs := [19]) (by kernel_rfl) (by simp) ?_
        refine AllReadyH.cons (by simp only [List.getElem?_toArray, List.getElem?_cons_zero, List.getElem?_cons_succ]; rfl) (fun K hK => ?_) AllReadyH.nil
        go_simp
        go_at_call 19
        have hS := (‹Below wr.heap.size wr _ ∧ _›).1
        (with_reducible refine (HLs.out _ hS).mono ?_)
        rintro e w' ⟨rfl, rfl⟩
        try go_wp2_with fail
        refine hK.out _ _ ?_ (fun hH2 => ?_)
        · (try dsimp only); (first | assumption | exact KS.out _ (Below.refl wr.heap.size wr).drew)
        clear hK K hH1
        try simp only [Act.put, List.setIfInBounds_toArray, List.set_cons_zero, List.set_cons_succ]
        refine wpAnyH_take (i := 20) (v := ?_) (by simp only [List.getElem?_toArray, List.getElem?_cons_zero, List.getElem?_cons_succ]; rfl) (by kernel_rfl) (by kernel_rfl) (by kernel_rfl) (fun _ _ _ h => h) (Or.inl ⟨by rfl, ?_⟩) (by assumption) ?_
        rotate_left
        · intro w hSw; (try dsimp only at hSw); go_simp; (try with_reducible rfl)
        try simp only [Act.put, List.setIfInBounds_toArray, List.set_cons_zero, List.set_cons_succ]
        refine wpAnyH_take (i := 21) (v := ?_) (by simp only [List.getElem?_toArray, List.getElem?_cons_zero, List.getElem?_cons_succ]; rfl) (by kernel_rfl) (by kernel_rfl) (by kernel_rfl) (fun _ _ _ h => h) (Or.inl ⟨by rfl, ?_⟩) (by assumption) ?_
        rotate_left
        · intro w hSw; (try dsimp only at hSw); go_simp; (try with_reducible rfl)
        try simp only [Act.put, List.setIfInBounds_toArray, List.set_cons_zero, List.set_cons_succ]
        refine wpAnyH_ready (rs := [22]) (by kernel_rfl) (by simp) ?_
        refine AllReadyH.cons (by simp only [List.getElem?_toArray, List.getElem?_cons_zero, List.getElem?_cons_succ]; rfl) (fun K hK => ?_) AllReadyH.nil
        go_simp
        go_at_call 51
        have hS := (‹Below wr.heap.size wr _ ∧ _›).1
        (with_reducible refine (HBO.out _ hS).mono ?_)
        rintro e w12 ⟨v2, n2, rfl, hown2, hb2⟩
        have hn2 : n2 = xn := by have := hown2.1; rw [byteCells_length] at this; have h2 := HXN.out; omega
        subst hn2
        obtain ⟨a2, c2, rfl, -, -⟩ := ownsRow.sliceAt hown2
        have hS' := KS.out _ (hS.trans (hb2.mono hS.size))
        clear hown2 hb2 hS
        try go_wp2_with fail
        refine hK.out _ _ ?_ (fun hH3 => ?_)
        · (try dsimp only); (first | assumption | exact KS.out _ (Below.refl wr.heap.size wr).drew)
        clear hK K hH2
        try simp only [Act.put, List.setIfInBounds_toArray, List.set_cons_zero, List.set_cons_succ]
        refine wpAnyH_take (i := 23) (v := ?_) (by simp only [List.getElem?_toArray, List.getElem?_cons_zero, List.getElem?_cons_succ]; rfl) (by kernel_rfl) (by kernel_rfl) (by kernel_rfl) (fun _ _ _ h => h) (Or.inl ⟨by rfl, ?_⟩) (by assumption) ?_
        rotate_left
        · intro w hSw; (try dsimp only at hSw); go_simp; (try with_reducible rfl)
        try simp only [Act.put, List.setIfInBounds_toArray, List.set_cons_zero, List.set_cons_succ]
        refine wpAnyH_take (i := 24) (v := ?_) (by simp only [List.getElem?_toArray, List.getElem?_cons_zero, List.getElem?_cons_succ]; rfl) (by kernel_rfl) (by kernel_rfl) (by kernel_rfl) (fun _ _ _ h => h) (Or.inl ⟨by rfl, ?_⟩) (by assumption) ?_
        rotate_left
        · intro w hSw; (try dsimp only at hSw); go_simp; (try with_reducible rfl)
        try simp only [Act.put, List.setIfInBounds_toArray, List.set_cons_zero, List.set_cons_succ]
        refine wpAnyH_take (i := 26) (v := ?_) (by simp only [List.getElem?_toArray, List.getElem?_cons_zero, List.getElem?_cons_succ]; rfl) (by kernel_rfl) (by kernel_rfl) (by kernel_rfl) (fun _ _ _ h => h) (Or.inl ⟨by rfl, ?_⟩) (by assumption) ?_
        rotate_left
        · intro w hSw; (try dsimp only at hSw); go_simp; (try with_reducible rfl)
        try simp only [Act.put, List.setIfInBounds_toArray, List.set_cons_zero, List.set_cons_succ]
        refine wpAnyH_take (i := 27) (v := ?_) (by simp only [List.getElem?_toArray, List.getElem?_cons_zero, List.getElem?_cons_succ]; rfl) (by kernel_rfl) (by kernel_rfl) (by kernel_rfl) (fun _ _ _ h => h) (Or.inl ⟨by rfl, ?_⟩) (by assumption) ?_
        rotate_left
        · intro w hSw; (try dsimp only at hSw); go_simp; (try with_reducible rfl)
        try simp only [Act.put, List.setIfInBounds_toArray, List.set_cons_zero, List.set_cons_succ]
        refine wpAnyH_take (i := 28) (v := ?_) (by simp only [List.getElem?_toArray, List.getElem?_cons_zero, List.getElem?_cons_succ]; rfl) (by kernel_rfl) (by kernel_rfl) (by kernel_rfl) (fun _ _ _ h => h) (Or.inl ⟨by rfl, ?_⟩) (by assumption) ?_
        rotate_left
        · intro w hSw; (try dsimp only at hSw); go_simp; (try with_reducible rfl)
        try simp only [Act.put, List.setIfInBounds_toArray, List.set_cons_zero, List.set_cons_succ]
        refine wpAnyH_done (by kernel_rfl) ?_ _
        refine NoPanic.normal ?_
        rotate_left
        -- END 20
        all_goals
          have hS := (‹Below wr.heap.size wr _ ∧ _›).1
          have B12 := hid (B9.out.trans (hS.mono B9.out.size))
          have HT12 := hid (HT7.out.below (HB.out.below.trans (hS.mono HB.out.size)))
          have HS12 := hid (HS.out.below hS)
          clear HBO KS HLs hS
          generalize hT0 : writeAll Tab.new (G.l.take m) = T at *
          clear hT0
          go_wp2_with fail
          go_loopw [15] (fun i wr => ∃ at_ : Nat, at_ ≤ m + 1 ∧ i = .int .i64 at_ ∧ Hid (Below w12.heap.size w12 wr)) (fun i _ => m + 1 - (intOf i).toNat)
          case atStart => exact ⟨0, by omega, rfl, hid (Below.refl _ _)⟩
          case round =>
            obtain ⟨at_, hat, rfl, HB⟩ := hrel
            go_wp2_with fail
            (with_reducible refine (table_Last g6 1 t T _ (HT12.out.below HB.out)).mono ?_)
            rintro e w13 ⟨rfl, rfl⟩
            rw [hlast.out]
            by_cases hle : at_ ≤ m
            · have hle' : (at_ : Int) ≤ (m : Int) := by omega
              go_wp2_with fail
              go_loopw [16] (fun i wr => ∃ key : Nat, key ≤ 8 ∧ i = .int .i64 key ∧ Hid (Below w12.heap.size w12 wr)) (fun i _ => 8 - (intOf i).toNat)
              case atStart => exact ⟨0, by omega, rfl, HB⟩
              case round =>
                obtain ⟨key, hkey, rfl, HB2⟩ := hrel
                by_cases h8 : key < 8
                · have h8' : (key : Int) < 8 := by omega
                  have HS2 := hid (fun w' (h : Below w12.heap.size w12 w') => sheet_Read gs 1 s T w' key at_ (HS12.out.below h))
                  go_wp2_with fail
                  (with_reducible refine (table_Read g6 1 t T _ key at_ (HT12.out.below HB2.out)).mono ?_)
                  rintro e w14 ⟨rfl, hb⟩
                  have HB3 := hid (HB2.out.trans (hb.mono HB2.out.size))
                  generalize readT T key at_ = y at *
                  clear hb
                  go_wp2_with fail
                  have M5 := hid (Loc.new w14 32 [.bool y.1.there, .string y.1.bytes])
                  have HB4 := hid (HB3.out.alloc HB3.out.size (.cells #[.bool y.1.there, .string y.1.bytes] 32))
                  generalize w14.alloc (.cells #[.bool y.1.there, .string y.1.bytes] 32) = w15 at *
                  generalize w14.heap.size = m14 at *
                  (with_reducible refine (HS2.out w15 HB4.out).mono ?_)
                  rintro e w16 ⟨rfl, hb⟩
                  have HB5 := hid (HB4.out.trans (hb.mono HB4.out.size))
                  have M6 := hid (M5.out.keep hb)
                  clear hb HS2 M5
                  have hlt16 := M6.out.lt
                  obtain ⟨l1, l2, -⟩ := M6.out.two
                  have hne : m14 ≠ w16.heap.size := by omega
                  go_wp2
                  go_roundw
                  case rel => exact ⟨key + 1, by omega, by go_num, hid (HB5.out.alloc HB5.out.size _)⟩
                  case measure => simp [intOf]; omega
                · have h8' : (8 : Int) ≤ (key : Int) := by omega
                  go_wp2
                  go_roundw
                  case rel => exact ⟨at_ + 1, by omega, by go_num, HB2⟩
                  case measure => simp [intOf]; omega
            · have hle' : (m : Int) < (at_ : Int) := by omega
              go_wp2
              go_ret
              exact ⟨rfl, B12.out.trans (HB.out.mono B12.out.size)⟩
      · have hmG' : (G.l.length : Int) ≤ (m : Int) := by omega
        have hmGn : G.l.length ≤ m := by omega
        have q0 := (HB.out.below.cell (p := ⟨r, 0, none⟩) HRL7.out).trans F70.out
        have HQ := hid (fun n => (HLs.out _ (below_drewN wr n)).mono (R' := fun e w' => e = .returned (.int .i64 m) ∧ ∃ q, w' = wr.drewN q) (fun _ _ h => ⟨h.1, n, h.2.symm⟩))
        clear hmn HLs
        go_wp2_with fail
        go_quiet ((go_at_call 19; exact HQ.out _))
        have B12 := hid (below_dNl B9.out nq)
        have HT12 := hid (HT7.out.below (below_dNl HB.out.below nq))
        have HS12 := hid (HS.out.below (below_drewN wr nq))
        generalize wr.drewN nq = w12 at *
        generalize hT0 : writeAll Tab.new (G.l.take m) = T at *
        clear hT0
        go_wp2_with fail
        go_loopw [15] (fun i wr => ∃ at_ : Nat, at_ ≤ m + 1 ∧ i = .int .i64 at_ ∧ Hid (Below w12.heap.size w12 wr)) (fun i _ => m + 1 - (intOf i).toNat)
        case atStart => exact ⟨0, by omega, rfl, hid (Below.refl _ _)⟩
        case round =>
          obtain ⟨at_, hat, rfl, HB⟩ := hrel
          go_wp2_with fail
          (with_reducible refine (table_Last g6 1 t T _ (HT12.out.below HB.out)).mono ?_)
          rintro e w13 ⟨rfl, rfl⟩
          rw [hlast.out]
          by_cases hle : at_ ≤ m
          · have hle' : (at_ : Int) ≤ (m : Int) := by omega
            go_wp2_with fail
            go_loopw [16] (fun i wr => ∃ key : Nat, key ≤ 8 ∧ i = .int .i64 key ∧ Hid (Below w12.heap.size w12 wr)) (fun i _ => 8 - (intOf i).toNat)
            case atStart => exact ⟨0, by omega, rfl, HB⟩
            case round =>
              obtain ⟨key, hkey, rfl, HB2⟩ := hrel
              by_cases h8 : key < 8
              · have h8' : (key : Int) < 8 := by omega
                have HS2 := hid (fun w' (h : Below w12.heap.size w12 w') => sheet_Read gs 1 s T w' key at_ (HS12.out.below h))
                go_wp2_with fail
                (with_reducible refine (table_Read g6 1 t T _ key at_ (HT12.out.below HB2.out)).mono ?_)
                rintro e w14 ⟨rfl, hb⟩
                have HB3 := hid (HB2.out.trans (hb.mono HB2.out.size))
                generalize readT T key at_ = y at *
                clear hb
                go_wp2_with fail
                have M5 := hid (Loc.new w14 32 [.bool y.1.there, .string y.1.bytes])
                have HB4 := hid (HB3.out.alloc HB3.out.size (.cells #[.bool y.1.there, .string y.1.bytes] 32))
                generalize w14.alloc (.cells #[.bool y.1.there, .string y.1.bytes] 32) = w15 at *
                generalize w14.heap.size = m14 at *
                (with_reducible refine (HS2.out w15 HB4.out).mono ?_)
                rintro e w16 ⟨rfl, hb⟩
                have HB5 := hid (HB4.out.trans (hb.mono HB4.out.size))
                have M6 := hid (M5.out.keep hb)
                clear hb HS2 M5
                have hlt16 := M6.out.lt
                obtain ⟨l1, l2, -⟩ := M6.out.two
                have hne : m14 ≠ w16.heap.size := by omega
                go_wp2
                go_roundw
                case rel => exact ⟨key + 1, by omega, by go_num, hid (HB5.out.alloc HB5.out.size _)⟩
                case measure => simp [intOf]; omega
              · have h8' : (8 : Int) ≤ (key : Int) := by omega
                go_wp2
                go_roundw
                case rel => exact ⟨at_ + 1, by omega, by go_num, HB2⟩
                case measure => simp [intOf]; omega
          · have hle' : (m : Int) < (at_ : Int) := by omega
            go_wp2
            go_ret
            exact ⟨rfl, B12.out.trans (HB.out.mono B12.out.size)⟩

end Go.Proofs.Ytoiobhcgpajogab
