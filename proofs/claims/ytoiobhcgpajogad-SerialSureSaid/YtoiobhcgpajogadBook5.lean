/- A book: the walk of List. -/
import Derived.Test.YtoiobhcgpajogadBook4
namespace Go.Proofs.Ytoiobhcgpajogad
open Go.RowKit

def ActsF (w : World) (a : Option Addr) (l : List Acx) : Prop := SliceAt w a (encActs l) ∧ ∀ z ∈ l, SliceAt w z.ad (encEnts z.a.l)
def DonesF (w : World) (a : Option Addr) (l : List Dnx) : Prop := SliceAt w a (encDones l) ∧ ∀ y ∈ l, ActsF w y.ad y.acts

theorem ActsF.below {w w' : World} {a : Option Addr} {l : List Acx} (h : ActsF w a l) (k : Below w.heap.size w w') : ActsF w' a l := ⟨sliceAt_below h.1 k, fun z hz => sliceAt_below (h.2 z hz) k⟩
theorem DonesF.below {w w' : World} {a : Option Addr} {l : List Dnx} (h : DonesF w a l) (k : Below w.heap.size w w') : DonesF w' a l := ⟨sliceAt_below h.1 k, fun y hy => (h.2 y hy).below k⟩

theorem ActsF.facts {w : World} {a : Option Addr} {l : List Acx} (h : ActsF w a l) (h0 : 0 < l.length) :
    ∃ b off, a = some ⟨b, off, none⟩ ∧ b < w.heap.size ∧ ∀ i (hi : i < l.length), w.cell? ⟨b, off + i * 6, none⟩ = some (.int .i64 l[i].a.kind) ∧ w.cell? ⟨b, off + i * 6 + 1, none⟩ = some (.int .i64 l[i].a.key) ∧ w.cell? ⟨b, off + i * 6 + 2, none⟩ = some (.int .i64 l[i].a.to_) ∧
      w.cell? ⟨b, off + i * 6 + 3, none⟩ = some (.bool l[i].a.v.there) ∧ w.cell? ⟨b, off + i * 6 + 4, none⟩ = some (.string l[i].a.v.bytes) ∧ w.cell? ⟨b, off + i * 6 + 5, none⟩ = some (.slice l[i].ad l[i].a.l.length l[i].cap) ∧ SliceAt w l[i].ad (encEnts l[i].a.l) := by
  obtain ⟨b, off, rfl, hb, hc⟩ := SliceAt.six (en := encAcx) (st := 6) (fun _ => rfl) (by omega) h.1 h0
  refine ⟨b, off, rfl, hb, fun i hi => ⟨hc i hi 0 (by omega), hc i hi 1 (by omega), hc i hi 2 (by omega), hc i hi 3 (by omega), hc i hi 4 (by omega), hc i hi 5 (by omega), h.2 _ (List.getElem_mem _)⟩⟩

theorem DonesF.facts {w : World} {a : Option Addr} {l : List Dnx} (h : DonesF w a l) (h0 : 0 < l.length) :
    ∃ b off, a = some ⟨b, off, none⟩ ∧ b < w.heap.size ∧ ∀ i (hi : i < l.length), w.cell? ⟨b, off + i * 4, none⟩ = some (.int .i64 l[i].n) ∧ w.cell? ⟨b, off + i * 4 + 1, none⟩ = some (.int .i64 l[i].at_) ∧ w.cell? ⟨b, off + i * 4 + 2, none⟩ = some (.int .i64 l[i].mode) ∧
      w.cell? ⟨b, off + i * 4 + 3, none⟩ = some (.slice l[i].ad l[i].acts.length l[i].cap) ∧ ActsF w l[i].ad l[i].acts := by
  obtain ⟨b, off, rfl, hb, hc⟩ := SliceAt.six (en := encDnx) (st := 4) (fun _ => rfl) (by omega) h.1 h0
  refine ⟨b, off, rfl, hb, fun i hi => ⟨hc i hi 0 (by omega), hc i hi 1 (by omega), hc i hi 2 (by omega), hc i hi 3 (by omega), h.2 _ (List.getElem_mem _)⟩⟩

theorem BookC.dones {w : World} {g : Nat → Nat} {p b nx N : Nat} {B : Bk} {v : Value} {L : List Dnx} {x : Nat → Sn} (h : BookC w g p b nx N B v L x) : ∃ a cap, v = .slice a L.length cap ∧ DonesF w a L := by
  obtain ⟨a, cap, rfl, hs, -⟩ := ownsRow.sliceAt h.row.1
  exact ⟨a, cap, rfl, hs, fun y hy => ⟨(h.fin y hy).acts.1, fun z hz => ((h.fin y hy).lists z hz).1.1⟩⟩

theorem Evo.zeroed {H : Nat} {g : Nat → Nat} {w w' : World} (h : Evo 1 H (fun _ => 0) g w w') : Below w.heap.size w w' :=
  ⟨h.os, h.tape, h.output, h.size, fun b hb => h.same b hb (fun ⟨h1, _⟩ => by simp at h1)⟩

theorem ownsRow.cap {w : World} {base e size : Nat} {a : Option Addr} {n c : Nat} {xs : List Value} (h : w.ownsRow base e size (.slice a n c) n xs) : n ≤ c := by
  rcases h.2 with ⟨h1, rfl⟩ | ⟨g, cap, cur, h1, -, -, hn, -⟩
  · exact Nat.zero_le _
  · cases h1; exact hn

/-- What List has copied. -/
structure Lst (w wr : World) (H : Nat) (g : Nat → Nat) (v : Value) (M : List Dnx) : Prop where
  evo : Evo 1 H (fun _ => 0) g w wr
  row : RowC wr g 1 30 4 v M.length (encDones M)
  acts : ∀ j (hj : j < M.length), FixC wr g (5 + j) M[j].ad (encActs M[j].acts)
  lists : ∀ y ∈ M, ∀ z ∈ y.acts, FixC wr g 2 z.ad (encEnts z.a.l)
  caps : ∀ y ∈ M, y.acts.length ≤ y.cap

theorem Lst.frame {w wr wr' : World} {H lo hi : Nat} {g g' : Nat → Nat} {v : Value} {M : List Dnx} (h : Lst w wr H g v M) (e : Evo lo hi g g' wr wr') (h3 : 3 ≤ lo) (hc : hi ≤ 5 ∨ 5 + M.length ≤ lo) (hH : hi ≤ H) : Lst w wr' H g' v M :=
  ⟨h.evo.trans (e.wide (by omega) hH), h.row.frame e (by omega), fun j hj => (h.acts j hj).frame e (by omega), fun y hy z hz => (h.lists y hy z hz).frame e (by omega), h.caps⟩
theorem Lst.quiet {w wr wr' : World} {H : Nat} {g g' : Nat → Nat} {v : Value} {M : List Dnx} (h : Lst w wr H g v M) (e : Evo 0 0 g g' wr wr') : Lst w wr' H g' v M :=
  ⟨h.evo.trans (e.none (Nat.le_refl _)), h.row.frame e (by omega), fun j hj => (h.acts j hj).frame e (by omega), fun y hy z hz => (h.lists y hy z hz).frame e (by omega), h.caps⟩

/-- The inner loop's. -/
structure Inn (w wr : World) (H : Nat) (g : Nat → Nat) (v : Value) (M : List Dnx) (b5 : Nat) (y : Dnx) (u : Value) (A : List Acx) : Prop where
  lst : Lst w wr H g v M
  box : LocC wr g 4 b5 30 (encDnx y)
  row : RowC wr g (5 + M.length) 62 6 u A.length (encActs A)
  lists : ∀ z ∈ A, FixC wr g 2 z.ad (encEnts z.a.l)

theorem Inn.quiet {w wr wr' : World} {H : Nat} {g g' : Nat → Nat} {v : Value} {M : List Dnx} {b5 : Nat} {y : Dnx} {u : Value} {A : List Acx} (h : Inn w wr H g v M b5 y u A) (e : Evo 0 0 g g' wr wr') : Inn w wr' H g' v M b5 y u A :=
  ⟨h.lst.quiet e, h.box.frame e (by omega), h.row.frame e (by omega), fun z hz => (h.lists z hz).frame e (by omega)⟩
theorem Inn.three {w wr wr' : World} {H : Nat} {g g' : Nat → Nat} {v : Value} {M : List Dnx} {b5 : Nat} {y : Dnx} {u : Value} {A : List Acx} (h : Inn w wr H g v M b5 y u A) (e : Evo 3 4 g g' wr wr') (hH : 5 ≤ H) : Inn w wr' H g' v M b5 y u A :=
  ⟨h.lst.frame e (by omega) (by omega) (by omega), h.box.frame e (by omega), h.row.frame e (by omega), fun z hz => (h.lists z hz).frame e (by omega)⟩

def LstPost (N : Nat) (B : Bk) (w : World) (e : Ending) (w' : World) : Prop :=
  ∃ a cap M, e = .returned (.slice a M.length cap) ∧ DonesF w' a M ∧ M.map Dnx.d = B.l ∧ Below w.heap.size w w' ∧ M.length ≤ N ∧ (∀ y ∈ M, y.acts.length ≤ N ∧ ∀ z ∈ y.acts, z.a.l.length ≤ 8) ∧ ∀ y ∈ M, y.acts.length ≤ y.cap

set_option maxHeartbeats 4000000 in
set_option maxRecDepth 100000 in
theorem book_List (g : Nat → Nat) (p b nx N : Nat) (B : Bk) (w : World) (hN : N < 1000000) (hB : BookAt w g p b nx N B) :
    Calls Try.prog 22 #[.pointer (some ⟨b, 0, none⟩)] w (LstPost N B w) := by
  obtain ⟨v, L, x, hC⟩ := hB
  obtain ⟨av, cv, rfl, hDF⟩ := hC.dones
  have c5 : w.cell? ⟨b, 5, none⟩ = some (.slice av L.length cv) := hC.loc.1.cell 5
  have hlt := hC.loc.1.lt
  have HF := hid (show L.length ≤ N ∧ ∀ y ∈ L, y.acts.length ≤ N ∧ ∀ z ∈ y.acts, z.a.l.length ≤ 8 from ⟨hC.few, fun y hy => ⟨(hC.fin y hy).len, fun z hz => ((hC.fin y hy).lists z hz).2⟩⟩)
  have HL := hid hC.isL
  have HD := hid hDF
  obtain ⟨i0, hi, hz0, hz1, hz2⟩ := info_parts Try.infoDone
  obtain ⟨j0, hj, hy0, hy1, hy2⟩ := info_parts Try.infoAct
  have hn63 : (L.length : Int) ≤ 9223372036854775807 := by have := HF.out.1; omega
  clear hC hDF
  go_enter Try.func22, Try.ntmps22
  go_wp2
  clear c5
  go_loopw [3, 14] (fun o i wr => ∃ (k : Nat) (g' : Nat → Nat) (M : List Dnx), k ≤ L.length ∧ i = .int .i64 k ∧ Hid (M.map Dnx.d = (L.take k).map Dnx.d) ∧ Hid (Lst w wr (5 + L.length) g' o M)) (fun _ i _ => L.length - (intOf i).toNat)
  case atStart => exact ⟨0, fun _ => 0, [], by omega, rfl, hid rfl, hid ⟨Evo.refl _ _ _ _, ⟨World.ownsRow_nil _ 0 _ _, nofun⟩, nofun, nofun, nofun⟩⟩
  case round =>
    obtain ⟨k, g1, M, hk, rfl, HM, HI⟩ := hrel
    have hML : M.length = k := by have := congrArg List.length HM.out; simp at this; omega
    obtain ⟨ao, co, rfl, -, -⟩ := ownsRow.sliceAt HI.out.row.1
    by_cases hk2 : k < L.length
    · obtain ⟨sb, off, rfl, hsb, hf⟩ := (HD.out.below HI.out.evo.zeroed).facts (by omega)
      obtain ⟨e0, e1, e2, e3, hAF⟩ := hf k hk2
      have HA := hid hAF
      have HY := hid (HF.out.2 L[k] (List.getElem_mem _))
      obtain ⟨y, hy⟩ : ∃ y, L[k] = y := ⟨_, rfl⟩
      rw [hy] at e0 e1 e2 e3 HA HY
      have HYK := hid hy
      have hki : (k : Int) < L.length := by omega
      have hk0 : (0 : Int) ≤ (k : Int) := by omega
      clear hf hAF hy
      obtain ⟨yn, yt, ym, ya, yad, ycap, yq⟩ := y
      simp only at e0 e1 e2 e3 HY
      have HAW := hid (show ActsF w yad ya from by have := HD.out.2 L[k] (List.getElem_mem _); rw [HYK.out] at this; exact this)
      have hH : 5 + M.length + 1 ≤ 5 + L.length := by omega
      have HML := hid hML
      clear HA hML
      go_upto_region 5 with (fail)
      have I2 := hid (HI.out.quiet (Evo.alloc g1 4 wr (.cells #[.int .i64 yn, .int .i64 yt, .int .i64 ym, .slice yad ya.length ycap] 30)))
      have X2 : Hid (LocC (wr.alloc (.cells #[.int .i64 yn, .int .i64 yt, .int .i64 ym, .slice yad ya.length ycap] 30)) (extc g1 wr 4) 4 wr.heap.size 30 [.int .i64 yn, .int .i64 yt, .int .i64 ym, .slice yad ya.length ycap]) := hid (LocC.new g1 4 wr _ _)
      clear HI e0 e1 e2 e3
      generalize wr.alloc (.cells #[.int .i64 yn, .int .i64 yt, .int .i64 ym, .slice yad ya.length ycap] 30) = w2 at *
      generalize extc g1 wr 4 = g2 at *
      generalize wr.heap.size = b5 at *
      have c3 : w2.cell? ⟨b5, 3, none⟩ = some (.slice yad ya.length ycap) := X2.out.1.cell 3
      have ha63 : (ya.length : Int) ≤ 9223372036854775807 := by have := HY.out.1; omega
      go_wp2
      clear c3
      go_loopw [6, 21] (fun u i wv => ∃ (m : Nat) (g' : Nat → Nat) (A : List Acx), m ≤ ya.length ∧ i = .int .i64 m ∧ Hid (A.map (·.a) = (ya.take m).map (·.a)) ∧ Hid (Inn w wv (5 + L.length) g' (.slice ao M.length co) M b5 ⟨yn, yt, ym, ya, yad, ycap, yq⟩ u A)) (fun _ i _ => ya.length - (intOf i).toNat)
      case atStart => exact ⟨0, g2, [], by omega, rfl, hid rfl, hid ⟨I2.out, X2.out, ⟨World.ownsRow_nil _ 0 _ _, nofun⟩, nofun⟩⟩
      case round =>
        obtain ⟨m, g3, A, hm, rfl, HAM, HJ⟩ := hrel
        clear I2 X2
        have hAL : A.length = m := by have := congrArg List.length HAM.out; simp at this; omega
        have hAN := HY.out.1
        obtain ⟨au, cu, rfl, -, -⟩ := ownsRow.sliceAt HJ.out.row.1
        have HAC := hid (ownsRow.cap HJ.out.row.1)
        by_cases hm2 : m < ya.length
        · have q1 : A.length + 1 ≤ maxLen := by unfold maxLen; omega
          have q2 : (A.length + 1) * 72 ≤ 140737488355328 := by omega
          have HAL := hid hAL
          clear hAL
          obtain ⟨s2, off2, rfl, hs2, hf2⟩ := (HAW.out.below HJ.out.lst.evo.zeroed).facts (by omega)
          obtain ⟨f0, f1, f2, f3, f4, f5, hfl⟩ := hf2 m hm2
          have hz8 := HY.out.2 ya[m] (List.getElem_mem _)
          obtain ⟨z, hz⟩ : ∃ z, ya[m] = z := ⟨_, rfl⟩
          rw [hz] at f0 f1 f2 f3 f4 f5 hfl hz8
          have HZ := hid hz
          have HFL := hid hfl
          have hmi : (m : Int) < ya.length := by omega
          have hm0 : (0 : Int) ≤ (m : Int) := by omega
          clear hf2 hfl hz
          go_upto_region 9 with (fail)
          have J3 := hid (HJ.out.quiet (Evo.alloc g3 3 wr (.cells #[.int .i64 z.a.kind, .int .i64 z.a.key, .int .i64 z.a.to_, .bool z.a.v.there, .string z.a.v.bytes, .slice z.ad z.a.l.length z.cap] 62)))
          have X3 : Hid (LocC (wr.alloc (.cells #[.int .i64 z.a.kind, .int .i64 z.a.key, .int .i64 z.a.to_, .bool z.a.v.there, .string z.a.v.bytes, .slice z.ad z.a.l.length z.cap] 62)) (extc g3 wr 3) 3 wr.heap.size 62 (encAcx z)) := hid (LocC.new g3 3 wr _ _)
          have F3 := hid (sliceAt_below HFL.out ((Below.refl wr.heap.size wr).alloc (Nat.le_refl _) (.cells #[.int .i64 z.a.kind, .int .i64 z.a.key, .int .i64 z.a.to_, .bool z.a.v.there, .string z.a.v.bytes, .slice z.ad z.a.l.length z.cap] 62)))
          clear HJ HFL f0 f1 f2 f3 f4 f5
          generalize wr.alloc (.cells #[.int .i64 z.a.kind, .int .i64 z.a.key, .int .i64 z.a.to_, .bool z.a.v.there, .string z.a.v.bytes, .slice z.ad z.a.l.length z.cap] 62) = w3 at *
          generalize extc g3 wr 3 = g4 at *
          generalize wr.heap.size = b8 at *
          have CP := hid (clone_pairs z.ad z.cap z.a.l w3 (by omega) F3.out)
          have d5 : w3.cell? ⟨b8, 5, none⟩ = some (.slice z.ad z.a.l.length z.cap) := X3.out.1.cell 5
          go_wp2_with fail
          refine CP.out.mono ?_
          rintro e w4 ⟨ad, cap, rfl, hx, hb, hl1, -⟩
          have J4 := hid (J3.out.quiet (Evo.of_below g4 2 hb))
          have X4 := hid (X3.out.frame (Evo.of_below (lo := 0) (hi := 0) g4 2 hb) (by omega))
          have F4 := hid (FixC.fresh (w := w3) (g := g4) (q := 2) hx hl1)
          clear hx hb hl1 CP J3 X3 F3 d5
          generalize extc g4 w3 2 = g5 at *
          have d5 : w4.cell? ⟨b8, 5, none⟩ = some (.slice z.ad z.a.l.length z.cap) := X4.out.1.cell 5
          have d5f : w4.frozen? ⟨b8, 5, none⟩ = false := X4.out.1.free 5
          go_upto_region 10 with (fail)
          have hst : Evo 3 4 g5 g5 w4 (w4.setCell ⟨b8, 5, none⟩ (.slice ad z.a.l.length cap)) := evo_store _ X4.out.2
          have J5 := hid (J4.out.three hst (by omega))
          have X5 : Hid (LocC (w4.setCell ⟨b8, 5, none⟩ (.slice ad z.a.l.length cap)) g5 3 b8 62 (encAcx ⟨z.a, ad, cap⟩)) := hid ⟨X4.out.1.set 5 _, X4.out.2⟩
          have F5 := hid (F4.out.frame hst (by omega))
          clear hst J4 X4 F4 d5 d5f
          generalize w4.setCell ⟨b8, 5, none⟩ (.slice ad z.a.l.length cap) = w5 at *
          obtain ⟨d0, d1, d2, d3, d4, d5⟩ : w5.cell? ⟨b8, 0, none⟩ = some (.int .i64 z.a.kind) ∧ w5.cell? ⟨b8, 1, none⟩ = some (.int .i64 z.a.key) ∧ w5.cell? ⟨b8, 2, none⟩ = some (.int .i64 z.a.to_) ∧ w5.cell? ⟨b8, 3, none⟩ = some (.bool z.a.v.there) ∧ w5.cell? ⟨b8, 4, none⟩ = some (.string z.a.v.bytes) ∧ w5.cell? ⟨b8, 5, none⟩ = some (.slice ad z.a.l.length cap) :=
            ⟨X5.out.1.cell 0, X5.out.1.cell 1, X5.out.1.cell 2, X5.out.1.cell 3, X5.out.1.cell 4, X5.out.1.cell 5⟩
          have EA := hid (Evo.alloc g5 0 w5 (.cells #[.int .i64 z.a.kind, .int .i64 z.a.key, .int .i64 z.a.to_, .bool z.a.v.there, .string z.a.v.bytes, .slice ad z.a.l.length cap] 62))
          have J6 := hid (J5.out.quiet EA.out)
          have F6 := hid (F5.out.frame EA.out (by omega))
          clear EA J5 F5 X5
          go_wp2_with (refine wpList_append2 rfl (.tmp 29) (.tmp 31) 28 rfl 62 j0 (.agg #[.int .i64 0, .int .i64 0, .int .i64 0, .bool false, .string ByteArray.empty, .slice none 0 0]) 6 72 Try.underlying28 hj hy0 hy1 hy2 rfl (by decide) (.slice au A.length cu) A.length (encActs A) rfl J6.out.row.1 ⟨w5.heap.size, 0, none⟩ 1 1 (encAcx ⟨z.a, ad, cap⟩) rfl rfl (cells_new w5 (encAcx ⟨z.a, ad, cap⟩) 62) (encAcx_one _) q1 q2 ?_)
          intro v7 w7 ho hg hf
          obtain ⟨a7, c7, rfl, -, -⟩ := ownsRow.sliceAt ho
          obtain ⟨g7, hR, hE⟩ : ∃ g7, RowC w7 g7 (5 + M.length) 62 6 (.slice a7 (A.length + 1) c7) (A.length + 1) (encActs A ++ encAcx ⟨z.a, ad, cap⟩) ∧ Evo (5 + M.length) (5 + M.length + 1) (extc g5 w5 0) g7 (w5.alloc (.cells #[.int .i64 z.a.kind, .int .i64 z.a.key, .int .i64 z.a.to_, .bool z.a.v.there, .string z.a.v.bytes, .slice ad z.a.l.length cap] 62)) w7 := ⟨_, J6.out.row.grown ho hg (by simpa using hf)⟩
          have J7 : Hid (Inn w w7 (5 + L.length) g7 (.slice ao M.length co) M b5 ⟨yn, yt, ym, ya, some ⟨s2, off2, none⟩, ycap, yq⟩ (.slice a7 (A ++ [(⟨z.a, ad, cap⟩ : Acx)]).length c7) (A ++ [(⟨z.a, ad, cap⟩ : Acx)])) := hid (by
            refine ⟨J6.out.lst.frame hE (by omega) (.inr (Nat.le_refl _)) hH, J6.out.box.frame hE (by omega), ?_, fun u hu => ?_⟩
            · rw [encActs_append, List.length_append]
              simpa [encActs] using hR
            · rcases List.mem_append.1 hu with hu | hu
              · exact (J6.out.lists u hu).frame hE (by omega)
              · rw [List.mem_singleton] at hu; subst hu; exact F6.out.frame hE (by omega))
          have HAM2 := hid (show (A ++ [(⟨z.a, ad, cap⟩ : Acx)]).map (·.a) = (ya.take (m + 1)).map (·.a) from by
            rw [List.map_append, HAM.out, List.take_succ_eq_append_getElem hm2, List.map_append, HZ.out]; rfl)
          have hl7 : (A ++ [(⟨z.a, ad, cap⟩ : Acx)]).length = A.length + 1 := by simp
          rw [hl7] at J7
          clear ho hg hf hR hE J6 F6 hl7 d0 d1 d2 d3 d4 d5
          go_wp2
          go_roundw
          case rel => exact ⟨m + 1, g7, _, by omega, by go_num, HAM2, J7⟩
          case measure => simp [intOf]; omega
        · obtain rfl : m = ya.length := by omega
          have HAM2 := hid (show A.map (·.a) = ya.map (·.a) from by rw [HAM.out, List.take_length])
          have HAL := hid hAL
          have c3 : wr.cell? ⟨b5, 3, none⟩ = some (.slice yad ya.length ycap) := HJ.out.box.1.cell 3
          have c3f : wr.frozen? ⟨b5, 3, none⟩ = false := HJ.out.box.1.free 3
          clear hAL HAM
          go_upto_region 13 with (fail)
          have hst : Evo 4 5 g3 g3 wr (wr.setCell ⟨b5, 3, none⟩ (.slice au A.length cu)) := evo_store _ HJ.out.box.2
          have J5 := hid (HJ.out.lst.frame hst (by omega) (.inl (by omega)) (by omega))
          have X5 : Hid (LocC (wr.setCell ⟨b5, 3, none⟩ (.slice au A.length cu)) g3 4 b5 30 (encDnx ⟨yn, yt, ym, A, au, cu, 0⟩)) := hid ⟨HJ.out.box.1.set 3 _, HJ.out.box.2⟩
          have R5 := hid ((HJ.out.row.fix).frame hst (by omega))
          have L5 := hid (fun z hz => (HJ.out.lists z hz).frame hst (by omega))
          clear hst HJ c3 c3f
          generalize wr.setCell ⟨b5, 3, none⟩ (.slice au A.length cu) = w5 at *
          obtain ⟨d0, d1, d2, d3⟩ : w5.cell? ⟨b5, 0, none⟩ = some (.int .i64 yn) ∧ w5.cell? ⟨b5, 1, none⟩ = some (.int .i64 yt) ∧ w5.cell? ⟨b5, 2, none⟩ = some (.int .i64 ym) ∧ w5.cell? ⟨b5, 3, none⟩ = some (.slice au A.length cu) :=
            ⟨X5.out.1.cell 0, X5.out.1.cell 1, X5.out.1.cell 2, X5.out.1.cell 3⟩
          have EA := hid (Evo.alloc g3 0 w5 (.cells #[.int .i64 yn, .int .i64 yt, .int .i64 ym, .slice au A.length cu] 30))
          have J6 := hid (J5.out.quiet EA.out)
          have R6 := hid (R5.out.frame EA.out (by omega))
          have L6 := hid (fun z hz => (L5.out z hz).frame EA.out (by omega))
          have q1 : M.length + 1 ≤ maxLen := by unfold maxLen; have := HF.out.1; omega
          have q2 : (M.length + 1) * 48 ≤ 140737488355328 := by have := HF.out.1; omega
          clear EA J5 R5 L5 X5
          go_wp2_with (refine wpList_append2 rfl (.tmp 36) (.tmp 38) 25 rfl 30 i0 (.agg #[.int .i64 0, .int .i64 0, .int .i64 0, .slice none 0 0]) 4 48 Try.underlying25 hi hz0 hz1 hz2 rfl (by decide) (.slice ao M.length co) M.length (encDones M) rfl J6.out.row.1 ⟨w5.heap.size, 0, none⟩ 1 1 (encDnx ⟨yn, yt, ym, A, au, cu, 0⟩) rfl rfl (cells_new w5 (encDnx ⟨yn, yt, ym, A, au, cu, 0⟩) 30) (encDnx_one _) q1 q2 ?_)
          intro v7 w7 ho hg hf
          obtain ⟨a7, c7, rfl, -, -⟩ := ownsRow.sliceAt ho
          obtain ⟨g7, hR, hE⟩ : ∃ g7, RowC w7 g7 1 30 4 (.slice a7 (M.length + 1) c7) (M.length + 1) (encDones M ++ encDnx ⟨yn, yt, ym, A, au, cu, 0⟩) ∧ Evo 1 (1 + 1) (extc g3 w5 0) g7 (w5.alloc (.cells #[.int .i64 yn, .int .i64 yt, .int .i64 ym, .slice au A.length cu] 30)) w7 := ⟨_, J6.out.row.grown ho hg (by simpa using hf)⟩
          have J7 : Hid (Lst w w7 (5 + L.length) g7 (.slice a7 (M ++ [(⟨yn, yt, ym, A, au, cu, 0⟩ : Dnx)]).length c7) (M ++ [(⟨yn, yt, ym, A, au, cu, 0⟩ : Dnx)])) := hid (by
            refine ⟨J6.out.evo.trans (hE.wide (Nat.le_refl _) (by omega)), ?_, fun j hj => ?_, fun y hy => ?_, fun y hy => ?_⟩
            · rw [encDones_append, List.length_append]
              simpa [encDones] using hR
            · by_cases hj2 : j < M.length
              · rw [List.getElem_append_left hj2]
                exact (J6.out.acts j hj2).frame hE (by omega)
              · have hje : j = M.length := by simp at hj; omega
                subst hje
                rw [List.getElem_append_right (Nat.le_refl _)]
                simp only [Nat.sub_self, List.getElem_singleton]
                exact R6.out.frame hE (by omega)
            · rcases List.mem_append.1 hy with hy | hy
              · exact fun z hz => (J6.out.lists y hy z hz).frame hE (by omega)
              · rw [List.mem_singleton] at hy; subst hy
                exact fun z hz => (L6.out z hz).frame hE (by omega)
            · rcases List.mem_append.1 hy with hy | hy
              · exact J6.out.caps y hy
              · rw [List.mem_singleton] at hy; subst hy
                exact HAC.out)
          have HM2 := hid (show (M ++ [(⟨yn, yt, ym, A, au, cu, 0⟩ : Dnx)]).map Dnx.d = (L.take (k + 1)).map Dnx.d from by
            rw [List.map_append, HM.out, List.take_succ_eq_append_getElem hk2, List.map_append, HYK.out]
            show _ ++ [Dnx.d _] = _ ++ [Dnx.d _]
            unfold Dnx.d
            simp only [HAM2.out])
          have hl7 : (M ++ [(⟨yn, yt, ym, A, au, cu, 0⟩ : Dnx)]).length = M.length + 1 := by simp
          rw [hl7] at J7
          clear ho hg hf hR hE J6 R6 L6 hl7 d0 d1 d2 d3
          go_wp2
          go_roundw
          case rel => exact ⟨k + 1, g7, _, by omega, by go_num, HM2, J7⟩
          case measure => simp [intOf]; omega
    · obtain rfl : k = L.length := by omega
      have HD2 := hid (show LstPost N B w (.returned (.slice ao M.length co)) wr from by
        have hm : M.map Dnx.d = L.map Dnx.d := by rw [HM.out, List.take_length]
        obtain ⟨a', c', e', hs', -⟩ := ownsRow.sliceAt HI.out.row.1
        cases e'
        refine ⟨ao, co, M, rfl, ⟨hs', fun y hy => ⟨?_, fun z hz => (HI.out.lists y hy z hz).1⟩⟩, hm.trans HL.out, HI.out.evo.zeroed, by have := HF.out.1; omega, fun y hy => ?_, HI.out.caps⟩
        · obtain ⟨j, hj, rfl⟩ := List.mem_iff_getElem.1 hy
          exact (HI.out.acts j hj).1
        · have h1 : y.d ∈ L.map Dnx.d := by rw [← hm]; exact List.mem_map_of_mem hy
          obtain ⟨y0, hy0', he⟩ := List.mem_map.1 h1
          have ha : y0.acts.map (·.a) = y.acts.map (·.a) := congrArg Dn.acts he
          obtain ⟨q1, q2⟩ := HF.out.2 y0 hy0'
          refine ⟨by have := congrArg List.length ha; simp at this; omega, fun z hz => ?_⟩
          have h2 : z.a ∈ y0.acts.map (·.a) := by rw [ha]; exact List.mem_map_of_mem hz
          obtain ⟨z0, hz0', hze⟩ := List.mem_map.1 h2
          have := q2 z0 hz0'
          rw [hze] at this
          exact this)
      have HML := hid hML
      clear HI HM hML
      go_wp2
      go_ret
      exact HD2.out

end Go.Proofs.Ytoiobhcgpajogad
