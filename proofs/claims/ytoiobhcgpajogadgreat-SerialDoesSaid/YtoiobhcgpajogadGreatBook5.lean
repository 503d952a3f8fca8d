/- A book: the walk of List. -/
import Derived.Test.YtoiobhcgpajogadGreatBook4
import Derived.Test.YtoiobhcgpajogadGreatVals
import Derived.Test.YtoiobhcgpajogadGreatHallP
import Derived.Test.YtoiobhcgpajogadGreatSerP
namespace Go.Proofs.YtoiobhcgpajogadGreat
open Go.RowKit

def ActsF (w : World) (a : Option Addr) (l : List Acx) : Prop := SliceAt w a (encActs l) ∧ ∀ z ∈ l, SliceAt w z.ad (encEnts z.a.l)
def DonesF (w : World) (a : Option Addr) (l : List Dnx) : Prop := SliceAt w a (encDones l) ∧ ∀ y ∈ l, ActsF w y.ad y.acts

theorem ActsF.below {w w' : World} {a : Option Addr} {l : List Acx} (h : ActsF w a l) (k : Below w.heap.size w w') : ActsF w' a l := ⟨sliceAt_below h.1 k, fun z hz => sliceAt_below (h.2 z hz) k⟩
theorem DonesF.below {w w' : World} {a : Option Addr} {l : List Dnx} (h : DonesF w a l) (k : Below w.heap.size w w') : DonesF w' a l := ⟨sliceAt_below h.1 k, fun y hy => (h.2 y hy).below k⟩

theorem ActsF.facts {w : World} {a : Option Addr} {l : List Acx} (h : ActsF w a l) (h0 : 0 < l.length) :
    ∃ b off, a = some ⟨b, off, none⟩ ∧ b < w.heap.size ∧ ∀ i (hi : i < l.length), w.cell? ⟨b, off + i * 6, none⟩ = some (.int .i64 l[i].a.kind) ∧ w.cell? ⟨b, off + i * 6 + 1, none⟩ = some (.int .i64 l[i].a.key) ∧ w.cell? ⟨b, off + i * 6 + 2, none⟩ = some (.int .i64 l[i].a.to_) ∧
      w.cell? ⟨b, off + i * 6 + 3, none⟩ = some (.bool l[i].a.v.there) ∧ w.cell? ⟨b, off + i * 6 + 4, none⟩ = some (.string l[i].a.v.bytes) ∧ w.cell? ⟨b, off + i * 6 + 5, none⟩ = some (.slice l[i].ad l[i].a.l.length l[i].cap) ∧ SliceAt w l[i].ad (encEnts l[i].a.l) := by
  obtain ⟨b, off, rfl, hb, hc⟩ := SliceAt.six (en := encAcx) (st := 6) (fun _ => rfl) (by omega) h.1 h0
  refine ⟨b, off, rfl, hb, fun i hi => ⟨hc i hi 0 (by omega), hc i hi 1 (by omega), hc i hi 2 (by omega), hc i hi 3 (by omega), hc i hi 4 (by omega), hc i hi 5 (by omega), h.2 _ (List.getElem_mem _)⟩⟩

theorem DonesF.facts {w : World} {a : Option Addr} {l : List Dnx} (h : DonesF w a l) (h0 : 0 < l.length) :
    ∃ b off, a = some ⟨b, off, none⟩ ∧ b < w.heap.size ∧ ∀ i (hi : i < l.length), w.cell? ⟨b, off + i * 4, none⟩ = some (.int .i64 l[i].n) ∧ w.cell? ⟨b, off + i * 4 + 1, none⟩ = some (.int .i64 l[i].at_) ∧ w.cell? ⟨b, off + i * 4 + 2, none⟩ = some (.int .i64 l[i].mode) ∧
      w.cell? ⟨b, off + i * 4 + 3, none⟩ = some (.slice l[i].ad l[i].acts.length l[i].cap) ∧ ActsF w l[i].ad l[i].acts := by
  obtain ⟨b, off, rfl, hb, hc⟩ := SliceAt.six (en := encDnx) (st := 4) (fun _ => rfl) (by omega) h.1 h0
  refine ⟨b, off, rfl, hb, fun i hi => ⟨hc i hi 0 (by omega), hc i hi 1 (by omega), hc i hi 2 (by omega), hc i hi 3 (by omega), h.2 _ (List.getElem_mem _)⟩⟩

theorem BookC.dones {w : World} {g : Nat → Nat} {p b nx N : Nat} {B : Bk} {v : Value} {L : List Dnx} {x : Nat → Sn} (h : BookC w g p b nx N B v L x) : ∃ a cap, v = .slice a L.length cap ∧ DonesF w a L := by
  obtain ⟨a, cap, rfl, hs, -⟩ := ownsRow.sliceAt h.row.1
  exact ⟨a, cap, rfl, hs, fun y hy => ⟨(h.fin y hy).acts.1, fun z hz => ((h.fin y hy).lists z hz).1.1⟩⟩

theorem Evo.zeroed {H : Nat} {g : Nat → Nat} {w w' : World} (h : Evo 1 H (fun _ => 0) g w w') : Below w.heap.size w w' :=
  ⟨h.os, h.tape, h.output, h.size, fun b hb => h.same b hb (fun ⟨h1, _⟩ => by simp at h1)⟩

theorem ownsRow.cap {w : World} {base e size : Nat} {a : Option Addr} {n c : Nat} {xs : List Value} (h : w.ownsRow base e size (.slice a n c) n xs) : n ≤ c := by
  rcases h.2 with ⟨h1, rfl⟩ | ⟨g, cap, cur, h1, -, -, hn, -⟩
  · exact Nat.zero_le _
  · cases h1; exact hn

/-- What List has copied. -/
structure Lst (w wr : World) (H : Nat) (g : Nat → Nat) (v : Value) (M : List Dnx) : Prop where
  evo : Evo 1 H (fun _ => 0) g w wr
  row : RowC wr g 1 36 4 v M.length (encDones M)
  acts : ∀ j (hj : j < M.length), FixC wr g (5 + j) M[j].ad (encActs M[j].acts)
  lists : ∀ y ∈ M, ∀ z ∈ y.acts, FixC wr g 2 z.ad (encEnts z.a.l)
  caps : ∀ y ∈ M, y.acts.length ≤ y.cap

theorem Lst.frame {w wr wr' : World} {H lo hi : Nat} {g g' : Nat → Nat} {v : Value} {M : List Dnx} (h : Lst w wr H g v M) (e : Evo lo hi g g' wr wr') (h3 : 3 ≤ lo) (hc : hi ≤ 5 ∨ 5 + M.length ≤ lo) (hH : hi ≤ H) : Lst w wr' H g' v M :=
  ⟨h.evo.trans (e.wide (by omega) hH), h.row.frame e (by omega), fun j hj => (h.acts j hj).frame e (by omega), fun y hy z hz => (h.lists y hy z hz).frame e (by omega), h.caps⟩
theorem Lst.quiet {w wr wr' : World} {H : Nat} {g g' : Nat → Nat} {v : Value} {M : List Dnx} (h : Lst w wr H g v M) (e : Evo 0 0 g g' wr wr') : Lst w wr' H g' v M :=
  ⟨h.evo.trans (e.none (Nat.le_refl _)), h.row.frame e (by omega), fun j hj => (h.acts j hj).frame e (by omega), fun y hy z hz => (h.lists y hy z hz).frame e (by omega), h.caps⟩

/-- The inner loop's. -/
structure Inn (w wr : World) (H : Nat) (g : Nat → Nat) (v : Value) (M : List Dnx) (b5 : Nat) (y : Dnx) (u : Value) (A : List Acx) : Prop where
  lst : Lst w wr H g v M
  box : LocC wr g 4 b5 36 (encDnx y)
  row : RowC wr g (5 + M.length) 43 6 u A.length (encActs A)
  lists : ∀ z ∈ A, FixC wr g 2 z.ad (encEnts z.a.l)

theorem Inn.quiet {w wr wr' : World} {H : Nat} {g g' : Nat → Nat} {v : Value} {M : List Dnx} {b5 : Nat} {y : Dnx} {u : Value} {A : List Acx} (h : Inn w wr H g v M b5 y u A) (e : Evo 0 0 g g' wr wr') : Inn w wr' H g' v M b5 y u A :=
  ⟨h.lst.quiet e, h.box.frame e (by omega), h.row.frame e (by omega), fun z hz => (h.lists z hz).frame e (by omega)⟩
theorem Inn.three {w wr wr' : World} {H : Nat} {g g' : Nat → Nat} {v : Value} {M : List Dnx} {b5 : Nat} {y : Dnx} {u : Value} {A : List Acx} (h : Inn w wr H g v M b5 y u A) (e : Evo 3 4 g g' wr wr') (hH : 5 ≤ H) : Inn w wr' H g' v M b5 y u A :=
  ⟨h.lst.frame e (by omega) (by omega) (by omega), h.box.frame e (by omega), h.row.frame e (by omega), fun z hz => (h.lists z hz).frame e (by omega)⟩

def LstPost (N : Nat) (B : Bk) (w : World) (e : Ending) (w' : World) : Prop :=
  ∃ a cap M, e = .returned (.slice a M.length cap) ∧ DonesF w' a M ∧ M.map Dnx.d = B.l ∧ Below w.heap.size w w' ∧ M.length ≤ N ∧ (∀ y ∈ M, y.acts.length ≤ N ∧ ∀ z ∈ y.acts, z.a.l.length ≤ 8) ∧ ∀ y ∈ M, y.acts.length ≤ y.cap

set_option maxHeartbeats 4000000 in
set_option maxRecDepth 100000 in
theorem book_List (g : Nat → Nat) (p b nx N : Nat) (B : Bk) (w : World) (hN : N < 1000000) (hB : BookAt w g p b nx N B) :
    Calls Tryz.prog 23 #[.pointer (some ⟨b, 0, none⟩)] w (LstPost N B w) := by
  obtain ⟨v, L, x, hC⟩ := hB
  obtain ⟨av, cv, rfl, hDF⟩ := hC.dones
  have c5 : w.cell? ⟨b, 5, none⟩ = some (.slice av L.length cv) := hC.loc.1.cell 5
  have hlt := hC.loc.1.lt
  have HF := hid (show L.length ≤ N ∧ ∀ y ∈ L, y.acts.length ≤ N ∧ ∀ z ∈ y.acts, z.a.l.length ≤ 8 from ⟨hC.few, fun y hy => ⟨(hC.fin y hy).len, fun z hz => ((hC.fin y hy).lists z hz).2⟩⟩)
  have HL := hid hC.isL
  have HD := hid hDF
  obtain ⟨i0, hi, hz0, hz1, hz2⟩ := info_parts Tryz.infoDone
  obtain ⟨j0, hj, hy0, hy1, hy2⟩ := info_parts Tryz.infoAct
  have hn63 : (L.length : Int) ≤ 9223372036854775807 := by have := HF.out.1; omega
  clear hC hDF
  go_enter Tryz.func23, Tryz.ntmps23
  go_wp2
  clear c5
  go_loopw [3, 14] (fun o i wr => ∃ (k : Nat) (g' : Nat → Nat) (M : List Dnx), k ≤ L.length ∧ i = .int .i64 k ∧ Hid (M.map Dnx.d = (L.take k).map Dnx.d) ∧ Hid (Lst w wr (5 + L.length) g' o M)) (fun _ i _ => L.length - (intOf i).toNat)
  case atStart => exact ⟨0, fun _ => 0, [], by omega, rfl, hid rfl, hid ⟨Evo.refl _ _ _ _, ⟨World.ownsRow_nil _ 0 _ _, nofun⟩, nofun, nofun, nofun⟩⟩
  case round =>
    obtain ⟨k, g1, M, hk, rfl, HM, HI⟩ := hrel
    have hML : M.length = k := by have := congrArg List.length HM.out; simp at this; omega
    obtain ⟨ao, co, rfl, -, -⟩ := ownsRow.sliceAt HI.out.row.1
    by_cases hk2 : k < L.length
    · obtain ⟨sb, off, rfl, hsb, hf⟩ := (HD.out.below HI.out.evo.zeroed).facts (by omega)
      obtain ⟨e0, e1, e2, e3, hAF⟩ := hf k hk2
      have HA := hid hAF
      have HY := hid (HF.out.2 L[k] (List.getElem_mem _))
      obtain ⟨y, hy⟩ : ∃ y, L[k] = y := ⟨_, rfl⟩
      rw [hy] at e0 e1 e2 e3 HA HY
      have HYK := hid hy
      have hki : (k : Int) < L.length := by omega
      have hk0 : (0 : Int) ≤ (k : Int) := by omega
      clear hf hAF hy
      obtain ⟨yn, yt, ym, ya, yad, ycap, yq⟩ := y
      simp only at e0 e1 e2 e3 HY
      have HAW := hid (show ActsF w yad ya from by have := HD.out.2 L[k] (List.getElem_mem _); rw [HYK.out] at this; exact this)
      have hH : 5 + M.length + 1 ≤ 5 + L.length := by omega
      have HML := hid hML
      clear HA hML
      go_upto_region 5 with (fail)
      have I2 := hid (HI.out.quiet (Evo.alloc g1 4 wr (.cells #[.int .i64 yn, .int .i64 yt, .int .i64 ym, .slice yad ya.length ycap] 36)))
      have X2 : Hid (LocC (wr.alloc (.cells #[.int .i64 yn, .int .i64 yt, .int .i64 ym, .slice yad ya.length ycap] 36)) (extc g1 wr 4) 4 wr.heap.size 36 [.int .i64 yn, .int .i64 yt, .int .i64 ym, .slice yad ya.length ycap]) := hid (LocC.new g1 4 wr _ _)
      clear HI e0 e1 e2 e3
      generalize wr.alloc (.cells #[.int .i64 yn, .int .i64 yt, .int .i64 ym, .slice yad ya.length ycap] 36) = w2 at *
      generalize extc g1 wr 4 = g2 at *
      generalize wr.heap.size = b5 at *
      have c3 : w2.cell? ⟨b5, 3, none⟩ = some (.slice yad ya.length ycap) := X2.out.1.cell 3
      have ha63 : (ya.length : Int) ≤ 9223372036854775807 := by have := HY.out.1; omega
      go_wp2
      clear c3
      go_loopw [6, 21] (fun u i wv => ∃ (m : Nat) (g' : Nat → Nat) (A : List Acx), m ≤ ya.length ∧ i = .int .i64 m ∧ Hid (A.map (·.a) = (ya.take m).map (·.a)) ∧ Hid (Inn w wv (5 + L.length) g' (.slice ao M.length co) M b5 ⟨yn, yt, ym, ya, yad, ycap, yq⟩ u A)) (fun _ i _ => ya.length - (intOf i).toNat)
      case atStart => exact ⟨0, g2, [], by omega, rfl, hid rfl, hid ⟨I2.out, X2.out, ⟨World.ownsRow_nil _ 0 _ _, nofun⟩, nofun⟩⟩
      case round =>
        obtain ⟨m, g3, A, hm, rfl, HAM, HJ⟩ := hrel
        clear I2 X2
        have hAL : A.length = m := by have := congrArg List.length HAM.out; simp at this; omega
        have hAN := HY.out.1
        obtain ⟨au, cu, rfl, -, -⟩ := ownsRow.sliceAt HJ.out.row.1
        have HAC := hid (ownsRow.cap HJ.out.row.1)
        by_cases hm2 : m < ya.length
        · have q1 : A.length + 1 ≤ maxLen := by unfold maxLen; omega
          have q2 : (A.length + 1) * 72 ≤ 140737488355328 := by omega
          have HAL := hid hAL
          clear hAL
          obtain ⟨s2, off2, rfl, hs2, hf2⟩ := (HAW.out.below HJ.out.lst.evo.zeroed).facts (by omega)
          obtain ⟨f0, f1, f2, f3, f4, f5, hfl⟩ := hf2 m hm2
          have hz8 := HY.out.2 ya[m] (List.getElem_mem _)
          obtain ⟨z, hz⟩ : ∃ z, ya[m] = z := ⟨_, rfl⟩
          rw [hz] at f0 f1 f2 f3 f4 f5 hfl hz8
          have HZ := hid hz
          have HFL := hid hfl
          have hmi : (m : Int) < ya.length := by omega
          have hm0 : (0 : Int) ≤ (m : Int) := by omega
          clear hf2 hfl hz
          go_upto_region 9 with (fail)
          have J3 := hid (HJ.out.quiet (Evo.alloc g3 3 wr (.cells #[.int .i64 z.a.kind, .int .i64 z.a.key, .int .i64 z.a.to_, .bool z.a.v.there, .string z.a.v.bytes, .slice z.ad z.a.l.length z.cap] 43)))
          have X3 : Hid (LocC (wr.alloc (.cells #[.int .i64 z.a.kind, .int .i64 z.a.key, .int .i64 z.a.to_, .bool z.a.v.there, .string z.a.v.bytes, .slice z.ad z.a.l.length z.cap] 43)) (extc g3 wr 3) 3 wr.heap.size 43 (encAcx z)) := hid (LocC.new g3 3 wr _ _)
          have F3 := hid (sliceAt_below HFL.out ((Below.refl wr.heap.size wr).alloc (Nat.le_refl _) (.cells #[.int .i64 z.a.kind, .int .i64 z.a.key, .int .i64 z.a.to_, .bool z.a.v.there, .string z.a.v.bytes, .slice z.ad z.a.l.length z.cap] 43)))
          clear HJ HFL f0 f1 f2 f3 f4 f5
          generalize wr.alloc (.cells #[.int .i64 z.a.kind, .int .i64 z.a.key, .int .i64 z.a.to_, .bool z.a.v.there, .string z.a.v.bytes, .slice z.ad z.a.l.length z.cap] 43) = w3 at *
          generalize extc g3 wr 3 = g4 at *
          generalize wr.heap.size = b8 at *
          have CP := hid (clone_pairs z.ad z.cap z.a.l w3 (by omega) F3.out)
          have d5 : w3.cell? ⟨b8, 5, none⟩ = some (.slice z.ad z.a.l.length z.cap) := X3.out.1.cell 5
          go_wp2_with fail
          refine CP.out.mono ?_
          rintro e w4 ⟨ad, cap, rfl, hx, hb, hl1, -⟩
          have J4 := hid (J3.out.quiet (Evo.of_below g4 2 hb))
          have X4 := hid (X3.out.frame (Evo.of_below (lo := 0) (hi := 0) g4 2 hb) (by omega))
          have F4 := hid (FixC.fresh (w := w3) (g := g4) (q := 2) hx hl1)
          clear hx hb hl1 CP J3 X3 F3 d5
          generalize extc g4 w3 2 = g5 at *
          have d5 : w4.cell? ⟨b8, 5, none⟩ = some (.slice z.ad z.a.l.length z.cap) := X4.out.1.cell 5
          have d5f : w4.frozen? ⟨b8, 5, none⟩ = false := X4.out.1.free 5
          go_upto_region 10 with (fail)
          have hst : Evo 3 4 g5 g5 w4 (w4.setCell ⟨b8, 5, none⟩ (.slice ad z.a.l.length cap)) := evo_store _ X4.out.2
          have J5 := hid (J4.out.three hst (by omega))
          have X5 : Hid (LocC (w4.setCell ⟨b8, 5, none⟩ (.slice ad z.a.l.length cap)) g5 3 b8 43 (encAcx ⟨z.a, ad, cap⟩)) := hid ⟨X4.out.1.set 5 _, X4.out.2⟩
          have F5 := hid (F4.out.frame hst (by omega))
          clear hst J4 X4 F4 d5 d5f
          generalize w4.setCell ⟨b8, 5, none⟩ (.slice ad z.a.l.length cap) = w5 at *
          obtain ⟨d0, d1, d2, d3, d4, d5⟩ : w5.cell? ⟨b8, 0, none⟩ = some (.int .i64 z.a.kind) ∧ w5.cell? ⟨b8, 1, none⟩ = some (.int .i64 z.a.key) ∧ w5.cell? ⟨b8, 2, none⟩ = some (.int .i64 z.a.to_) ∧ w5.cell? ⟨b8, 3, none⟩ = some (.bool z.a.v.there) ∧ w5.cell? ⟨b8, 4, none⟩ = some (.string z.a.v.bytes) ∧ w5.cell? ⟨b8, 5, none⟩ = some (.slice ad z.a.l.length cap) :=
            ⟨X5.out.1.cell 0, X5.out.1.cell 1, X5.out.1.cell 2, X5.out.1.cell 3, X5.out.1.cell 4, X5.out.1.cell 5⟩
          have EA := hid (Evo.alloc g5 0 w5 (.cells #[.int .i64 z.a.kind, .int .i64 z.a.key, .int .i64 z.a.to_, .bool z.a.v.there, .string z.a.v.bytes, .slice ad z.a.l.length cap] 43))
          have J6 := hid (J5.out.quiet EA.out)
          have F6 := hid (F5.out.frame EA.out (by omega))
          clear EA J5 F5 X5
          go_wp2_with (refine wpList_append2 rfl (.tmp 29) (.tmp 31) 26 rfl 43 j0 (.agg #[.int .i64 0, .int .i64 0, .int .i64 0, .bool false, .string ByteArray.empty, .slice none 0 0]) 6 72 Tryz.underlying26 hj hy0 hy1 hy2 rfl (by decide) (.slice au A.length cu) A.length (encActs A) rfl J6.out.row.1 ⟨w5.heap.size, 0, none⟩ 1 1 (encAcx ⟨z.a, ad, cap⟩) rfl rfl (cells_new w5 (encAcx ⟨z.a, ad, cap⟩) 43) (encAcx_one _) q1 q2 ?_)
          intro v7 w7 ho hg hf
          obtain ⟨a7, c7, rfl, -, -⟩ := ownsRow.sliceAt ho
          obtain ⟨g7, hR, hE⟩ : ∃ g7, RowC w7 g7 (5 + M.length) 43 6 (.slice a7 (A.length + 1) c7) (A.length + 1) (encActs A ++ encAcx ⟨z.a, ad, cap⟩) ∧ Evo (5 + M.length) (5 + M.length + 1) (extc g5 w5 0) g7 (w5.alloc (.cells #[.int .i64 z.a.kind, .int .i64 z.a.key, .int .i64 z.a.to_, .bool z.a.v.there, .string z.a.v.bytes, .slice ad z.a.l.length cap] 43)) w7 := ⟨_, J6.out.row.grown ho hg (by simpa using hf)⟩
          have J7 : Hid (Inn w w7 (5 + L.length) g7 (.slice ao M.length co) M b5 ⟨yn, yt, ym, ya, some ⟨s2, off2, none⟩, ycap, yq⟩ (.slice a7 (A ++ [(⟨z.a, ad, cap⟩ : Acx)]).length c7) (A ++ [(⟨z.a, ad, cap⟩ : Acx)])) := hid (by
            refine ⟨J6.out.lst.frame hE (by omega) (.inr (Nat.le_refl _)) hH, J6.out.box.frame hE (by omega), ?_, fun u hu => ?_⟩
            · rw [encActs_append, List.length_append]
              simpa [encActs] using hR
            · rcases List.mem_append.1 hu with hu | hu
              · exact (J6.out.lists u hu).frame hE (by omega)
              · rw [List.mem_singleton] at hu; subst hu; exact F6.out.frame hE (by omega))
          have HAM2 := hid (show (A ++ [(⟨z.a, ad, cap⟩ : Acx)]).map (·.a) = (ya.take (m + 1)).map (·.a) from by
            rw [List.map_append, HAM.out, List.take_succ_eq_append_getElem hm2, List.map_append, HZ.out]; rfl)
          have hl7 : (A ++ [(⟨z.a, ad, cap⟩ : Acx)]).length = A.length + 1 := by simp
          rw [hl7] at J7
          clear ho hg hf hR hE J6 F6 hl7 d0 d1 d2 d3 d4 d5
          go_wp2
          go_roundw
          case rel => exact ⟨m + 1, g7, _, by omega, by go_num, HAM2, J7⟩
          case measure => simp [intOf]; omega
        · obtain rfl : m = ya.length := by omega
          have HAM2 := hid (show A.map (·.a) = ya.map (·.a) from by rw [HAM.out, List.take_length])
          have HAL := hid hAL
          have c3 : wr.cell? ⟨b5, 3, none⟩ = some (.slice yad ya.length ycap) := HJ.out.box.1.cell 3
          have c3f : wr.frozen? ⟨b5, 3, none⟩ = false := HJ.out.box.1.free 3
          clear hAL HAM
          go_upto_region 13 with (fail)
          have hst : Evo 4 5 g3 g3 wr (wr.setCell ⟨b5, 3, none⟩ (.slice au A.length cu)) := evo_store _ HJ.out.box.2
          have J5 := hid (HJ.out.lst.frame hst (by omega) (.inl (by omega)) (by omega))
          have X5 : Hid (LocC (wr.setCell ⟨b5, 3, none⟩ (.slice au A.length cu)) g3 4 b5 36 (encDnx ⟨yn, yt, ym, A, au, cu, 0⟩)) := hid ⟨HJ.out.box.1.set 3 _, HJ.out.box.2⟩
          have R5 := hid ((HJ.out.row.fix).frame hst (by omega))
          have L5 := hid (fun z hz => (HJ.out.lists z hz).frame hst (by omega))
          clear hst HJ c3 c3f
          generalize wr.setCell ⟨b5, 3, none⟩ (.slice au A.length cu) = w5 at *
          obtain ⟨d0, d1, d2, d3⟩ : w5.cell? ⟨b5, 0, none⟩ = some (.int .i64 yn) ∧ w5.cell? ⟨b5, 1, none⟩ = some (.int .i64 yt) ∧ w5.cell? ⟨b5, 2, none⟩ = some (.int .i64 ym) ∧ w5.cell? ⟨b5, 3, none⟩ = some (.slice au A.length cu) :=
            ⟨X5.out.1.cell 0, X5.out.1.cell 1, X5.out.1.cell 2, X5.out.1.cell 3⟩
          have EA := hid (Evo.alloc g3 0 w5 (.cells #[.int .i64 yn, .int .i64 yt, .int .i64 ym, .slice au A.length cu] 36))
          have J6 := hid (J5.out.quiet EA.out)
          have R6 := hid (R5.out.frame EA.out (by omega))
          have L6 := hid (fun z hz => (L5.out z hz).frame EA.out (by omega))
          have q1 : M.length + 1 ≤ maxLen := by unfold maxLen; have := HF.out.1; omega
          have q2 : (M.length + 1) * 48 ≤ 140737488355328 := by have := HF.out.1; omega
          clear EA J5 R5 L5 X5
          go_wp2_with (refine wpList_append2 rfl (.tmp 36) (.tmp 38) 27 rfl 36 i0 (.agg #[.int .i64 0, .int .i64 0, .int .i64 0, .slice none 0 0]) 4 48 Tryz.underlying27 hi hz0 hz1 hz2 rfl (by decide) (.slice ao M.length co) M.length (encDones M) rfl J6.out.row.1 ⟨w5.heap.size, 0, none⟩ 1 1 (encDnx ⟨yn, yt, ym, A, au, cu, 0⟩) rfl rfl (cells_new w5 (encDnx ⟨yn, yt, ym, A, au, cu, 0⟩) 36) (encDnx_one _) q1 q2 ?_)
          intro v7 w7 ho hg hf
          obtain ⟨a7, c7, rfl, -, -⟩ := ownsRow.sliceAt ho
          obtain ⟨g7, hR, hE⟩ : ∃ g7, RowC w7 g7 1 36 4 (.slice a7 (M.length + 1) c7) (M.length + 1) (encDones M ++ encDnx ⟨yn, yt, ym, A, au, cu, 0⟩) ∧ Evo 1 (1 + 1) (extc g3 w5 0) g7 (w5.alloc (.cells #[.int .i64 yn, .int .i64 yt, .int .i64 ym, .slice au A.length cu] 36)) w7 := ⟨_, J6.out.row.grown ho hg (by simpa using hf)⟩
          have J7 : Hid (Lst w w7 (5 + L.length) g7 (.slice a7 (M ++ [(⟨yn, yt, ym, A, au, cu, 0⟩ : Dnx)]).length c7) (M ++ [(⟨yn, yt, ym, A, au, cu, 0⟩ : Dnx)])) := hid (by
            refine ⟨J6.out.evo.trans (hE.wide (Nat.le_refl _) (by omega)), ?_, fun j hj => ?_, fun y hy => ?_, fun y hy => ?_⟩
            · rw [encDones_append, List.length_append]
              simpa [encDones] using hR
            · by_cases hj2 : j < M.length
              · rw [List.getElem_append_left hj2]
                exact (J6.out.acts j hj2).frame hE (by omega)
              · have hje : j = M.length := by simp at hj; omega
                subst hje
                rw [List.getElem_append_right (Nat.le_refl _)]
                simp only [Nat.sub_self, List.getElem_singleton]
                exact R6.out.frame hE (by omega)
            · rcases List.mem_append.1 hy with hy | hy
              · exact fun z hz => (J6.out.lists y hy z hz).frame hE (by omega)
              · rw [List.mem_singleton] at hy; subst hy
                exact fun z hz => (L6.out z hz).frame hE (by omega)
            · rcases List.mem_append.1 hy with hy | hy
              · exact J6.out.caps y hy
              · rw [List.mem_singleton] at hy; subst hy
                exact HAC.out)
          have HM2 := hid (show (M ++ [(⟨yn, yt, ym, A, au, cu, 0⟩ : Dnx)]).map Dnx.d = (L.take (k + 1)).map Dnx.d from by
            rw [List.map_append, HM.out, List.take_succ_eq_append_getElem hk2, List.map_append, HYK.out]
            show _ ++ [Dnx.d _] = _ ++ [Dnx.d _]
            unfold Dnx.d
            simp only [HAM2.out])
          have hl7 : (M ++ [(⟨yn, yt, ym, A, au, cu, 0⟩ : Dnx)]).length = M.length + 1 := by simp
          rw [hl7] at J7
          clear ho hg hf hR hE J6 R6 L6 hl7 d0 d1 d2 d3
          go_wp2
          go_roundw
          case rel => exact ⟨k + 1, g7, _, by omega, by go_num, HM2, J7⟩
          case measure => simp [intOf]; omega
    · obtain rfl : k = L.length := by omega
      have HD2 := hid (show LstPost N B w (.returned (.slice ao M.length co)) wr from by
        have hm : M.map Dnx.d = L.map Dnx.d := by rw [HM.out, List.take_length]
        obtain ⟨a', c', e', hs', -⟩ := ownsRow.sliceAt HI.out.row.1
        cases e'
        refine ⟨ao, co, M, rfl, ⟨hs', fun y hy => ⟨?_, fun z hz => (HI.out.lists y hy z hz).1⟩⟩, hm.trans HL.out, HI.out.evo.zeroed, by have := HF.out.1; omega, fun y hy => ?_, HI.out.caps⟩
        · obtain ⟨j, hj, rfl⟩ := List.mem_iff_getElem.1 hy
          exact (HI.out.acts j hj).1
        · have h1 : y.d ∈ L.map Dnx.d := by rw [← hm]; exact List.mem_map_of_mem hy
          obtain ⟨y0, hy0', he⟩ := List.mem_map.1 h1
          have ha : y0.acts.map (·.a) = y.acts.map (·.a) := congrArg Dn.acts he
          obtain ⟨q1, q2⟩ := HF.out.2 y0 hy0'
          refine ⟨by have := congrArg List.length ha; simp at this; omega, fun z hz => ?_⟩
          have h2 : z.a ∈ y0.acts.map (·.a) := by rw [ha]; exact List.mem_map_of_mem hz
          obtain ⟨z0, hz0', hze⟩ := List.mem_map.1 h2
          have := q2 z0 hz0'
          rw [hze] at this
          exact this)
      have HML := hid hML
      clear HI HM hML
      go_wp2
      go_ret
      exact HD2.out

end Go.Proofs.YtoiobhcgpajogadGreat

/- slices.Equal at pairs. -/
namespace Go.Proofs.YtoiobhcgpajogadGreat
open Go.RowKit

set_option maxHeartbeats 2000000 in
set_option maxRecDepth 100000 in
theorem equal_pairs (a1 a2 : Option Addr) (c1 c2 : Nat) (l1 l2 : List Ent) (w : World) (hn1 : l1.length ≤ 1000000) (hn2 : l2.length ≤ 1000000) (h1 : SliceAt w a1 (encEnts l1)) (h2 : SliceAt w a2 (encEnts l2)) :
    Calls Tryz.prog 29 #[.slice a1 l1.length c1, .slice a2 l2.length c2] w (SamePost l1 l2 w) := by
  have H1 := hid h1
  have H2 := hid h2
  clear h1 h2
  by_cases hlen : l1.length = l2.length
  · have z : ((l1.length : Int) != (l2.length : Int)) = false := by simp [hlen]
    have HL := hid hlen
    clear hlen
    go_enter Tryz.func29, Tryz.ntmps29
    go_wp2
    go_loopw [13] (fun i wr => ∃ k : Nat, k ≤ l1.length ∧ i = .int .i64 k ∧ Hid (l1.take k = l2.take k) ∧ Below w.heap.size w wr) (fun i _ => l1.length - (intOf i).toNat)
    case atStart => exact ⟨0, Nat.zero_le _, rfl, hid rfl, Below.refl _ _⟩
    case round =>
      obtain ⟨k, hk, rfl, HT, hb⟩ := hrel
      by_cases hlt : k < l1.length
      · have hlt2 : k < l2.length := by have := HL.out; omega
        obtain ⟨b1, o1, rfl, v1⟩ := H1.out.ents (by omega)
        obtain ⟨b2, o2, rfl, v2⟩ := H2.out.ents (by omega)
        obtain ⟨p1, p2, p3⟩ := v1 k hlt
        obtain ⟨q1, q2, q3⟩ := v2 k hlt2
        have m1 := World.block_lt_of_cell? w _ p1
        have m2 := World.block_lt_of_cell? w _ q1
        simp only at m1 m2
        have P1 := (below_cell hb m1).trans p1
        have P2 := (below_cell hb m1).trans p2
        have P3 := (below_cell hb m1).trans p3
        have Q1 := (below_cell hb m2).trans q1
        have Q2 := (below_cell hb m2).trans q2
        have Q3 := (below_cell hb m2).trans q3
        have HB := hid hb
        have s1 := hid (List.take_succ_eq_append_getElem hlt)
        have s2 := hid (List.take_succ_eq_append_getElem hlt2)
        have n1 := hid (List.getElem?_eq_getElem hlt)
        have n2 := hid (List.getElem?_eq_getElem hlt2)
        clear v1 v2 p1 p2 p3 q1 q2 q3 hb
        have hki : (k : Int) < (l1.length : Int) := by omega
        have hki2 : (k : Int) < (l2.length : Int) := by omega
        have hk0 : (0 : Int) ≤ (k : Int) := by omega
        generalize l1[k] = x at *
        generalize l2[k] = y at *
        by_cases he : x = y
        · subst he
          go_wp2_with fail
          go_quiet (fail)
          go_wp2
          go_roundw
          case rel => exact ⟨k + 1, by omega, by go_num, hid (by rw [s1.out, s2.out, HT.out]), HB.out.trans ((below_drewN _ _).mono HB.out.size)⟩
          case measure => simp [intOf]; omega
        · have hne : ¬ (l1 = l2) := by
            intro h
            subst h
            have := n1.out.symm.trans n2.out
            exact he (Option.some.inj this)
          have NE := hid hne
          clear hne n1 n2 s1 s2
          obtain ⟨xn, xt, xb⟩ := x
          obtain ⟨yn, yt, yb⟩ := y
          simp only at P1 P2 P3 Q1 Q2 Q3
          by_cases e1 : xn = yn
          · subst e1
            have g1 : (xn == xn) = true := by simp
            by_cases e2 : xt = yt
            · subst e2
              have g2 : (xt == xt) = true := by simp
              have g3 : (xb.toList == yb.toList) = false := by
                rw [toList_beq]
                simp
                rintro rfl
                exact he rfl
              clear he
              go_wp2_with fail
              go_quiet (fail)
              go_wp2
              go_ret
              exact ⟨false, rfl, by simpa using NE.out, HB.out.trans ((below_drewN _ _).mono HB.out.size)⟩
            · have g2 : (xt == yt) = false := by simpa using e2
              clear he e2
              go_wp2_with fail
              go_quiet (fail)
              go_wp2
              go_ret
              exact ⟨false, rfl, by simpa using NE.out, HB.out.trans ((below_drewN _ _).mono HB.out.size)⟩
          · have g1 : (xn == yn) = false := by simpa using e1
            clear he e1
            go_wp2_with fail
            go_quiet (fail)
            go_wp2
            go_ret
            exact ⟨false, rfl, by simpa using NE.out, HB.out.trans ((below_drewN _ _).mono HB.out.size)⟩
      · obtain rfl : k = l1.length := by omega
        have HB := hid hb
        clear hb
        have hq : l1 = l2 := by
          have := HT.out
          rw [List.take_length, HL.out, List.take_length] at this
          exact this
        have HQ := hid hq
        clear hq
        go_wp2
        go_ret
        exact ⟨true, rfl, by simp [HQ.out], HB.out⟩
  · have z : ((l1.length : Int) != (l2.length : Int)) = true := by simp; omega
    have HL := hid hlen
    clear hlen
    go_enter Tryz.func29, Tryz.ntmps29
    go_wp2
    go_ret
    exact ⟨false, rfl, by simp; intro h; exact HL.out (by rw [h]), Below.refl _ _⟩

end Go.Proofs.YtoiobhcgpajogadGreat

/- The walk of Replay. -/
namespace Go.Proofs.YtoiobhcgpajogadGreat
open Go.RowKit

theorem Tryz.infoSWorld : (Tryz.prog.info? 45).map (·.size) = some 16 := by kernel_rfl

/-- What Replay holds: the world's box, the result's. -/
structure RepAt (w wr : World) (f : Nat → Val) : Prop where
  box : Loc wr w.heap.size 45 (vals8 f)
  res : Loc wr (w.heap.size + 1) 45 (vals8 fun _ => Val.zero)
  below : Below w.heap.size w wr

theorem RepAt.keep {w wr wv : World} {f : Nat → Val} (h : RepAt w wr f) (k : Below wr.heap.size wr wv) : RepAt w wv f := ⟨h.box.keep k, h.res.keep k, h.below.trans (k.mono h.below.size)⟩
theorem RepAt.put {w wr : World} {f : Nat → Val} (h : RepAt w wr f) {n : Nat} (hn : n < 8) (v : Val) : RepAt w ((wr.setCell ⟨w.heap.size, n * 2, none⟩ (.bool v.there)).setCell ⟨w.heap.size, n * 2 + 1, none⟩ (.string v.bytes)) (upd f n v) :=
  ⟨h.box.set2 hn v, (h.res.other (by simp) _).other (by simp) _, (h.below.setCell (by simp) _).setCell (by simp) _⟩

theorem listW_start (w : Nat → Val) (n : Nat) (t : Int) : listW w (n : Int) t n = [] := by
  have : ∀ m : Nat, m ≤ n → listW w (n : Int) t m = [] := by
    intro m
    induction m with
    | zero => intro _; rfl
    | succ m ih =>
      intro h
      rw [listW_succ, ih (by omega), if_neg (by omega)]; rfl
  exact this n (Nat.le_refl _)

theorem listW_len (w : Nat → Val) (f t : Int) (m : Nat) : (listW w f t m).length ≤ m := by
  induction m with
  | zero => exact Nat.le_refl _
  | succ m ih =>
    rw [listW_succ, List.length_append]
    split <;> simp <;> omega

theorem listW_stop (w : Nat → Val) (f t : Int) {m : Nat} (hm : m ≤ 8) (h : 8 ≤ m ∨ t < m) : listW w f t 8 = listW w f t m := by
  rcases h with h | h
  · rw [show m = 8 by omega]
  · have : ∀ j : Nat, listW w f t (m + j) = listW w f t m := by
      intro j
      induction j with
      | zero => rfl
      | succ j ih => rw [← Nat.add_assoc, listW_succ, ih, if_neg (by omega), List.append_nil]
    have := this (8 - m)
    rwa [show m + (8 - m) = 8 by omega] at this

set_option maxHeartbeats 4000000 in
set_option maxRecDepth 100000 in
theorem serial_Replay (f : Nat → Val) (a : Option Addr) (cap : Nat) (l : List Acx) (w : World) (hn : l.length ≤ 1000000) (hl : ∀ z ∈ l, z.a.l.length ≤ 1000000) (hA : ActsF w a l) :
    Calls Tryz.prog 11 #[.agg (vals8 f).toArray, .slice a l.length cap] w (SheetPost (replay f (l.map (·.a))).1 (replay f (l.map (·.a))).2 w) := by
  have F : ∀ r, replay f (l.map (·.a)) = r → ∀ w', Below w.heap.size w w' → SheetPost (replay f (l.map (·.a))).1 (replay f (l.map (·.a))).2 w (.returned (.tuple #[.agg (vals8 r.1).toArray, .bool r.2])) w' := by
    rintro r rfl w' hb
    exact ⟨rfl, hb⟩
  have HF := hid F
  have HR := hid (show replay f (l.map (·.a)) = replayA (f, true) (l.map (·.a)) from rfl)
  have HA := hid hA
  have HL := hid hl
  clear F hA hl
  have hn63 : (l.length : Int) ≤ 9223372036854775807 := by omega
  generalize replay f (l.map (·.a)) = R at *
  go_enter Tryz.func11, Tryz.ntmps11
  go_wp2
  have R0 := hid (show RepAt w ((w.alloc (.cells (vals8 f).toArray 45)).alloc (.cells (vals8 fun _ => Val.zero).toArray 45)) f from ⟨(Loc.new w _ _).alloc _, Loc.at (n := w.heap.size + 1) _ _ _ (by simp), ((Below.refl w.heap.size w).alloc (Nat.le_refl _) _).alloc (by simp) _⟩)
  go_loopw [6, 13] (fun o i wr => ∃ (k : Nat) (r : (Nat → Val) × Bool), k ≤ l.length ∧ i = .int .i64 k ∧ o = .bool r.2 ∧ Hid (R = replayA r ((l.drop k).map (·.a))) ∧ Hid (RepAt w wr r.1)) (fun _ i _ => l.length - (intOf i).toNat)
  case atStart => exact ⟨0, (f, true), Nat.zero_le _, rfl, rfl, hid (by rw [HR.out]; rfl), R0⟩
  case round =>
    obtain ⟨k, ⟨rf, rb⟩, hk, rfl, rfl, HQ, H⟩ := hrel
    clear R0 HR
    by_cases hlt : k < l.length
    · obtain ⟨sb, off, rfl, hsb, hf⟩ := (HA.out.below H.out.below).facts (by omega)
      obtain ⟨f0, f1, f2, f3, f4, f5, hfl⟩ := hf k hlt
      have hst : R = if l[k].a.key < 0 ∨ 8 ≤ l[k].a.key then (rf, false) else replayA (stepA (rf, rb) l[k].a) ((l.drop (k + 1)).map (·.a)) := by
        rw [HQ.out, List.drop_eq_getElem_cons hlt, List.map_cons, replayA]
      have hz8 := HL.out l[k] (List.getElem_mem _)
      clear hf
      generalize l[k] = z at *
      have HFL := hid hfl
      have HST := hid hst
      have hki : (k : Int) < (l.length : Int) := by omega
      have hk0 : (0 : Int) ≤ (k : Int) := by omega
      clear hfl hst HQ
      simp only at H
      go_upto_region 5 with (fail)
      have H1 := hid (H.out.keep ((Below.refl _ _).alloc (Nat.le_refl _) (.cells #[.int .i64 z.a.kind, .int .i64 z.a.key, .int .i64 z.a.to_, .bool z.a.v.there, .string z.a.v.bytes, .slice z.ad z.a.l.length z.cap] 43)))
      have Z1 : Hid (Loc (wr.alloc (.cells #[.int .i64 z.a.kind, .int .i64 z.a.key, .int .i64 z.a.to_, .bool z.a.v.there, .string z.a.v.bytes, .slice z.ad z.a.l.length z.cap] 43)) wr.heap.size 43 [.int .i64 z.a.kind, .int .i64 z.a.key, .int .i64 z.a.to_, .bool z.a.v.there, .string z.a.v.bytes, .slice z.ad z.a.l.length z.cap]) := hid (Loc.new wr _ _)
      have S1 := hid (sliceAt_below HFL.out ((Below.refl _ _).alloc (Nat.le_refl _) (.cells #[.int .i64 z.a.kind, .int .i64 z.a.key, .int .i64 z.a.to_, .bool z.a.v.there, .string z.a.v.bytes, .slice z.ad z.a.l.length z.cap] 43)))
      clear H HFL f0 f1 f2 f3 f4 f5
      generalize wr.alloc (.cells #[.int .i64 z.a.kind, .int .i64 z.a.key, .int .i64 z.a.to_, .bool z.a.v.there, .string z.a.v.bytes, .slice z.ad z.a.l.length z.cap] 43) = w1 at *
      generalize wr.heap.size = b8 at *
      obtain ⟨p0, p1, p2, p3, p4, p5⟩ : w1.cell? ⟨b8, 0, none⟩ = some (.int .i64 z.a.kind) ∧ w1.cell? ⟨b8, 1, none⟩ = some (.int .i64 z.a.key) ∧ w1.cell? ⟨b8, 2, none⟩ = some (.int .i64 z.a.to_) ∧ w1.cell? ⟨b8, 3, none⟩ = some (.bool z.a.v.there) ∧ w1.cell? ⟨b8, 4, none⟩ = some (.string z.a.v.bytes) ∧ w1.cell? ⟨b8, 5, none⟩ = some (.slice z.ad z.a.l.length z.cap) :=
        ⟨Z1.out.cell 0, Z1.out.cell 1, Z1.out.cell 2, Z1.out.cell 3, Z1.out.cell 4, Z1.out.cell 5⟩
      by_cases hkey : z.a.key < 0 ∨ 8 ≤ z.a.key
      · have CK := hid (fun W => chain_Key_out z.a.key W hkey)
        have HE := hid (show R = (rf, false) from by rw [HST.out, if_pos hkey])
        clear hkey HST
        go_wp2_with fail
        refine (CK.out _).mono ?_
        rintro e w2 ⟨rfl, rfl⟩
        have H2 := hid H1.out
        clear CK
        go_wp2_with (first
          | refine wpList_load_mid rfl 45 (.tmp 2) rfl w.heap.size 0 rfl (vals8 rf) _ H2.out.box.range Tryz.underlying45 rfl Tryz.infoSWorld ?_
          | (refine wpList_store_mid rfl 45 (.tmp 4) (.tmp 21) rfl (w.heap.size + 1) 0 (vals8 rf).toArray rfl rfl (H2.out.res.there8 _) Tryz.infoSWorld (vals8_one _) ?_
             have L3 := hid (H2.out.res.setAll (vs := (vals8 rf).toArray.toList) rfl)
             have B3 := hid (Below.setCells' (Nat.le_succ w.heap.size) (vals8 rf).toArray.toList 0 H2.out.below)
             generalize w1.setCells (w.heap.size + 1) 0 (vals8 rf).toArray.toList = w3 at *))
        have hr := run_loadVar_mid (P := Tryz.prog) w3 (w.heap.size + 1) 0 45 (vals8 rf) _ L3.out.range Tryz.underlying45 rfl Tryz.infoSWorld
        refine bodyPost_ret (v := .tuple #[.agg (vals8 rf).toArray, .bool false]) (by simp [results, Tryz.results11, asAddr, hr]) rfl ?_
        exact HF.out _ HE.out _ B3.out
      · obtain ⟨n, hn8, hxn⟩ : ∃ n : Nat, n < 8 ∧ z.a.key = n := ⟨z.a.key.toNat, by omega, by omega⟩
        have CK := hid (fun W => chain_Key_in z.a.key W (by omega))
        have HT := hid (show R = replayA (stepA (rf, rb) z.a) ((l.drop (k + 1)).map (·.a)) from by rw [HST.out, if_neg hkey])
        have hn0 : (0 : Int) ≤ (n : Int) := by omega
        have hn8' : (n : Int) < 8 := by omega
        rw [hxn] at p1 CK
        have HXN := hid hxn
        clear hkey HST hxn
        go_wp2_with fail
        refine (CK.out _).mono ?_
        rintro e w2 ⟨rfl, rfl⟩
        clear CK
        have m1 := (H1.out.box.cell (n * 2)).trans (vals8_get _ n hn8).1
        have m2 := (H1.out.box.cell (n * 2 + 1)).trans (vals8_get _ n hn8).2
        have r1 := H1.out.box.free (n * 2)
        have r2 := H1.out.box.free (n * 2 + 1)
        by_cases h2 : z.a.kind = 2
        · have HT2 := hid (show R = replayA (rf, rb && decide (rf n = z.a.v)) ((l.drop (k + 1)).map (·.a)) from by rw [HT.out]; unfold stepA; rw [if_pos h2, HXN.out]; rfl)
          rw [h2] at p0
          clear h2 HT
          cases rb with
          | false =>
            have HT3 := hid (show R = replayA (rf, false) ((l.drop (k + 1)).map (·.a)) from HT2.out)
            clear HT2
            go_wp2_with fail
            go_quiet (fail)
            go_wp2
            go_roundw
            case rel => exact ⟨k + 1, (rf, false), by omega, by go_num, rfl, HT3, hid (H1.out.keep (below_drewN _ _))⟩
            case measure => simp [intOf]; omega
          | true =>
            by_cases he : rf n = z.a.v
            · have HT3 := hid (show R = replayA (rf, true) ((l.drop (k + 1)).map (·.a)) from by rw [HT2.out, decide_eq_true he]; rfl)
              rw [he] at m1 m2
              clear HT2 he
              go_wp2_with fail
              go_quiet (fail)
              go_wp2
              go_roundw
              case rel => exact ⟨k + 1, (rf, true), by omega, by go_num, rfl, HT3, hid (H1.out.keep (below_drewN _ _))⟩
              case measure => simp [intOf]; omega
            · have HT3 := hid (show R = replayA (rf, false) ((l.drop (k + 1)).map (·.a)) from by rw [HT2.out, decide_eq_false he]; rfl)
              clear HT2
              generalize rf n = y at *
              by_cases e2 : y.there = z.a.v.there
              · have g2 : (z.a.v.there == z.a.v.there) = true := by simp
                have g3 : (y.bytes.toList == z.a.v.bytes.toList) = false := by
                  rw [toList_beq]
                  simp
                  intro hb
                  apply he
                  obtain ⟨yt, yb⟩ := y
                  simp only at e2 hb
                  rw [e2, hb]
                rw [e2] at m1
                clear he e2
                go_wp2_with fail
                go_quiet (fail)
                go_wp2
                go_roundw
                case rel => exact ⟨k + 1, (rf, false), by omega, by go_num, rfl, HT3, hid (H1.out.keep (below_drewN _ _))⟩
                case measure => simp [intOf]; omega
              · have g2 : (y.there == z.a.v.there) = false := by simpa using e2
                clear he e2
                go_wp2_with fail
                go_quiet (fail)
                go_wp2
                go_roundw
                case rel => exact ⟨k + 1, (rf, false), by omega, by go_num, rfl, HT3, hid (H1.out.keep (below_drewN _ _))⟩
                case measure => simp [intOf]; omega
        by_cases h3 : z.a.kind = 3 ∨ z.a.kind = 4
        · have HT2 := hid (show R = replayA (upd rf n z.a.v, rb) ((l.drop (k + 1)).map (·.a)) from by rw [HT.out]; unfold stepA; rw [if_neg h2, if_pos h3, HXN.out]; rfl)
          have o2 : (z.a.kind == 2) = false := by simpa using h2
          clear h2 HT
          rcases h3 with h3 | h3
          all_goals (
            rw [h3] at p0
            clear h3 o2
            go_wp2
            go_roundw
            case rel => exact ⟨k + 1, (upd rf n z.a.v, rb), by omega, by go_num, rfl, HT2, hid (H1.out.put hn8 z.a.v)⟩
            case measure => simp [intOf]; omega)
        by_cases h5 : z.a.kind = 5
        · have HT2 := hid (show R = replayA (rf, rb && decide (listW rf n z.a.to_ 8 = z.a.l)) ((l.drop (k + 1)).map (·.a)) from by rw [HT.out]; unfold stepA; rw [if_neg h2, if_neg h3, if_pos h5, HXN.out])
          rw [h5] at p0
          clear h2 h3 h5 HT m1 m2 r1 r2
          have HT1 := H1.out.box.lt
          have hb8 := Z1.out.lt
          obtain ⟨j0, hj, hy0, hy1, hy2⟩ := info_parts Tryz.infoPair
          have N0 := hid (World.ownsRow_nil w1 w1.heap.size 98 3)
          go_wp2
          go_loopw [9, 10] (fun o i wr => ∃ m : Nat, n ≤ m ∧ m ≤ 8 ∧ i = .int .i64 m ∧ Hid (wr.ownsRow w1.heap.size 98 3 o (listW rf n z.a.to_ m).length (encEnts (listW rf n z.a.to_ m))) ∧ Hid (Below w1.heap.size w1 wr)) (fun _ i _ => 8 - (intOf i).toNat)
          case atStart => exact ⟨n, Nat.le_refl _, by omega, rfl, hid (by rw [listW_start]; exact N0.out), hid (Below.refl _ _)⟩
          case round =>
            obtain ⟨m, hm1, hm2, rfl, HO, HB⟩ := hrel
            clear N0
            by_cases h7 : z.a.to_ ≤ 7
            all_goals (
              have H2 := hid (H1.out.keep HB.out)
              have Z2 := hid (Z1.out.keep HB.out)
              have z2 : wr.cell? ⟨b8, 2, none⟩ = some (.int .i64 z.a.to_) := Z2.out.cell 2
              by_cases hlt2 : (m : Int) ≤ min z.a.to_ 7
              · have hm8 : m < 8 := by omega
                have m1 := (H2.out.box.cell (m * 2)).trans (vals8_get _ m hm8).1
                have m2 := (H2.out.box.cell (m * 2 + 1)).trans (vals8_get _ m hm8).2
                have hmi : (m : Int) < 8 := by omega
                have hm0 : (0 : Int) ≤ (m : Int) := by omega
                go_upto_region 18 with (fail)
                have hle := listW_len rf n z.a.to_ m
                have hsu := listW_succ rf n z.a.to_ m
                obtain ⟨ao, co, rfl, -, -⟩ := ownsRow.sliceAt HO.out
                cases hw : (rf m).there with
                | false =>
                  have HSU := hid (show listW rf n z.a.to_ (m + 1) = listW rf n z.a.to_ m from by rw [hsu, if_neg (by rw [hw]; simp), List.append_nil])
                  rw [hw] at m1
                  clear hsu hw H2 Z2
                  go_wp2_with fail
                  go_roundw
                  case rel => exact ⟨m + 1, by omega, by omega, by go_num, hid (by rw [HSU.out]; exact HO.out), HB⟩
                  case measure => simp [intOf]; omega
                | true =>
                  have HSU := hid (show listW rf n z.a.to_ (m + 1) = listW rf n z.a.to_ m ++ [⟨(m : Int), rf m⟩] from by rw [hsu, if_pos ⟨by omega, by omega, hw⟩])
                  rw [hw] at m1
                  have hwz := HB.out.size
                  generalize hye : (⟨(m : Int), rf m⟩ : Ent) = ye at *
                  have HYE := hid (show encEnt ye = [.int .i64 m, .bool true, .string (rf m).bytes] from by subst hye; rw [← hw]; rfl)
                  have q1 : (listW rf n z.a.to_ m).length + 1 ≤ maxLen := by unfold maxLen; omega
                  have q2 : ((listW rf n z.a.to_ m).length + 1) * 32 ≤ 140737488355328 := by omega
                  clear hsu hw H2 Z2 hle hye
                  generalize listW rf n z.a.to_ m = out at *
                  go_wp2_with (refine wpList_append_own _ rfl (.tmp 59) (.tmp 65) 41 rfl w1.heap.size 98 j0 (.agg #[.int .i64 0, .bool false, .string ByteArray.empty]) 3 32 Tryz.underlying41 hj hy0 hy1 hy2 rfl (by decide) (.slice ao out.length co) out.length (encEnts out) rfl (HO.out.alloc _) ⟨wr.heap.size, 0, none⟩ 1 1 (encEnt ye) rfl (by rw [HYE.out]; rfl) ?c1 (encEnt_one _) q1 q2 ?c5 ?_)
                  case c1 => rw [HYE.out]; first | exact cells_new wr [.int .i64 m, .bool true, .string (rf m).bytes] 98 | exact fun _ _ h => h
                  case c5 => first | exact hwz | omega | (simp; omega)
                  intro v' w3 hown' hgrow _
                  have HB2 := hid ((HB.out.alloc HB.out.size (.cells #[.int .i64 m, .bool true, .string (rf m).bytes] 98)).grown hgrow (by simp; omega) (fun j hj => (HO.out.lt j hj).1))
                  have HO2 := hid (show w3.ownsRow w1.heap.size 98 3 v' (out ++ [ye]).length (encEnts (out ++ [ye])) by rw [encEnts_append, List.length_append]; simpa [encEnts] using hown')
                  clear hown' hgrow
                  go_wp2
                  go_roundw
                  case rel => exact ⟨m + 1, by omega, by omega, by go_num, hid (by rw [HSU.out]; exact HO2.out), HB2⟩
                  case measure => simp [intOf]; omega
              · have HLW := hid (listW_stop rf n z.a.to_ hm2 (by omega))
                have hle := listW_len rf n z.a.to_ m
                obtain ⟨ao, co, rfl, hso, -⟩ := ownsRow.sliceAt HO.out
                have HSO := hid hso
                have HSZ := hid (sliceAt_below S1.out HB.out)
                have z5 : wr.cell? ⟨b8, 5, none⟩ = some (.slice z.ad z.a.l.length z.cap) := Z2.out.cell 5
                clear hso HO
                cases rb with
                | false =>
                  have HT3 := hid (show R = replayA (rf, false) ((l.drop (k + 1)).map (·.a)) from HT2.out)
                  clear HT2 Z2
                  have hlt3 : (decide ((m : Int) ≤ min z.a.to_ 7)) = false := decide_eq_false hlt2
                  go_wp2
                  go_roundw
                  case rel => exact ⟨k + 1, (rf, false), by omega, by go_num, rfl, HT3, H2⟩
                  case measure => simp [intOf]; omega
                | true =>
                  have HT3 := hid (show ∀ q : Bool, (q = true ↔ listW rf n z.a.to_ m = z.a.l) → R = replayA (rf, q) ((l.drop (k + 1)).map (·.a)) from fun q hq => by
                    rw [HT2.out, HLW.out]
                    by_cases e : listW rf n z.a.to_ m = z.a.l
                    · rw [decide_eq_true e, hq.2 e]; rfl
                    · rw [decide_eq_false e, show q = false by cases q; rfl; exact absurd (hq.1 rfl) e]; rfl)
                  clear HT2 Z2 HLW
                  have hlt3 : (decide ((m : Int) ≤ min z.a.to_ 7)) = false := decide_eq_false hlt2
                  generalize listW rf n z.a.to_ m = out at *
                  go_wp2_with fail
                  (with_reducible refine (equal_pairs ao z.ad co z.cap out z.a.l wr (by omega) hz8 HSO.out HSZ.out).mono ?_)
                  rintro e w' ⟨bq, rfl, hiff, hb⟩
                  have HQ2 := hid (HT3.out bq hiff)
                  have H3 := hid (H2.out.keep hb)
                  clear hb hiff H2 HT3
                  go_wp2
                  go_roundw
                  case rel => exact ⟨k + 1, (rf, _), by omega, by go_num, rfl, HQ2, H3⟩
                  case measure => simp [intOf]; omega)
        · have HT2 := hid (show R = replayA (rf, rb) ((l.drop (k + 1)).map (·.a)) from by rw [HT.out]; unfold stepA; rw [if_neg h2, if_neg h3, if_neg h5])
          have o2 : (z.a.kind == 2) = false := by simpa using h2
          have o3 : (z.a.kind == 3) = false := by simp; omega
          have o4 : (z.a.kind == 4) = false := by simp; omega
          have o5 : (z.a.kind == 5) = false := by simpa using h5
          clear h2 h3 h5 HT
          go_wp2
          go_roundw
          case rel => exact ⟨k + 1, (rf, rb), by omega, by go_num, rfl, HT2, H1⟩
          case measure => simp [intOf]; omega
    · obtain rfl : k = l.length := by omega
      have HE := hid (show R = (rf, rb) from by rw [HQ.out, List.drop_length]; rfl)
      clear HQ
      simp only at H
      go_wp2_with (first
        | refine wpList_load_mid rfl 45 (.tmp 2) rfl w.heap.size 0 rfl (vals8 rf) _ H.out.box.range Tryz.underlying45 rfl Tryz.infoSWorld ?_
        | (refine wpList_store_mid rfl 45 (.tmp 4) (.tmp 75) rfl (w.heap.size + 1) 0 (vals8 rf).toArray rfl rfl (H.out.res.there8 _) Tryz.infoSWorld (vals8_one _) ?_
           have L3 := hid (H.out.res.setAll (vs := (vals8 rf).toArray.toList) rfl)
           have B3 := hid (Below.setCells' (Nat.le_succ w.heap.size) (vals8 rf).toArray.toList 0 H.out.below)
           generalize wr.setCells (w.heap.size + 1) 0 (vals8 rf).toArray.toList = w3 at *))
      have hr := run_loadVar_mid (P := Tryz.prog) w3 (w.heap.size + 1) 0 45 (vals8 rf) _ L3.out.range Tryz.underlying45 rfl Tryz.infoSWorld
      refine bodyPost_ret (v := .tuple #[.agg (vals8 rf).toArray, .bool rb]) (by simp [results, Tryz.results11, asAddr, hr]) rfl ?_
      exact HF.out _ HE.out _ B3.out

end Go.Proofs.YtoiobhcgpajogadGreat

/- A book under other colours of what is not its own. -/
namespace Go.Proofs.YtoiobhcgpajogadGreat
open Go.RowKit

section
variable {w : World} {g g' : Nat → Nat} {p : Nat}

theorem LocC.recolor {q b : Nat} {T : TypeId} {cs : List Value} (h : LocC w g q b T cs) (e : ∀ j, p ≤ g j → g' j = g j) (hq : p ≤ q) : LocC w g' q b T cs :=
  ⟨h.1, (e b (by rw [h.2]; exact hq)).trans h.2⟩
theorem RowC.recolor {q e0 size : Nat} {v : Value} {n : Nat} {cells : List Value} (h : RowC w g q e0 size v n cells) (e : ∀ j, p ≤ g j → g' j = g j) (hq : p ≤ q) : RowC w g' q e0 size v n cells :=
  ⟨h.1, fun r hr => (e r (by rw [h.2 r hr]; exact hq)).trans (h.2 r hr)⟩
theorem FixC.recolor {q : Nat} {a : Option Addr} {cells : List Value} (h : FixC w g q a cells) (e : ∀ j, p ≤ g j → g' j = g j) (hq : p ≤ q) : FixC w g' q a cells :=
  ⟨h.1, fun ad ha => ⟨(h.2 ad ha).1, (e _ (by rw [(h.2 ad ha).2]; exact hq)).trans (h.2 ad ha).2⟩⟩
theorem FixL.recolor {q : Nat} {z : Acx} (h : FixL w g q z) (e : ∀ j, p ≤ g j → g' j = g j) (hq : p ≤ q) : FixL w g' q z := ⟨h.1.recolor e hq, h.2⟩

theorem BookAt.recolor {b nx N : Nat} {B : Bk} (h : BookAt w g p b nx N B) (e : ∀ j, p ≤ g j → g' j = g j) : BookAt w g' p b nx N B := by
  obtain ⟨v, L, x, h⟩ := h
  refine ⟨v, L, x, ⟨h.loc.recolor e (Nat.le_refl _), h.row.recolor e (by omega), h.isL, fun y hy => ?_, h.finApart, fun s hs d hd => ?_, h.apart, h.few, h.nxt⟩⟩
  · have k := h.fin y hy
    exact ⟨k.col, k.acts.recolor e (by have := k.col; omega), fun z hz => (k.lists z hz).recolor e (by omega), k.len⟩
  · have k := h.one s hs d hd
    exact ⟨k.loc.recolor e (by have := k.col; omega), k.row.recolor e (by have := k.col; omega), k.isA, fun z hz => (k.lists z hz).recolor e (by omega), k.col, k.len⟩

end

/-- A hall steps, and then a book is told. -/
theorem noted_two {B0 h b nx N : Nat} {g g1 g2 : Nat → Nat} {w0 w w1 w2 : World} {H1 : Ht} {B : Bk} (hB : Base B0 w0 g w) (hE1 : Evo 1 18 g g1 w w1) (hH : HallAt w1 g1 1 h H1)
    (hE2 : Evo 20 nx (paint g1 w 0) g2 w1 w2) (hK : BookAt w2 g2 20 b nx N B) : ∃ g3, HallAt w2 g3 1 h H1 ∧ BookAt w2 g3 20 b nx N B ∧ Base B0 w0 g3 w2 := by
  have hM := hE2.mix (by omega)
  refine ⟨_, hH.frame hM (by omega), hK.recolor (fun j hj => ?_), (hB.step hE1 (by omega)).step hM (by omega)⟩
  by_cases e : j < w1.heap.size
  · have h2 := hE2.col j e
    show (if j < w1.heap.size then g1 j else g2 j) = g2 j
    rw [if_pos e, h2]
    unfold paint at h2 ⊢
    by_cases e2 : j < w.heap.size
    · rw [if_pos e2]
    · rw [if_neg e2] at h2; omega
  · show (if j < w1.heap.size then g1 j else g2 j) = g2 j
    rw [if_neg e]

end Go.Proofs.YtoiobhcgpajogadGreat

/- What noted keeps: plain. -/
namespace Go.Proofs.YtoiobhcgpajogadGreat
open Go.RowKit

/-- A hall and its book take a step. -/
def stepN (r : Ht × Bk) (x : St) : Ht × Bk := ((doH r.1 x).2, noteK r.2 x (doH r.1 x).1 r.1.v.tab.last)
def runN (r : Ht × Bk) (l : List St) : Ht × Bk := l.foldl stepN r
def notedS (l : List St) : List Dn := (runN (Ht.new, Bk.new) l).2.l

theorem runN_take (r : Ht × Bk) (l : List St) {k : Nat} (hk : k < l.length) : runN r (l.take (k + 1)) = stepN (runN r (l.take k)) l[k] := by
  unfold runN
  rw [List.take_succ_eq_append_getElem hk, List.foldl_append]
  rfl

/-- What stands behind each step. -/
structure GoodN (r : Ht × Bk) : Prop where
  sound : r.1.v.Sound
  begs : BegsH r.1
  kept : Kept r.1 r.2

theorem GoodN.start : GoodN (Ht.new, Bk.new) := ⟨Vt.new_sound, BegsH.start, Kept.start⟩

theorem deed_beg0 {H : Ht} (hT : H.v.tab.Ok) (hB : BegsH H) {n : Nat} (hn : n < 5) {D : Ded} (hD : H.seats n = some D) : 0 ≤ D.beg := by
  have h1 := (hB n hn D hD).1 0 (by omega)
  have h2 := (hT.1 0).1.2.2
  omega

theorem HallAt.deedsOk0 {w : World} {g : Nat → Nat} {p h : Nat} {H : Ht} (k : HallAt w g p h H) : ∀ s, s < 5 → ∀ D, H.seats s = some D → D.Ok := by
  obtain ⟨vp, ds, k⟩ := k
  exact fun s hs D hD => (k.deed s hs D hD).1

theorem GoodN.step {r : Ht × Bk} (h : GoodN r) (hH : r.1.v.Ok) (hT : r.1.v.tab.Ok) (hDs : ∀ s, s < 5 → ∀ D, r.1.seats s = some D → D.Ok) (x : St) : GoodN (stepN r x) :=
  ⟨doH_sound hH hT h.sound x, doH_begs hH hT h.sound h.begs hDs x, kept_step h.kept hH hT h.sound h.begs hDs (fun _ hs _ hD => deed_beg0 hT h.begs hs hD) x⟩

end Go.Proofs.YtoiobhcgpajogadGreat
