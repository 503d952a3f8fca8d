/- A book: the walks of New, note, end. -/
import Derived.Test.YtoiobhcgpajogadGreatBook1
import Derived.Test.YtoiobhcgpajogadGreatCodec1
namespace Go.Proofs.YtoiobhcgpajogadGreat
open Go.RowKit

theorem Tryz.infoAct : (Tryz.prog.info? 43).map (fun i => (i.zero, i.size, i.bytes)) = some (some (.agg #[.int .i64 0, .int .i64 0, .int .i64 0, .bool false, .string ByteArray.empty, .slice none 0 0]), 6, 72) := by kernel_rfl
theorem Tryz.infoDone : (Tryz.prog.info? 36).map (fun i => (i.zero, i.size, i.bytes)) = some (some (.agg #[.int .i64 0, .int .i64 0, .int .i64 0, .slice none 0 0]), 4, 48) := by kernel_rfl

theorem encAcx_one (z : Acx) : ∀ u ∈ encAcx z, u.oneCell' = true := by
  intro u hu
  simp only [encAcx, List.mem_cons, List.not_mem_nil, or_false] at hu
  rcases hu with rfl | rfl | rfl | rfl | rfl | rfl <;> rfl

theorem encDnx_one (z : Dnx) : ∀ u ∈ encDnx z, u.oneCell' = true := by
  intro u hu
  simp only [encDnx, List.mem_cons, List.not_mem_nil, or_false] at hu
  rcases hu with rfl | rfl | rfl | rfl <;> rfl

theorem book_New (g : Nat → Nat) (p : Nat) (w : World) : Calls Tryz.prog 19 #[] w fun e w' => ∃ b g', e = .returned (.pointer (some ⟨b, 0, none⟩)) ∧ Evo 0 0 g g' w w' ∧ w.heap.size ≤ b ∧ BookAt w' g' p b (p + 3) 0 Bk.new := by
  go_enter Tryz.func19, Tryz.ntmps19
  go_wp2_with fail
  go_ret
  have hE := Evo.alloc g p w (.cells #[.pointer none, .pointer none, .pointer none, .pointer none, .pointer none, .slice none 0 0] 104)
  refine ⟨w.heap.size, extc g w p, rfl, hE, Nat.le_refl _, .slice none 0 0, [], fun _ => ⟨0, 0, .slice none 0 0, []⟩, LocC.new g p w 104 [.pointer none, .pointer none, .pointer none, .pointer none, .pointer none, .slice none 0 0], ⟨World.ownsRow_nil _ 0 36 4, nofun⟩, rfl, fun y hy => (by cases hy), fun y hy => (by cases hy), fun s hs d hd => (by cases hd), fun s t hs ht hne d e hd => (by cases hd), Nat.le_refl _, Nat.le_refl _⟩

section
variable {lo hi : Nat} {w w' : World} {g g' : Nat → Nat} {p b nx N : Nat} {B : Bk} {v : Value} {L : List Dnx} {x : Nat → Sn}
/-- A seat's deed is done: its acts stand in the list, the seat is free. -/
theorem BookC.ended (h : BookC w g p b nx N B v L x) {s : Nat} (hs : s < 5) {d : Dn} (hd : B.seats s = some d) {v' : Value} {y : Dnx} (hr : RowC w' g' (p + 1) 36 4 v' (L.length + 1) (encDones L ++ encDnx y)) (e : Evo (p + 1) (p + 2) g g' w w')
    (hy : FinC w g p nx N y y.q) (hq : y.q = (x s).cl + 1) :
    BookC ((w'.setCell ⟨b, 5, none⟩ v').setCell ⟨b, s, none⟩ (.pointer none)) g' p b nx (N + 1) ⟨upd B.seats s none, B.l ++ [y.d]⟩ v' (L ++ [y]) (upd x s (x s)) ∧ Evo p (p + 1) g' g' w' ((w'.setCell ⟨b, 5, none⟩ v').setCell ⟨b, s, none⟩ (.pointer none)) := by
  have hl := h.loc.frame e (by omega)
  have l5 := hl.set 5 v'
  have e2 : Evo p (p + 1) g' g' w' ((w'.setCell ⟨b, 5, none⟩ v').setCell ⟨b, s, none⟩ (.pointer none)) := (evo_store _ hl.2).trans (evo_store _ l5.2)
  have h0 := h.nxt
  have e3 : Evo p (p + 2) g g' w ((w'.setCell ⟨b, 5, none⟩ v').setCell ⟨b, s, none⟩ (.pointer none)) := (e.wide (by omega) (by omega)).trans (e2.wide (by omega) (by omega))
  have hfin : ∀ z ∈ L ++ [y], FinC w g p nx N z z.q := fun z hz => by
    rcases List.mem_append.1 hz with hz | hz
    · exact h.fin z hz
    · rw [List.mem_singleton] at hz; subst hz; exact hy
  refine ⟨⟨?_, ?_, ?_, fun z hz => ((hfin z hz).frame e3 (by have := (hfin z hz).col; omega)).more (Nat.le_refl _) (by omega), fun z hz t ht d2 hd2 => ?_, fun t ht d2 hd2 => ?_, fun t t2 ht ht2 hne d2 d3 hd2 hd3 => ?_, by have := h.few; simp; omega, h0⟩, e2⟩
  · have := l5.set s (.pointer none)
    rw [bookL_list B x v v' (B.l ++ [y.d])] at this
    have e4 := bookL_set ⟨B.seats, B.l ++ [y.d]⟩ x v' hs none (x s)
    simp only at e4
    rw [e4] at this
    exact this
  · have := hr.frame e2 (by omega)
    rw [List.length_append, encDones_append]
    simpa [encDones] using this
  · rw [List.map_append, h.isL]; rfl
  · have et : t ≠ s := by rintro rfl; simp only [upd_same] at hd2; cases hd2
    rw [upd_other _ _ et]
    simp only [upd_other _ _ et] at hd2
    rcases List.mem_append.1 hz with hz | hz
    · exact h.finApart z hz t ht d2 hd2
    · rw [List.mem_singleton] at hz; subst hz
      have := h.apart s t hs ht (Ne.symm et) d d2 hd hd2
      omega
  · have et : t ≠ s := by rintro rfl; simp only [upd_same] at hd2; cases hd2
    rw [upd_other _ _ et]
    simp only [upd_other _ _ et] at hd2
    have k := h.one t ht d2 hd2
    exact (k.frame e3 (by have := k.col; omega)).more (Nat.le_refl _) (by omega)
  · have et : t ≠ s := by rintro rfl; simp only [upd_same] at hd2; cases hd2
    have et2 : t2 ≠ s := by rintro rfl; simp only [upd_same] at hd3; cases hd3
    rw [upd_other _ _ et, upd_other _ _ et2]
    simp only [upd_other _ _ et] at hd2
    simp only [upd_other _ _ et2] at hd3
    exact h.apart t t2 ht ht2 hne d2 d3 hd2 hd3
end

theorem RowC.fix {w : World} {g : Nat → Nat} {q e size n c : Nat} {a : Option Addr} {cells : List Value} (h : RowC w g q e size (.slice a n c) n cells) : FixC w g q a cells := by
  obtain ⟨a', c', e', hs, ho⟩ := ownsRow.sliceAt h.1
  cases e'
  exact ⟨hs, fun ad e => ⟨(h.1.lt _ (ho ad e)).2, h.2 _ (ho ad e)⟩⟩

def BookPost (g : Nat → Nat) (p b nx N : Nat) (B : Bk) (w : World) (e : Ending) (w' : World) : Prop :=
  e = .returned (.tuple #[]) ∧ ∃ g', BookAt w' g' p b nx (N + 1) B ∧ Evo p nx g g' w w'

set_option maxHeartbeats 2000000 in
set_option maxRecDepth 100000 in
theorem book_note (g : Nat → Nat) (p b nx N : Nat) (B : Bk) (s : Nat) (z : Acx) (w : World) (hs : s < 5) (hN : N < 1000000) (hz : FixL w g (p + 2) z) (hB : BookAt w g p b nx N B) :
    Calls Tryz.prog 34 #[.pointer (some ⟨b, 0, none⟩), .int .i64 s, .agg #[.int .i64 z.a.kind, .int .i64 z.a.key, .int .i64 z.a.to_, .bool z.a.v.there, .string z.a.v.bytes, .slice z.ad z.a.l.length z.cap]] w (BookPost g p b nx N (noteA B s z.a) w) := by
  obtain ⟨v, L, x, hC⟩ := hB
  have hnx := hC.nxt
  have c0 := (hC.loc.1.cell s).trans (bookL_get B x v hs)
  have hlt := hC.loc.1.lt
  have hne : b ≠ w.heap.size := by omega
  have hsi : (s : Int) < 5 := by omega
  have hs0 : (0 : Int) ≤ (s : Int) := by omega
  have EB := hid (Evo.alloc g nx w (.cells #[.int .i64 z.a.kind, .int .i64 z.a.key, .int .i64 z.a.to_, .bool z.a.v.there, .string z.a.v.bytes, .slice z.ad z.a.l.length z.cap] 43))
  cases hd : B.seats s with
  | none =>
    have e1 : openP B x s = .pointer none := by unfold openP; rw [hd]
    have e2 : noteA B s z.a = B := by unfold noteA; rw [hd]
    rw [e1] at c0
    rw [e2]
    have HC := hid hC
    clear hC hz hd e1 e2
    go_enter Tryz.func34, Tryz.ntmps34
    go_wp2
    refine bodyPost_end (v := .tuple #[]) (by simp [results, Tryz.results34, go_sem]) rfl ?_
    exact ⟨rfl, extc g w nx, ⟨v, L, x, (HC.out.frame EB.out (by omega)).more (Nat.le_refl _) (by omega)⟩, EB.out.none (Nat.le_refl _)⟩
  | some d =>
    have k := hC.one s hs d hd
    have e1 : openP B x s = .pointer (some ⟨(x s).d, 0, none⟩) := by unfold openP; rw [hd]
    have e2 : noteA B s z.a = ⟨upd B.seats s (some ⟨d.n, d.at_, d.mode, d.acts ++ [z.a]⟩), B.l⟩ := by unfold noteA; rw [hd]
    rw [e1] at c0
    rw [e2]
    obtain ⟨y, hy⟩ : ∃ y, x s = y := ⟨_, rfl⟩
    rw [hy] at c0 k
    obtain ⟨cl, dl, va, A⟩ := y
    obtain ⟨aw, cw, hvw, -, -⟩ := ownsRow.sliceAt k.row.1
    simp only at hvw c0
    subst hvw
    have HY := hid hy
    have HD := hid hd
    have HC := hid hC
    have HK := hid k
    have HZ := hid hz
    have hcol : p + 3 ≤ cl ∧ cl + 2 ≤ nx := k.col
    have hlen : A.length ≤ N := k.len
    have q1 : A.length + 1 ≤ maxLen := by unfold maxLen; omega
    have q2 : (A.length + 1) * 72 ≤ 140737488355328 := by omega
    obtain ⟨i0, hi, hz0, hz1, hz2⟩ := info_parts Tryz.infoAct
    clear hC hz hd e1 e2 hy k
    go_enter Tryz.func34, Tryz.ntmps34
    go_upto_region 1 with (fail)
    have C1 := hid (HC.out.frame EB.out (by omega))
    have K1 := hid (HK.out.frame EB.out (by simp only; omega))
    have Z1 := hid (HZ.out.frame EB.out (by omega))
    have A1 : Hid (LocC (w.alloc (.cells #[.int .i64 z.a.kind, .int .i64 z.a.key, .int .i64 z.a.to_, .bool z.a.v.there, .string z.a.v.bytes, .slice z.ad z.a.l.length z.cap] 43)) (extc g w nx) nx w.heap.size 43 (encAcx z)) := hid (LocC.new g nx w 43 (encAcx z))
    clear HC HK HZ c0 hne
    generalize w.alloc (.cells #[.int .i64 z.a.kind, .int .i64 z.a.key, .int .i64 z.a.to_, .bool z.a.v.there, .string z.a.v.bytes, .slice z.ad z.a.l.length z.cap] 43) = w1 at *
    generalize extc g w nx = g1 at *
    generalize w.heap.size = bz at *
    have c0 := (C1.out.loc.1.cell s).trans (bookL_get B x v hs)
    rw [show openP B x s = .pointer (some ⟨dl, 0, none⟩) by unfold openP; rw [HD.out, HY.out]] at c0
    obtain ⟨a0, a1, a2, a3, a4, a5⟩ : w1.cell? ⟨bz, 0, none⟩ = some (.int .i64 z.a.kind) ∧ w1.cell? ⟨bz, 1, none⟩ = some (.int .i64 z.a.key) ∧ w1.cell? ⟨bz, 2, none⟩ = some (.int .i64 z.a.to_) ∧ w1.cell? ⟨bz, 3, none⟩ = some (.bool z.a.v.there) ∧ w1.cell? ⟨bz, 4, none⟩ = some (.string z.a.v.bytes) ∧ w1.cell? ⟨bz, 5, none⟩ = some (.slice z.ad z.a.l.length z.cap) := ⟨A1.out.1.cell 0, A1.out.1.cell 1, A1.out.1.cell 2, A1.out.1.cell 3, A1.out.1.cell 4, A1.out.1.cell 5⟩
    have k3 : w1.cell? ⟨dl, 3, none⟩ = some (.slice aw A.length cw) := K1.out.loc.1.cell 3
    have hlt1 := K1.out.loc.1.lt
    have hlt2 := A1.out.1.lt
    have E4 := hid (Evo.trans (Evo.drew 0 0 g1 w1) (Evo.alloc g1 nx w1.drew (.cells #[.int .i64 z.a.kind, .int .i64 z.a.key, .int .i64 z.a.to_, .bool z.a.v.there, .string z.a.v.bytes, .slice z.ad z.a.l.length z.cap] 43)))
    have C4 := hid (C1.out.frame E4.out (by omega))
    have K4 := hid (K1.out.frame E4.out (by simp only; omega))
    have Z4 := hid (Z1.out.frame E4.out (by omega))
    clear C1 K1 Z1 A1
    go_wp2_with fail
    go_region_law ((refine step_append2 rfl (.tmp 19) (.tmp 21) 26 rfl 43 i0 (.agg #[.int .i64 0, .int .i64 0, .int .i64 0, .bool false, .string ByteArray.empty, .slice none 0 0]) 6 72 Tryz.underlying26 hi hz0 hz1 hz2 rfl (by decide) (.slice aw A.length cw) A.length (encActs A) rfl K4.out.row.1 ⟨w1.heap.size, 0, none⟩ 1 1 (encAcx z) rfl rfl (cells_new w1.drew (encAcx z) 43) (encAcx_one z) q1 q2 ?_; intro v7 w7 ho hg hf; obtain ⟨a7, c7, hv7, -, -⟩ := ownsRow.sliceAt ho; subst hv7; obtain ⟨g7, hR, hE7⟩ : ∃ g7, RowC w7 g7 (cl + 1) 43 6 (.slice a7 (A.length + 1) c7) (A.length + 1) (encActs A ++ encAcx z) ∧ Evo (cl + 1) (cl + 1 + 1) (extc g1 w1.drew nx) g7 (w1.drew.alloc (.cells (encAcx z).toArray 43)) w7 := ⟨_, K4.out.row.grown ho hg hf⟩; have C7 := hid (K4.out.loc.frame hE7 (by simp only; omega)); have R7 := hid hR; have E7 := hid hE7; have k3' : w7.cell? ⟨dl, 3, none⟩ = some (.slice aw A.length cw) := C7.out.1.cell 3; have f3' := C7.out.1.free 3; clear ho hg hf hR hE7))
    all_goals
      go_wp2
      refine bodyPost_end (v := .tuple #[]) (by simp [results, Tryz.results34, go_sem]) rfl ?_
      have S2 := evo_store (g := g7) (w := w7) (i := 3) (.slice a7 (A.length + 1) c7) C7.out.2
      have hE8 := (E7.out.wide (lo' := cl) (hi' := cl + 2) (by omega) (by omega)).trans (S2.wide (lo' := cl) (hi' := cl + 2) (by omega) (by omega))
      have hO : OneC (w7.setCell ⟨dl, 3, none⟩ (.slice a7 (A.length + 1) c7)) g7 p nx (N + 1) ⟨d.n, d.at_, d.mode, d.acts ++ [z.a]⟩ ⟨cl, dl, .slice a7 (A.length + 1) c7, A ++ [z]⟩ := by
        refine ⟨C7.out.set 3 _, ?_, ?_, fun u hu => ?_, hcol, ?_⟩
        · have := R7.out.frame S2 (by omega)
          rw [encActs_append, List.length_append]
          simpa [encActs] using this
        · rw [List.map_append, K4.out.isA]; rfl
        · rcases List.mem_append.1 hu with hu | hu
          · exact (K4.out.lists u hu).frame hE8 (by omega)
          · rw [List.mem_singleton] at hu; subst hu; exact Z4.out.frame hE8 (by omega)
        · simp only [List.length_append, List.length_singleton]; omega
      have hb := C4.out.withOne hs HD.out (y := ⟨cl, dl, .slice a7 (A.length + 1) c7, A ++ [z]⟩) (by rw [HY.out]) (by rw [HY.out]) (by rw [HY.out]; exact hE8) (Nat.le_succ N) hO
      exact ⟨rfl, g7, ⟨v, L, _, hb⟩, ((EB.out.none (Nat.le_refl _)).trans (E4.out.none (Nat.le_refl _))).trans (hE8.wide (by omega) (by omega))⟩

set_option maxHeartbeats 4000000 in
set_option maxRecDepth 100000 in
theorem book_end (g : Nat → Nat) (p b nx N : Nat) (B : Bk) (s : Nat) (done : Bool) (n : Int) (w : World) (hs : s < 5) (hN : N < 1000000) (hB : BookAt w g p b nx N B) :
    Calls Tryz.prog 56 #[.pointer (some ⟨b, 0, none⟩), .int .i64 s, .bool done, .int .i64 n] w (BookPost g p b nx N (endB B s done n) w) := by
  obtain ⟨v, L, x, hC⟩ := hB
  have hnx := hC.nxt
  have c0 := (hC.loc.1.cell s).trans (bookL_get B x v hs)
  have f0 := hC.loc.1.free s
  have hsi : (s : Int) < 5 := by omega
  have hs0 : (0 : Int) ≤ (s : Int) := by omega
  have HC := hid hC
  have NIL := hid (fun (l : List Dn) (hl : l = B.l) => (show BookPost g p b nx N ⟨upd B.seats s none, l⟩ w (.returned (.tuple #[])) (w.setCell ⟨b, s, none⟩ (.pointer none)) from (by
    obtain ⟨h1, h2⟩ := hC.closed hs
    subst hl
    exact ⟨rfl, g, ⟨v, L, _, h1.more (Nat.le_refl _) (by omega)⟩, h2.wide (Nat.le_refl _) (by omega)⟩)))
  cases hd : B.seats s with
  | none =>
    have e1 : openP B x s = .pointer none := by unfold openP; rw [hd]
    have e2 : endB B s done n = ⟨upd B.seats s none, B.l⟩ := by unfold endB; rw [hd]
    rw [e1] at c0
    rw [e2]
    clear hC hd e1 e2
    go_enter Tryz.func56, Tryz.ntmps56
    go_wp2
    refine bodyPost_end (v := .tuple #[]) (by simp [results, Tryz.results56, go_sem]) rfl ?_
    exact NIL.out _ rfl
  | some d =>
    have k := hC.one s hs d hd
    have e1 : openP B x s = .pointer (some ⟨(x s).d, 0, none⟩) := by unfold openP; rw [hd]
    rw [e1] at c0
    cases done with
    | false =>
      have e2 : endB B s false n = ⟨upd B.seats s none, B.l⟩ := by unfold endB; rw [hd]; rfl
      rw [e2]
      clear hC hd e1 e2 k
      go_enter Tryz.func56, Tryz.ntmps56
      go_wp2
      refine bodyPost_end (v := .tuple #[]) (by simp [results, Tryz.results56, go_sem]) rfl ?_
      exact NIL.out _ rfl
    | true =>
      have e2 : endB B s true n = ⟨upd B.seats s none, B.l ++ [⟨n, d.at_, d.mode, d.acts⟩]⟩ := by unfold endB; rw [hd]; rfl
      rw [e2]
      clear NIL
      obtain ⟨y, hy⟩ : ∃ y, x s = y := ⟨_, rfl⟩
      rw [hy] at c0 k
      obtain ⟨cl, dl, va, A⟩ := y
      obtain ⟨aw, cw, hvw, -, -⟩ := ownsRow.sliceAt k.row.1
      simp only at hvw c0
      subst hvw
      have HY := hid hy
      have HD := hid hd
      have HK := hid k
      have hcol : p + 3 ≤ cl ∧ cl + 2 ≤ nx := k.col
      have hlen : L.length ≤ N := hC.few
      have q1 : L.length + 1 ≤ maxLen := by unfold maxLen; omega
      have q2 : (L.length + 1) * 48 ≤ 140737488355328 := by omega
      obtain ⟨i0, hi, hz0, hz1, hz2⟩ := info_parts Tryz.infoDone
      have k0 : w.cell? ⟨dl, 0, none⟩ = some (.int .i64 d.n) := k.loc.1.cell 0
      have r0 := k.loc.1.free 0
      clear hC hd e1 e2 hy k
      go_enter Tryz.func56, Tryz.ntmps56
      go_upto_region 3 with (fail)
      have S0 := evo_store (w := w) (i := 0) (.int .i64 n) HK.out.loc.2
      have hO : OneC (w.setCell ⟨dl, 0, none⟩ (.int .i64 n)) g p nx N ⟨n, d.at_, d.mode, d.acts⟩ ⟨cl, dl, .slice aw A.length cw, A⟩ :=
        ⟨HK.out.loc.set 0 (.int .i64 n), HK.out.row.frame S0 (by simp only; omega), HK.out.isA, fun u hu => (HK.out.lists u hu).frame S0 (by simp only; omega), hcol, HK.out.len⟩
      have C1 := hid (HC.out.withOne hs HD.out (y := ⟨cl, dl, .slice aw A.length cw, A⟩) (by rw [HY.out]) (by rw [HY.out]) (by rw [HY.out]; exact S0.wide (by simp only; omega) (by simp only; omega)) (Nat.le_refl _) hO)
      have EW := hid (S0.wide (lo' := p) (hi' := nx) (by simp only; omega) (by simp only; omega))
      have K1 := hid hO
      clear S0 hO HC HK c0 f0 k0 r0
      generalize w.setCell ⟨dl, 0, none⟩ (.int .i64 n) = w1 at *
      have HD1 : Hid (upd B.seats s (some (⟨n, d.at_, d.mode, d.acts⟩ : Dn)) s = some ⟨n, d.at_, d.mode, d.acts⟩) := hid (upd_same _ _ _)
      have HY1 : Hid (upd x s (⟨cl, dl, .slice aw A.length cw, A⟩ : Sn) s = ⟨cl, dl, .slice aw A.length cw, A⟩) := hid (upd_same _ _ _)
      have HU : Hid (upd (upd B.seats s (some (⟨n, d.at_, d.mode, d.acts⟩ : Dn))) s none = upd B.seats s none) := hid (by funext j; unfold upd; split <;> rfl)
      generalize upd x s (⟨cl, dl, .slice aw A.length cw, A⟩ : Sn) = x1 at *
      generalize upd B.seats s (some (⟨n, d.at_, d.mode, d.acts⟩ : Dn)) = ss at *
      obtain ⟨av, cv, hvv, -, -⟩ := ownsRow.sliceAt C1.out.row.1
      subst hvv
      have c5 : w1.cell? ⟨b, 5, none⟩ = some (.slice av L.length cv) := C1.out.loc.1.cell 5
      obtain ⟨d0, d1, d2, d3⟩ : w1.cell? ⟨dl, 0, none⟩ = some (.int .i64 n) ∧ w1.cell? ⟨dl, 1, none⟩ = some (.int .i64 d.at_) ∧ w1.cell? ⟨dl, 2, none⟩ = some (.int .i64 d.mode) ∧ w1.cell? ⟨dl, 3, none⟩ = some (.slice aw A.length cw) := ⟨K1.out.loc.1.cell 0, K1.out.loc.1.cell 1, K1.out.loc.1.cell 2, K1.out.loc.1.cell 3⟩
      have hlt1 := K1.out.loc.1.lt
      have hlt2 := C1.out.loc.1.lt
      simp only at hlt1
      have hs5 : ¬ s = 5 := by omega
      obtain ⟨z, hz⟩ : ∃ z : Dnx, z = ⟨n, d.at_, d.mode, A, aw, cw, cl + 1⟩ := ⟨_, rfl⟩
      have HZE := hid (show encDnx z = [.int .i64 n, .int .i64 d.at_, .int .i64 d.mode, .slice aw A.length cw] by subst hz; rfl)
      have HZ := hid hz
      have E4 := hid (Evo.trans (Evo.drew 0 0 g w1) (Evo.alloc g nx w1.drew (.cells #[.int .i64 n, .int .i64 d.at_, .int .i64 d.mode, .slice aw A.length cw] 36)))
      have C4 := hid (C1.out.frame E4.out (by omega))
      have K4 := hid (K1.out.frame E4.out (by simp only; omega))
      clear C1 K1 hz
      go_wp2_with fail
      go_region_law ((refine step_append2 rfl (.tmp 28) (.tmp 32) 27 rfl 36 i0 (.agg #[.int .i64 0, .int .i64 0, .int .i64 0, .slice none 0 0]) 4 48 Tryz.underlying27 hi hz0 hz1 hz2 rfl (by decide) (.slice av L.length cv) L.length (encDones L) rfl C4.out.row.1 ⟨w1.heap.size, 0, none⟩ 1 1 (encDnx z) rfl (by rw [HZE.out]; rfl) (by rw [HZE.out]; exact cells_new w1.drew [.int .i64 n, .int .i64 d.at_, .int .i64 d.mode, .slice aw A.length cw] 36) (encDnx_one z) q1 q2 ?_; intro v7 w7 ho hg hf; obtain ⟨a7, c7, hv7, -, -⟩ := ownsRow.sliceAt ho; subst hv7; obtain ⟨g7, hR, hE7⟩ : ∃ g7, RowC w7 g7 (p + 1) 36 4 (.slice a7 (L.length + 1) c7) (L.length + 1) (encDones L ++ encDnx z) ∧ Evo (p + 1) (p + 1 + 1) (extc g w1.drew nx) g7 (w1.drew.alloc (.cells #[.int .i64 n, .int .i64 d.at_, .int .i64 d.mode, .slice aw A.length cw] 36)) w7 := ⟨_, C4.out.row.grown ho hg hf⟩; have B7 := hid (C4.out.loc.frame hE7 (by omega)); have R7 := hid hR; have E7 := hid hE7; have c5' : w7.cell? ⟨b, 5, none⟩ = some (.slice av L.length cv) := B7.out.1.cell 5; have f5' := B7.out.1.free 5; have cs' := (B7.out.1.cell s).trans (bookL_get _ _ _ hs); have fs' := B7.out.1.free s; clear ho hg hf hR hE7))
      all_goals
        go_wp2
        refine bodyPost_end (v := .tuple #[]) (by simp [results, Tryz.results56, go_sem]) rfl ?_
        have hy : FinC (w1.drew.alloc (.cells #[.int .i64 n, .int .i64 d.at_, .int .i64 d.mode, .slice aw A.length cw] 36)) (extc g w1.drew nx) p nx N z z.q := by
          rw [HZ.out]
          exact ⟨⟨by simp only; omega, by simp only; omega⟩, K4.out.row.fix, K4.out.lists, K4.out.len⟩
        obtain ⟨h1, h2⟩ := C4.out.ended hs HD1.out R7.out E7.out hy (by rw [HZ.out, HY1.out])
        rw [HU.out] at h1
        have hz : z.d = ⟨n, d.at_, d.mode, d.acts⟩ := by rw [HZ.out]; show (⟨n, d.at_, d.mode, A.map (·.a)⟩ : Dn) = _; rw [show A.map (·.a) = d.acts from K4.out.isA]
        rw [hz] at h1
        exact ⟨rfl, g7, ⟨_, _, _, h1⟩, ((EW.out.trans (E4.out.none (Nat.le_refl _))).trans (E7.out.wide (by omega) (by omega))).trans (h2.wide (by omega) (by omega))⟩

end Go.Proofs.YtoiobhcgpajogadGreat
