/- A book: the walk of Note. -/
import Derived.Test.YtoiobhcgpajogadGreatBook3
import Derived.Test.YtoiobhcgpajogadGreatCodec7
import Derived.Test.YtoiobhcgpajogadGreatDeed1
import Derived.Test.YtoiobhcgpajogadGreatReg
namespace Go.Proofs.YtoiobhcgpajogadGreat
open Go.RowKit

set_option maxHeartbeats 1000000 in
set_option maxRecDepth 100000 in
theorem clone_pairs (a : Option Addr) (cap : Nat) (l : List Ent) (w : World) (hn : l.length ≤ 1000000) (hs : SliceAt w a (encEnts l)) :
    Calls Tryz.prog 35 #[.slice a l.length cap] w (PairsPost l w) := by
  obtain ⟨i0, hi, hz0, hz1, hz2⟩ := info_parts Tryz.infoPair
  have l1 : 0 + l.length ≤ maxLen := by unfold maxLen; omega
  have l2 : (0 + l.length) * 32 ≤ 140737488355328 := by omega
  have heq := fun (w : World) (a : Option Addr) (n c : Nat) => Lib.run_eql_slice_nil (P := Tryz.prog) w 41 98 a n c 0 0 Tryz.underlying41
  cases a with
  | none =>
    have hl : l = [] := by
      have := sliceAt_none hs
      cases l with
      | nil => rfl
      | cons c l => simp [encEnts, encEnt] at this
    subst hl
    go_enter Tryz.func35, Tryz.ntmps35
    go_wp2
    go_ret
    exact ⟨none, 0, rfl, .inl rfl, Below.refl _ _, nofun, fun _ => rfl⟩
  | some ad =>
    have HS := hid hs
    clear hs
    have O0 := hid (World.ownsRow_lit (base := w.heap.size) (e := 98) (size := 3) w #[] 0 (Nat.le_refl _) (by decide) rfl)
    go_enter Tryz.func35, Tryz.ntmps35
    go_wp2_with (refine wpList_app rfl (.tmp 5) (.tmp 6) 41 rfl w.heap.size 98 i0 (.agg #[.int .i64 0, .bool false, .string ByteArray.empty]) 3 32 Tryz.underlying41 hi hz0 hz1 hz2 rfl (by decide) (.slice (some ⟨w.heap.size, 0, none⟩) 0 0) 0 [] rfl O0.out (some ad) l.length cap (encEnts l) rfl (encEnts_length l) (sliceAt_below HS.out ((Below.refl _ _).alloc (Nat.le_refl _) _)) nofun (encEnts_one l) l1 l2 (by simp) ?_)
    intro v3 w3 ho3 hg3
    have hB3 := hid (((Below.refl w.heap.size w).alloc (Nat.le_refl _) (.cells #[] 98)).grown hg3 (by simp) (fun j hj => (O0.out.lt j hj).1))
    have ho3' : w3.ownsRow w.heap.size 98 3 v3 l.length (encEnts l) := by simpa using ho3
    obtain ⟨a3, cap3, rfl, hx3, hx4⟩ := ownsRow.sliceAt ho3'
    have HX3 := hid hx3
    have HX4 := hid (fun ad e => ho3'.lt _ (hx4 ad e))
    have HX5 := hid (show a3 = none → cap3 = 0 from fun h => by
      subst h
      rcases ho3'.2 with ⟨h, -⟩ | ⟨g, cap, cur, h, -⟩
      · exact (Value.slice.inj h).2.2
      · cases (Value.slice.inj h).1)
    clear ho3 ho3' hg3 hx3 hx4
    go_wp2
    go_ret
    exact ⟨a3, cap3, rfl, HX3.out, hB3.out, HX4.out, HX5.out⟩

theorem SliceAt.evo {lo hi : Nat} {g g' : Nat → Nat} {w w' : World} {a : Option Addr} {cells : List Value} (hs : SliceAt w a cells) (hc : ∀ ad, a = some ad → g ad.block < lo) (e : Evo lo hi g g' w w') : SliceAt w' a cells := by
  by_cases h : cells = []
  · exact .inl h
  · obtain ⟨b, off, rfl, hb⟩ := hs.lt h
    refine hs.lift (fun ad had => ?_)
    cases had
    have := hc _ rfl
    exact e.same b hb (by simp only at this; omega)

def NotePost (g : Nat → Nat) (p b nx N : Nat) (B : Bk) (w : World) (e : Ending) (w' : World) : Prop :=
  e = .returned (.tuple #[]) ∧ ∃ g' nx', nx ≤ nx' ∧ BookAt w' g' p b nx' (N + 2) B ∧ Evo p nx' g g' w w'

set_option maxHeartbeats 4000000 in
set_option maxRecDepth 100000 in
theorem book_Note (g : Nat → Nat) (p b nx N : Nat) (B : Bk) (x : St) (ev : Evt) (a : Option Addr) (cp : Nat) (last : Int) (w : World) (hN : N + 1 < 1000000) (hB : BookAt w g p b nx N B) (hl : SliceAt w a (encEnts ev.l)) (hlc : ∀ ad, a = some ad → g ad.block < p) (h8 : ev.l.length ≤ 8) :
    Calls Tryz.prog 21 #[.pointer (some ⟨b, 0, none⟩), .agg #[.int .i64 x.kind, .int .i64 x.s, .int .i64 x.mode, .int .i64 x.at_, .int .i64 x.key, .int .i64 x.to_, .int .i64 x.keep, .string x.bytes], .agg #[.int .i64 ev.code, .int .i64 ev.n, .bool ev.v.there, .string ev.v.bytes, .slice a ev.l.length cp], .int .i64 last] w (NotePost g p b nx N (noteK B x ev last) w) := by
  have HB := hid hB
  have HL := hid hl
  have HLC := hid hlc
  clear hB hl hlc
  go_enter Tryz.func21, Tryz.ntmps21
  go_upto_region 1 with (fail)
  have T := hid (Two.start g nx x ev a cp w)
  have B2 := hid (HB.out.frame T.out.evo (by omega))
  clear HB
  generalize (w.alloc (.cells #[.int .i64 x.kind, .int .i64 x.s, .int .i64 x.mode, .int .i64 x.at_, .int .i64 x.key, .int .i64 x.to_, .int .i64 x.keep, .string x.bytes] 55)).alloc (.cells #[.int .i64 ev.code, .int .i64 ev.n, .bool ev.v.there, .string ev.v.bytes, .slice a ev.l.length cp] 74) = w2 at *
  generalize extc (extc g w nx) (w.alloc (.cells #[.int .i64 x.kind, .int .i64 x.s, .int .i64 x.mode, .int .i64 x.at_, .int .i64 x.key, .int .i64 x.to_, .int .i64 x.keep, .string x.bytes] 55)) nx = g2 at *
  generalize w.heap.size + 1 = be at *
  generalize w.heap.size = bx at *
  obtain ⟨p0, p1, p2, p3, p4, p5, p6, p7⟩ : w2.cell? ⟨bx, 0, none⟩ = some (.int .i64 x.kind) ∧ w2.cell? ⟨bx, 1, none⟩ = some (.int .i64 x.s) ∧ w2.cell? ⟨bx, 2, none⟩ = some (.int .i64 x.mode) ∧ w2.cell? ⟨bx, 3, none⟩ = some (.int .i64 x.at_) ∧ w2.cell? ⟨bx, 4, none⟩ = some (.int .i64 x.key) ∧ w2.cell? ⟨bx, 5, none⟩ = some (.int .i64 x.to_) ∧ w2.cell? ⟨bx, 6, none⟩ = some (.int .i64 x.keep) ∧ w2.cell? ⟨bx, 7, none⟩ = some (.string x.bytes) :=
    ⟨T.out.st.1.cell 0, T.out.st.1.cell 1, T.out.st.1.cell 2, T.out.st.1.cell 3, T.out.st.1.cell 4, T.out.st.1.cell 5, T.out.st.1.cell 6, T.out.st.1.cell 7⟩
  obtain ⟨r0, r1, r2, r3, r4⟩ : w2.cell? ⟨be, 0, none⟩ = some (.int .i64 ev.code) ∧ w2.cell? ⟨be, 1, none⟩ = some (.int .i64 ev.n) ∧ w2.cell? ⟨be, 2, none⟩ = some (.bool ev.v.there) ∧ w2.cell? ⟨be, 3, none⟩ = some (.string ev.v.bytes) ∧ w2.cell? ⟨be, 4, none⟩ = some (.slice a ev.l.length cp) :=
    ⟨T.out.ev.1.cell 0, T.out.ev.1.cell 1, T.out.ev.1.cell 2, T.out.ev.1.cell 3, T.out.ev.1.cell 4⟩
  have CO := hid (book_over g2 p b nx N B x ev a cp w2 (by omega) B2.out)
  have EX := hid (show noteK B x ev last = match overK B x ev with
    | some B' => B'
    | none => if ev.code ≠ 0 ∨ isSeatB x.s = false then B
      else if x.kind = 1 then ⟨upd B.seats x.s.toNat (some ⟨0, if x.mode = 3 then x.at_ else last, x.mode, []⟩), B.l⟩
      else if x.kind = 2 then noteA B x.s.toNat ⟨2, x.key, 0, ev.v, []⟩
      else if x.kind = 3 then noteA B x.s.toNat ⟨3, x.key, 0, ⟨true, x.bytes⟩, []⟩
      else if x.kind = 4 then noteA B x.s.toNat ⟨4, x.key, 0, Val.zero, []⟩
      else if x.kind = 5 then noteA B x.s.toNat ⟨5, x.key, x.to_, Val.zero, ev.l⟩
      else B from rfl)
  generalize noteK B x ev last = Y at *
  have hlt : bx ≠ b ∧ be ≠ b := by
    obtain ⟨v, L, sn, hC⟩ := B2.out
    have h1 := hC.loc.2
    have h2 := T.out.st.2
    have h3 := T.out.ev.2
    have h4 := hC.nxt
    exact ⟨by rintro rfl; omega, by rintro rfl; omega⟩
  cases ho : overK B x ev with
  | some B' =>
    rw [ho] at CO EX
    simp only at EX
    unfold OverPost at CO
    simp only [Option.isSome_some, Option.getD_some] at CO
    clear ho
    go_wp2_with fail
    refine CO.out.mono ?_
    rintro e w3 ⟨rfl, g3, hb, hE⟩
    have B3 := hid hb
    have E3 := hid hE
    clear hb hE CO B2
    go_wp2_with fail
    refine bodyPost_end (v := .tuple #[]) (by simp [results, Tryz.results21, go_sem]) rfl ?_
    exact ⟨rfl, g3, nx, Nat.le_refl _, by rw [EX.out]; exact B3.out.more (Nat.le_refl _) (by omega), (T.out.evo.none (Nat.le_refl _)).trans E3.out⟩
  | none =>
    rw [ho] at CO EX
    simp only at EX
    unfold OverPost at CO
    simp only [Option.isSome_none, Option.getD_none] at CO
    clear ho
    go_wp2_with fail
    refine CO.out.mono ?_
    rintro e w3 ⟨rfl, g3, hb, hE⟩
    have B3 := hid hb
    have E3 := hid ((T.out.evo.none (Nat.le_refl _)).trans hE)
    have S3 := hid (T.out.st.frame hE (by omega))
    have V3 := hid (T.out.ev.frame hE (by omega))
    have L3 := hid (HL.out.evo HLC.out E3.out)
    clear hb hE CO B2 HL HLC T p0 p1 p2 p3 p4 p5 p6 p7 r0 r1 r2 r3 r4
    obtain ⟨p0, p1, p2, p3, p4, p5, p6, p7⟩ : w3.cell? ⟨bx, 0, none⟩ = some (.int .i64 x.kind) ∧ w3.cell? ⟨bx, 1, none⟩ = some (.int .i64 x.s) ∧ w3.cell? ⟨bx, 2, none⟩ = some (.int .i64 x.mode) ∧ w3.cell? ⟨bx, 3, none⟩ = some (.int .i64 x.at_) ∧ w3.cell? ⟨bx, 4, none⟩ = some (.int .i64 x.key) ∧ w3.cell? ⟨bx, 5, none⟩ = some (.int .i64 x.to_) ∧ w3.cell? ⟨bx, 6, none⟩ = some (.int .i64 x.keep) ∧ w3.cell? ⟨bx, 7, none⟩ = some (.string x.bytes) :=
      ⟨S3.out.1.cell 0, S3.out.1.cell 1, S3.out.1.cell 2, S3.out.1.cell 3, S3.out.1.cell 4, S3.out.1.cell 5, S3.out.1.cell 6, S3.out.1.cell 7⟩
    obtain ⟨r0, r2, r3, r4⟩ : w3.cell? ⟨be, 0, none⟩ = some (.int .i64 ev.code) ∧ w3.cell? ⟨be, 2, none⟩ = some (.bool ev.v.there) ∧ w3.cell? ⟨be, 3, none⟩ = some (.string ev.v.bytes) ∧ w3.cell? ⟨be, 4, none⟩ = some (.slice a ev.l.length cp) :=
      ⟨V3.out.1.cell 0, V3.out.1.cell 2, V3.out.1.cell 3, V3.out.1.cell 4⟩
    by_cases hc : ev.code = 0
    · have EXc := hid (show Y = _ from EX.out)
      rw [hc] at r0
      cases hs : isSeatB x.s with
      | false =>
        have hsn := seat_no hs
        have EXB := hid (show Y = B from by rw [EX.out, if_pos (.inr hs)])
        clear hs hc EX EXc
        rcases hsn with h | h
        · have h1 : ¬ 0 ≤ x.s := by omega
          go_wp2_with fail
          refine bodyPost_end (v := .tuple #[]) (by simp [results, Tryz.results21, go_sem]) rfl ?_
          exact ⟨rfl, g3, nx, Nat.le_refl _, by rw [EXB.out]; exact B3.out.more (Nat.le_refl _) (by omega), E3.out⟩
        · have h1 : ¬ x.s < 0 := by omega
          go_wp2_with fail
          refine bodyPost_end (v := .tuple #[]) (by simp [results, Tryz.results21, go_sem]) rfl ?_
          exact ⟨rfl, g3, nx, Nat.le_refl _, by rw [EXB.out]; exact B3.out.more (Nat.le_refl _) (by omega), E3.out⟩
      | true =>
        obtain ⟨n, hn, hxn⟩ := seat_yes hs
        have EX2 := hid (show Y = if x.kind = 1 then ⟨upd B.seats n (some ⟨0, if x.mode = 3 then x.at_ else last, x.mode, []⟩), B.l⟩
          else if x.kind = 2 then noteA B n ⟨2, x.key, 0, ev.v, []⟩
          else if x.kind = 3 then noteA B n ⟨3, x.key, 0, ⟨true, x.bytes⟩, []⟩
          else if x.kind = 4 then noteA B n ⟨4, x.key, 0, Val.zero, []⟩
          else if x.kind = 5 then noteA B n ⟨5, x.key, x.to_, Val.zero, ev.l⟩
          else B from by rw [EX.out, if_neg (by rw [hs]; simp [hc]), show x.s.toNat = n by omega])
        have hni : (n : Int) < 5 := by omega
        have hn0 : (0 : Int) ≤ (n : Int) := by omega
        rw [hxn] at p1
        have hxn0 := hid hxn
        have HNX := hid (show p + 3 ≤ nx from by obtain ⟨v, L, y, hC⟩ := B3.out; exact hC.nxt)
        clear hs hc EX EXc hxn
        by_cases h1 : x.kind = 1
        · have EX3 := hid (show Y = _ from EX2.out.trans (if_pos h1))
          rw [h1] at p0
          clear h1 EX2
          have hA : Evo 0 0 g3 (extc g3 w3 nx) w3 (w3.alloc (.cells #[.int .i64 0, .int .i64 last, .int .i64 x.mode, .slice none 0 0] 36)) := Evo.alloc g3 nx w3 _
          have E4 := hid ((E3.out.wide (lo' := p) (hi' := nx + 2) (Nat.le_refl _) (by omega)).trans (hA.none (Nat.le_refl _)))
          have S4 := hid (S3.out.frame hA (by omega))
          have B4 := hid (B3.out.frame hA (by omega))
          have D4 : Hid (LocC (w3.alloc (.cells #[.int .i64 0, .int .i64 last, .int .i64 x.mode, .slice none 0 0] 36)) (extc g3 w3 nx) nx w3.heap.size 36 [.int .i64 0, .int .i64 last, .int .i64 x.mode, .slice none 0 0]) := hid (LocC.new g3 nx w3 36 [.int .i64 0, .int .i64 last, .int .i64 x.mode, .slice none 0 0])
          have hnb : bx ≠ w3.heap.size := by have := S3.out.1.lt; omega
          have hdb : b ≠ w3.heap.size := by
            obtain ⟨v, L, sn, hC⟩ := B3.out
            have := hC.loc.1.lt
            omega
          clear hA
          go_upto_region 5 with (fail)
          clear p0 p2 p3 p4 p5 p6 p7 r0 r2 r3 r4 p1 E3 S3 V3 L3 B3
          generalize w3.alloc (.cells #[.int .i64 0, .int .i64 last, .int .i64 x.mode, .slice none 0 0] 36) = w4 at *
          generalize extc g3 w3 nx = g4 at *
          generalize w3.heap.size = dl at *
          obtain ⟨p1, p2, p3⟩ : w4.cell? ⟨bx, 1, none⟩ = some (.int .i64 (n : Int)) ∧ w4.cell? ⟨bx, 2, none⟩ = some (.int .i64 x.mode) ∧ w4.cell? ⟨bx, 3, none⟩ = some (.int .i64 x.at_) :=
            ⟨(S4.out.1.cell 1).trans (by rw [← hxn0.out]; rfl), S4.out.1.cell 2, S4.out.1.cell 3⟩
          have d1 : w4.cell? ⟨dl, 1, none⟩ = some (.int .i64 last) := D4.out.1.cell 1
          have d1f : w4.frozen? ⟨dl, 1, none⟩ = false := D4.out.1.free 1
          by_cases h3 : x.mode = 3
          · have EX4 := hid (show Y = ⟨upd B.seats n (some ⟨0, x.at_, x.mode, []⟩), B.l⟩ from by rw [EX3.out, if_pos h3])
            rw [h3] at p2
            clear h3 EX3
            go_upto_region 7 with (fail)
            have hst : Evo nx (nx + 1) g4 g4 w4 (w4.setCell ⟨dl, 1, none⟩ (.int .i64 x.at_)) := evo_store _ D4.out.2
            have E5 := hid (E4.out.trans (hst.wide (by have := HNX.out; omega) (by omega)))
            have S5 : Hid (LocC (w4.setCell ⟨dl, 1, none⟩ (.int .i64 x.at_)) g4 nx bx 55 (stL x)) := hid ⟨S4.out.1.other hnb _, S4.out.2⟩
            have B5 := hid (B4.out.frame hst (by omega))
            have D5 : Hid (LocC (w4.setCell ⟨dl, 1, none⟩ (.int .i64 x.at_)) g4 nx dl 36 [.int .i64 0, .int .i64 x.at_, .int .i64 x.mode, .slice none 0 0]) := hid ⟨D4.out.1.set 1 _, D4.out.2⟩
            clear hst E4 S4 B4 D4 p1 p2 p3 d1 d1f
            generalize w4.setCell ⟨dl, 1, none⟩ (.int .i64 x.at_) = w5 at *
            have p1 : w5.cell? ⟨bx, 1, none⟩ = some (.int .i64 (n : Int)) := (S5.out.1.cell 1).trans (by rw [← hxn0.out]; rfl)
            obtain ⟨v, L, y, hC⟩ := B5.out
            have c0 : w5.frozen? ⟨b, n, none⟩ = false := hC.loc.1.free n
            have hltb := hC.loc.1.lt
            have c1 : w5.cell? ⟨b, n, none⟩ = some (openP B y n) := (hC.loc.1.cell n).trans (bookL_get B y v hn)
            have HC := hid hC
            clear hC B5
            -- REGION 7a
            refine wp_region_noPanic ?_
            refine wp_region_held_drew (S := (fun W : World => W.cell? ⟨bx, 1, none⟩ = some (.int .i64 (n : Int)))) (by kernel_rfl) ?_ (fun hH0 => ?_)
            · (try dsimp only); (first | assumption | exact p1 | exact ((Loc.other (w := w5.drew) S5.out.1 hlt.1 _).cell 1).trans (by rw [← hxn0.out]; rfl))
            refine wpAnyH_take (i := 0) (v := ?_) (by simp only [List.getElem?_toArray, List.getElem?_cons_zero]; rfl) (by kernel_rfl) (by kernel_rfl) (by kernel_rfl) (fun _ _ _ h => h) (Or.inl ⟨by rfl, ?_⟩) (by assumption) ?_
            rotate_left
            · intro w hSw; (try dsimp only at hSw); go_simp; (try with_reducible rfl)
            try simp only [Act.put, List.setIfInBounds_toArray, List.set_cons_zero, List.set_cons_succ]
            refine wpAnyH_take (i := 1) (v := ?_) (by simp only [List.getElem?_toArray, List.getElem?_cons_zero, List.getElem?_cons_succ]; rfl) (by kernel_rfl) (by kernel_rfl) (by kernel_rfl) (fun _ _ _ h => h) (Or.inl ⟨by rfl, ?_⟩) (by assumption) ?_
            rotate_left
            · intro w hSw; (try dsimp only at hSw); go_simp; (try with_reducible rfl)
            try simp only [Act.put, List.setIfInBounds_toArray, List.set_cons_zero, List.set_cons_succ]
            refine wpAnyH_take (i := 2) (v := ?_) (by simp only [List.getElem?_toArray, List.getElem?_cons_zero, List.getElem?_cons_succ]; rfl) (by kernel_rfl) (by kernel_rfl) (by kernel_rfl) (fun _ _ _ h => h) (Or.inl ⟨by rfl, ?_⟩) (by assumption) ?_
            rotate_left
            · intro w hSw; (try dsimp only at hSw); go_simp; (try with_reducible rfl)
            try simp only [Act.put, List.setIfInBounds_toArray, List.set_cons_zero, List.set_cons_succ]
            refine wpAnyH_take (i := 3) (v := ?_) (by simp only [List.getElem?_toArray, List.getElem?_cons_zero, List.getElem?_cons_succ]; rfl) (by kernel_rfl) (by kernel_rfl) (by kernel_rfl) (fun _ _ _ h => h) (Or.inl ⟨by rfl, ?_⟩) (by assumption) ?_
            rotate_left
            · intro w hSw; (try dsimp only at hSw); go_simp; (try with_reducible rfl)
            try simp only [Act.put, List.setIfInBounds_toArray, List.set_cons_zero, List.set_cons_succ]
            refine wpAnyH_take (i := 4) (v := ?_) (by simp only [List.getElem?_toArray, List.getElem?_cons_zero, List.getElem?_cons_succ]; rfl) (by kernel_rfl) (by kernel_rfl) (by kernel_rfl) (fun _ _ _ h => h) (Or.inl ⟨by rfl, ?_⟩) (by assumption) ?_
            rotate_left
            · intro w hSw; (try dsimp only at hSw); go_simp; (try with_reducible rfl)
            try simp only [Act.put, List.setIfInBounds_toArray, List.set_cons_zero, List.set_cons_succ]
            refine wpAnyH_take (i := 5) (v := ?_) (by simp only [List.getElem?_toArray, List.getElem?_cons_zero, List.getElem?_cons_succ]; rfl) (by kernel_rfl) (by kernel_rfl) (by kernel_rfl) (fun _ _ _ h => h) (Or.inl ⟨by rfl, ?_⟩) (by assumption) ?_
            rotate_left
            · intro w hSw; (try dsimp only at hSw); go_simp; (try with_reducible rfl)
            try simp only [Act.put, List.setIfInBounds_toArray, List.set_cons_zero, List.set_cons_succ]
            refine wpAnyH_take (i := 6) (v := ?_) (by simp only [List.getElem?_toArray, List.getElem?_cons_zero, List.getElem?_cons_succ]; rfl) (by kernel_rfl) (by kernel_rfl) (by kernel_rfl) (fun _ _ _ h => h) (Or.inl ⟨by rfl, ?_⟩) (by assumption) ?_
            rotate_left
            · intro w hSw; (try dsimp only at hSw); go_simp; (try with_reducible rfl)
            try simp only [Act.put, List.setIfInBounds_toArray, List.set_cons_zero, List.set_cons_succ]
            refine wpAnyH_ready (rs := [7]) (by kernel_rfl) (by simp) ?_
            refine AllReadyH.cons (by simp only [List.getElem?_toArray, List.getElem?_cons_zero, List.getElem?_cons_succ]; rfl) (fun K hK => ?_) AllReadyH.nil
            go_simp
            skip
            try go_wp2_with fail
            refine hK.out _ _ ?_ (fun hH1 => ?_)
            · (try dsimp only); (first | assumption | exact p1 | exact ((Loc.other (w := w5.drew) S5.out.1 hlt.1 _).cell 1).trans (by rw [← hxn0.out]; rfl))
            clear hK K hH0
            try simp only [Act.put, List.setIfInBounds_toArray, List.set_cons_zero, List.set_cons_succ]
            refine wpAnyH_done (by kernel_rfl) ?_ _
            refine NoPanic.normal ?_
            rotate_left
            -- END 7a
            have hg := (HC.out.below (Below.refl _ _).drew).begun (s := n) hn (d := ⟨0, x.at_, x.mode, []⟩) rfl (D5.out.below (Below.refl _ _).drew)
            go_wp2_with fail
            refine bodyPost_end (v := .tuple #[]) (by simp [results, Tryz.results21, go_sem]) rfl ?_
            exact ⟨rfl, g4, nx + 2, by omega, ⟨v, L, upd y n ⟨nx, dl, .slice none 0 0, []⟩, by rw [EX4.out]; exact hg.1.more (Nat.le_refl _) (by omega)⟩, (E5.out.trans (Evo.of_same (Below.refl _ _).drew)).trans (hg.2.wide (Nat.le_refl _) (by have := HNX.out; omega))⟩
          · have EX4 := hid (show Y = ⟨upd B.seats n (some ⟨0, last, x.mode, []⟩), B.l⟩ from by rw [EX3.out, if_neg h3])
            have o1 : (x.mode == 3) = false := by simpa using h3
            clear h3 EX3
            go_upto_region 7 with (fail)
            obtain ⟨v, L, y, hC⟩ := B4.out
            have c0 : w4.frozen? ⟨b, n, none⟩ = false := hC.loc.1.free n
            have hltb := hC.loc.1.lt
            have c1 : w4.cell? ⟨b, n, none⟩ = some (openP B y n) := (hC.loc.1.cell n).trans (bookL_get B y v hn)
            have HC := hid hC
            clear hC B4
            -- REGION 7b
            refine wp_region_noPanic ?_
            refine wp_region_held_drew (S := (fun W : World => W.cell? ⟨bx, 1, none⟩ = some (.int .i64 (n : Int)))) (by kernel_rfl) ?_ (fun hH0 => ?_)
            · (try dsimp only); (first | assumption | exact p1 | exact ((Loc.other (w := w4.drew) S4.out.1 hlt.1 _).cell 1).trans (by rw [← hxn0.out]; rfl))
            refine wpAnyH_take (i := 0) (v := ?_) (by simp only [List.getElem?_toArray, List.getElem?_cons_zero]; rfl) (by kernel_rfl) (by kernel_rfl) (by kernel_rfl) (fun _ _ _ h => h) (Or.inl ⟨by rfl, ?_⟩) (by assumption) ?_
            rotate_left
            · intro w hSw; (try dsimp only at hSw); go_simp; (try with_reducible rfl)
            try simp only [Act.put, List.setIfInBounds_toArray, List.set_cons_zero, List.set_cons_succ]
            refine wpAnyH_take (i := 1) (v := ?_) (by simp only [List.getElem?_toArray, List.getElem?_cons_zero, List.getElem?_cons_succ]; rfl) (by kernel_rfl) (by kernel_rfl) (by kernel_rfl) (fun _ _ _ h => h) (Or.inl ⟨by rfl, ?_⟩) (by assumption) ?_
            rotate_left
            · intro w hSw; (try dsimp only at hSw); go_simp; (try with_reducible rfl)
            try simp only [Act.put, List.setIfInBounds_toArray, List.set_cons_zero, List.set_cons_succ]
            refine wpAnyH_take (i := 2) (v := ?_) (by simp only [List.getElem?_toArray, List.getElem?_cons_zero, List.getElem?_cons_succ]; rfl) (by kernel_rfl) (by kernel_rfl) (by kernel_rfl) (fun _ _ _ h => h) (Or.inl ⟨by rfl, ?_⟩) (by assumption) ?_
            rotate_left
            · intro w hSw; (try dsimp only at hSw); go_simp; (try with_reducible rfl)
            try simp only [Act.put, List.setIfInBounds_toArray, List.set_cons_zero, List.set_cons_succ]
            refine wpAnyH_take (i := 3) (v := ?_) (by simp only [List.getElem?_toArray, List.getElem?_cons_zero, List.getElem?_cons_succ]; rfl) (by kernel_rfl) (by kernel_rfl) (by kernel_rfl) (fun _ _ _ h => h) (Or.inl ⟨by rfl, ?_⟩) (by assumption) ?_
            rotate_left
            · intro w hSw; (try dsimp only at hSw); go_simp; (try with_reducible rfl)
            try simp only [Act.put, List.setIfInBounds_toArray, List.set_cons_zero, List.set_cons_succ]
            refine wpAnyH_take (i := 4) (v := ?_) (by simp only [List.getElem?_toArray, List.getElem?_cons_zero, List.getElem?_cons_succ]; rfl) (by kernel_rfl) (by kernel_rfl) (by kernel_rfl) (fun _ _ _ h => h) (Or.inl ⟨by rfl, ?_⟩) (by assumption) ?_
            rotate_left
            · intro w hSw; (try dsimp only at hSw); go_simp; (try with_reducible rfl)
            try simp only [Act.put, List.setIfInBounds_toArray, List.set_cons_zero, List.set_cons_succ]
            refine wpAnyH_take (i := 5) (v := ?_) (by simp only [List.getElem?_toArray, List.getElem?_cons_zero, List.getElem?_cons_succ]; rfl) (by kernel_rfl) (by kernel_rfl) (by kernel_rfl) (fun _ _ _ h => h) (Or.inl ⟨by rfl, ?_⟩) (by assumption) ?_
            rotate_left
            · intro w hSw; (try dsimp only at hSw); go_simp; (try with_reducible rfl)
            try simp only [Act.put, List.setIfInBounds_toArray, List.set_cons_zero, List.set_cons_succ]
            refine wpAnyH_take (i := 6) (v := ?_) (by simp only [List.getElem?_toArray, List.getElem?_cons_zero, List.getElem?_cons_succ]; rfl) (by kernel_rfl) (by kernel_rfl) (by kernel_rfl) (fun _ _ _ h => h) (Or.inl ⟨by rfl, ?_⟩) (by assumption) ?_
            rotate_left
            · intro w hSw; (try dsimp only at hSw); go_simp; (try with_reducible rfl)
            try simp only [Act.put, List.setIfInBounds_toArray, List.set_cons_zero, List.set_cons_succ]
            refine wpAnyH_ready (rs := [7]) (by kernel_rfl) (by simp) ?_
            refine AllReadyH.cons (by simp only [List.getElem?_toArray, List.getElem?_cons_zero, List.getElem?_cons_succ]; rfl) (fun K hK => ?_) AllReadyH.nil
            go_simp
            skip
            try go_wp2_with fail
            refine hK.out _ _ ?_ (fun hH1 => ?_)
            · (try dsimp only); (first | assumption | exact p1 | exact ((Loc.other (w := w4.drew) S4.out.1 hlt.1 _).cell 1).trans (by rw [← hxn0.out]; rfl))
            clear hK K hH0
            try simp only [Act.put, List.setIfInBounds_toArray, List.set_cons_zero, List.set_cons_succ]
            refine wpAnyH_done (by kernel_rfl) ?_ _
            refine NoPanic.normal ?_
            rotate_left
            -- END 7b
            have hg := (HC.out.below (Below.refl _ _).drew).begun (s := n) hn (d := ⟨0, last, x.mode, []⟩) rfl (D4.out.below (Below.refl _ _).drew)
            go_wp2_with fail
            refine bodyPost_end (v := .tuple #[]) (by simp [results, Tryz.results21, go_sem]) rfl ?_
            exact ⟨rfl, g4, nx + 2, by omega, ⟨v, L, upd y n ⟨nx, dl, .slice none 0 0, []⟩, by rw [EX4.out]; exact hg.1.more (Nat.le_refl _) (by omega)⟩, (E4.out.trans (Evo.of_same (Below.refl _ _).drew)).trans (hg.2.wide (Nat.le_refl _) (by have := HNX.out; omega))⟩
        have o1 : (x.kind == 1) = false := by simpa using h1
        by_cases h2 : x.kind = 2
        · have EX3 := hid (show Y = noteA B n ⟨2, x.key, 0, ev.v, []⟩ from by rw [EX2.out, if_neg h1, if_pos h2])
          rw [h2] at p0
          have CN := hid (book_note g3 p b nx (N + 1) B n ⟨⟨2, x.key, 0, ev.v, []⟩, none, 0⟩ w3 hn (by omega) (FixL.none _ _ _ _ rfl) B3.out)
          clear h1 h2 o1 EX2
          go_wp2_with fail
          refine CN.out.mono ?_
          rintro e w4 ⟨rfl, g4, hb, hE⟩
          have E4 := hid (E3.out.trans hE)
          have B4 := hid hb
          clear hb hE CN
          go_wp2_with fail
          refine bodyPost_end (v := .tuple #[]) (by simp [results, Tryz.results21, go_sem]) rfl ?_
          exact ⟨rfl, g4, nx, Nat.le_refl _, by rw [EX3.out]; exact B4.out, E4.out⟩
        have o2 : (x.kind == 2) = false := by simpa using h2
        by_cases h3 : x.kind = 3
        · have EX3 := hid (show Y = noteA B n ⟨3, x.key, 0, ⟨true, x.bytes⟩, []⟩ from by rw [EX2.out, if_neg h1, if_neg h2, if_pos h3])
          rw [h3] at p0
          have CN := hid (book_note g3 p b nx (N + 1) B n ⟨⟨3, x.key, 0, ⟨true, x.bytes⟩, []⟩, none, 0⟩ w3 hn (by omega) (FixL.none _ _ _ _ rfl) B3.out)
          clear h1 h2 h3 o1 o2 EX2
          go_wp2_with fail
          refine CN.out.mono ?_
          rintro e w4 ⟨rfl, g4, hb, hE⟩
          have E4 := hid (E3.out.trans hE)
          have B4 := hid hb
          clear hb hE CN
          go_wp2_with fail
          refine bodyPost_end (v := .tuple #[]) (by simp [results, Tryz.results21, go_sem]) rfl ?_
          exact ⟨rfl, g4, nx, Nat.le_refl _, by rw [EX3.out]; exact B4.out, E4.out⟩
        have o3 : (x.kind == 3) = false := by simpa using h3
        by_cases h4 : x.kind = 4
        · have EX3 := hid (show Y = noteA B n ⟨4, x.key, 0, Val.zero, []⟩ from by rw [EX2.out, if_neg h1, if_neg h2, if_neg h3, if_pos h4])
          rw [h4] at p0
          have CN := hid (book_note g3 p b nx (N + 1) B n ⟨⟨4, x.key, 0, Val.zero, []⟩, none, 0⟩ w3 hn (by omega) (FixL.none _ _ _ _ rfl) B3.out)
          clear h1 h2 h3 h4 o1 o2 o3 EX2
          go_wp2_with fail
          refine CN.out.mono ?_
          rintro e w4 ⟨rfl, g4, hb, hE⟩
          have E4 := hid (E3.out.trans hE)
          have B4 := hid hb
          clear hb hE CN
          go_wp2_with fail
          refine bodyPost_end (v := .tuple #[]) (by simp [results, Tryz.results21, go_sem]) rfl ?_
          exact ⟨rfl, g4, nx, Nat.le_refl _, by rw [EX3.out]; exact B4.out, E4.out⟩
        have o4 : (x.kind == 4) = false := by simpa using h4
        by_cases h5 : x.kind = 5
        · have EX3 := hid (show Y = noteA B n ⟨5, x.key, x.to_, Val.zero, ev.l⟩ from by rw [EX2.out, if_neg h1, if_neg h2, if_neg h3, if_neg h4, if_pos h5])
          rw [h5] at p0
          have KM := hid (show ∀ g W, LocC W g nx bx 55 (stL x) → LocC W g nx be 74 (evxL ev a cp) → W.cell? ⟨bx, 0, none⟩ = some (.int .i64 5) ∧ W.cell? ⟨bx, 1, none⟩ = some (.int .i64 (n : Int)) ∧ W.cell? ⟨bx, 4, none⟩ = some (.int .i64 x.key) ∧ W.cell? ⟨bx, 5, none⟩ = some (.int .i64 x.to_) ∧ W.cell? ⟨be, 4, none⟩ = some (.slice a ev.l.length cp) from fun g W h k => ⟨(h.1.cell 0).trans (by rw [← h5]; rfl), (h.1.cell 1).trans (by rw [← hxn0.out]; rfl), h.1.cell 4, h.1.cell 5, k.1.cell 4⟩)
          clear h1 h2 h3 h4 h5 o1 o2 o3 o4 EX2
          have HNX := hid (show p + 3 ≤ nx from by obtain ⟨v, L, y, hC⟩ := B3.out; exact hC.nxt)
          have hS0 := KM.out g3 w3.drew (S3.out.below (Below.refl _ _).drew) (V3.out.below (Below.refl _ _).drew)
          have CP := hid (clone_pairs a cp ev.l w3.drew (by omega) (L3.out.lift (fun _ _ => rfl)))
          go_upto_region 15 with (fail)
          -- REGION 15
          refine wp_region_noPanic ?_
          refine wp_region_held_drew (S := (fun W : World => W.cell? ⟨bx, 0, none⟩ = some (.int .i64 5) ∧ W.cell? ⟨bx, 1, none⟩ = some (.int .i64 (n : Int)) ∧ W.cell? ⟨bx, 4, none⟩ = some (.int .i64 x.key) ∧ W.cell? ⟨bx, 5, none⟩ = some (.int .i64 x.to_) ∧ W.cell? ⟨be, 4, none⟩ = some (.slice a ev.l.length cp))) (by kernel_rfl) ?_ (fun hH0 => ?_)
          · (try dsimp only); (first | assumption | exact hS0)
          refine wpAnyH_take (i := 0) (v := ?_) (by simp only [List.getElem?_toArray, List.getElem?_cons_zero]; rfl) (by kernel_rfl) (by kernel_rfl) (by kernel_rfl) (fun _ _ _ h => h) (Or.inl ⟨by rfl, ?_⟩) (by assumption) ?_
          rotate_left
          · intro w hSw; (try dsimp only at hSw); go_simp; (try with_reducible rfl)
          try simp only [Act.put, List.setIfInBounds_toArray, List.set_cons_zero, List.set_cons_succ]
          refine wpAnyH_take (i := 1) (v := ?_) (by simp only [List.getElem?_toArray, List.getElem?_cons_zero, List.getElem?_cons_succ]; rfl) (by kernel_rfl) (by kernel_rfl) (by kernel_rfl) (fun _ _ _ h => h) (Or.inl ⟨by rfl, ?_⟩) (by assumption) ?_
          rotate_left
          · intro w hSw; (try dsimp only at hSw); go_simp; (try with_reducible rfl)
          try simp only [Act.put, List.setIfInBounds_toArray, List.set_cons_zero, List.set_cons_succ]
          refine wpAnyH_take (i := 2) (v := ?_) (by simp only [List.getElem?_toArray, List.getElem?_cons_zero, List.getElem?_cons_succ]; rfl) (by kernel_rfl) (by kernel_rfl) (by kernel_rfl) (fun _ _ _ h => h) (Or.inl ⟨by rfl, ?_⟩) (by assumption) ?_
          rotate_left
          · intro w hSw; (try dsimp only at hSw); go_simp; (try with_reducible rfl)
          try simp only [Act.put, List.setIfInBounds_toArray, List.set_cons_zero, List.set_cons_succ]
          refine wpAnyH_take (i := 3) (v := ?_) (by simp only [List.getElem?_toArray, List.getElem?_cons_zero, List.getElem?_cons_succ]; rfl) (by kernel_rfl) (by kernel_rfl) (by kernel_rfl) (fun _ _ _ h => h) (Or.inl ⟨by rfl, ?_⟩) (by assumption) ?_
          rotate_left
          · intro w hSw; (try dsimp only at hSw); go_simp; (try with_reducible rfl)
          try simp only [Act.put, List.setIfInBounds_toArray, List.set_cons_zero, List.set_cons_succ]
          refine wpAnyH_take (i := 4) (v := ?_) (by simp only [List.getElem?_toArray, List.getElem?_cons_zero, List.getElem?_cons_succ]; rfl) (by kernel_rfl) (by kernel_rfl) (by kernel_rfl) (fun _ _ _ h => h) (Or.inl ⟨by rfl, ?_⟩) (by assumption) ?_
          rotate_left
          · intro w hSw; (try dsimp only at hSw); go_simp; (try with_reducible rfl)
          try simp only [Act.put, List.setIfInBounds_toArray, List.set_cons_zero, List.set_cons_succ]
          refine wpAnyH_take (i := 5) (v := ?_) (by simp only [List.getElem?_toArray, List.getElem?_cons_zero, List.getElem?_cons_succ]; rfl) (by kernel_rfl) (by kernel_rfl) (by kernel_rfl) (fun _ _ _ h => h) (Or.inl ⟨by rfl, ?_⟩) (by assumption) ?_
          rotate_left
          · intro w hSw; (try dsimp only at hSw); go_simp; (try with_reducible rfl)
          try simp only [Act.put, List.setIfInBounds_toArray, List.set_cons_zero, List.set_cons_succ]
          refine wpAnyH_take (i := 6) (v := ?_) (by simp only [List.getElem?_toArray, List.getElem?_cons_zero, List.getElem?_cons_succ]; rfl) (by kernel_rfl) (by kernel_rfl) (by kernel_rfl) (fun _ _ _ h => h) (Or.inl ⟨by rfl, ?_⟩) (by assumption) ?_
          rotate_left
          · intro w hSw; (try dsimp only at hSw); go_simp; (try with_reducible rfl)
          try simp only [Act.put, List.setIfInBounds_toArray, List.set_cons_zero, List.set_cons_succ]
          refine wpAnyH_take (i := 7) (v := ?_) (by simp only [List.getElem?_toArray, List.getElem?_cons_zero, List.getElem?_cons_succ]; rfl) (by kernel_rfl) (by kernel_rfl) (by kernel_rfl) (fun _ _ _ h => h) (Or.inl ⟨by rfl, ?_⟩) (by assumption) ?_
          rotate_left
          · intro w hSw; (try dsimp only at hSw); go_simp; (try with_reducible rfl)
          try simp only [Act.put, List.setIfInBounds_toArray, List.set_cons_zero, List.set_cons_succ]
          refine wpAnyH_take (i := 8) (v := ?_) (by simp only [List.getElem?_toArray, List.getElem?_cons_zero, List.getElem?_cons_succ]; rfl) (by kernel_rfl) (by kernel_rfl) (by kernel_rfl) (fun _ _ _ h => h) (Or.inl ⟨by rfl, ?_⟩) (by assumption) ?_
          rotate_left
          · intro w hSw; (try dsimp only at hSw); go_simp; (try with_reducible rfl)
          try simp only [Act.put, List.setIfInBounds_toArray, List.set_cons_zero, List.set_cons_succ]
          refine wpAnyH_take (i := 9) (v := ?_) (by simp only [List.getElem?_toArray, List.getElem?_cons_zero, List.getElem?_cons_succ]; rfl) (by kernel_rfl) (by kernel_rfl) (by kernel_rfl) (fun _ _ _ h => h) (Or.inl ⟨by rfl, ?_⟩) (by assumption) ?_
          rotate_left
          · intro w hSw; (try dsimp only at hSw); go_simp; (try with_reducible rfl)
          try simp only [Act.put, List.setIfInBounds_toArray, List.set_cons_zero, List.set_cons_succ]
          refine wpAnyH_take (i := 10) (v := ?_) (by simp only [List.getElem?_toArray, List.getElem?_cons_zero, List.getElem?_cons_succ]; rfl) (by kernel_rfl) (by kernel_rfl) (by kernel_rfl) (fun _ _ _ h => h) (Or.inl ⟨by rfl, ?_⟩) (by assumption) ?_
          rotate_left
          · intro w hSw; (try dsimp only at hSw); go_simp; (try with_reducible rfl)
          try simp only [Act.put, List.setIfInBounds_toArray, List.set_cons_zero, List.set_cons_succ]
          refine wpAnyH_ready (rs := [11]) (by kernel_rfl) (by simp) ?_
          refine AllReadyH.cons (by simp only [List.getElem?_toArray, List.getElem?_cons_zero, List.getElem?_cons_succ]; rfl) (fun K hK => ?_) AllReadyH.nil
          go_simp
          go_at_call 35
          (with_reducible refine CP.out.mono ?_)
          rintro e w4 ⟨ad, cap, rfl, hx, hb, hl1, -⟩
          have hb' := ((Below.refl w3.heap.size w3).drew).trans hb
          have S4 := hid (S3.out.frame (Evo.of_below (lo := 0) (hi := 0) g3 (p + 2) hb') (by omega))
          have V4 := hid (V3.out.frame (Evo.of_below (lo := 0) (hi := 0) g3 (p + 2) hb') (by omega))
          have B4 := hid (B3.out.frame (Evo.of_below (lo := 0) (hi := 0) g3 (p + 2) hb') (by omega))
          have E4 := hid (E3.out.trans (Evo.of_below g3 (p + 2) hb'))
          have CN := hid (book_note (extc g3 w3 (p + 2)) p b nx (N + 1) B n ⟨⟨5, x.key, x.to_, Val.zero, ev.l⟩, ad, cap⟩ w4 hn (by omega) ⟨FixC.fresh hx hl1, h8⟩ B4.out)
          have hS' := KM.out _ _ S4.out V4.out
          clear hx hb hl1 hb' CP B4
          try go_wp2_with fail
          refine hK.out _ _ ?_ (fun hH1 => ?_)
          · (try dsimp only); (first | assumption | exact hS0)
          clear hK K hH0
          try simp only [Act.put, List.setIfInBounds_toArray, List.set_cons_zero, List.set_cons_succ]
          refine wpAnyH_take (i := 12) (v := ?_) (by simp only [List.getElem?_toArray, List.getElem?_cons_zero, List.getElem?_cons_succ]; rfl) (by kernel_rfl) (by kernel_rfl) (by kernel_rfl) (fun _ _ _ h => h) (Or.inl ⟨by rfl, ?_⟩) (by assumption) ?_
          rotate_left
          · intro w hSw; (try dsimp only at hSw); go_simp; (try with_reducible rfl)
          try simp only [Act.put, List.setIfInBounds_toArray, List.set_cons_zero, List.set_cons_succ]
          refine wpAnyH_ready (rs := [13]) (by kernel_rfl) (by simp) ?_
          refine AllReadyH.cons (by simp only [List.getElem?_toArray, List.getElem?_cons_zero, List.getElem?_cons_succ]; rfl) (fun K hK => ?_) AllReadyH.nil
          go_simp
          go_at_call 34
          refine CN.out.mono ?_
          rintro e w5 ⟨rfl, g5, hb, hE⟩
          have B5 := hid hb
          have E5 := hid (E4.out.trans hE)
          have hS' := KM.out _ _ (S4.out.frame hE (by omega)) (V4.out.frame hE (by omega))
          clear hb hE CN
          try go_wp2_with fail
          refine hK.out _ _ ?_ (fun hH2 => ?_)
          · (try dsimp only); (first | assumption | exact hS0)
          clear hK K hH1
          try simp only [Act.put, List.setIfInBounds_toArray, List.set_cons_zero, List.set_cons_succ]
          refine wpAnyH_done (by kernel_rfl) ?_ _
          refine NoPanic.normal ?_
          rotate_left
          -- END 15
          go_wp2_with fail
          refine bodyPost_end (v := .tuple #[]) (by simp [results, Tryz.results21, go_sem]) rfl ?_
          exact ⟨rfl, g5, nx, Nat.le_refl _, by rw [EX3.out]; exact B5.out.more (Nat.le_refl _) (by omega), E5.out⟩
        have o5 : (x.kind == 5) = false := by simpa using h5
        have EXB := hid (show Y = B from by rw [EX2.out, if_neg h1, if_neg h2, if_neg h3, if_neg h4, if_neg h5])
        clear h1 h2 h3 h4 h5 EX2
        go_wp2_with fail
        refine bodyPost_end (v := .tuple #[]) (by simp [results, Tryz.results21, go_sem]) rfl ?_
        exact ⟨rfl, g3, nx, Nat.le_refl _, by rw [EXB.out]; exact B3.out.more (Nat.le_refl _) (by omega), E3.out⟩
    · have EXB := hid (show Y = B from by rw [EX.out, if_pos (.inl hc)])
      have hc1 : (ev.code == 0) = false := by simpa using hc
      have hc2 : (ev.code != 0) = true := by simpa using hc
      clear hc EX
      go_wp2_with fail
      refine bodyPost_end (v := .tuple #[]) (by simp [results, Tryz.results21, go_sem]) rfl ?_
      exact ⟨rfl, g3, nx, Nat.le_refl _, by rw [EXB.out]; exact B3.out.more (Nat.le_refl _) (by omega), E3.out⟩

end Go.Proofs.YtoiobhcgpajogadGreat
