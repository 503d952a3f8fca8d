/- The walk of noted. -/
import Derived.Test.YtoiobhcgpajogadGreatBook5
namespace Go.Proofs.YtoiobhcgpajogadGreat
open Go.RowKit

theorem listDGo_length8 {T : Tab} : ∀ (ks : List Nat) (D : Ded) (out : List Ent), (listDGo T ks D out).1.1.length ≤ out.length + ks.length
  | [], D, out => by simp [listDGo]
  | k :: ks, D, out => by
    rw [listDGo]
    split
    · simp
    · have h := listDGo_length8 (T := T) ks (getD D T k).2 (if (getD D T k).1.1.there then out ++ [⟨k, (getD D T k).1.1⟩] else out)
      have h2 : (if (getD D T k).1.1.there then out ++ [⟨(k : Int), (getD D T k).1.1⟩] else out).length ≤ out.length + 1 := by split <;> simp
      simp only [List.length_cons]
      omega

theorem doH_told8 (H : Ht) (x : St) : (doH H x).1.l.length ≤ 8 := by
  have hl : ∀ (D : Ded) (T : Tab) (f u : Int), (listD D T f u).1.1.length ≤ 8 := by
    intro D T f u
    unfold listD
    split
    · simp
    · have h := listDGo_length8 (T := T) ((List.range (u.toNat + 1)).drop f.toNat) D []
      simp only [List.length_drop, List.length_range, List.length_nil] at h
      omega
  unfold doH
  split
  · simp [Evt.of]
  split
  · simp [Evt.of]
  split
  · simp [Evt.of]
  split
  · simp [Evt.of]
  split
  · unfold beginH
    split
    · simp [Evt.of]
    · split <;> simp [Evt.of]
  · unfold deedO
    split
    · simp [Evt.of]
    · unfold deedH
      split
      · simp
      split
      · simp [Evt.of]
      split
      · simp [Evt.of]
      split
      · exact hl _ _ _ _
      repeat' split
      all_goals simp [Evt.of]

def NotedPost (l : List St) (w : World) (e : Ending) (w' : World) : Prop :=
  ∃ ad c M, e = .returned (.slice ad M.length c) ∧ DonesF w' ad M ∧ M.map Dnx.d = notedS l ∧ Below w.heap.size w w' ∧ M.length ≤ 2 * l.length ∧ (∀ y ∈ M, y.acts.length ≤ 2 * l.length ∧ ∀ z ∈ y.acts, z.a.l.length ≤ 8) ∧ (∀ y ∈ M, y.acts.length ≤ y.cap) ∧ GoodN (runN (Ht.new, Bk.new) l)

set_option maxHeartbeats 4000000 in
set_option maxRecDepth 100000 in
theorem law_noted (a : Option Addr) (cap : Nat) (l : List St) (w : World) (hl : l.length ≤ 400000) (hx : ∀ x ∈ l, x.bytes.size ≤ maxLen) (hA : StepsAt w a l) :
    Calls Tryz.prog 8 #[.slice a l.length cap] w (NotedPost l w) := by
  have HA := hid hA
  have HX := hid hx
  clear hA hx
  go_enter Tryz.func8, Tryz.ntmps8
  go_wp2_with fail
  refine (hall_New (fun _ => 0) 1 w).mono ?_
  rintro e w1 ⟨h, g1, rfl, hE, -, hH⟩
  have B1 := hid ((Base.start w).step hE (by omega))
  have H1 := hid hH
  clear hE hH
  go_wp2_with fail
  refine (book_New g1 20 w1).mono ?_
  rintro e w2 ⟨b, g2, rfl, hE, -, hK⟩
  have B2 := hid (B1.out.step (hE.none (lo' := 1) (hi' := 1) (Nat.le_refl _)) (by omega))
  have H2 := hid (H1.out.frame hE (by omega))
  have K2 := hid hK
  clear hE hK B1 H1
  go_wp2_with fail
  go_loopw [5] (fun i wr => ∃ (k : Nat) (g : Nat → Nat) (nx : Nat), k ≤ l.length ∧ i = .int .i64 k ∧ Hid (HallAt wr g 1 h (runN (Ht.new, Bk.new) (l.take k)).1) ∧ Hid (BookAt wr g 20 b nx (2 * k) (runN (Ht.new, Bk.new) (l.take k)).2) ∧ Hid (Base w.heap.size w g wr) ∧ Hid (GoodN (runN (Ht.new, Bk.new) (l.take k)))) (fun i _ => l.length - (intOf i).toNat)
  case atStart => exact ⟨0, g2, 20 + 3, Nat.zero_le _, rfl, H2, K2, B2, hid GoodN.start⟩
  case round =>
    clear H2 B2 K2
    obtain ⟨k, g, nx, hk, rfl, HH, HK, HB, HG⟩ := hrel
    by_cases hlt : k < l.length
    · have HST := hid (runN_take (Ht.new, Bk.new) l hlt)
      have HXM := hid (HX.out l[k] (List.getElem_mem _))
      obtain ⟨b1, o1, rfl, hbb, v1⟩ := HA.out.facts (by omega)
      obtain ⟨p0, p1, p2, p3, p4, p5, p6, p7, -⟩ := v1 k hlt
      have HP := hid (fun (W : World) (hW : Below w.heap.size w W) => (show W.cell? ⟨b1, o1 + k * 8, none⟩ = some (.int .i64 l[k].kind) ∧ W.cell? ⟨b1, o1 + k * 8 + 1, none⟩ = some (.int .i64 l[k].s) ∧ W.cell? ⟨b1, o1 + k * 8 + 2, none⟩ = some (.int .i64 l[k].mode) ∧ W.cell? ⟨b1, o1 + k * 8 + 3, none⟩ = some (.int .i64 l[k].at_) ∧ W.cell? ⟨b1, o1 + k * 8 + 4, none⟩ = some (.int .i64 l[k].key) ∧ W.cell? ⟨b1, o1 + k * 8 + 5, none⟩ = some (.int .i64 l[k].to_) ∧ W.cell? ⟨b1, o1 + k * 8 + 6, none⟩ = some (.int .i64 l[k].keep) ∧ W.cell? ⟨b1, o1 + k * 8 + 7, none⟩ = some (.string l[k].bytes) from
        ⟨(below_cell hW hbb).trans p0, (below_cell hW hbb).trans p1, (below_cell hW hbb).trans p2, (below_cell hW hbb).trans p3, (below_cell hW hbb).trans p4, (below_cell hW hbb).trans p5, (below_cell hW hbb).trans p6, (below_cell hW hbb).trans p7⟩))
      have hki : (k : Int) < (l.length : Int) := by omega
      have hk0 : (0 : Int) ≤ (k : Int) := by omega
      clear v1 p0 p1 p2 p3 p4 p5 p6 p7
      generalize l[k] = x at *
      generalize runN (Ht.new, Bk.new) (l.take k) = r at *
      obtain ⟨vp, ds, hC⟩ := HH.out
      obtain ⟨r0, t, bl, hV⟩ := hC.top
      obtain ⟨r1, -, -, -⟩ := hV.cells
      have HT := hid hV.2.2.1
      clear hC hV
      go_wp2_with fail
      (with_reducible refine (table_Last g (1 + 1 + 1) t r.1.v.tab wr HT.out).mono ?_)
      rintro e w3 ⟨rfl, rfl⟩
      clear r0 r1 HT
      go_upto_region 8 with (fail)
      have HBD := hid (HB.out.below' (Below.refl _ _).drew)
      have hS0 := HP.out wr.drew HBD.out.below
      have DO := hid (hall_Do g 1 h r.1 x wr.drew HXM.out (HH.out.below (Below.refl _ _).drew))
      have KD := hid (HK.out.below (Below.refl _ _).drew)
      have GS := hid (HG.out.step HH.out.ok.1 HH.out.ok.2 HH.out.deedsOk0 x)
      clear HH HK HB HG
      -- REGION 8
      refine wp_region_noPanic ?_
      refine wp_region_held_drew (S := (fun W : World => W.cell? ⟨b1, o1 + k * 8, none⟩ = some (.int .i64 x.kind) ∧ W.cell? ⟨b1, o1 + k * 8 + 1, none⟩ = some (.int .i64 x.s) ∧ W.cell? ⟨b1, o1 + k * 8 + 2, none⟩ = some (.int .i64 x.mode) ∧ W.cell? ⟨b1, o1 + k * 8 + 3, none⟩ = some (.int .i64 x.at_) ∧ W.cell? ⟨b1, o1 + k * 8 + 4, none⟩ = some (.int .i64 x.key) ∧ W.cell? ⟨b1, o1 + k * 8 + 5, none⟩ = some (.int .i64 x.to_) ∧ W.cell? ⟨b1, o1 + k * 8 + 6, none⟩ = some (.int .i64 x.keep) ∧ W.cell? ⟨b1, o1 + k * 8 + 7, none⟩ = some (.string x.bytes))) (by kernel_rfl) ?_ (fun hH0 => ?_)
      · (try dsimp only); (first | assumption | exact hS0)
      refine wpAnyH_take (i := 0) (v := ?_) (by simp only [List.getElem?_toArray, List.getElem?_cons_zero]; rfl) (by kernel_rfl) (by kernel_rfl) (by kernel_rfl) (fun _ _ _ h => h) (Or.inl ⟨by rfl, ?_⟩) (by assumption) ?_
      rotate_left
      · intro w hSw; (try dsimp only at hSw); go_simp; (try with_reducible rfl)
      try simp only [Act.put, List.setIfInBounds_toArray, List.set_cons_zero, List.set_cons_succ]
      refine wpAnyH_take (i := 1) (v := ?_) (by simp only [List.getElem?_toArray, List.getElem?_cons_zero, List.getElem?_cons_succ]; rfl) (by kernel_rfl) (by kernel_rfl) (by kernel_rfl) (fun _ _ _ h => h) (Or.inl ⟨by rfl, ?_⟩) (by assumption) ?_
      rotate_left
      · intro w hSw; (try dsimp only at hSw); go_simp; (try with_reducible rfl)
      try simp only [Act.put, List.setIfInBounds_toArray, List.set_cons_zero, List.set_cons_succ]
      refine wpAnyH_take (i := 2) (v := ?_) (by simp only [List.getElem?_toArray, List.getElem?_cons_zero, List.getElem?_cons_succ]; rfl) (by kernel_rfl) (by kernel_rfl) (by kernel_rfl) (fun _ _ _ h => h) (Or.inl ⟨by rfl, ?_⟩) (by assumption) ?_
      rotate_left
      · intro w hSw; (try dsimp only at hSw); go_simp; (try with_reducible rfl)
      try simp only [Act.put, List.setIfInBounds_toArray, List.set_cons_zero, List.set_cons_succ]
      refine wpAnyH_take (i := 3) (v := ?_) (by simp only [List.getElem?_toArray, List.getElem?_cons_zero, List.getElem?_cons_succ]; rfl) (by kernel_rfl) (by kernel_rfl) (by kernel_rfl) (fun _ _ _ h => h) (Or.inl ⟨by rfl, ?_⟩) (by assumption) ?_
      rotate_left
      · intro w hSw; (try dsimp only at hSw); go_simp; (try with_reducible rfl)
      try simp only [Act.put, List.setIfInBounds_toArray, List.set_cons_zero, List.set_cons_succ]
      refine wpAnyH_take (i := 4) (v := ?_) (by simp only [List.getElem?_toArray, List.getElem?_cons_zero, List.getElem?_cons_succ]; rfl) (by kernel_rfl) (by kernel_rfl) (by kernel_rfl) (fun _ _ _ h => h) (Or.inl ⟨by rfl, ?_⟩) (by assumption) ?_
      rotate_left
      · intro w hSw; (try dsimp only at hSw); go_simp; (try with_reducible rfl)
      try simp only [Act.put, List.setIfInBounds_toArray, List.set_cons_zero, List.set_cons_succ]
      refine wpAnyH_take (i := 5) (v := ?_) (by simp only [List.getElem?_toArray, List.getElem?_cons_zero, List.getElem?_cons_succ]; rfl) (by kernel_rfl) (by kernel_rfl) (by kernel_rfl) (fun _ _ _ h => h) (Or.inl ⟨by rfl, ?_⟩) (by assumption) ?_
      rotate_left
      · intro w hSw; (try dsimp only at hSw); go_simp; (try with_reducible rfl)
      try simp only [Act.put, List.setIfInBounds_toArray, List.set_cons_zero, List.set_cons_succ]
      refine wpAnyH_take (i := 6) (v := ?_) (by simp only [List.getElem?_toArray, List.getElem?_cons_zero, List.getElem?_cons_succ]; rfl) (by kernel_rfl) (by kernel_rfl) (by kernel_rfl) (fun _ _ _ h => h) (Or.inl ⟨by rfl, ?_⟩) (by assumption) ?_
      rotate_left
      · intro w hSw; (try dsimp only at hSw); go_simp; (try with_reducible rfl)
      try simp only [Act.put, List.setIfInBounds_toArray, List.set_cons_zero, List.set_cons_succ]
      refine wpAnyH_take (i := 7) (v := ?_) (by simp only [List.getElem?_toArray, List.getElem?_cons_zero, List.getElem?_cons_succ]; rfl) (by kernel_rfl) (by kernel_rfl) (by kernel_rfl) (fun _ _ _ h => h) (Or.inl ⟨by rfl, ?_⟩) (by assumption) ?_
      rotate_left
      · intro w hSw; (try dsimp only at hSw); go_simp; (try with_reducible rfl)
      try simp only [Act.put, List.setIfInBounds_toArray, List.set_cons_zero, List.set_cons_succ]
      refine wpAnyH_take (i := 8) (v := ?_) (by simp only [List.getElem?_toArray, List.getElem?_cons_zero, List.getElem?_cons_succ]; rfl) (by kernel_rfl) (by kernel_rfl) (by kernel_rfl) (fun _ _ _ h => h) (Or.inl ⟨by rfl, ?_⟩) (by assumption) ?_
      rotate_left
      · intro w hSw; (try dsimp only at hSw); go_simp; (try with_reducible rfl)
      try simp only [Act.put, List.setIfInBounds_toArray, List.set_cons_zero, List.set_cons_succ]
      refine wpAnyH_take (i := 9) (v := ?_) (by simp only [List.getElem?_toArray, List.getElem?_cons_zero, List.getElem?_cons_succ]; rfl) (by kernel_rfl) (by kernel_rfl) (by kernel_rfl) (fun _ _ _ h => h) (Or.inl ⟨by rfl, ?_⟩) (by assumption) ?_
      rotate_left
      · intro w hSw; (try dsimp only at hSw); go_simp; (try with_reducible rfl)
      try simp only [Act.put, List.setIfInBounds_toArray, List.set_cons_zero, List.set_cons_succ]
      refine wpAnyH_take (i := 11) (v := ?_) (by simp only [List.getElem?_toArray, List.getElem?_cons_zero, List.getElem?_cons_succ]; rfl) (by kernel_rfl) (by kernel_rfl) (by kernel_rfl) (fun _ _ _ h => h) (Or.inl ⟨by rfl, ?_⟩) (by assumption) ?_
      rotate_left
      · intro w hSw; (try dsimp only at hSw); go_simp; (try with_reducible rfl)
      try simp only [Act.put, List.setIfInBounds_toArray, List.set_cons_zero, List.set_cons_succ]
      refine wpAnyH_ready (rs := [10]) (by kernel_rfl) (by simp) ?_
      refine AllReadyH.cons (by simp only [List.getElem?_toArray, List.getElem?_cons_zero, List.getElem?_cons_succ]; rfl) (fun K hK => ?_) AllReadyH.nil
      go_simp
      go_at_call 22
      refine DO.out.mono ?_
      rintro e w4 ⟨a4, c4, g4, rfl, hH4, hE4, hs4, hn4⟩
      have E4 := hid hE4
      have H4 := hid hH4
      have B4 := hid (HBD.out.step hE4 (by omega))
      have K4 := hid (KD.out.frame (hE4.paint 0) (by omega))
      have NT := hid (book_Note (paint g4 wr.drew 0) 20 b nx (2 * k) r.2 x (doH r.1 x).1 a4 c4 r.1.v.tab.last w4 (by omega) K4.out hs4 (fun ad e => by have := hn4 ad e; unfold paint; rw [if_neg (Nat.not_lt.2 this)]; omega) (doH_told8 r.1 x))
      have hS' := HP.out w4 B4.out.below
      clear hH4 hE4 hs4 hn4 DO KD K4
      try go_wp2_with fail
      refine hK.out _ _ ?_ (fun hH1 => ?_)
      · (try dsimp only); (first | assumption | exact hS0)
      clear hK K hH0
      try simp only [Act.put, List.setIfInBounds_toArray, List.set_cons_zero, List.set_cons_succ]
      refine wpAnyH_ready (rs := [12]) (by kernel_rfl) (by simp) ?_
      refine AllReadyH.cons (by simp only [List.getElem?_toArray, List.getElem?_cons_zero, List.getElem?_cons_succ]; rfl) (fun K hK => ?_) AllReadyH.nil
      go_simp
      go_at_call 21
      refine NT.out.mono ?_
      rintro e w5 ⟨rfl, g5, nx5, hnx5, hK5, hE5⟩
      obtain ⟨g6, R5⟩ : ∃ g6, HallAt w5 g6 1 h (doH r.1 x).2 ∧ BookAt w5 g6 20 b nx5 (2 * k + 2) (noteK r.2 x (doH r.1 x).1 r.1.v.tab.last) ∧ Base w.heap.size w g6 w5 := noted_two HBD.out E4.out H4.out hE5 hK5
      have R5 := hid R5
      have hS' := HP.out w5 R5.out.2.2.below
      clear hK5 hE5 NT E4 H4 B4
      try go_wp2_with fail
      refine hK.out _ _ ?_ (fun hH2 => ?_)
      · (try dsimp only); (first | assumption | exact hS0)
      clear hK K hH1
      try simp only [Act.put, List.setIfInBounds_toArray, List.set_cons_zero, List.set_cons_succ]
      refine wpAnyH_done (by kernel_rfl) ?_ _
      refine NoPanic.normal ?_
      rotate_left
      -- END 8
      go_wp2
      go_roundw
      case rel => exact ⟨k + 1, _, nx5, by omega, by go_num, hid (by rw [HST.out]; exact R5.out.1), hid (by rw [HST.out]; exact R5.out.2.1), hid R5.out.2.2, hid (by rw [HST.out]; exact GS.out)⟩
      case measure => simp [intOf]; omega
    · obtain rfl : k = l.length := by omega
      have K := hid (show BookAt wr g 20 b nx (2 * l.length) (runN (Ht.new, Bk.new) l).2 from by have := HK.out; rw [List.take_length] at this; exact this)
      have GE := hid (show GoodN (runN (Ht.new, Bk.new) l) from by have := HG.out; rw [List.take_length] at this; exact this)
      clear HK HH HG
      go_wp2_with fail
      refine (book_List g 20 b nx (2 * l.length) _ wr (by omega) K.out).mono ?_
      rintro e w3 ⟨ad, c, M, rfl, hD, hM, hb, h1, h2, h3⟩
      have HP := hid (show NotedPost l w (.returned (.slice ad M.length c)) w3 from ⟨ad, c, M, rfl, hD, hM, HB.out.below.trans (hb.mono HB.out.size), h1, h2, h3, GE.out⟩)
      clear hD hM hb h1 h2 h3
      go_wp2
      go_ret
      exact HP.out

end Go.Proofs.YtoiobhcgpajogadGreat

/- The walk of greatActs. -/
namespace Go.Proofs.YtoiobhcgpajogadGreat
open Go.RowKit

def greatC (x : Ac) : Bool := decide (100 < x.v.bytes.size) || greatP x.l
def greatA (l : List Acx) : Bool := (l.take 200).any (fun x => greatC x.a) || decide (150 < l.length)

theorem greatA_false {l : List Acx} (h : greatA l = false) : l.length ≤ 150 ∧ ∀ x ∈ l, x.a.v.bytes.size ≤ 100 ∧ x.a.l.length ≤ 50 := by
  unfold greatA at h
  simp only [Bool.or_eq_false_iff, decide_eq_false_iff_not, List.any_eq_false] at h
  refine ⟨by omega, fun x hx => ?_⟩
  rw [List.take_of_length_le (by omega)] at h
  have := h.1 x hx
  unfold greatC at this
  simp only [Bool.or_eq_true, decide_eq_true_eq, not_or, Bool.not_eq_true] at this
  exact ⟨by omega, (greatP_false this.2).1⟩

set_option maxHeartbeats 1000000 in
set_option maxRecDepth 100000 in
theorem law_greatActs (a : Option Addr) (cap : Nat) (l : List Acx) (w : World) (hn : l.length ≤ 9223372036854775807) (hA : ActsAt w a l) :
    Calls Tryz.prog 6 #[.slice a l.length cap] w (BoolPost (greatA l) w) := by
  have fin : ∀ b, greatA l = b → ∀ w', Below w.heap.size w w' → BoolPost (greatA l) w (.returned (.bool b)) w' := fun b h w' hb => ⟨by rw [h], hb⟩
  have F := hid fin
  have HA := hid hA
  clear fin hA
  go_enter Tryz.func6, Tryz.ntmps6
  go_wp2
  go_loopw [3] (fun i wr => ∃ k : Nat, k ≤ l.length ∧ k ≤ 200 ∧ i = .int .i64 k ∧ Hid ((l.take k).any (fun x => greatC x.a) = false) ∧ Below w.heap.size w wr) (fun i _ => 200 - (intOf i).toNat)
  case atStart => exact ⟨0, Nat.zero_le _, by omega, rfl, hid (by simp), Below.refl _ _⟩
  case round =>
    obtain ⟨k, hk, hk2, rfl, HH, hb⟩ := hrel
    by_cases hlt : k < l.length
    · by_cases hk3 : k < 200
      · obtain ⟨b, off, rfl, hbb, hv⟩ := (HA.out.below hb).facts (by omega)
        obtain ⟨-, -, -, -, g4, g5, g6⟩ := hv k hlt
        have hst : (l.take (k + 1)).any (fun x => greatC x.a) = (false || greatC l[k].a) := by
          rw [List.take_succ_eq_append_getElem hlt, List.any_append, HH.out]; simp
        have hmono : (l.take (k + 1)).any (fun x => greatC x.a) = true → (l.take 200).any (fun x => greatC x.a) = true := by
          intro h
          rw [List.any_eq_true] at h ⊢
          obtain ⟨x, hx, h⟩ := h
          exact ⟨x, (List.take_subset_take_left l (by omega)) hx, h⟩
        have HG := hid (law_greatPairs l[k].ad l[k].cap l[k].a.l wr (by have := g6.2.1; unfold maxLen at this; omega) g6.1.sl)
        have HB := hid hb
        have HST := hid hst
        have HM := hid hmono
        have hki : (k : Int) < (l.length : Int) := by omega
        have hk0 : (0 : Int) ≤ (k : Int) := by omega
        have hk1 : (k : Int) < 200 := by omega
        clear hv hst hmono g6 hb
        generalize l[k] = x at *
        by_cases hbs : 100 < x.a.v.bytes.size
        · have G := hid (show greatA l = true from by unfold greatA; rw [HM.out (by rw [HST.out]; unfold greatC; simp [hbs])]; rfl)
          clear HST HM HG
          go_wp2
          go_ret
          exact F.out _ G.out _ HB.out
        · have HC := hid (show greatC x.a = greatP x.a.l from by unfold greatC; simp [hbs])
          generalize hgp : greatP x.a.l = gp at *
          clear hgp
          go_wp2_with fail
          (with_reducible refine HG.out.mono ?_)
          rintro e w1 ⟨rfl, hb⟩
          have HB1 := hid (HB.out.trans (hb.mono HB.out.size))
          clear hb HG
          cases gp with
          | true =>
            go_wp2
            go_ret
            exact F.out _ (by unfold greatA; rw [HM.out (by rw [HST.out, HC.out]; rfl)]; rfl) _ HB1.out
          | false =>
            go_wp2
            go_roundw
            case rel => exact ⟨k + 1, by omega, by omega, by go_num, hid (by rw [HST.out, HC.out]; rfl), HB1.out⟩
            case measure => simp [intOf]; omega
      · obtain rfl : k = 200 := by omega
        have G := hid (show greatA l = true by unfold greatA; simp; right; omega)
        have HB := hid hb
        have hki : (200 : Int) < (l.length : Int) := by omega
        clear hb
        go_wp2
        go_ret
        exact F.out _ (by rw [G.out]; simp; omega) _ HB.out
    · obtain rfl : k = l.length := by omega
      have G := hid (show greatA l = decide (150 < l.length) by unfold greatA; rw [List.take_of_length_le hk2, ← List.take_length (l := l), HH.out]; simp)
      have HB := hid hb
      clear hb
      go_wp2
      go_ret
      exact F.out (decide ((150 : Int) < (l.length : Int))) (by rw [G.out]; exact decide_eq_decide.2 (by omega)) _ HB.out

end Go.Proofs.YtoiobhcgpajogadGreat
