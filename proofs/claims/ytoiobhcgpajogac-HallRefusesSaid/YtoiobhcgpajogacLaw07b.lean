/- The walk of HallRefuses. -/
import Derived.Test.YtoiobhcgpajogacLaw07a
namespace Go.Proofs.Ytoiobhcgpajogac
open Go.RowKit

def overB (H : Ht) (x : St) (s : Nat) : Bool := (x.kind == 6 && (s : Int) == x.s) || (x.kind == 10 && isSeatB x.s && (H.seats x.s.toNat).isSome)

structure Refused (H H' : Ht) (x : St) : Prop where
  log : H'.v.log = H.v.log
  last : H'.v.tab.last = H.v.tab.last
  sheet : sheetT H'.v.tab (H'.v.tab.last : Int) = sheetT H.v.tab (H.v.tab.last : Int)
  seats : ∀ s, s < 5 → (H'.seats s).isSome = ((H.seats s).isSome && !overB H x s)

theorem Refused.same {H H' : Ht} {x : St} (hv : H'.v = H.v) (h : ∀ s, s < 5 → (H'.seats s).isSome = ((H.seats s).isSome && !overB H x s)) : Refused H H' x := ⟨by rw [hv], by rw [hv], by rw [hv], h⟩

theorem overB_no {H : Ht} {x : St} (h6 : x.kind ≠ 6) (h10 : x.kind ≠ 10) (s : Nat) : overB H x s = false := by
  unfold overB
  rw [show (x.kind == 6) = false by simpa using h6, show (x.kind == 10) = false by simpa using h10]; rfl

theorem upd_some {S : Nat → Option Ded} {n : Nat} {D D' : Ded} (h : S n = some D) (s : Nat) : ((upd S n (some D')) s).isSome = (S s).isSome := by
  by_cases e : s = n
  · subst e; rw [upd_same, h]; rfl
  · rw [upd_other _ _ e]

theorem commitV_bad {V : Vt} (hV : V.Ok) {D : Ded} (h : (commitV V D).1.2 ≠ 0) : (commitV V D).2 = V := by
  unfold commitV at h ⊢
  split
  · rfl
  · rename_i h1
    rw [if_neg h1] at h
    split
    · rfl
    · rename_i h2
      rw [if_neg h2] at h
      split
      · rfl
      · rename_i h3
        rw [if_neg h3] at h
        have h3' : (putG V.log (writesD D)).1 = 0 := by simpa using h3
        obtain ⟨z1, z2, -⟩ := putG_zero h3'
        exact absurd (by rw [(write_fine z1 (by rw [hV.2.2]; exact z2)).1]) h

theorem tornV_bad {V : Vt} {D : Ded} {keep : Int} (h : (tornV V D keep).1 ≠ 0) : (tornV V D keep).2 = V.log := by
  unfold tornV at h ⊢
  split
  · rename_i h1
    rw [if_pos h1] at h
    unfold tearG at h ⊢
    split
    · rfl
    · rename_i h2
      rw [if_neg h2] at h
      split at h <;> exact absurd rfl h
  · rfl

theorem doH_refused {H : Ht} (hok : H.v.Ok) (hT : H.v.tab.Ok) (hs : H.v.Sound) (x : St) (hc : (doH H x).1.code ≠ 0) : Refused H (doH H x).2 x := by
  have stay : ∀ s : Nat, s < 5 → overB H x s = false → (H.seats s).isSome = ((H.seats s).isSome && !overB H x s) := fun s _ h => by rw [h]; simp
  unfold doH at hc ⊢
  by_cases h1 : x.kind < 1 ∨ 10 < x.kind
  · rw [if_pos h1] at hc ⊢
    exact Refused.same rfl (fun s h5 => stay s h5 (overB_no (by omega) (by omega) s))
  rw [if_neg h1] at hc ⊢
  by_cases h8 : x.kind = 8
  · rw [if_pos h8] at hc; exact absurd rfl hc
  rw [if_neg h8] at hc ⊢
  by_cases h9 : x.kind = 9
  · rw [if_pos h9] at hc; exact absurd rfl hc
  rw [if_neg h9] at hc ⊢
  by_cases hse : isSeatB x.s = false
  · rw [if_pos hse] at hc ⊢
    refine Refused.same rfl (fun s h5 => stay s h5 ?_)
    unfold overB
    rw [hse]
    have : ((s : Int) == x.s) = false := by
      rw [beq_eq_false_iff_ne]
      rintro e
      unfold isSeatB at hse
      rw [← e] at hse
      simp at hse
      omega
    rw [this]; simp
  rw [if_neg hse] at hc ⊢
  have hse' : isSeatB x.s = true := by simpa using hse
  obtain ⟨n, hn, hxn⟩ := seat_nat hse'
  have hxt : x.s.toNat = n := by rw [hxn]; rfl
  by_cases hk1 : x.kind = 1
  · rw [if_pos hk1] at hc ⊢
    have ho : ∀ s, overB H x s = false := overB_no (by omega) (by omega)
    unfold beginH at hc ⊢
    by_cases hb : (H.seats x.s.toNat).isSome
    · rw [if_pos hb] at hc ⊢
      exact Refused.same rfl (fun s h5 => stay s h5 (ho s))
    · rw [if_neg hb] at hc ⊢
      cases hbv : beginV H.v.tab x.mode x.at_ with
      | mk o c =>
        rw [hbv] at hc
        cases o with
        | none => exact Refused.same rfl (fun s h5 => stay s h5 (ho s))
        | some D => exact absurd (beginV_some hbv) hc
  rw [if_neg hk1] at hc ⊢
  unfold deedO at hc ⊢
  rw [hxt] at hc ⊢
  cases hd : H.seats n with
  | none =>
    refine Refused.same rfl (fun s h5 => ?_)
    by_cases es : s = n
    · subst es; rw [show (H.seats s).isSome = false by rw [hd]; rfl]; rfl
    · refine stay s h5 ?_
      unfold overB
      rw [hxt, hd, show ((s : Int) == x.s) = false by rw [beq_eq_false_iff_ne, hxn]; omega]; simp
  | some D =>
    rw [hd] at hc
    simp only at hc ⊢
    unfold deedH at hc ⊢
    rw [hxt] at hc ⊢
    by_cases k2 : x.kind = 2
    · rw [if_pos k2] at hc ⊢
      exact Refused.same rfl (fun s h5 => (upd_some hd s).trans (stay s h5 (overB_no (by omega) (by omega) s)))
    rw [if_neg k2] at hc ⊢
    by_cases k3 : x.kind = 3
    · rw [if_pos k3] at hc ⊢
      exact Refused.same rfl (fun s h5 => (upd_some hd s).trans (stay s h5 (overB_no (by omega) (by omega) s)))
    rw [if_neg k3] at hc ⊢
    by_cases k4 : x.kind = 4
    · rw [if_pos k4] at hc ⊢
      exact Refused.same rfl (fun s h5 => (upd_some hd s).trans (stay s h5 (overB_no (by omega) (by omega) s)))
    rw [if_neg k4] at hc ⊢
    by_cases k5 : x.kind = 5
    · rw [if_pos k5] at hc ⊢
      exact Refused.same rfl (fun s h5 => (upd_some hd s).trans (stay s h5 (overB_no (by omega) (by omega) s)))
    rw [if_neg k5] at hc ⊢
    by_cases k6 : x.kind = 6
    · rw [if_pos k6] at hc ⊢
      refine Refused.same (commitV_bad hok hc) (fun s h5 => ?_)
      show ((upd H.seats n none) s).isSome = _
      by_cases es : s = n
      · subst es
        rw [upd_same]
        have : overB H x s = true := by unfold overB; rw [k6, hxn]; simp
        rw [this]; simp
      · rw [upd_other _ _ es]
        refine stay s h5 ?_
        unfold overB
        rw [show ((s : Int) == x.s) = false by rw [beq_eq_false_iff_ne, hxn]; omega, show (x.kind == 10) = false by rw [k6]; rfl]; simp
    rw [if_neg k6] at hc ⊢
    by_cases k10 : x.kind = 10
    · rw [if_pos k10] at hc ⊢
      have hb := tornV_bad (V := H.v) (D := D) (keep := x.keep) hc
      have hlog : (tearV H.v D x.keep).2.log = H.v.log := by
        show mendG (tornV H.v D x.keep).2 = H.v.log
        rw [hb]; unfold mendG; rw [← hok.2.1]
      have hcr : (tearV H.v D x.keep).2.tab = writeAll Tab.new H.v.log.l := by
        show writeAll Tab.new (tornV H.v D x.keep).2.l = _
        rw [hb]
      have hF := writeAll_ok Tab.new_ok H.v.log.l
      refine ⟨hlog, ?_, ?_, fun s h5 => ?_⟩
      · show (tearV H.v D x.keep).2.tab.last = _
        rw [hcr]; exact hs.1.symm
      · show sheetT (tearV H.v D x.keep).2.tab ((tearV H.v D x.keep).2.tab.last : Int) = _
        rw [hcr]; exact (hs.sheet hT hF).symm
      · have : overB H x s = true := by unfold overB; rw [k10, hse', hxt, hd]; simp
        rw [this]; simp
    · rw [if_neg k10] at hc; exact absurd rfl hc

def bl5 (f : Nat → Bool) : List Value := [.bool (f 0), .bool (f 1), .bool (f 2), .bool (f 3), .bool (f 4)]
theorem bl5_get (f : Nat → Bool) (s : Nat) (h : s < 5) : (bl5 f)[s]? = some (.bool (f s)) := by
  have h : s = 0 ∨ s = 1 ∨ s = 2 ∨ s = 3 ∨ s = 4 := by omega
  rcases h with rfl | rfl | rfl | rfl | rfl <;> rfl
theorem bl5_set (f : Nat → Bool) (s : Nat) (h : s < 5) (b : Bool) : (bl5 f).set s (.bool b) = bl5 (upd f s b) := by
  have h : s = 0 ∨ s = 1 ∨ s = 2 ∨ s = 3 ∨ s = 4 := by omega
  rcases h with rfl | rfl | rfl | rfl | rfl <;> rfl

theorem ref_IsSeat (s : Int) (w : World) : Calls Try.prog 63 #[.int .i64 s] w (fun e w' => e = .returned (.bool (isSeatB s)) ∧ w = w') := by
  unfold isSeatB
  by_cases h0 : s < 0
  · have e : (decide (0 ≤ s) && decide (s < 5)) = false := by simp; omega
    rw [e]
    clear e
    go_enter Try.func63, Try.ntmps63
    go_wp2
    go_ret
    exact ⟨rfl, rfl⟩
  · have h0' : 0 ≤ s := by omega
    by_cases h5 : s < 5
    · have e : (decide (0 ≤ s) && decide (s < 5)) = true := by simp; omega
      rw [e]
      clear e
      go_enter Try.func63, Try.ntmps63
      go_wp2
      go_ret
      exact ⟨rfl, rfl⟩
    · have e : (decide (0 ≤ s) && decide (s < 5)) = false := by simp; omega
      rw [e]
      have h5' : 5 ≤ s := by omega
      clear e
      go_enter Try.func63, Try.ntmps63
      go_wp2
      go_ret
      exact ⟨rfl, rfl⟩

theorem hall_BusyQ (g : Nat → Nat) (p h : Nat) (H : Ht) (s : Int) (w : World) (n : Nat) (hH : HallAt w g p h H) :
    Calls Try.prog 60 #[.pointer (some ⟨h, 0, none⟩), .int .i64 s] (w.drewN n) fun e w' => e = .returned (.bool (isSeatB s && (H.seats s.toNat).isSome)) ∧ ∃ m, w' = w.drewN m :=
  (hall_Busy g p h H s (w.drewN n) (hH.below (below_drewN _ _))).mono (fun _ _ h => ⟨h.1, n, h.2.symm⟩)

theorem join3 {α β : Type} {Goal : Prop} (Facts Φ : α → β → World → Prop) (h2 : (∀ a c w, Facts a c w → Φ a c w) → Goal) (h1 : ∀ a c w, Facts a c w → Φ a c w) : Goal := h2 h1

theorem below_dNh {B : Nat} {w w' : World} (h : Below B w w') (n : Nat) : Below B w (w'.drewN n) := ⟨h.os, h.tape, h.output, h.size, h.block⟩

theorem isSeatB_nat {s : Nat} (h : s < 5) : isSeatB (s : Int) = true := by unfold isSeatB; simp; omega

set_option maxHeartbeats 16000000 in
set_option maxRecDepth 100000 in
theorem walk_HallRefuses (a : Option Addr) (cap : Nat) (l : List St) (w : World) (hl : l.length ≤ 9223372036854775807) (hA : StepsAt w a l) :
    Calls Try.prog 13 #[.slice a l.length cap] w (TruePost w) := by
  have HA := hid hA
  clear hA
  go_enter Try.func13, Try.ntmps13
  go_wp2_with fail
  (with_reducible refine (law_hallBegun w).mono ?_)
  rintro e w1 ⟨rfl, hb⟩
  have B1 := hid hb
  clear hb
  go_wp2_with fail
  (with_reducible refine (law_greatSteps a cap l w1 hl (HA.out.below B1.out)).mono ?_)
  rintro e w1' ⟨rfl, rfl⟩
  cases hg : greatS l with
  | true =>
    clear hg
    go_wp2
    go_ret
    exact ⟨rfl, B1.out⟩
  | false =>
  obtain ⟨h200, h100⟩ := greatS_false hg
  have H100 := hid h100
  have SA := hid (HA.out.below B1.out)
  clear hg h100 HA
  go_wp2_with fail
  refine (hall_New (fun _ => 0) 1 w1).mono ?_
  rintro e w2 ⟨h, g2, rfl, hE, -, hH⟩
  have B2 := hid ((Base.start w1).step hE (by omega))
  have H2 := hid hH
  clear hE hH
  go_wp2_with fail
  go_loopw [4] (fun i wr => ∃ (k : Nat) (g : Nat → Nat) (Hk : Ht), k ≤ l.length ∧ i = .int .i64 k ∧ Hid (HallAt wr g 1 h Hk) ∧ Hid (Base w1.heap.size w1 g wr) ∧ Hid Hk.v.Sound) (fun i _ => l.length - (intOf i).toNat)
  case atStart => exact ⟨0, g2, Ht.new, Nat.zero_le _, rfl, H2, B2, hid Vt.new_sound⟩
  case round =>
    clear H2 B2
    obtain ⟨k, g, Hk, hk, rfl, HH, HB, HS⟩ := hrel
    by_cases hlt : k < l.length
    · have hok := HH.out.ok
      obtain ⟨vp, ds, hC⟩ := HH.out
      obtain ⟨r0, t, b, hV⟩ := hC.top
      obtain ⟨r1, -, -, -⟩ := hV.cells
      have hlen := hV.1.1.2.2.1
      have VL := hid (fun W (hb : Below wr.heap.size wr W) => vault_Log g (1 + 1) vp Hk.v W ((hC.vault).below hb))
      have LA := hid (fun W (hb : Below wr.heap.size wr W) => table_Last g (1 + 1 + 1) t Hk.v.tab W (hV.2.2.1.below hb))
      have KS := hid (fun W (hb : Below wr.heap.size wr W) => (⟨hb, (hC.below hb).top.1, (hV.below hb).cells.1⟩ : Below wr.heap.size wr W ∧ W.cell? ⟨h, 0, none⟩ = some (.pointer (some ⟨vp, 0, none⟩)) ∧ W.cell? ⟨vp, 0, none⟩ = some (.pointer (some ⟨t, 0, none⟩))))
      have HC := hid hC
      have HVC := hid hV
      have HOK := hid hok
      have hcd := hid (codesT_top hok.2)
      have h40 := hok.2.2
      clear hC hV hok
      have hki : (k : Int) < (l.length : Int) := by omega
      generalize hbyt : Hk.v.log.bytes = byt at *
      generalize hn : Hk.v.tab.last = n at *
      have HBY := hid hbyt
      have HN := hid hn
      clear hbyt hn
      go_wp2_with fail
      refine' join3 (fun (_ : Option Addr) (_ : Nat) w5 => Below wr.heap.size wr w5) _ (fun HJ => ?_) (fun a5 c5 w5 hS => ?_)
      rotate_left
      · skip
        -- REGION 9
        refine wp_region_noPanic ?_
        refine wp_region_held_drew (S := (fun W' : World => Below wr.heap.size wr W' ∧ W'.cell? ⟨h, 0, none⟩ = some (.pointer (some ⟨vp, 0, none⟩)) ∧ W'.cell? ⟨vp, 0, none⟩ = some (.pointer (some ⟨t, 0, none⟩)))) (by kernel_rfl) ?_ (fun hH0 => ?_)
        · (try dsimp only); (first | assumption | exact KS.out _ (Below.refl wr.heap.size wr).drew)
        refine wpAnyH_take (i := 0) (v := ?_) (by simp only [List.getElem?_toArray, List.getElem?_cons_zero]; rfl) (by kernel_rfl) (by kernel_rfl) (by kernel_rfl) (fun _ _ _ h => h) (Or.inl ⟨by rfl, ?_⟩) (by assumption) ?_
        rotate_left
        · intro w hSw; (try dsimp only at hSw); go_simp; (try with_reducible rfl)
        try simp only [Act.put, List.setIfInBounds_toArray, List.set_cons_zero, List.set_cons_succ]
        refine wpAnyH_take (i := 1) (v := ?_) (by simp only [List.getElem?_toArray, List.getElem?_cons_zero, List.getElem?_cons_succ]; rfl) (by kernel_rfl) (by kernel_rfl) (by kernel_rfl) (fun _ _ _ h => h) (Or.inl ⟨by rfl, ?_⟩) (by assumption) ?_
        rotate_left
        · intro w hSw; (try dsimp only at hSw); go_simp; (try with_reducible rfl)
        try simp only [Act.put, List.setIfInBounds_toArray, List.set_cons_zero, List.set_cons_succ]
        refine wpAnyH_take (i := 2) (v := ?_) (by simp only [List.getElem?_toArray, List.getElem?_cons_zero, List.getElem?_cons_succ]; rfl) (by kernel_rfl) (by kernel_rfl) (by kernel_rfl) (fun _ _ _ h => h) (Or.inl ⟨by rfl, ?_⟩) (by assumption) ?_
        rotate_left
        · intro w hSw; (try dsimp only at hSw); go_simp; (try with_reducible rfl)
        try simp only [Act.put, List.setIfInBounds_toArray, List.set_cons_zero, List.set_cons_succ]
        refine wpAnyH_take (i := 3) (v := ?_) (by simp only [List.getElem?_toArray, List.getElem?_cons_zero, List.getElem?_cons_succ]; rfl) (by kernel_rfl) (by kernel_rfl) (by kernel_rfl) (fun _ _ _ h => h) (Or.inl ⟨by rfl, ?_⟩) (by assumption) ?_
        rotate_left
        · intro w hSw; (try dsimp only at hSw); go_simp; (try with_reducible rfl)
        try simp only [Act.put, List.setIfInBounds_toArray, List.set_cons_zero, List.set_cons_succ]
        refine wpAnyH_take (i := 6) (v := ?_) (by simp only [List.getElem?_toArray, List.getElem?_cons_zero, List.getElem?_cons_succ]; rfl) (by kernel_rfl) (by kernel_rfl) (by kernel_rfl) (fun _ _ _ h => h) (Or.inl ⟨by rfl, ?_⟩) (by assumption) ?_
        rotate_left
        · intro w hSw; (try dsimp only at hSw); go_simp; (try with_reducible rfl)
        try simp only [Act.put, List.setIfInBounds_toArray, List.set_cons_zero, List.set_cons_succ]
        refine wpAnyH_take (i := 7) (v := ?_) (by simp only [List.getElem?_toArray, List.getElem?_cons_zero, List.getElem?_cons_succ]; rfl) (by kernel_rfl) (by kernel_rfl) (by kernel_rfl) (fun _ _ _ h => h) (Or.inl ⟨by rfl, ?_⟩) (by assumption) ?_
        rotate_left
        · intro w hSw; (try dsimp only at hSw); go_simp; (try with_reducible rfl)
        try simp only [Act.put, List.setIfInBounds_toArray, List.set_cons_zero, List.set_cons_succ]
        refine wpAnyH_take (i := 8) (v := ?_) (by simp only [List.getElem?_toArray, List.getElem?_cons_zero, List.getElem?_cons_succ]; rfl) (by kernel_rfl) (by kernel_rfl) (by kernel_rfl) (fun _ _ _ h => h) (Or.inl ⟨by rfl, ?_⟩) (by assumption) ?_
        rotate_left
        · intro w hSw; (try dsimp only at hSw); go_simp; (try with_reducible rfl)
        try simp only [Act.put, List.setIfInBounds_toArray, List.set_cons_zero, List.set_cons_succ]
        refine wpAnyH_take (i := 9) (v := ?_) (by simp only [List.getElem?_toArray, List.getElem?_cons_zero, List.getElem?_cons_succ]; rfl) (by kernel_rfl) (by kernel_rfl) (by kernel_rfl) (fun _ _ _ h => h) (Or.inl ⟨by rfl, ?_⟩) (by assumption) ?_
        rotate_left
        · intro w hSw; (try dsimp only at hSw); go_simp; (try with_reducible rfl)
        try simp only [Act.put, List.setIfInBounds_toArray, List.set_cons_zero, List.set_cons_succ]
        refine wpAnyH_take (i := 10) (v := ?_) (by simp only [List.getElem?_toArray, List.getElem?_cons_zero, List.getElem?_cons_succ]; rfl) (by kernel_rfl) (by kernel_rfl) (by kernel_rfl) (fun _ _ _ h => h) (Or.inl ⟨by rfl, ?_⟩) (by assumption) ?_
        rotate_left
        · intro w hSw; (try dsimp only at hSw); go_simp; (try with_reducible rfl)
        try simp only [Act.put, List.setIfInBounds_toArray, List.set_cons_zero, List.set_cons_succ]
        refine wpAnyH_take (i := 11) (v := ?_) (by simp only [List.getElem?_toArray, List.getElem?_cons_zero, List.getElem?_cons_succ]; rfl) (by kernel_rfl) (by kernel_rfl) (by kernel_rfl) (fun _ _ _ h => h) (Or.inl ⟨by rfl, ?_⟩) (by assumption) ?_
        rotate_left
        · intro w hSw; (try dsimp only at hSw); go_simp; (try with_reducible rfl)
        try simp only [Act.put, List.setIfInBounds_toArray, List.set_cons_zero, List.set_cons_succ]
        refine wpAnyH_take (i := 12) (v := ?_) (by simp only [List.getElem?_toArray, List.getElem?_cons_zero, List.getElem?_cons_succ]; rfl) (by kernel_rfl) (by kernel_rfl) (by kernel_rfl) (fun _ _ _ h => h) (Or.inl ⟨by rfl, ?_⟩) (by assumption) ?_
        rotate_left
        · intro w hSw; (try dsimp only at hSw); go_simp; (try with_reducible rfl)
        try simp only [Act.put, List.setIfInBounds_toArray, List.set_cons_zero, List.set_cons_succ]
        refine wpAnyH_ready (rs := [4]) (by kernel_rfl) (by simp) ?_
        refine AllReadyH.cons (by simp only [List.getElem?_toArray, List.getElem?_cons_zero, List.getElem?_cons_succ]; rfl) (fun K hK => ?_) AllReadyH.nil
        go_simp
        go_at_call 47
        have hS := (‹Below wr.heap.size wr _ ∧ _›).1
        (with_reducible refine (VL.out _ hS).mono ?_)
        rintro e w5 ⟨a5, c5, rfl, hx5, hb5, -⟩
        have hc5 := conv_sliceAt w5 a5 c5 _ hx5.2
        have hS' := KS.out _ (hS.trans (hb5.mono hS.size))
        clear hx5 hb5 hS
        try go_wp2_with fail
        refine hK.out _ _ ?_ (fun hH1 => ?_)
        · (try dsimp only); (first | assumption | exact KS.out _ (Below.refl wr.heap.size wr).drew)
        clear hK K hH0
        try simp only [Act.put, List.setIfInBounds_toArray, List.set_cons_zero, List.set_cons_succ]
        refine wpAnyH_ready (rs := [5, 13]) (by kernel_rfl) (by simp) ?_
        refine AllReadyH.cons (by simp only [List.getElem?_toArray, List.getElem?_cons_zero, List.getElem?_cons_succ]; rfl) (fun K hK => ?_) ?_
        · skip
          go_simp
          refine hK.out _ _ ?_ (fun hH2 => ?_)
          · (try dsimp only); (first | assumption | exact KS.out _ (Below.refl wr.heap.size wr).drew)
          clear hK K hH1
          try simp only [Act.put, List.setIfInBounds_toArray, List.set_cons_zero, List.set_cons_succ]
          refine wpAnyH_ready (rs := [13]) (by kernel_rfl) (by simp) ?_
          refine AllReadyH.cons (by simp only [List.getElem?_toArray, List.getElem?_cons_zero, List.getElem?_cons_succ]; rfl) (fun K hK => ?_) AllReadyH.nil
          go_simp
          go_at_call 45
          have hS := (‹Below wr.heap.size wr _ ∧ _›).1
          (with_reducible refine (LA.out _ hS).mono ?_)
          rintro e w' ⟨rfl, rfl⟩
          try go_wp2_with fail
          refine hK.out _ _ ?_ (fun hH3 => ?_)
          · (try dsimp only); (first | assumption | exact KS.out _ (Below.refl wr.heap.size wr).drew)
          clear hK K hH2
          try simp only [Act.put, List.setIfInBounds_toArray, List.set_cons_zero, List.set_cons_succ]
          refine wpAnyH_take (i := 14) (v := ?_) (by simp only [List.getElem?_toArray, List.getElem?_cons_zero, List.getElem?_cons_succ]; rfl) (by kernel_rfl) (by kernel_rfl) (by kernel_rfl) (fun _ _ _ h => h) (Or.inl ⟨by rfl, ?_⟩) (by assumption) ?_
          rotate_left
          · intro w hSw; (try dsimp only at hSw); go_simp; (try with_reducible rfl)
          try simp only [Act.put, List.setIfInBounds_toArray, List.set_cons_zero, List.set_cons_succ]
          refine wpAnyH_take (i := 15) (v := ?_) (by simp only [List.getElem?_toArray, List.getElem?_cons_zero, List.getElem?_cons_succ]; rfl) (by kernel_rfl) (by kernel_rfl) (by kernel_rfl) (fun _ _ _ h => h) (Or.inl ⟨by rfl, ?_⟩) (by assumption) ?_
          rotate_left
          · intro w hSw; (try dsimp only at hSw); go_simp; (try with_reducible rfl)
          try simp only [Act.put, List.setIfInBounds_toArray, List.set_cons_zero, List.set_cons_succ]
          refine wpAnyH_done (by kernel_rfl) ?_ _
          refine NoPanic.normal ?_
          exact HJ a5 c5 w5 (‹Below wr.heap.size wr _ ∧ _›).1
        refine AllReadyH.cons (by simp only [List.getElem?_toArray, List.getElem?_cons_zero, List.getElem?_cons_succ]; rfl) (fun K hK => ?_) AllReadyH.nil
        go_simp
        go_at_call 45
        have hS := (‹Below wr.heap.size wr _ ∧ _›).1
        (with_reducible refine (LA.out _ hS).mono ?_)
        rintro e w' ⟨rfl, rfl⟩
        try go_wp2_with fail
        refine hK.out _ _ ?_ (fun hH4 => ?_)
        · (try dsimp only); (first | assumption | exact KS.out _ (Below.refl wr.heap.size wr).drew)
        clear hK K hH1
        try simp only [Act.put, List.setIfInBounds_toArray, List.set_cons_zero, List.set_cons_succ]
        refine wpAnyH_ready (rs := [5]) (by kernel_rfl) (by simp) ?_
        refine AllReadyH.cons (by simp only [List.getElem?_toArray, List.getElem?_cons_zero, List.getElem?_cons_succ]; rfl) (fun K hK => ?_) AllReadyH.nil
        go_simp
        refine hK.out _ _ ?_ (fun hH5 => ?_)
        · (try dsimp only); (first | assumption | exact KS.out _ (Below.refl wr.heap.size wr).drew)
        clear hK K hH4
        try simp only [Act.put, List.setIfInBounds_toArray, List.set_cons_zero, List.set_cons_succ]
        refine wpAnyH_take (i := 14) (v := ?_) (by simp only [List.getElem?_toArray, List.getElem?_cons_zero, List.getElem?_cons_succ]; rfl) (by kernel_rfl) (by kernel_rfl) (by kernel_rfl) (fun _ _ _ h => h) (Or.inl ⟨by rfl, ?_⟩) (by assumption) ?_
        rotate_left
        · intro w hSw; (try dsimp only at hSw); go_simp; (try with_reducible rfl)
        try simp only [Act.put, List.setIfInBounds_toArray, List.set_cons_zero, List.set_cons_succ]
        refine wpAnyH_take (i := 15) (v := ?_) (by simp only [List.getElem?_toArray, List.getElem?_cons_zero, List.getElem?_cons_succ]; rfl) (by kernel_rfl) (by kernel_rfl) (by kernel_rfl) (fun _ _ _ h => h) (Or.inl ⟨by rfl, ?_⟩) (by assumption) ?_
        rotate_left
        · intro w hSw; (try dsimp only at hSw); go_simp; (try with_reducible rfl)
        try simp only [Act.put, List.setIfInBounds_toArray, List.set_cons_zero, List.set_cons_succ]
        refine wpAnyH_done (by kernel_rfl) ?_ _
        refine NoPanic.normal ?_
        exact HJ a5 c5 w5 (‹Below wr.heap.size wr _ ∧ _›).1
        -- END 9
      · skip
        have C5 := hid (HC.out.below hS)
        have V5 := hid (HVC.out.below hS)
        have B5 := hid (HB.out.below' hS)
        clear HC HVC HB KS LA VL HH r0 r1 hS
        obtain ⟨r0, -⟩ := C5.out.top
        obtain ⟨r1, -, -, -⟩ := V5.out.cells
        have P := law_sheet g (1 + 1 + 1) t Hk.v.tab w5 n V5.out.2.2.1
        rw [hcd.out] at P
        have HP := hid P
        generalize hf : sheetT Hk.v.tab (n : Int) = f at *
        have HF := hid hf
        clear P hf
        go_wp2_with fail
        (with_reducible refine HP.out.mono ?_)
        rintro e w6 ⟨rfl, hb⟩
        have C6 := hid (C5.out.below hb)
        have B6 := hid (B5.out.below' hb)
        clear hb C5 V5 B5 HP r0 r1 hcd
        go_wp2_with (refine wpList_new_vals w6 rfl (.tmp 7) (.tmp 50) rfl f rfl rfl ?_; intro w7 hL7 hb7; have L7 := hid (show LocC w7 (extc g w6 41) 41 w6.heap.size 80 (vals8 f) from ⟨hL7, extc_new (Nat.le_refl _)⟩); have C7 := hid (C6.out.frame (Evo.of_below (lo := 0) (hi := 0) g 41 hb7) (by omega)); have B7 := hid (B6.out.step (Evo.of_below (lo := 0) (hi := 0) g 41 hb7) (by omega)); clear hL7 hb7)
        generalize extc g w6 41 = g7 at *
        generalize w6.heap.size = b7 at *
        clear C6 B6
        try go_upto_region 12 with (fail)
        have hA8 := Evo.alloc g7 40 w7 (.cells #[.bool false, .bool false, .bool false, .bool false, .bool false] 113)
        have D8 : Hid (LocC (w7.alloc (.cells #[.bool false, .bool false, .bool false, .bool false, .bool false] 113)) (extc g7 w7 40) 40 w7.heap.size 113 (bl5 (fun j => decide (j < 0) && (Hk.seats j).isSome))) := hid (LocC.new g7 40 w7 113 [.bool false, .bool false, .bool false, .bool false, .bool false])
        have C8 := hid (C7.out.frame hA8 (by omega))
        have B8 := hid (B7.out.step hA8 (by omega))
        have L8 := hid (L7.out.frame hA8 (by omega))
        clear hA8 C7 B7 L7
        generalize w7.alloc (.cells #[.bool false, .bool false, .bool false, .bool false, .bool false] 113) = w8 at *
        generalize extc g7 w7 40 = g8 at *
        generalize w7.heap.size = b9 at *
        have A8 : Hid (HallAt w8 g8 1 h Hk) := hid ⟨vp, ds, C8.out⟩
        clear C8
        go_wp2_with fail
        go_loopw [10] (fun i wr => ∃ s : Nat, s ≤ 5 ∧ i = .int .i64 s ∧ Hid (HallAt wr g8 1 h Hk) ∧ Hid (Base w1.heap.size w1 g8 wr) ∧ Hid (LocC wr g8 41 b7 80 (vals8 f)) ∧ Hid (LocC wr g8 40 b9 113 (bl5 (fun j => decide (j < s) && (Hk.seats j).isSome)))) (fun i _ => 5 - (intOf i).toNat)
        case atStart => exact ⟨0, by omega, rfl, A8, B8, L8, D8⟩
        case round =>
          clear A8 B8 L8 D8
          obtain ⟨s, hs5, rfl, A8, B8, L8, D8⟩ := hrel
          by_cases h5 : s < 5
          · have hs0 : (0 : Int) ≤ (s : Int) := by omega
            have hs5' : (s : Int) < 5 := by omega
            have BU := hid (hall_Busy g8 1 h Hk (s : Int) wr A8.out)
            rw [isSeatB_nat h5, Bool.true_and, Int.toNat_natCast] at BU
            have q1 := (D8.out.1.cell s).trans (bl5_get _ s h5)
            have q2 := D8.out.1.free s
            have hset := hid (bl5_set (fun j => decide (j < s) && (Hk.seats j).isSome) s h5 (Hk.seats s).isSome)
            have hfun := hid (show upd (fun j => decide (j < s) && (Hk.seats j).isSome) s (Hk.seats s).isSome = (fun j => decide (j < s + 1) && (Hk.seats j).isSome) by
              funext j
              unfold upd
              by_cases e : j = s
              · subst e; simp
              · rw [if_neg e, show decide (j < s + 1) = decide (j < s) from decide_eq_decide.2 (by omega)])
            rw [show (decide (s < s) && (Hk.seats s).isSome) = false by simp] at q1
            generalize (Hk.seats s).isSome = bs at *
            go_wp2_with fail
            refine BU.out.mono ?_
            rintro e w' ⟨rfl, rfl⟩
            go_wp2
            go_roundw
            case rel =>
              have ES : Evo 40 (40 + 1) g8 g8 wr (wr.setCell ⟨b9, s, none⟩ (.bool bs)) := evo_store _ D8.out.2
              exact ⟨s + 1, by omega, by go_num, hid (A8.out.frame ES (by omega)), hid (B8.out.step ES (by omega)), hid (L8.out.frame ES (by omega)), hid (by rw [← hfun.out, ← hset.out]; exact D8.out.set s _)⟩
            case measure => simp [intOf]; omega
          · have hs5' : (5 : Int) ≤ (s : Int) := by omega
            have D9 : Hid (LocC wr g8 40 b9 113 (bl5 (fun j => (Hk.seats j).isSome))) := hid (by
              have e : bl5 (fun j => decide (j < s) && (Hk.seats j).isSome) = bl5 (fun j => (Hk.seats j).isSome) := by
                have hd : ∀ j, j < 5 → decide (j < s) = true := fun j hj => by simp; omega
                unfold bl5
                simp only [hd 0 (by omega), hd 1 (by omega), hd 2 (by omega), hd 3 (by omega), hd 4 (by omega), Bool.true_and]
              rw [← e]; exact D8.out)
            clear D8
            obtain ⟨b1, o1, rfl, hbb, v1⟩ := SA.out.facts (by omega)
            obtain ⟨p0, p1, p2, p3, p4, p5, p6, p7, -⟩ := v1 k hlt
            have hx100 := H100.out l[k] (List.getElem_mem _)
            have P0 := (B8.out.cell (p := ⟨b1, _, none⟩) hbb).trans p0
            have P1 := (B8.out.cell (p := ⟨b1, _, none⟩) hbb).trans p1
            have P2 := (B8.out.cell (p := ⟨b1, _, none⟩) hbb).trans p2
            have P3 := (B8.out.cell (p := ⟨b1, _, none⟩) hbb).trans p3
            have P4 := (B8.out.cell (p := ⟨b1, _, none⟩) hbb).trans p4
            have P5 := (B8.out.cell (p := ⟨b1, _, none⟩) hbb).trans p5
            have P6 := (B8.out.cell (p := ⟨b1, _, none⟩) hbb).trans p6
            have P7 := (B8.out.cell (p := ⟨b1, _, none⟩) hbb).trans p7
            have hk0 : (0 : Int) ≤ (k : Int) := by omega
            generalize l[k] = x at *
            have hxm : x.bytes.size ≤ maxLen := by unfold maxLen; omega
            clear v1 p2 p3 p4 p5 p6 p7
            have HP0 := hid p0
            have HP1 := hid p1
            clear p0 p1
            go_wp2_with fail
            refine (hall_Do g8 1 h Hk x wr hxm A8.out).mono ?_
            rintro e w10 ⟨a10, c10, g10, rfl, hH, hE, -, -⟩
            have H10 := hid hH
            have B10 := hid (B8.out.step hE (by omega))
            have L10 := hid (L8.out.frame hE (by omega))
            have D10 := hid (D9.out.frame hE (by omega))
            have S10 := hid (doH_sound HOK.out.1 HOK.out.2 HS.out x)
            have RFF := hid (fun hc => doH_refused HOK.out.1 HOK.out.2 HS.out x hc)
            clear hH hE P0 P1 P2 P3 P4 P5 P6 P7 A8 B8 L8 D9
            generalize doH Hk x = y at *
            obtain ⟨ye, Y2⟩ := y
            obtain ⟨yc, yn, yv, yl⟩ := ye
            have hfd := fun w => run_field_code yc yn yv.there yv.bytes (.slice a10 yl.length c10) w
            by_cases hc : yc = 0
            · have hc' : (yc == 0) = true := by simpa using hc
              clear hc
              go_wp2
              go_roundw
              case rel => exact ⟨k + 1, g10, Y2, by omega, by go_num, H10, B10, S10⟩
              case measure => simp [intOf]; omega
            · have hc' : (yc == 0) = false := by simpa using hc
              have RF := hid (RFF.out hc)
              clear hc RFF
              have hok := H10.out.ok
              obtain ⟨vp2, ds2, hC2⟩ := H10.out
              obtain ⟨r0, t2, b2, hV2⟩ := hC2.top
              obtain ⟨r1, -, -, -⟩ := hV2.cells
              have P := law_sheet g10 (1 + 1 + 1) t2 Y2.v.tab w10 n hV2.2.2.1
              rw [← HN.out, ← RF.out.last, codesT_top hok.2, RF.out.sheet, HN.out, HF.out, RF.out.last, HN.out] at P
              have HP := hid P
              have V2 := hid hV2
              have C2 := hid hC2
              clear P hV2 hC2 H10 hok
              go_wp2_with fail
              (with_reducible refine HP.out.mono ?_)
              rintro e w11 ⟨rfl, hb⟩
              have V3 := hid (V2.out.below hb)
              have C3 := hid (C2.out.below hb)
              have B11 := hid (B10.out.below' hb)
              have L11 := hid (L10.out.below hb)
              have D11 := hid (D10.out.below hb)
              clear hb V2 C2 B10 L10 D10 HP r0 r1
              have hlen2 : Y2.v.log.bytes.length ≤ 3000 := by rw [RF.out.log, HBY.out]; exact hlen
              go_wp2_with (first
                | (refine wpList_new_vals w11 rfl (.tmp 11) (.tmp 79) rfl f rfl rfl ?_; intro w12 hL12 hb12; have M12 := hid hL12; have L12 := hid (L11.out.below hb12); have D12 := hid (D11.out.below hb12); have C12 := hid (C3.out.below hb12); have V12 := hid (V3.out.below hb12); have B12 := hid (B11.out.below' hb12); clear hL12 hb12; obtain ⟨r0, -⟩ := C12.out.top; obtain ⟨r1, -, -, -⟩ := V12.out.cells)
                | refine wpList_load_vals rfl (.tmp 7) rfl b7 rfl f L12.out.1 ?_
                | refine wpList_load_vals rfl (.tmp 11) rfl w11.heap.size rfl f M12.out ?_
                | refine wpList_ne_vals rfl (.tmp 88) (.tmp 89) _ rfl f rfl rfl ?_)
              have VL := hid (vault_Log g10 (1 + 1) vp2 Y2.v w12 C12.out.vault)
              rw [RF.out.log, HBY.out] at VL
              refine VL.out.mono ?_
              rintro e w13 ⟨a13, c13, rfl, hx13, hb13, -⟩
              have hc13 := conv_sliceAt w13 a13 c13 _ hx13.2
              have C13 := hid (C12.out.below hb13)
              have V13 := hid (V12.out.below hb13)
              have B13 := hid (B12.out.below' hb13)
              have D13 := hid (D12.out.below hb13)
              clear hx13 hb13 C12 V12 B12 D12 L12 M12 VL r0 r1 L11 D11 C3 V3 B11
              obtain ⟨r0, -⟩ := C13.out.top
              obtain ⟨r1, -, -, -⟩ := V13.out.cells
              have HT13 := hid V13.out.2.2.1
              go_wp2_with fail
              (with_reducible refine (table_Last g10 (1 + 1 + 1) t2 Y2.v.tab w13 HT13.out).mono ?_)
              rintro e w14 ⟨rfl, rfl⟩
              rw [RF.out.last, HN.out]
              have HH12 : Hid (HallAt w13 g10 1 h Y2) := hid ⟨vp2, ds2, C13.out⟩
              clear hc13 C13 V13 r0 r1 HT13
              generalize g10 = g12 at *
              have hQ0 := (B13.out.cell (p := ⟨b1, _, none⟩) hbb).trans HP0.out
              have hQ1 := (B13.out.cell (p := ⟨b1, _, none⟩) hbb).trans HP1.out
              have HQ0 := hid hQ0
              have HQ1 := hid hQ1
              have hbl : b1 < w13.heap.size := Nat.lt_of_lt_of_le hbb B13.out.size
              clear hQ0 hQ1
              go_wp2_with fail
              go_loopw [13] (fun i wr => ∃ s : Nat, s ≤ 5 ∧ i = .int .i64 s ∧ Hid (Below w13.heap.size w13 wr)) (fun i _ => 5 - (intOf i).toNat)
              case atStart => exact ⟨0, by omega, rfl, hid (Below.refl _ _)⟩
              case round =>
                clear hs5 h5 hs5'
                generalize s = s0 at *
                obtain ⟨s, hs5, rfl, HB3⟩ := hrel
                by_cases h5 : s < 5
                · have hs0 : (0 : Int) ≤ (s : Int) := by omega
                  have hs5' : (s : Int) < 5 := by omega
                  have P0 := (HB3.out.cell (p := ⟨b1, _, none⟩) hbl).trans HQ0.out
                  have P1 := (HB3.out.cell (p := ⟨b1, _, none⟩) hbl).trans HQ1.out
                  have qs := ((D13.out.below HB3.out).1.cell s).trans (bl5_get _ s h5)
                  try simp only at qs
                  by_cases k6 : x.kind = 6
                  · have q6 : (x.kind == 6) = true := by simpa using k6
                    have q10 : (x.kind == 10) = false := by rw [k6]; rfl
                    by_cases hsx : (s : Int) = x.s
                    · have qsx : ((s : Int) == x.s) = true := by simpa using hsx
                      have HOV := hid (show overB Hk x s = true by unfold overB; rw [q6, qsx]; rfl)
                      clear k6 hsx
                      have BQ := hid (fun m => hall_BusyQ g12 1 h Y2 (s : Int) wr m (HH12.out.below HB3.out))
                      rw [show (isSeatB (s : Int) && (Y2.seats (s : Int).toNat).isSome) = ((Hk.seats s).isSome && !overB Hk x s) by rw [isSeatB_nat h5, Bool.true_and, Int.toNat_natCast]; exact RF.out.seats s h5] at BQ
                      rw [HOV.out] at BQ
                      cases hbs : (Hk.seats s).isSome with
                      | true =>
                        rw [hbs] at BQ qs
                        simp only [Bool.true_and, Bool.not_true] at BQ
                        clear hbs
                        go_wp2_with fail
                        go_quiet ((go_at_call 60; exact BQ.out _))
                        go_wp2
                        go_roundw
                        case rel => exact ⟨s + 1, by omega, by go_num, hid (below_dNh HB3.out _)⟩
                        case measure => simp [intOf]; omega
                      | false =>
                        rw [hbs] at BQ qs
                        simp only [Bool.false_and] at BQ
                        clear hbs
                        go_wp2_with fail
                        go_quiet ((go_at_call 60; exact BQ.out _))
                        go_wp2
                        go_roundw
                        case rel => exact ⟨s + 1, by omega, by go_num, hid (below_dNh HB3.out _)⟩
                        case measure => simp [intOf]; omega
                    · have qsx : ((s : Int) == x.s) = false := by simpa using hsx
                      have HOV := hid (show overB Hk x s = false by unfold overB; rw [q6, q10, qsx]; rfl)
                      clear k6 hsx
                      have BQ := hid (fun m => hall_BusyQ g12 1 h Y2 (s : Int) wr m (HH12.out.below HB3.out))
                      rw [show (isSeatB (s : Int) && (Y2.seats (s : Int).toNat).isSome) = ((Hk.seats s).isSome && !overB Hk x s) by rw [isSeatB_nat h5, Bool.true_and, Int.toNat_natCast]; exact RF.out.seats s h5] at BQ
                      rw [HOV.out] at BQ
                      cases hbs : (Hk.seats s).isSome with
                      | true =>
                        rw [hbs] at BQ qs
                        simp only [Bool.true_and, Bool.not_false] at BQ
                        clear hbs
                        go_wp2_with fail
                        go_quiet ((go_at_call 60; exact BQ.out _))
                        go_wp2
                        go_roundw
                        case rel => exact ⟨s + 1, by omega, by go_num, hid (below_dNh HB3.out _)⟩
                        case measure => simp [intOf]; omega
                      | false =>
                        rw [hbs] at BQ qs
                        simp only [Bool.false_and] at BQ
                        clear hbs
                        go_wp2_with fail
                        go_quiet ((go_at_call 60; exact BQ.out _))
                        go_wp2
                        go_roundw
                        case rel => exact ⟨s + 1, by omega, by go_num, hid (below_dNh HB3.out _)⟩
                        case measure => simp [intOf]; omega
                  · have q6 : (x.kind == 6) = false := by simpa using k6
                    by_cases k10 : x.kind = 10
                    · have q10 : (x.kind == 10) = true := by simpa using k10
                      have SE := hid (ref_IsSeat x.s wr)
                      cases hse : isSeatB x.s with
                      | false =>
                        rw [hse] at SE
                        have HOV := hid (show overB Hk x s = false by unfold overB; rw [q6, q10, hse]; simp)
                        clear k6 k10 hse
                        go_wp2_with fail
                        refine SE.out.mono ?_
                        rintro e w' ⟨rfl, rfl⟩
                        have BQ := hid (fun m => hall_BusyQ g12 1 h Y2 (s : Int) wr m (HH12.out.below HB3.out))
                        rw [show (isSeatB (s : Int) && (Y2.seats (s : Int).toNat).isSome) = ((Hk.seats s).isSome && !overB Hk x s) by rw [isSeatB_nat h5, Bool.true_and, Int.toNat_natCast]; exact RF.out.seats s h5] at BQ
                        rw [HOV.out] at BQ
                        cases hbs : (Hk.seats s).isSome with
                        | true =>
                          rw [hbs] at BQ qs
                          simp only [Bool.true_and, Bool.not_false] at BQ
                          clear hbs
                          go_wp2_with fail
                          go_quiet ((go_at_call 60; exact BQ.out _))
                          go_wp2
                          go_roundw
                          case rel => exact ⟨s + 1, by omega, by go_num, hid (below_dNh HB3.out _)⟩
                          case measure => simp [intOf]; omega
                        | false =>
                          rw [hbs] at BQ qs
                          simp only [Bool.false_and] at BQ
                          clear hbs
                          go_wp2_with fail
                          go_quiet ((go_at_call 60; exact BQ.out _))
                          go_wp2
                          go_roundw
                          case rel => exact ⟨s + 1, by omega, by go_num, hid (below_dNh HB3.out _)⟩
                          case measure => simp [intOf]; omega
                      | true =>
                        obtain ⟨m, hm, hxm2⟩ := seat_nat hse
                        rw [hse] at SE
                        have hov := hid (show overB Hk x s = (Hk.seats m).isSome by unfold overB; rw [q6, q10, hse, hxm2]; simp)
                        have qm := ((D13.out.below HB3.out).1.cell m).trans (bl5_get _ m hm)
                        try simp only at qm
                        have hm0 : (0 : Int) ≤ (m : Int) := by omega
                        have hm5 : (m : Int) < 5 := by omega
                        rw [hxm2] at P1 SE
                        clear k6 k10 hse hxm2
                        cases hbm : (Hk.seats m).isSome with
                        | true =>
                          rw [hbm] at qm
                          have HOV := hid (hov.out.trans hbm)
                          clear hbm hov
                          go_wp2_with fail
                          refine SE.out.mono ?_
                          rintro e w' ⟨rfl, rfl⟩
                          have BQ := hid (fun m => hall_BusyQ g12 1 h Y2 (s : Int) wr m (HH12.out.below HB3.out))
                          rw [show (isSeatB (s : Int) && (Y2.seats (s : Int).toNat).isSome) = ((Hk.seats s).isSome && !overB Hk x s) by rw [isSeatB_nat h5, Bool.true_and, Int.toNat_natCast]; exact RF.out.seats s h5] at BQ
                          rw [HOV.out] at BQ
                          cases hbs : (Hk.seats s).isSome with
                          | true =>
                            rw [hbs] at BQ qs
                            simp only [Bool.true_and, Bool.not_true] at BQ
                            clear hbs
                            go_wp2_with fail
                            go_quiet ((go_at_call 60; exact BQ.out _))
                            go_wp2
                            go_roundw
                            case rel => exact ⟨s + 1, by omega, by go_num, hid (below_dNh HB3.out _)⟩
                            case measure => simp [intOf]; omega
                          | false =>
                            rw [hbs] at BQ qs
                            simp only [Bool.false_and] at BQ
                            clear hbs
                            go_wp2_with fail
                            go_quiet ((go_at_call 60; exact BQ.out _))
                            go_wp2
                            go_roundw
                            case rel => exact ⟨s + 1, by omega, by go_num, hid (below_dNh HB3.out _)⟩
                            case measure => simp [intOf]; omega
                        | false =>
                          rw [hbm] at qm
                          have HOV := hid (hov.out.trans hbm)
                          clear hbm hov
                          go_wp2_with fail
                          refine SE.out.mono ?_
                          rintro e w' ⟨rfl, rfl⟩
                          have BQ := hid (fun m => hall_BusyQ g12 1 h Y2 (s : Int) wr m (HH12.out.below HB3.out))
                          rw [show (isSeatB (s : Int) && (Y2.seats (s : Int).toNat).isSome) = ((Hk.seats s).isSome && !overB Hk x s) by rw [isSeatB_nat h5, Bool.true_and, Int.toNat_natCast]; exact RF.out.seats s h5] at BQ
                          rw [HOV.out] at BQ
                          cases hbs : (Hk.seats s).isSome with
                          | true =>
                            rw [hbs] at BQ qs
                            simp only [Bool.true_and, Bool.not_false] at BQ
                            clear hbs
                            go_wp2_with fail
                            go_quiet ((go_at_call 60; exact BQ.out _))
                            go_wp2
                            go_roundw
                            case rel => exact ⟨s + 1, by omega, by go_num, hid (below_dNh HB3.out _)⟩
                            case measure => simp [intOf]; omega
                          | false =>
                            rw [hbs] at BQ qs
                            simp only [Bool.false_and] at BQ
                            clear hbs
                            go_wp2_with fail
                            go_quiet ((go_at_call 60; exact BQ.out _))
                            go_wp2
                            go_roundw
                            case rel => exact ⟨s + 1, by omega, by go_num, hid (below_dNh HB3.out _)⟩
                            case measure => simp [intOf]; omega
                    · have q10 : (x.kind == 10) = false := by simpa using k10
                      have HOV := hid (show overB Hk x s = false by unfold overB; rw [q6, q10]; simp)
                      clear k6 k10
                      have BQ := hid (fun m => hall_BusyQ g12 1 h Y2 (s : Int) wr m (HH12.out.below HB3.out))
                      rw [show (isSeatB (s : Int) && (Y2.seats (s : Int).toNat).isSome) = ((Hk.seats s).isSome && !overB Hk x s) by rw [isSeatB_nat h5, Bool.true_and, Int.toNat_natCast]; exact RF.out.seats s h5] at BQ
                      rw [HOV.out] at BQ
                      cases hbs : (Hk.seats s).isSome with
                      | true =>
                        rw [hbs] at BQ qs
                        simp only [Bool.true_and, Bool.not_false] at BQ
                        clear hbs
                        go_wp2_with fail
                        go_quiet ((go_at_call 60; exact BQ.out _))
                        go_wp2
                        go_roundw
                        case rel => exact ⟨s + 1, by omega, by go_num, hid (below_dNh HB3.out _)⟩
                        case measure => simp [intOf]; omega
                      | false =>
                        rw [hbs] at BQ qs
                        simp only [Bool.false_and] at BQ
                        clear hbs
                        go_wp2_with fail
                        go_quiet ((go_at_call 60; exact BQ.out _))
                        go_wp2
                        go_roundw
                        case rel => exact ⟨s + 1, by omega, by go_num, hid (below_dNh HB3.out _)⟩
                        case measure => simp [intOf]; omega
                · have hs5' : (5 : Int) ≤ (s : Int) := by omega
                  go_wp2
                  go_roundw
                  case rel => exact ⟨k + 1, g12, Y2, by omega, by go_num, hid (HH12.out.below HB3.out), hid (B13.out.below' HB3.out), S10⟩
                  case measure => simp [intOf]; omega
    · have hge : (l.length : Int) ≤ (k : Int) := by omega
      clear SA
      go_wp2
      go_ret
      exact ⟨rfl, B1.out.trans (HB.out.below.mono B1.out.size)⟩

end Go.Proofs.Ytoiobhcgpajogac
