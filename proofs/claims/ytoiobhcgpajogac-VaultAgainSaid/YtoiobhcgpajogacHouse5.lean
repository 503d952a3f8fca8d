/- The house of a vault's law: newHouse, drop. -/
import Derived.Test.YtoiobhcgpajogacHouse4
import Derived.Deep.RegionHeld3
namespace Go.Proofs.Ytoiobhcgpajogac
open Go.RowKit

theorem ht_new_eq : Ht.new = ⟨Vt.new, fun _ => none⟩ := rfl

theorem law_newHouse (w : World) : Calls Try.prog 42 #[] w (fun e w' => ∃ h vp c g', e = .returned (.pointer (some ⟨h, 0, none⟩)) ∧ Evo 0 0 (fun _ => 0) g' w w' ∧
    HouseC w' g' 1 h vp c (.slice none 0 0) (.slice none 0 0) 41 0 0 Vt.new Vt.new (fun _ => ⟨0, 0, 0, Ded.new 1 0, Ded.new 1 0⟩)) := by
  go_enter Try.func42, Try.ntmps42
  go_wp2_with fail
  refine (vault_New (fun _ => 0) (1 + 1) w).mono ?_
  rintro e w1 ⟨vp, g1, rfl, hE1, -, hV1⟩
  have E1 := hid hE1
  have V1 := hid hV1
  clear hE1 hV1
  go_wp2_with fail
  refine (court_New g1 (1 + 12) w1).mono ?_
  rintro e w2 ⟨c, g2, rfl, hE2, -, hC2⟩
  have E2 := hid (E1.out.trans hE2)
  have V2 := hid (V1.out.frame hE2 (by omega))
  have C2 := hid hC2
  clear hE2 hC2 E1 V1
  go_wp2_with fail
  go_ret
  have hE := Evo.alloc g2 1 w2 (.cells #[.pointer (some ⟨vp, 0, none⟩), .pointer (some ⟨c, 0, none⟩), .slice none 0 0, .slice none 0 0] 69)
  refine ⟨w2.heap.size, vp, c, extc g2 w2 1, rfl, E2.out.trans hE, LocC.new g2 1 w2 69 [.pointer (some ⟨vp, 0, none⟩), .pointer (some ⟨c, 0, none⟩), .slice none 0 0, .slice none 0 0], V2.out.frame hE (by omega), C2.out.frame hE (by omega),
    RowP.nil _ _ _ _, RowP.nil _ _ _ _, fun i hi => by omega, fun i hi => by omega, fun i hi => by omega, fun i j hi => by omega, by omega, by omega⟩

theorem Try.infoPD : (Try.prog.info? 31).map (fun i => (i.zero, i.size, i.bytes)) = some (some (.pointer none), 1, 8) := by kernel_rfl
theorem Try.infoPW : (Try.prog.info? 33).map (fun i => (i.zero, i.size, i.bytes)) = some (some (.pointer none), 1, 8) := by kernel_rfl

theorem tail_at {w : World} {b o n cap m : Nat} {xs : List Value} (hs : SliceAt w (some ⟨b, o, none⟩) xs) (hl : xs.length = n) (hm : m + 1 ≤ n) (hc : n ≤ cap) :
    SliceAt w (if cap = m + 1 then some ⟨b, o, none⟩ else some ⟨b, o + (m + 1), none⟩) (xs.drop (m + 1)) := by
  by_cases h : cap = m + 1
  · left
    rw [List.drop_eq_nil_of_le (by omega)]
  · rw [if_neg h]
    rcases hs with hs | ⟨b', o', e, hs⟩
    · left; rw [hs]; rfl
    · cases e
      refine .inr ⟨b, o + (m + 1), rfl, fun j u hu => ?_⟩
      rw [List.getElem?_drop] at hu
      rw [Nat.add_assoc]
      exact hs _ _ hu

theorem rowsD_len {n m : Nat} (x : Nat → En) (hm : m < n) : ((rowD n x).take m ++ (rowD n x).drop (m + 1)).length = n - 1 := by
  simp only [List.length_append, List.length_take, List.length_drop, rowD_length]; omega

theorem rowsB_len {n m : Nat} (x : Nat → En) (hm : m < n) : ((rowB n x).take m ++ (rowB n x).drop (m + 1)).length = n - 1 := by
  simp only [List.length_append, List.length_take, List.length_drop, rowB_length]; omega

theorem ptrs_one (n : Nat) (x : Nat → En) (k : Nat) : (∀ u ∈ (rowD n x).drop k, u.oneCell' = true) ∧ ∀ u ∈ (rowB n x).drop k, u.oneCell' = true := by
  constructor <;> intro u hu <;> have h := List.mem_of_mem_drop hu
  · unfold rowD at h; obtain ⟨i, -, rfl⟩ := List.mem_map.1 h; rfl
  · unfold rowB at h; obtain ⟨i, -, rfl⟩ := List.mem_map.1 h; rfl

/-- The house on its way to have one deed less: the m-th one's memory is told apart, the court too. -/
structure HouseX (w : World) (g : Nat → Nat) (p h vp c : Nat) (vd vw : Value) (nx N n : Nat) (V : Vt) (x : Nat → En) (m : Nat) : Prop where
  loc : LocC w g p h 69 [.pointer (some ⟨vp, 0, none⟩), .pointer (some ⟨c, 0, none⟩), vd, vw]
  rd : RowP w g (p + 33) 31 vd (rowD n x)
  rb : RowP w g (p + 34) 33 vw (rowB n x)
  vault : VaultAt w g (p + 1) vp V
  deed : ∀ i, i < n → i ≠ m → DeedAt w g (x i).cl (x i).d (x i).D
  work : ∀ i, i < n → i ≠ m → WorkAt w g ((x i).cl + 1) (x i).b (x i).E N
  col : ∀ i, i < n → p + 40 ≤ (x i).cl ∧ (x i).cl + 4 ≤ nx
  apart : ∀ i j, i < n → j < n → i ≠ j → (x i).cl + 4 ≤ (x j).cl ∨ (x j).cl + 4 ≤ (x i).cl
  nxt : p + 40 ≤ nx
  few : n ≤ 6

section
variable {lo hi : Nat} {w w' : World} {g g' : Nat → Nat} {p h vp c nx N n m : Nat} {vd vw : Value} {V U : Vt} {x : Nat → En}
theorem HouseX.frame (k : HouseX w g p h vp c vd vw nx N n V x m) (e : Evo lo hi g g' w w') (hc : nx ≤ lo ∨ hi ≤ p ∨ p + 12 ≤ lo ∧ hi ≤ p + 33) : HouseX w' g' p h vp c vd vw nx N n V x m := by
  have h0 := k.nxt
  exact ⟨k.loc.frame e (by omega), k.rd.frame e (by omega), k.rb.frame e (by omega), k.vault.frame e (by omega), fun i hi hm => (k.deed i hi hm).frame e (by have := k.col i hi; omega),
    fun i hi hm => (k.work i hi hm).frame e (by have := k.col i hi; omega), k.col, k.apart, h0, k.few⟩
theorem HouseX.below (k : HouseX w g p h vp c vd vw nx N n V x m) (e : Below w.heap.size w w') : HouseX w' g p h vp c vd vw nx N n V x m :=
  k.frame (lo := 0) (hi := 0) ⟨e.os, e.tape, e.output, e.size, fun _ _ => rfl, fun j hj _ => e.block j hj⟩ (by omega)
theorem HouseX.more (k : HouseX w g p h vp c vd vw nx N n V x m) {N2 : Nat} (hN : N ≤ N2) : HouseX w g p h vp c vd vw nx N2 n V x m :=
  ⟨k.loc, k.rd, k.rb, k.vault, k.deed, fun i hi hm => (k.work i hi hm).more hN, k.col, k.apart, k.nxt, k.few⟩
theorem HouseX.newVault (k : HouseX w g p h vp c vd vw nx N n V x m) {V2 : Vt} (e : Evo (p + 1) (p + 1 + 11) g g' w w') (hv : VaultAt w' g' (p + 1) vp V2) : HouseX w' g' p h vp c vd vw nx N n V2 x m := by
  have h0 := k.nxt
  exact ⟨k.loc.frame e (by omega), k.rd.frame e (by omega), k.rb.frame e (by omega), hv, fun i hi hm => (k.deed i hi hm).frame e (by have := k.col i hi; omega),
    fun i hi hm => (k.work i hi hm).frame e (by have := k.col i hi; omega), k.col, k.apart, h0, k.few⟩
theorem HouseX.less (k : HouseX w g p h vp c vd vw nx N n V x m) (hm : m < n) (hC : CourtAt w g (p + 12) c N ⟨U, fun _ => none⟩) : HouseR w g p vp c nx N (n - 1) V U (less x m) := by
  refine ⟨k.vault, hC, fun i hi => ?_, fun i hi => ?_, fun i hi => ?_, fun i j hi hj hne => ?_, k.nxt, by have := k.few; omega⟩
  · obtain ⟨j, ej, hj⟩ := less_at x m i
    rw [ej]; exact k.deed j (by omega) (by omega)
  · obtain ⟨j, ej, hj⟩ := less_at x m i
    rw [ej]; exact k.work j (by omega) (by omega)
  · obtain ⟨j, ej, hj⟩ := less_at x m i
    rw [ej]; exact k.col j (by omega)
  · obtain ⟨i', ei, hi'⟩ := less_at x m i
    obtain ⟨j', ej, hj'⟩ := less_at x m j
    rw [ei, ej]; exact k.apart i' j' (by omega) (by omega) (by omega)
theorem HouseC.toX (k : HouseC w g p h vp c vd vw nx N n V U x) (m : Nat) : HouseX w g p h vp c vd vw nx N n V x m :=
  ⟨k.loc, k.rd, k.rb, k.vault, fun i hi _ => k.deed i hi, fun i hi _ => k.work i hi, k.col, k.apart, k.nxt, k.few⟩
end

def DropPost (g : Nat → Nat) (p h vp c nx N n : Nat) (V U : Vt) (x : Nat → En) (m : Nat) (w : World) (e : Ending) (w' : World) : Prop :=
  e = .returned (.tuple #[]) ∧ ∃ vd vw g', HouseC w' g' p h vp c vd vw nx N (n - 1) V U (less x m) ∧ Evo p (p + 35) g g' w w'

set_option maxHeartbeats 2000000 in
set_option maxRecDepth 100000 in
theorem house_drop (g : Nat → Nat) (p h vp c nx N n : Nat) (vd vw : Value) (V U : Vt) (x : Nat → En) (m : Nat) (w : World) (hm : m < n) (hH : HouseX w g p h vp c vd vw nx N n V x m) (hCt : CourtAt w g (p + 12) c N ⟨U, fun _ => none⟩) :
    Calls Try.prog 91 #[.pointer (some ⟨h, 0, none⟩), .int .i64 m] w (DropPost g p h vp c nx N n V U x m w) := by
  have hfew := hH.few
  obtain ⟨ad, cd, rfl, sd, bd⟩ := hH.rd.slice
  obtain ⟨aw, cw, rfl, sw, bw⟩ := hH.rb.slice
  have TD := hid (hH.rd.take rfl (k := m) (by rw [rowD_length]; exact hm))
  have TW := hid (hH.rb.take rfl (k := m) (by rw [rowB_length]; exact hm))
  rw [rowD_length] at *
  rw [rowB_length] at *
  have hd1 := hH.rd.cap
  have hw1 := hH.rb.cap
  rw [rowD_length] at hd1
  rw [rowB_length] at hw1
  obtain ⟨_, _, e, hcd⟩ := hd1
  cases e
  obtain ⟨_, _, e, hcw⟩ := hw1
  cases e
  have H0 := hid hH
  have k2 := hH.loc.1.cell 2
  have k3 := hH.loc.1.cell 3
  obtain ⟨b1, o1, rfl⟩ : ∃ b o, ad = some ⟨b, o, none⟩ := by
    rcases sd with e | ⟨b, o, e, -⟩
    · have := rowD_length n x; rw [e] at this; simp at this; omega
    · exact ⟨b, o, e⟩
  obtain ⟨b2, o2, rfl⟩ : ∃ b o, aw = some ⟨b, o, none⟩ := by
    rcases sw with e | ⟨b, o, e, -⟩
    · have := rowB_length n x; rw [e] at this; simp at this; omega
    · exact ⟨b, o, e⟩
  have SD := hid sd
  have SW := hid sw
  have hmi : (m : Int) < (n : Int) := by omega
  have hm0 : (0 : Int) ≤ (m : Int) := by omega
  have hmc : m ≤ cd := by omega
  have hmw : m ≤ cw := by omega
  have hm1 : m + 1 ≤ n := by omega
  have hm1i : (m : Int) + 1 ≤ (n : Int) := by omega
  have hm10 : (0 : Int) ≤ (m : Int) + 1 := by omega
  have hwr : IntKind.i64.wrap ((m : Int) + 1) = (m : Int) + 1 := by
    have h : m = 0 ∨ m = 1 ∨ m = 2 ∨ m = 3 ∨ m = 4 ∨ m = 5 := by omega
    rcases h with rfl | rfl | rfl | rfl | rfl | rfl <;> rfl
  have htn : ((m : Int) + 1).toNat = m + 1 := by omega
  obtain ⟨A1, hA1, hS1⟩ : ∃ A, (if cd = m + 1 then some (⟨b1, o1, none⟩ : Addr) else some ⟨b1, o1 + (m + 1), none⟩) = A ∧ SliceAt w A ((rowD n x).drop (m + 1)) := ⟨_, rfl, tail_at sd (rowD_length n x) hm1 hcd⟩
  obtain ⟨A2, hA2, hS2⟩ : ∃ A, (if cw = m + 1 then some (⟨b2, o2, none⟩ : Addr) else some ⟨b2, o2 + (m + 1), none⟩) = A ∧ SliceAt w A ((rowB n x).drop (m + 1)) := ⟨_, rfl, tail_at sw (rowB_length n x) hm1 hcw⟩
  have S1 := hid hS1
  have S2 := hid hS2
  obtain ⟨i0, hi, hz0, hz1, hz2⟩ := info_parts Try.infoPD
  obtain ⟨j0, hj, hy0, hy1, hy2⟩ := info_parts Try.infoPW
  have H0d := hid (hH.below (Below.refl _ _).drew)
  have RRd := hid (H0d.out.less hm (hCt.below (Below.refl _ _).drew))
  have TDd := hid (TD.out.below (Below.refl _ _).drew)
  have S1d := hid (sliceAt_below hS1 (Below.refl _ _).drew)
  clear hH hCt sd sw bd bw hS1 hS2 TD S1
  simp only [List.getElem?_cons_succ, List.getElem?_cons_zero] at k2 k3
  go_enter Try.func91, Try.ntmps91
  go_wp2_with fail
  go_region_law ((refine step_append_row rfl (.tmp 11) (.tmp 18) 66 rfl i0 (.pointer none) Try.underlying66 hi hz0 hz1 hz2 rfl (.slice (some ⟨b1, o1, none⟩) m m) ((rowD n x).take m) rfl TDd.out A1 (n - (m + 1)) (cd - (m + 1)) ((rowD n x).drop (m + 1)) rfl (by rw [List.length_drop, rowD_length]) S1d.out (ptrs_one n x (m + 1)).1 (by simp only [List.length_take, List.length_drop, rowD_length]; omega) ?_; intro v7 w7 hR hE; obtain ⟨a7, c7, hv7, -, -⟩ := hR.slice; rw [rowsD_len x hm] at hv7; subst hv7; have R7 := hid hR; have E7 := hid hE; have HL7 := hid ((H0d.out.loc).frame hE (by omega)); have k2' := HL7.out.1.cell 2; have f2' := HL7.out.1.free 2; simp only [List.getElem?_cons_succ, List.getElem?_cons_zero] at k2'; clear hR hE))
  all_goals
    have hst := evo_store (g := extc g w.drew (p + 33)) (w := w7) (b := h) (i := 2) (q := p) (.slice a7 (n - 1) c7) HL7.out.2
    have HL8 := hid (HL7.out.set 2 (.slice a7 (n - 1) c7))
    have RD8 := hid (R7.out.frame hst (by omega))
    have RB8 := hid ((H0d.out.rb.frame E7.out (by omega)).frame hst (by omega))
    have RR8 := hid ((RRd.out.frame E7.out (by omega)).frame hst (by omega))
    have E8 := hid ((Evo.drew p (p + 35) g w).trans ((E7.out.wide (lo' := p) (hi' := p + 35) (by omega) (by omega)).trans (hst.wide (by omega) (by omega))))
    clear hst HL7 R7 E7 k2' f2' H0 H0d RRd k2 k3 TDd S1d TW S2 SD SW hA1
    generalize w7.setCell ⟨h, 2, none⟩ (.slice a7 (n - 1) c7) = w8 at *
    generalize extc g w.drew (p + 33) = g1 at *
    have k3 : w8.cell? ⟨h, 3, none⟩ = some (.slice (some ⟨b2, o2, none⟩) n cw) := HL8.out.1.cell 3
    have RB9 := hid (RB8.out.below (Below.refl _ _).drew)
    have HL9 := hid (show LocC w8.drew g1 p h _ _ from HL8.out)
    have TW9 := hid (RB9.out.take (by rw [rowB_length]) (k := m) (by rw [rowB_length]; exact hm))
    have hs9 : SliceAt w8.drew (some ⟨b2, o2, none⟩) (rowB n x) := by
      obtain ⟨a, cc, e, hs, -⟩ := RB9.out.slice
      rw [rowB_length] at e
      cases e
      exact hs
    have S9 := hid (tail_at hs9 (rowB_length n x) hm1 hcw)
    rw [hA2] at S9
    clear hs9
    go_wp2_with fail
    go_region_law ((refine step_append_row rfl (.tmp 29) (.tmp 36) 67 rfl j0 (.pointer none) Try.underlying67 hj hy0 hy1 hy2 rfl (.slice (some ⟨b2, o2, none⟩) m m) ((rowB n x).take m) rfl TW9.out A2 (n - (m + 1)) (cw - (m + 1)) ((rowB n x).drop (m + 1)) rfl (by rw [List.length_drop, rowB_length]) S9.out (ptrs_one n x (m + 1)).2 (by simp only [List.length_take, List.length_drop, rowB_length]; omega) ?_; intro va wa hR hE; obtain ⟨aa, ca, hva, -, -⟩ := hR.slice; rw [rowsB_len x hm] at hva; subst hva; have Ra := hid hR; have Ea := hid hE; have HLa := hid (HL9.out.frame hE (by omega)); have k3' := HLa.out.1.cell 3; have f3' := HLa.out.1.free 3; simp only [List.getElem?_cons_succ, List.getElem?_cons_zero, List.set_cons_succ, List.set_cons_zero] at k3'; clear hR hE))
    all_goals
      have hst := evo_store (g := extc g1 w8.drew (p + 34)) (w := wa) (b := h) (i := 3) (q := p) (.slice aa (n - 1) ca) HLa.out.2
      have HLb := hid (HLa.out.set 3 (.slice aa (n - 1) ca))
      have RDb := hid (((RD8.out.below (Below.refl _ _).drew).frame Ea.out (by omega)).frame hst (by omega))
      have RBb := hid (Ra.out.frame hst (by omega))
      have RRb := hid (((RR8.out.below (Below.refl _ _).drew).frame Ea.out (by omega)).frame hst (by omega))
      have Eb := hid (E8.out.trans ((Evo.drew p (p + 35) g1 w8).trans ((Ea.out.wide (lo' := p) (hi' := p + 35) (by omega) (by omega)).trans (hst.wide (by omega) (by omega)))))
      clear hst HLa Ra Ea RD8 RR8 E8 k3 k3' f3' RB8 RB9 HL8 HL9 TW9 S9
      generalize wa.setCell ⟨h, 3, none⟩ (.slice aa (n - 1) ca) = wb at *
      go_wp2_with fail
      refine bodyPost_end (v := .tuple #[]) (by simp [results, Try.results91, go_sem]) rfl ?_
      refine ⟨rfl, .slice a7 (n - 1) c7, .slice aa (n - 1) ca, _, RRb.out.with HLb.out ?_ ?_, Eb.out⟩
      · rw [rowD_less x hm]; exact RDb.out
      · rw [rowB_less x hm]; exact RBb.out

end Go.Proofs.Ytoiobhcgpajogac
