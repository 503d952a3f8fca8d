/- A desk: the walk of step. -/
import Derived.Test.YtoiobhcgpajogabGreatDoorDesk5
import Derived.RegionTactic
namespace Go.Proofs.YtoiobhcgpajogabGreatDoor
open Go.RowKit

theorem cell_put {w : World} {b i b1 o : Nat} {u : Value} (h : w.cell? ⟨b1, o, none⟩ = some u) (hne : b1 ≠ b) (v : Value) : (w.setCell ⟨b, i, none⟩ v).cell? ⟨b1, o, none⟩ = some u := by
  have := Below.heap_setCell w ⟨b, i, none⟩ v b1 hne
  unfold World.cell? at *
  rw [this]
  exact h

section
variable {P : Program} {md : Region.Mode} {ops : Array Oper} {Q : Exit → Act → World → Prop} {S : World → Prop}
/-- An operation that only reads, taken first. -/
theorem tk (i : Nat) {oi : Oper} {v : Value} {fuel : Nat} {listed : Array Bool} {a : Act} {w : World} (hi : ops[i]? = some oi := by simp only [List.getElem?_toArray, List.getElem?_cons_zero, List.getElem?_cons_succ]; rfl)
    (hs : Region.noSelect ops = true := by kernel_rfl) (hf : Region.free md ops listed i = true := by kernel_rfl) (hr : (Region.ready md ops listed).contains i = true := by kernel_rfl)
    (hQ : ∀ c a w, Q (.panic c) (a.put oi.dst v) w → Q (.panic c) a w := by exact fun _ _ _ h => h) (hy : YieldsIf P ops S oi v a := by exact Or.inl ⟨by rfl, by intro w hSw; (try dsimp only at hSw); go_simp; (try with_reducible rfl)⟩) (hS : S w := by assumption)
    (h : wpAnyH P md ops Q S fuel (listed.setIfInBounds i true) (a.put oi.dst v) w) : wpAnyH P md ops Q S (fuel + 1) listed a w :=
  wpAnyH_take hi hs hf hr hQ hy hS h
end

set_option maxHeartbeats 2000000 in
set_option maxRecDepth 100000 in
theorem desk_step_none (d : Nat) (w : World) (s : ByteArray) (vs : List Int) (a : Option Addr) (cap : Nat) (hn : vs.length ≤ 10000) (hs : stepD s.data.toList vs = Option.none) :
    Calls Tryz.prog 20 #[.pointer (some ⟨d, 0, none⟩), .string s, .slice a vs.length cap] w (fun e w' => e = .returned (.bool false) ∧ w = w') := by
  have hq : (wordD s.data.toList).1 = 0 ∨ vs.length ≠ (wordD s.data.toList).2 := by
    unfold stepD at hs
    split at hs
    · assumption
    · cases hs
  have hnl : (vs.length : Int) ≤ 10000 := by omega
  clear hs
  go_enter Tryz.func20, Tryz.ntmps20
  go_wp2_with fail
  refine (desk_word s _).mono ?_
  rintro e w' ⟨rfl, rfl⟩
  generalize wordD s.data.toList = kn at *
  obtain ⟨kd, n⟩ := kn
  simp only at hq ⊢
  by_cases h0 : kd = 0
  · subst h0
    clear hq
    go_wp2
    go_ret
    exact ⟨rfl, rfl⟩
  · have h1 : (kd == 0) = false := by simpa using h0
    have h2 : ((vs.length : Int) != (n : Int)) = true := by
      have := hq.resolve_left h0
      simp only [bne_iff_ne, ne_eq]
      omega
    clear hq h0
    go_wp2
    go_ret
    exact ⟨rfl, rfl⟩

set_option maxHeartbeats 8000000 in
set_option maxRecDepth 100000 in
theorem desk_step_get (w0 : World) (g0 g : Nat → Nat) (p d h : Nat) (t : List UInt8) (H : Ht) (w : World) (hp : 1 ≤ p) (k : DkAt w0 g0 p d h t H g w) (hO : ∀ x, EvOk (doH H x).1) (ht : t.length ≤ 800000000)
    (s : ByteArray) (n0 n1 : Int) (a : Option Addr) (cap : Nat) (hR : RowC w g (p + 20) 3 1 (.slice a 2 cap) 2 [.int .i64 n0, .int .i64 n1]) (hw : wordD s.data.toList = (2, 2)) :
    Calls Tryz.prog 20 #[.pointer (some ⟨d, 0, none⟩), .string s, .slice a 2 cap] w (EffPost w0 g0 p d h t H (some ⟨2, n0, 0, 0, n1, 0, 0, ByteArray.empty⟩)) := by
  obtain ⟨i0, hi, hz0, hz1, hz2⟩ := info_parts Tryz.infoInt
  have OK := hid hO
  have HW := hid hw
  have hA := Evo.alloc g 0 w (.cells #[.int .i64 0, .int .i64 0, .int .i64 0] 3)
  have K1 := hid (k.fresh hA)
  have R1 := hid (hR.frame hA (by omega))
  have q1 : 2 + 3 ≤ maxLen := by unfold maxLen; omega
  have q2 : (2 + 3) * 8 ≤ 140737488355328 := by omega
  clear hO hw k hR hA
  go_enter Tryz.func20, Tryz.ntmps20
  go_wp2_with fail
  refine (desk_word s _).mono ?_
  rintro e w' ⟨rfl, rfl⟩
  rw [HW.out]
  go_wp2_with (refine wpList_append2 rfl (.tmp 24) (.tmp 25) 54 rfl 3 i0 (.int .i64 0) 1 8 Tryz.underlying54 hi hz0 hz1 hz2 rfl (by decide) (.slice a 2 cap) 2 [.int .i64 n0, .int .i64 n1] rfl R1.out.1 ⟨w.heap.size, 0, none⟩ 3 3 [.int .i64 0, .int .i64 0, .int .i64 0] rfl rfl (cells_new w [.int .i64 0, .int .i64 0, .int .i64 0] 3) (by intro u hu; simp at hu; subst hu; rfl) q1 q2 ?_)
  intro v9 w9 ho hg hf
  obtain ⟨a9, c9, rfl, -, -⟩ := ownsRow.sliceAt ho
  obtain ⟨g9, hR9, hE9⟩ : ∃ g9, RowC w9 g9 (p + 20) 3 1 (.slice a9 (2 + 3) c9) (2 + 3) [.int .i64 n0, .int .i64 n1, .int .i64 0, .int .i64 0, .int .i64 0] ∧ Evo (p + 20) (p + 20 + 1) (extc g w 0) g9 (w.alloc (.cells #[.int .i64 0, .int .i64 0, .int .i64 0] 3)) w9 := ⟨_, R1.out.grown ho hg (by simpa using hf)⟩
  have K9 := hid (K1.out.far hE9)
  have R9 := hid hR9
  clear ho hg hf hR9 hE9 K1 R1
  obtain ⟨b, off, rfl, hb⟩ := SliceAt.lt (cells := [.int .i64 n0, .int .i64 n1, .int .i64 0, .int .i64 0, .int .i64 0]) R9.out.sliceAt (by simp)
  have hcs := R9.out.sliceAt
  have c0 : w9.cell? ⟨b, off, none⟩ = some (.int .i64 n0) := sliceAt_get hcs (j := 0) rfl
  have c1 : w9.cell? ⟨b, off + 1, none⟩ = some (.int .i64 n1) := sliceAt_get hcs (j := 1) rfl
  have c2 : w9.cell? ⟨b, off + 2, none⟩ = some (.int .i64 0) := sliceAt_get hcs (j := 2) rfl
  have hS0 : w9.drew.cell? ⟨b, off, none⟩ = some (.int .i64 n0) ∧ w9.drew.cell? ⟨b, off + 1, none⟩ = some (.int .i64 n1) ∧ w9.drew.cell? ⟨b, off + 2, none⟩ = some (.int .i64 0) := ⟨c0, c1, c2⟩
  clear hcs c0 c1 c2
  go_wp2_with fail
  -- REGION get
  refine wp_region_noPanic ?_
  refine wp_region_held_drew (S := (fun W : World => W.cell? ⟨b, off, none⟩ = some (.int .i64 n0) ∧ W.cell? ⟨b, off + 1, none⟩ = some (.int .i64 n1) ∧ W.cell? ⟨b, off + 2, none⟩ = some (.int .i64 0))) (by kernel_rfl) ?_ (fun hH0 => ?_)
  · (try dsimp only); (first | assumption | exact hS0)
  refine tk 0 (h := ?_)
  try simp only [Act.put, List.setIfInBounds_toArray, List.set_cons_zero, List.set_cons_succ]
  refine tk 1 (h := ?_)
  try simp only [Act.put, List.setIfInBounds_toArray, List.set_cons_zero, List.set_cons_succ]
  refine tk 2 (h := ?_)
  try simp only [Act.put, List.setIfInBounds_toArray, List.set_cons_zero, List.set_cons_succ]
  refine tk 3 (h := ?_)
  try simp only [Act.put, List.setIfInBounds_toArray, List.set_cons_zero, List.set_cons_succ]
  refine tk 4 (h := ?_)
  try simp only [Act.put, List.setIfInBounds_toArray, List.set_cons_zero, List.set_cons_succ]
  refine tk 5 (h := ?_)
  try simp only [Act.put, List.setIfInBounds_toArray, List.set_cons_zero, List.set_cons_succ]
  refine tk 6 (h := ?_)
  try simp only [Act.put, List.setIfInBounds_toArray, List.set_cons_zero, List.set_cons_succ]
  refine tk 7 (h := ?_)
  try simp only [Act.put, List.setIfInBounds_toArray, List.set_cons_zero, List.set_cons_succ]
  refine tk 8 (h := ?_)
  try simp only [Act.put, List.setIfInBounds_toArray, List.set_cons_zero, List.set_cons_succ]
  refine tk 9 (h := ?_)
  try simp only [Act.put, List.setIfInBounds_toArray, List.set_cons_zero, List.set_cons_succ]
  refine tk 10 (h := ?_)
  try simp only [Act.put, List.setIfInBounds_toArray, List.set_cons_zero, List.set_cons_succ]
  refine wpAnyH_ready (rs := [11]) (by kernel_rfl) (by simp) ?_
  refine AllReadyH.cons (by simp only [List.getElem?_toArray, List.getElem?_cons_zero, List.getElem?_cons_succ]; rfl) (fun K hK => ?_) AllReadyH.nil
  go_simp
  have hA := Evo.alloc g9 (p + 20) w9 (.cells #[.int .i64 0, .int .i64 0, .int .i64 0, .int .i64 0, .int .i64 0, .int .i64 0, .int .i64 0, .string ⟨#[]⟩] 75)
  have hB := (Below.refl (w9.alloc (.cells #[.int .i64 0, .int .i64 0, .int .i64 0, .int .i64 0, .int .i64 0, .int .i64 0, .int .i64 0, .string ⟨#[]⟩] 75)).heap.size (w9.alloc (.cells #[.int .i64 0, .int .i64 0, .int .i64 0, .int .i64 0, .int .i64 0, .int .i64 0, .int .i64 0, .string ⟨#[]⟩] 75))).drew
  have K3 := hid ((K9.out.fresh hA).below hB)
  have LZ0 := hid ((LocC.new g9 (p + 20) w9 75 [.int .i64 0, .int .i64 0, .int .i64 0, .int .i64 0, .int .i64 0, .int .i64 0, .int .i64 0, .string ⟨#[]⟩]).below hB)
  have hbl := ((Below.refl w9.heap.size w9).alloc (Nat.le_refl _) (.cells #[.int .i64 0, .int .i64 0, .int .i64 0, .int .i64 0, .int .i64 0, .int .i64 0, .int .i64 0, .string ⟨#[]⟩] 75)).drew
  have hne : b ≠ w9.heap.size := Nat.ne_of_lt hb
  have hS' : (w9.alloc (.cells #[.int .i64 0, .int .i64 0, .int .i64 0, .int .i64 0, .int .i64 0, .int .i64 0, .int .i64 0, .string ⟨#[]⟩] 75)).drew.cell? ⟨b, off, none⟩ = some (.int .i64 n0) ∧ (w9.alloc (.cells #[.int .i64 0, .int .i64 0, .int .i64 0, .int .i64 0, .int .i64 0, .int .i64 0, .int .i64 0, .string ⟨#[]⟩] 75)).drew.cell? ⟨b, off + 1, none⟩ = some (.int .i64 n1) ∧ (w9.alloc (.cells #[.int .i64 0, .int .i64 0, .int .i64 0, .int .i64 0, .int .i64 0, .int .i64 0, .int .i64 0, .string ⟨#[]⟩] 75)).drew.cell? ⟨b, off + 2, none⟩ = some (.int .i64 0) := ⟨(below_cell hbl hb).trans hS0.1, (below_cell hbl hb).trans hS0.2.1, (below_cell hbl hb).trans hS0.2.2⟩
  clear hA hbl hB
  generalize (w9.alloc (.cells #[.int .i64 0, .int .i64 0, .int .i64 0, .int .i64 0, .int .i64 0, .int .i64 0, .int .i64 0, .string ⟨#[]⟩] 75)).drew = w3 at *
  generalize extc g9 w9 (p + 20) = g3 at *
  generalize w9.heap.size = bx at *
  have k0 : w3.cell? ⟨bx, 0, none⟩ = some (.int .i64 0) := LZ0.out.1.cell 0
  have f0 := LZ0.out.1.free 0
  have k1 : w3.cell? ⟨bx, 1, none⟩ = some (.int .i64 0) := LZ0.out.1.cell 1
  have f1 := LZ0.out.1.free 1
  have k2 : w3.cell? ⟨bx, 2, none⟩ = some (.int .i64 0) := LZ0.out.1.cell 2
  have f2 := LZ0.out.1.free 2
  have k3 : w3.cell? ⟨bx, 3, none⟩ = some (.int .i64 0) := LZ0.out.1.cell 3
  have f3 := LZ0.out.1.free 3
  have k4 : w3.cell? ⟨bx, 4, none⟩ = some (.int .i64 0) := LZ0.out.1.cell 4
  have f4 := LZ0.out.1.free 4
  have k5 : w3.cell? ⟨bx, 5, none⟩ = some (.int .i64 0) := LZ0.out.1.cell 5
  have f5 := LZ0.out.1.free 5
  have k6 : w3.cell? ⟨bx, 6, none⟩ = some (.int .i64 0) := LZ0.out.1.cell 6
  have f6 := LZ0.out.1.free 6
  have k7 : w3.cell? ⟨bx, 7, none⟩ = some (.string ⟨#[]⟩) := LZ0.out.1.cell 7
  have f7 := LZ0.out.1.free 7
  try go_wp2_with fail
  refine hK.out _ _ ?_ (fun hH1 => ?_)
  · (try dsimp only); (first | assumption | exact hS0)
  clear hK K hH0
  try simp only [Act.put, List.setIfInBounds_toArray, List.set_cons_zero, List.set_cons_succ]
  refine wpAnyH_ready (rs := [12]) (by kernel_rfl) (by simp) ?_
  refine AllReadyH.cons (by simp only [List.getElem?_toArray, List.getElem?_cons_zero, List.getElem?_cons_succ]; rfl) (fun K hK => ?_) AllReadyH.nil
  go_simp
  have KZ := hid (show DkWide w0 g0 p d h t H g3 ((((((((w3.setCell ⟨bx, 0, none⟩ (.int .i64 2)).setCell ⟨bx, 1, none⟩ (.int .i64 n0)).setCell ⟨bx, 2, none⟩ (.int .i64 0)).setCell ⟨bx, 3, none⟩ (.int .i64 0)).setCell ⟨bx, 4, none⟩ (.int .i64 n1)).setCell ⟨bx, 5, none⟩ (.int .i64 0)).setCell ⟨bx, 6, none⟩ (.int .i64 0)).setCell ⟨bx, 7, none⟩ (.string ⟨#[]⟩)) from ((((((((K3.out.put1 LZ0.out.2 (.int .i64 2)).put1 LZ0.out.2 (.int .i64 n0)).put1 LZ0.out.2 (.int .i64 0)).put1 LZ0.out.2 (.int .i64 0)).put1 LZ0.out.2 (.int .i64 n1)).put1 LZ0.out.2 (.int .i64 0)).put1 LZ0.out.2 (.int .i64 0)).put1 LZ0.out.2 (.string ⟨#[]⟩)))
  have LZ := hid (show LocC ((((((((w3.setCell ⟨bx, 0, none⟩ (.int .i64 2)).setCell ⟨bx, 1, none⟩ (.int .i64 n0)).setCell ⟨bx, 2, none⟩ (.int .i64 0)).setCell ⟨bx, 3, none⟩ (.int .i64 0)).setCell ⟨bx, 4, none⟩ (.int .i64 n1)).setCell ⟨bx, 5, none⟩ (.int .i64 0)).setCell ⟨bx, 6, none⟩ (.int .i64 0)).setCell ⟨bx, 7, none⟩ (.string ⟨#[]⟩)) g3 (p + 20) bx 75 [.int .i64 2, .int .i64 n0, .int .i64 0, .int .i64 0, .int .i64 n1, .int .i64 0, .int .i64 0, .string ⟨#[]⟩] from ⟨((((((((LZ0.out.1.set 0 (.int .i64 2)).set 1 (.int .i64 n0)).set 2 (.int .i64 0)).set 3 (.int .i64 0)).set 4 (.int .i64 n1)).set 5 (.int .i64 0)).set 6 (.int .i64 0)).set 7 (.string ⟨#[]⟩)), LZ0.out.2⟩)
  have hS'' : ((((((((w3.setCell ⟨bx, 0, none⟩ (.int .i64 2)).setCell ⟨bx, 1, none⟩ (.int .i64 n0)).setCell ⟨bx, 2, none⟩ (.int .i64 0)).setCell ⟨bx, 3, none⟩ (.int .i64 0)).setCell ⟨bx, 4, none⟩ (.int .i64 n1)).setCell ⟨bx, 5, none⟩ (.int .i64 0)).setCell ⟨bx, 6, none⟩ (.int .i64 0)).setCell ⟨bx, 7, none⟩ (.string ⟨#[]⟩)).cell? ⟨b, off, none⟩ = some (.int .i64 n0) ∧ ((((((((w3.setCell ⟨bx, 0, none⟩ (.int .i64 2)).setCell ⟨bx, 1, none⟩ (.int .i64 n0)).setCell ⟨bx, 2, none⟩ (.int .i64 0)).setCell ⟨bx, 3, none⟩ (.int .i64 0)).setCell ⟨bx, 4, none⟩ (.int .i64 n1)).setCell ⟨bx, 5, none⟩ (.int .i64 0)).setCell ⟨bx, 6, none⟩ (.int .i64 0)).setCell ⟨bx, 7, none⟩ (.string ⟨#[]⟩)).cell? ⟨b, off + 1, none⟩ = some (.int .i64 n1) ∧ ((((((((w3.setCell ⟨bx, 0, none⟩ (.int .i64 2)).setCell ⟨bx, 1, none⟩ (.int .i64 n0)).setCell ⟨bx, 2, none⟩ (.int .i64 0)).setCell ⟨bx, 3, none⟩ (.int .i64 0)).setCell ⟨bx, 4, none⟩ (.int .i64 n1)).setCell ⟨bx, 5, none⟩ (.int .i64 0)).setCell ⟨bx, 6, none⟩ (.int .i64 0)).setCell ⟨bx, 7, none⟩ (.string ⟨#[]⟩)).cell? ⟨b, off + 2, none⟩ = some (.int .i64 0) := ⟨(cell_put (cell_put (cell_put (cell_put (cell_put (cell_put (cell_put (cell_put hS'.1 hne (.int .i64 2)) hne (.int .i64 n0)) hne (.int .i64 0)) hne (.int .i64 0)) hne (.int .i64 n1)) hne (.int .i64 0)) hne (.int .i64 0)) hne (.string ⟨#[]⟩)), (cell_put (cell_put (cell_put (cell_put (cell_put (cell_put (cell_put (cell_put hS'.2.1 hne (.int .i64 2)) hne (.int .i64 n0)) hne (.int .i64 0)) hne (.int .i64 0)) hne (.int .i64 n1)) hne (.int .i64 0)) hne (.int .i64 0)) hne (.string ⟨#[]⟩)), (cell_put (cell_put (cell_put (cell_put (cell_put (cell_put (cell_put (cell_put hS'.2.2 hne (.int .i64 2)) hne (.int .i64 n0)) hne (.int .i64 0)) hne (.int .i64 0)) hne (.int .i64 n1)) hne (.int .i64 0)) hne (.int .i64 0)) hne (.string ⟨#[]⟩))⟩
  clear K3 LZ0 hS' hS0 k0 k1 k2 k3 k4 k5 k6 k7 f0 f1 f2 f3 f4 f5 f6 f7
  generalize ((((((((w3.setCell ⟨bx, 0, none⟩ (.int .i64 2)).setCell ⟨bx, 1, none⟩ (.int .i64 n0)).setCell ⟨bx, 2, none⟩ (.int .i64 0)).setCell ⟨bx, 3, none⟩ (.int .i64 0)).setCell ⟨bx, 4, none⟩ (.int .i64 n1)).setCell ⟨bx, 5, none⟩ (.int .i64 0)).setCell ⟨bx, 6, none⟩ (.int .i64 0)).setCell ⟨bx, 7, none⟩ (.string ⟨#[]⟩)) = wz at *
  try go_wp2_with fail
  refine hK.out _ _ ?_ (fun hH2 => ?_)
  · (try dsimp only); (first | assumption | exact hS0)
  clear hK K hH1
  try simp only [Act.put, List.setIfInBounds_toArray, List.set_cons_zero, List.set_cons_succ]
  refine wpAnyH_done (by kernel_rfl) ?_ _
  refine NoPanic.normal ?_
  clear hS''
  have k0 : wz.cell? ⟨bx, 0, none⟩ = some (.int .i64 2) := LZ.out.1.cell 0
  have k1 : wz.cell? ⟨bx, 1, none⟩ = some (.int .i64 n0) := LZ.out.1.cell 1
  have k2 : wz.cell? ⟨bx, 2, none⟩ = some (.int .i64 0) := LZ.out.1.cell 2
  have k3 : wz.cell? ⟨bx, 3, none⟩ = some (.int .i64 0) := LZ.out.1.cell 3
  have k4 : wz.cell? ⟨bx, 4, none⟩ = some (.int .i64 n1) := LZ.out.1.cell 4
  have k5 : wz.cell? ⟨bx, 5, none⟩ = some (.int .i64 0) := LZ.out.1.cell 5
  have k6 : wz.cell? ⟨bx, 6, none⟩ = some (.int .i64 0) := LZ.out.1.cell 6
  have k7 : wz.cell? ⟨bx, 7, none⟩ = some (.string ⟨#[]⟩) := LZ.out.1.cell 7
  go_wp2_with fail
  refine (desk_did_has wz g3 g3 p d h t H ⟨2, n0, 0, 0, n1, 0, 0, ByteArray.empty⟩ wz hp KZ.out.self (by show 0 ≤ maxLen; exact Nat.zero_le _) OK.out ht (fun ev h => by simp [tellD, h])).mono ?_
  rintro e w5 ⟨rfl, g5, hk5, -⟩
  have HP := hid (show EffPost w0 g0 p d h t H (some ⟨2, n0, 0, 0, n1, 0, 0, ByteArray.empty⟩) (.returned (.bool true)) w5 from ⟨rfl, g5, KZ.out.did hk5⟩)
  clear hk5
  go_wp2
  go_ret
  exact HP.out
  -- END get

set_option maxHeartbeats 8000000 in
set_option maxRecDepth 100000 in
theorem desk_step_drop (w0 : World) (g0 g : Nat → Nat) (p d h : Nat) (t : List UInt8) (H : Ht) (w : World) (hp : 1 ≤ p) (k : DkAt w0 g0 p d h t H g w) (hO : ∀ x, EvOk (doH H x).1) (ht : t.length ≤ 800000000)
    (s : ByteArray) (n0 n1 : Int) (a : Option Addr) (cap : Nat) (hR : RowC w g (p + 20) 3 1 (.slice a 2 cap) 2 [.int .i64 n0, .int .i64 n1]) (hw : wordD s.data.toList = (4, 2)) :
    Calls Tryz.prog 20 #[.pointer (some ⟨d, 0, none⟩), .string s, .slice a 2 cap] w (EffPost w0 g0 p d h t H (some ⟨4, n0, 0, 0, n1, 0, 0, ByteArray.empty⟩)) := by
  obtain ⟨i0, hi, hz0, hz1, hz2⟩ := info_parts Tryz.infoInt
  have OK := hid hO
  have HW := hid hw
  have hA := Evo.alloc g 0 w (.cells #[.int .i64 0, .int .i64 0, .int .i64 0] 3)
  have K1 := hid (k.fresh hA)
  have R1 := hid (hR.frame hA (by omega))
  have q1 : 2 + 3 ≤ maxLen := by unfold maxLen; omega
  have q2 : (2 + 3) * 8 ≤ 140737488355328 := by omega
  clear hO hw k hR hA
  go_enter Tryz.func20, Tryz.ntmps20
  go_wp2_with fail
  refine (desk_word s _).mono ?_
  rintro e w' ⟨rfl, rfl⟩
  rw [HW.out]
  go_wp2_with (refine wpList_append2 rfl (.tmp 24) (.tmp 25) 54 rfl 3 i0 (.int .i64 0) 1 8 Tryz.underlying54 hi hz0 hz1 hz2 rfl (by decide) (.slice a 2 cap) 2 [.int .i64 n0, .int .i64 n1] rfl R1.out.1 ⟨w.heap.size, 0, none⟩ 3 3 [.int .i64 0, .int .i64 0, .int .i64 0] rfl rfl (cells_new w [.int .i64 0, .int .i64 0, .int .i64 0] 3) (by intro u hu; simp at hu; subst hu; rfl) q1 q2 ?_)
  intro v9 w9 ho hg hf
  obtain ⟨a9, c9, rfl, -, -⟩ := ownsRow.sliceAt ho
  obtain ⟨g9, hR9, hE9⟩ : ∃ g9, RowC w9 g9 (p + 20) 3 1 (.slice a9 (2 + 3) c9) (2 + 3) [.int .i64 n0, .int .i64 n1, .int .i64 0, .int .i64 0, .int .i64 0] ∧ Evo (p + 20) (p + 20 + 1) (extc g w 0) g9 (w.alloc (.cells #[.int .i64 0, .int .i64 0, .int .i64 0] 3)) w9 := ⟨_, R1.out.grown ho hg (by simpa using hf)⟩
  have K9 := hid (K1.out.far hE9)
  have R9 := hid hR9
  clear ho hg hf hR9 hE9 K1 R1
  obtain ⟨b, off, rfl, hb⟩ := SliceAt.lt (cells := [.int .i64 n0, .int .i64 n1, .int .i64 0, .int .i64 0, .int .i64 0]) R9.out.sliceAt (by simp)
  have hcs := R9.out.sliceAt
  have c0 : w9.cell? ⟨b, off, none⟩ = some (.int .i64 n0) := sliceAt_get hcs (j := 0) rfl
  have c1 : w9.cell? ⟨b, off + 1, none⟩ = some (.int .i64 n1) := sliceAt_get hcs (j := 1) rfl
  have c2 : w9.cell? ⟨b, off + 2, none⟩ = some (.int .i64 0) := sliceAt_get hcs (j := 2) rfl
  have hS0 : w9.drew.cell? ⟨b, off, none⟩ = some (.int .i64 n0) ∧ w9.drew.cell? ⟨b, off + 1, none⟩ = some (.int .i64 n1) ∧ w9.drew.cell? ⟨b, off + 2, none⟩ = some (.int .i64 0) := ⟨c0, c1, c2⟩
  clear hcs c0 c1 c2
  go_wp2_with fail
  -- REGION drop
  refine wp_region_noPanic ?_
  refine wp_region_held_drew (S := (fun W : World => W.cell? ⟨b, off, none⟩ = some (.int .i64 n0) ∧ W.cell? ⟨b, off + 1, none⟩ = some (.int .i64 n1) ∧ W.cell? ⟨b, off + 2, none⟩ = some (.int .i64 0))) (by kernel_rfl) ?_ (fun hH0 => ?_)
  · (try dsimp only); (first | assumption | exact hS0)
  refine tk 0 (h := ?_)
  try simp only [Act.put, List.setIfInBounds_toArray, List.set_cons_zero, List.set_cons_succ]
  refine tk 1 (h := ?_)
  try simp only [Act.put, List.setIfInBounds_toArray, List.set_cons_zero, List.set_cons_succ]
  refine tk 2 (h := ?_)
  try simp only [Act.put, List.setIfInBounds_toArray, List.set_cons_zero, List.set_cons_succ]
  refine tk 3 (h := ?_)
  try simp only [Act.put, List.setIfInBounds_toArray, List.set_cons_zero, List.set_cons_succ]
  refine tk 4 (h := ?_)
  try simp only [Act.put, List.setIfInBounds_toArray, List.set_cons_zero, List.set_cons_succ]
  refine tk 5 (h := ?_)
  try simp only [Act.put, List.setIfInBounds_toArray, List.set_cons_zero, List.set_cons_succ]
  refine tk 6 (h := ?_)
  try simp only [Act.put, List.setIfInBounds_toArray, List.set_cons_zero, List.set_cons_succ]
  refine tk 7 (h := ?_)
  try simp only [Act.put, List.setIfInBounds_toArray, List.set_cons_zero, List.set_cons_succ]
  refine tk 8 (h := ?_)
  try simp only [Act.put, List.setIfInBounds_toArray, List.set_cons_zero, List.set_cons_succ]
  refine tk 9 (h := ?_)
  try simp only [Act.put, List.setIfInBounds_toArray, List.set_cons_zero, List.set_cons_succ]
  refine tk 10 (h := ?_)
  try simp only [Act.put, List.setIfInBounds_toArray, List.set_cons_zero, List.set_cons_succ]
  refine wpAnyH_ready (rs := [11]) (by kernel_rfl) (by simp) ?_
  refine AllReadyH.cons (by simp only [List.getElem?_toArray, List.getElem?_cons_zero, List.getElem?_cons_succ]; rfl) (fun K hK => ?_) AllReadyH.nil
  go_simp
  have hA := Evo.alloc g9 (p + 20) w9 (.cells #[.int .i64 0, .int .i64 0, .int .i64 0, .int .i64 0, .int .i64 0, .int .i64 0, .int .i64 0, .string ⟨#[]⟩] 75)
  have hB := (Below.refl (w9.alloc (.cells #[.int .i64 0, .int .i64 0, .int .i64 0, .int .i64 0, .int .i64 0, .int .i64 0, .int .i64 0, .string ⟨#[]⟩] 75)).heap.size (w9.alloc (.cells #[.int .i64 0, .int .i64 0, .int .i64 0, .int .i64 0, .int .i64 0, .int .i64 0, .int .i64 0, .string ⟨#[]⟩] 75))).drew
  have K3 := hid ((K9.out.fresh hA).below hB)
  have LZ0 := hid ((LocC.new g9 (p + 20) w9 75 [.int .i64 0, .int .i64 0, .int .i64 0, .int .i64 0, .int .i64 0, .int .i64 0, .int .i64 0, .string ⟨#[]⟩]).below hB)
  have hbl := ((Below.refl w9.heap.size w9).alloc (Nat.le_refl _) (.cells #[.int .i64 0, .int .i64 0, .int .i64 0, .int .i64 0, .int .i64 0, .int .i64 0, .int .i64 0, .string ⟨#[]⟩] 75)).drew
  have hne : b ≠ w9.heap.size := Nat.ne_of_lt hb
  have hS' : (w9.alloc (.cells #[.int .i64 0, .int .i64 0, .int .i64 0, .int .i64 0, .int .i64 0, .int .i64 0, .int .i64 0, .string ⟨#[]⟩] 75)).drew.cell? ⟨b, off, none⟩ = some (.int .i64 n0) ∧ (w9.alloc (.cells #[.int .i64 0, .int .i64 0, .int .i64 0, .int .i64 0, .int .i64 0, .int .i64 0, .int .i64 0, .string ⟨#[]⟩] 75)).drew.cell? ⟨b, off + 1, none⟩ = some (.int .i64 n1) ∧ (w9.alloc (.cells #[.int .i64 0, .int .i64 0, .int .i64 0, .int .i64 0, .int .i64 0, .int .i64 0, .int .i64 0, .string ⟨#[]⟩] 75)).drew.cell? ⟨b, off + 2, none⟩ = some (.int .i64 0) := ⟨(below_cell hbl hb).trans hS0.1, (below_cell hbl hb).trans hS0.2.1, (below_cell hbl hb).trans hS0.2.2⟩
  clear hA hbl hB
  generalize (w9.alloc (.cells #[.int .i64 0, .int .i64 0, .int .i64 0, .int .i64 0, .int .i64 0, .int .i64 0, .int .i64 0, .string ⟨#[]⟩] 75)).drew = w3 at *
  generalize extc g9 w9 (p + 20) = g3 at *
  generalize w9.heap.size = bx at *
  have k0 : w3.cell? ⟨bx, 0, none⟩ = some (.int .i64 0) := LZ0.out.1.cell 0
  have f0 := LZ0.out.1.free 0
  have k1 : w3.cell? ⟨bx, 1, none⟩ = some (.int .i64 0) := LZ0.out.1.cell 1
  have f1 := LZ0.out.1.free 1
  have k2 : w3.cell? ⟨bx, 2, none⟩ = some (.int .i64 0) := LZ0.out.1.cell 2
  have f2 := LZ0.out.1.free 2
  have k3 : w3.cell? ⟨bx, 3, none⟩ = some (.int .i64 0) := LZ0.out.1.cell 3
  have f3 := LZ0.out.1.free 3
  have k4 : w3.cell? ⟨bx, 4, none⟩ = some (.int .i64 0) := LZ0.out.1.cell 4
  have f4 := LZ0.out.1.free 4
  have k5 : w3.cell? ⟨bx, 5, none⟩ = some (.int .i64 0) := LZ0.out.1.cell 5
  have f5 := LZ0.out.1.free 5
  have k6 : w3.cell? ⟨bx, 6, none⟩ = some (.int .i64 0) := LZ0.out.1.cell 6
  have f6 := LZ0.out.1.free 6
  have k7 : w3.cell? ⟨bx, 7, none⟩ = some (.string ⟨#[]⟩) := LZ0.out.1.cell 7
  have f7 := LZ0.out.1.free 7
  try go_wp2_with fail
  refine hK.out _ _ ?_ (fun hH1 => ?_)
  · (try dsimp only); (first | assumption | exact hS0)
  clear hK K hH0
  try simp only [Act.put, List.setIfInBounds_toArray, List.set_cons_zero, List.set_cons_succ]
  refine wpAnyH_ready (rs := [12]) (by kernel_rfl) (by simp) ?_
  refine AllReadyH.cons (by simp only [List.getElem?_toArray, List.getElem?_cons_zero, List.getElem?_cons_succ]; rfl) (fun K hK => ?_) AllReadyH.nil
  go_simp
  have KZ := hid (show DkWide w0 g0 p d h t H g3 ((((((((w3.setCell ⟨bx, 0, none⟩ (.int .i64 4)).setCell ⟨bx, 1, none⟩ (.int .i64 n0)).setCell ⟨bx, 2, none⟩ (.int .i64 0)).setCell ⟨bx, 3, none⟩ (.int .i64 0)).setCell ⟨bx, 4, none⟩ (.int .i64 n1)).setCell ⟨bx, 5, none⟩ (.int .i64 0)).setCell ⟨bx, 6, none⟩ (.int .i64 0)).setCell ⟨bx, 7, none⟩ (.string ⟨#[]⟩)) from ((((((((K3.out.put1 LZ0.out.2 (.int .i64 4)).put1 LZ0.out.2 (.int .i64 n0)).put1 LZ0.out.2 (.int .i64 0)).put1 LZ0.out.2 (.int .i64 0)).put1 LZ0.out.2 (.int .i64 n1)).put1 LZ0.out.2 (.int .i64 0)).put1 LZ0.out.2 (.int .i64 0)).put1 LZ0.out.2 (.string ⟨#[]⟩)))
  have LZ := hid (show LocC ((((((((w3.setCell ⟨bx, 0, none⟩ (.int .i64 4)).setCell ⟨bx, 1, none⟩ (.int .i64 n0)).setCell ⟨bx, 2, none⟩ (.int .i64 0)).setCell ⟨bx, 3, none⟩ (.int .i64 0)).setCell ⟨bx, 4, none⟩ (.int .i64 n1)).setCell ⟨bx, 5, none⟩ (.int .i64 0)).setCell ⟨bx, 6, none⟩ (.int .i64 0)).setCell ⟨bx, 7, none⟩ (.string ⟨#[]⟩)) g3 (p + 20) bx 75 [.int .i64 4, .int .i64 n0, .int .i64 0, .int .i64 0, .int .i64 n1, .int .i64 0, .int .i64 0, .string ⟨#[]⟩] from ⟨((((((((LZ0.out.1.set 0 (.int .i64 4)).set 1 (.int .i64 n0)).set 2 (.int .i64 0)).set 3 (.int .i64 0)).set 4 (.int .i64 n1)).set 5 (.int .i64 0)).set 6 (.int .i64 0)).set 7 (.string ⟨#[]⟩)), LZ0.out.2⟩)
  have hS'' : ((((((((w3.setCell ⟨bx, 0, none⟩ (.int .i64 4)).setCell ⟨bx, 1, none⟩ (.int .i64 n0)).setCell ⟨bx, 2, none⟩ (.int .i64 0)).setCell ⟨bx, 3, none⟩ (.int .i64 0)).setCell ⟨bx, 4, none⟩ (.int .i64 n1)).setCell ⟨bx, 5, none⟩ (.int .i64 0)).setCell ⟨bx, 6, none⟩ (.int .i64 0)).setCell ⟨bx, 7, none⟩ (.string ⟨#[]⟩)).cell? ⟨b, off, none⟩ = some (.int .i64 n0) ∧ ((((((((w3.setCell ⟨bx, 0, none⟩ (.int .i64 4)).setCell ⟨bx, 1, none⟩ (.int .i64 n0)).setCell ⟨bx, 2, none⟩ (.int .i64 0)).setCell ⟨bx, 3, none⟩ (.int .i64 0)).setCell ⟨bx, 4, none⟩ (.int .i64 n1)).setCell ⟨bx, 5, none⟩ (.int .i64 0)).setCell ⟨bx, 6, none⟩ (.int .i64 0)).setCell ⟨bx, 7, none⟩ (.string ⟨#[]⟩)).cell? ⟨b, off + 1, none⟩ = some (.int .i64 n1) ∧ ((((((((w3.setCell ⟨bx, 0, none⟩ (.int .i64 4)).setCell ⟨bx, 1, none⟩ (.int .i64 n0)).setCell ⟨bx, 2, none⟩ (.int .i64 0)).setCell ⟨bx, 3, none⟩ (.int .i64 0)).setCell ⟨bx, 4, none⟩ (.int .i64 n1)).setCell ⟨bx, 5, none⟩ (.int .i64 0)).setCell ⟨bx, 6, none⟩ (.int .i64 0)).setCell ⟨bx, 7, none⟩ (.string ⟨#[]⟩)).cell? ⟨b, off + 2, none⟩ = some (.int .i64 0) := ⟨(cell_put (cell_put (cell_put (cell_put (cell_put (cell_put (cell_put (cell_put hS'.1 hne (.int .i64 4)) hne (.int .i64 n0)) hne (.int .i64 0)) hne (.int .i64 0)) hne (.int .i64 n1)) hne (.int .i64 0)) hne (.int .i64 0)) hne (.string ⟨#[]⟩)), (cell_put (cell_put (cell_put (cell_put (cell_put (cell_put (cell_put (cell_put hS'.2.1 hne (.int .i64 4)) hne (.int .i64 n0)) hne (.int .i64 0)) hne (.int .i64 0)) hne (.int .i64 n1)) hne (.int .i64 0)) hne (.int .i64 0)) hne (.string ⟨#[]⟩)), (cell_put (cell_put (cell_put (cell_put (cell_put (cell_put (cell_put (cell_put hS'.2.2 hne (.int .i64 4)) hne (.int .i64 n0)) hne (.int .i64 0)) hne (.int .i64 0)) hne (.int .i64 n1)) hne (.int .i64 0)) hne (.int .i64 0)) hne (.string ⟨#[]⟩))⟩
  clear K3 LZ0 hS' hS0 k0 k1 k2 k3 k4 k5 k6 k7 f0 f1 f2 f3 f4 f5 f6 f7
  generalize ((((((((w3.setCell ⟨bx, 0, none⟩ (.int .i64 4)).setCell ⟨bx, 1, none⟩ (.int .i64 n0)).setCell ⟨bx, 2, none⟩ (.int .i64 0)).setCell ⟨bx, 3, none⟩ (.int .i64 0)).setCell ⟨bx, 4, none⟩ (.int .i64 n1)).setCell ⟨bx, 5, none⟩ (.int .i64 0)).setCell ⟨bx, 6, none⟩ (.int .i64 0)).setCell ⟨bx, 7, none⟩ (.string ⟨#[]⟩)) = wz at *
  try go_wp2_with fail
  refine hK.out _ _ ?_ (fun hH2 => ?_)
  · (try dsimp only); (first | assumption | exact hS0)
  clear hK K hH1
  try simp only [Act.put, List.setIfInBounds_toArray, List.set_cons_zero, List.set_cons_succ]
  refine wpAnyH_done (by kernel_rfl) ?_ _
  refine NoPanic.normal ?_
  clear hS''
  have k0 : wz.cell? ⟨bx, 0, none⟩ = some (.int .i64 4) := LZ.out.1.cell 0
  have k1 : wz.cell? ⟨bx, 1, none⟩ = some (.int .i64 n0) := LZ.out.1.cell 1
  have k2 : wz.cell? ⟨bx, 2, none⟩ = some (.int .i64 0) := LZ.out.1.cell 2
  have k3 : wz.cell? ⟨bx, 3, none⟩ = some (.int .i64 0) := LZ.out.1.cell 3
  have k4 : wz.cell? ⟨bx, 4, none⟩ = some (.int .i64 n1) := LZ.out.1.cell 4
  have k5 : wz.cell? ⟨bx, 5, none⟩ = some (.int .i64 0) := LZ.out.1.cell 5
  have k6 : wz.cell? ⟨bx, 6, none⟩ = some (.int .i64 0) := LZ.out.1.cell 6
  have k7 : wz.cell? ⟨bx, 7, none⟩ = some (.string ⟨#[]⟩) := LZ.out.1.cell 7
  go_wp2_with fail
  refine (desk_did_ok wz g3 g3 p d h t H ⟨4, n0, 0, 0, n1, 0, 0, ByteArray.empty⟩ wz hp KZ.out.self (by show 0 ≤ maxLen; exact Nat.zero_le _) OK.out ht (fun ev h => by simp [tellD, h])).mono ?_
  rintro e w5 ⟨rfl, g5, hk5, -⟩
  have HP := hid (show EffPost w0 g0 p d h t H (some ⟨4, n0, 0, 0, n1, 0, 0, ByteArray.empty⟩) (.returned (.bool true)) w5 from ⟨rfl, g5, KZ.out.did hk5⟩)
  clear hk5
  go_wp2
  go_ret
  exact HP.out
  -- END drop

set_option maxHeartbeats 8000000 in
set_option maxRecDepth 100000 in
theorem desk_step_list (w0 : World) (g0 g : Nat → Nat) (p d h : Nat) (t : List UInt8) (H : Ht) (w : World) (hp : 1 ≤ p) (k : DkAt w0 g0 p d h t H g w) (hO : ∀ x, EvOk (doH H x).1) (ht : t.length ≤ 800000000)
    (s : ByteArray) (n0 n1 n2 : Int) (a : Option Addr) (cap : Nat) (hR : RowC w g (p + 20) 3 1 (.slice a 3 cap) 3 [.int .i64 n0, .int .i64 n1, .int .i64 n2]) (hw : wordD s.data.toList = (5, 3)) :
    Calls Tryz.prog 20 #[.pointer (some ⟨d, 0, none⟩), .string s, .slice a 3 cap] w (EffPost w0 g0 p d h t H (some ⟨5, n0, 0, 0, n1, n2, 0, ByteArray.empty⟩)) := by
  obtain ⟨i0, hi, hz0, hz1, hz2⟩ := info_parts Tryz.infoInt
  have OK := hid hO
  have HW := hid hw
  have hA := Evo.alloc g 0 w (.cells #[.int .i64 0, .int .i64 0, .int .i64 0] 3)
  have K1 := hid (k.fresh hA)
  have R1 := hid (hR.frame hA (by omega))
  have q1 : 3 + 3 ≤ maxLen := by unfold maxLen; omega
  have q2 : (3 + 3) * 8 ≤ 140737488355328 := by omega
  clear hO hw k hR hA
  go_enter Tryz.func20, Tryz.ntmps20
  go_wp2_with fail
  refine (desk_word s _).mono ?_
  rintro e w' ⟨rfl, rfl⟩
  rw [HW.out]
  go_wp2_with (refine wpList_append2 rfl (.tmp 24) (.tmp 25) 54 rfl 3 i0 (.int .i64 0) 1 8 Tryz.underlying54 hi hz0 hz1 hz2 rfl (by decide) (.slice a 3 cap) 3 [.int .i64 n0, .int .i64 n1, .int .i64 n2] rfl R1.out.1 ⟨w.heap.size, 0, none⟩ 3 3 [.int .i64 0, .int .i64 0, .int .i64 0] rfl rfl (cells_new w [.int .i64 0, .int .i64 0, .int .i64 0] 3) (by intro u hu; simp at hu; subst hu; rfl) q1 q2 ?_)
  intro v9 w9 ho hg hf
  obtain ⟨a9, c9, rfl, -, -⟩ := ownsRow.sliceAt ho
  obtain ⟨g9, hR9, hE9⟩ : ∃ g9, RowC w9 g9 (p + 20) 3 1 (.slice a9 (3 + 3) c9) (3 + 3) [.int .i64 n0, .int .i64 n1, .int .i64 n2, .int .i64 0, .int .i64 0, .int .i64 0] ∧ Evo (p + 20) (p + 20 + 1) (extc g w 0) g9 (w.alloc (.cells #[.int .i64 0, .int .i64 0, .int .i64 0] 3)) w9 := ⟨_, R1.out.grown ho hg (by simpa using hf)⟩
  have K9 := hid (K1.out.far hE9)
  have R9 := hid hR9
  clear ho hg hf hR9 hE9 K1 R1
  obtain ⟨b, off, rfl, hb⟩ := SliceAt.lt (cells := [.int .i64 n0, .int .i64 n1, .int .i64 n2, .int .i64 0, .int .i64 0, .int .i64 0]) R9.out.sliceAt (by simp)
  have hcs := R9.out.sliceAt
  have c0 : w9.cell? ⟨b, off, none⟩ = some (.int .i64 n0) := sliceAt_get hcs (j := 0) rfl
  have c1 : w9.cell? ⟨b, off + 1, none⟩ = some (.int .i64 n1) := sliceAt_get hcs (j := 1) rfl
  have c2 : w9.cell? ⟨b, off + 2, none⟩ = some (.int .i64 n2) := sliceAt_get hcs (j := 2) rfl
  have hS0 : w9.drew.cell? ⟨b, off, none⟩ = some (.int .i64 n0) ∧ w9.drew.cell? ⟨b, off + 1, none⟩ = some (.int .i64 n1) ∧ w9.drew.cell? ⟨b, off + 2, none⟩ = some (.int .i64 n2) := ⟨c0, c1, c2⟩
  clear hcs c0 c1 c2
  go_wp2_with fail
  -- REGION list
  refine wp_region_noPanic ?_
  refine wp_region_held_drew (S := (fun W : World => W.cell? ⟨b, off, none⟩ = some (.int .i64 n0) ∧ W.cell? ⟨b, off + 1, none⟩ = some (.int .i64 n1) ∧ W.cell? ⟨b, off + 2, none⟩ = some (.int .i64 n2))) (by kernel_rfl) ?_ (fun hH0 => ?_)
  · (try dsimp only); (first | assumption | exact hS0)
  refine tk 0 (h := ?_)
  try simp only [Act.put, List.setIfInBounds_toArray, List.set_cons_zero, List.set_cons_succ]
  refine tk 1 (h := ?_)
  try simp only [Act.put, List.setIfInBounds_toArray, List.set_cons_zero, List.set_cons_succ]
  refine tk 2 (h := ?_)
  try simp only [Act.put, List.setIfInBounds_toArray, List.set_cons_zero, List.set_cons_succ]
  refine tk 3 (h := ?_)
  try simp only [Act.put, List.setIfInBounds_toArray, List.set_cons_zero, List.set_cons_succ]
  refine tk 4 (h := ?_)
  try simp only [Act.put, List.setIfInBounds_toArray, List.set_cons_zero, List.set_cons_succ]
  refine tk 5 (h := ?_)
  try simp only [Act.put, List.setIfInBounds_toArray, List.set_cons_zero, List.set_cons_succ]
  refine tk 6 (h := ?_)
  try simp only [Act.put, List.setIfInBounds_toArray, List.set_cons_zero, List.set_cons_succ]
  refine tk 7 (h := ?_)
  try simp only [Act.put, List.setIfInBounds_toArray, List.set_cons_zero, List.set_cons_succ]
  refine tk 8 (h := ?_)
  try simp only [Act.put, List.setIfInBounds_toArray, List.set_cons_zero, List.set_cons_succ]
  refine tk 9 (h := ?_)
  try simp only [Act.put, List.setIfInBounds_toArray, List.set_cons_zero, List.set_cons_succ]
  refine tk 10 (h := ?_)
  try simp only [Act.put, List.setIfInBounds_toArray, List.set_cons_zero, List.set_cons_succ]
  refine wpAnyH_ready (rs := [11]) (by kernel_rfl) (by simp) ?_
  refine AllReadyH.cons (by simp only [List.getElem?_toArray, List.getElem?_cons_zero, List.getElem?_cons_succ]; rfl) (fun K hK => ?_) AllReadyH.nil
  go_simp
  have hA := Evo.alloc g9 (p + 20) w9 (.cells #[.int .i64 0, .int .i64 0, .int .i64 0, .int .i64 0, .int .i64 0, .int .i64 0, .int .i64 0, .string ⟨#[]⟩] 75)
  have hB := (Below.refl (w9.alloc (.cells #[.int .i64 0, .int .i64 0, .int .i64 0, .int .i64 0, .int .i64 0, .int .i64 0, .int .i64 0, .string ⟨#[]⟩] 75)).heap.size (w9.alloc (.cells #[.int .i64 0, .int .i64 0, .int .i64 0, .int .i64 0, .int .i64 0, .int .i64 0, .int .i64 0, .string ⟨#[]⟩] 75))).drew
  have K3 := hid ((K9.out.fresh hA).below hB)
  have LZ0 := hid ((LocC.new g9 (p + 20) w9 75 [.int .i64 0, .int .i64 0, .int .i64 0, .int .i64 0, .int .i64 0, .int .i64 0, .int .i64 0, .string ⟨#[]⟩]).below hB)
  have hbl := ((Below.refl w9.heap.size w9).alloc (Nat.le_refl _) (.cells #[.int .i64 0, .int .i64 0, .int .i64 0, .int .i64 0, .int .i64 0, .int .i64 0, .int .i64 0, .string ⟨#[]⟩] 75)).drew
  have hne : b ≠ w9.heap.size := Nat.ne_of_lt hb
  have hS' : (w9.alloc (.cells #[.int .i64 0, .int .i64 0, .int .i64 0, .int .i64 0, .int .i64 0, .int .i64 0, .int .i64 0, .string ⟨#[]⟩] 75)).drew.cell? ⟨b, off, none⟩ = some (.int .i64 n0) ∧ (w9.alloc (.cells #[.int .i64 0, .int .i64 0, .int .i64 0, .int .i64 0, .int .i64 0, .int .i64 0, .int .i64 0, .string ⟨#[]⟩] 75)).drew.cell? ⟨b, off + 1, none⟩ = some (.int .i64 n1) ∧ (w9.alloc (.cells #[.int .i64 0, .int .i64 0, .int .i64 0, .int .i64 0, .int .i64 0, .int .i64 0, .int .i64 0, .string ⟨#[]⟩] 75)).drew.cell? ⟨b, off + 2, none⟩ = some (.int .i64 n2) := ⟨(below_cell hbl hb).trans hS0.1, (below_cell hbl hb).trans hS0.2.1, (below_cell hbl hb).trans hS0.2.2⟩
  clear hA hbl hB
  generalize (w9.alloc (.cells #[.int .i64 0, .int .i64 0, .int .i64 0, .int .i64 0, .int .i64 0, .int .i64 0, .int .i64 0, .string ⟨#[]⟩] 75)).drew = w3 at *
  generalize extc g9 w9 (p + 20) = g3 at *
  generalize w9.heap.size = bx at *
  have k0 : w3.cell? ⟨bx, 0, none⟩ = some (.int .i64 0) := LZ0.out.1.cell 0
  have f0 := LZ0.out.1.free 0
  have k1 : w3.cell? ⟨bx, 1, none⟩ = some (.int .i64 0) := LZ0.out.1.cell 1
  have f1 := LZ0.out.1.free 1
  have k2 : w3.cell? ⟨bx, 2, none⟩ = some (.int .i64 0) := LZ0.out.1.cell 2
  have f2 := LZ0.out.1.free 2
  have k3 : w3.cell? ⟨bx, 3, none⟩ = some (.int .i64 0) := LZ0.out.1.cell 3
  have f3 := LZ0.out.1.free 3
  have k4 : w3.cell? ⟨bx, 4, none⟩ = some (.int .i64 0) := LZ0.out.1.cell 4
  have f4 := LZ0.out.1.free 4
  have k5 : w3.cell? ⟨bx, 5, none⟩ = some (.int .i64 0) := LZ0.out.1.cell 5
  have f5 := LZ0.out.1.free 5
  have k6 : w3.cell? ⟨bx, 6, none⟩ = some (.int .i64 0) := LZ0.out.1.cell 6
  have f6 := LZ0.out.1.free 6
  have k7 : w3.cell? ⟨bx, 7, none⟩ = some (.string ⟨#[]⟩) := LZ0.out.1.cell 7
  have f7 := LZ0.out.1.free 7
  try go_wp2_with fail
  refine hK.out _ _ ?_ (fun hH1 => ?_)
  · (try dsimp only); (first | assumption | exact hS0)
  clear hK K hH0
  try simp only [Act.put, List.setIfInBounds_toArray, List.set_cons_zero, List.set_cons_succ]
  refine wpAnyH_ready (rs := [12]) (by kernel_rfl) (by simp) ?_
  refine AllReadyH.cons (by simp only [List.getElem?_toArray, List.getElem?_cons_zero, List.getElem?_cons_succ]; rfl) (fun K hK => ?_) AllReadyH.nil
  go_simp
  have KZ := hid (show DkWide w0 g0 p d h t H g3 ((((((((w3.setCell ⟨bx, 0, none⟩ (.int .i64 5)).setCell ⟨bx, 1, none⟩ (.int .i64 n0)).setCell ⟨bx, 2, none⟩ (.int .i64 0)).setCell ⟨bx, 3, none⟩ (.int .i64 0)).setCell ⟨bx, 4, none⟩ (.int .i64 n1)).setCell ⟨bx, 5, none⟩ (.int .i64 n2)).setCell ⟨bx, 6, none⟩ (.int .i64 0)).setCell ⟨bx, 7, none⟩ (.string ⟨#[]⟩)) from ((((((((K3.out.put1 LZ0.out.2 (.int .i64 5)).put1 LZ0.out.2 (.int .i64 n0)).put1 LZ0.out.2 (.int .i64 0)).put1 LZ0.out.2 (.int .i64 0)).put1 LZ0.out.2 (.int .i64 n1)).put1 LZ0.out.2 (.int .i64 n2)).put1 LZ0.out.2 (.int .i64 0)).put1 LZ0.out.2 (.string ⟨#[]⟩)))
  have LZ := hid (show LocC ((((((((w3.setCell ⟨bx, 0, none⟩ (.int .i64 5)).setCell ⟨bx, 1, none⟩ (.int .i64 n0)).setCell ⟨bx, 2, none⟩ (.int .i64 0)).setCell ⟨bx, 3, none⟩ (.int .i64 0)).setCell ⟨bx, 4, none⟩ (.int .i64 n1)).setCell ⟨bx, 5, none⟩ (.int .i64 n2)).setCell ⟨bx, 6, none⟩ (.int .i64 0)).setCell ⟨bx, 7, none⟩ (.string ⟨#[]⟩)) g3 (p + 20) bx 75 [.int .i64 5, .int .i64 n0, .int .i64 0, .int .i64 0, .int .i64 n1, .int .i64 n2, .int .i64 0, .string ⟨#[]⟩] from ⟨((((((((LZ0.out.1.set 0 (.int .i64 5)).set 1 (.int .i64 n0)).set 2 (.int .i64 0)).set 3 (.int .i64 0)).set 4 (.int .i64 n1)).set 5 (.int .i64 n2)).set 6 (.int .i64 0)).set 7 (.string ⟨#[]⟩)), LZ0.out.2⟩)
  have hS'' : ((((((((w3.setCell ⟨bx, 0, none⟩ (.int .i64 5)).setCell ⟨bx, 1, none⟩ (.int .i64 n0)).setCell ⟨bx, 2, none⟩ (.int .i64 0)).setCell ⟨bx, 3, none⟩ (.int .i64 0)).setCell ⟨bx, 4, none⟩ (.int .i64 n1)).setCell ⟨bx, 5, none⟩ (.int .i64 n2)).setCell ⟨bx, 6, none⟩ (.int .i64 0)).setCell ⟨bx, 7, none⟩ (.string ⟨#[]⟩)).cell? ⟨b, off, none⟩ = some (.int .i64 n0) ∧ ((((((((w3.setCell ⟨bx, 0, none⟩ (.int .i64 5)).setCell ⟨bx, 1, none⟩ (.int .i64 n0)).setCell ⟨bx, 2, none⟩ (.int .i64 0)).setCell ⟨bx, 3, none⟩ (.int .i64 0)).setCell ⟨bx, 4, none⟩ (.int .i64 n1)).setCell ⟨bx, 5, none⟩ (.int .i64 n2)).setCell ⟨bx, 6, none⟩ (.int .i64 0)).setCell ⟨bx, 7, none⟩ (.string ⟨#[]⟩)).cell? ⟨b, off + 1, none⟩ = some (.int .i64 n1) ∧ ((((((((w3.setCell ⟨bx, 0, none⟩ (.int .i64 5)).setCell ⟨bx, 1, none⟩ (.int .i64 n0)).setCell ⟨bx, 2, none⟩ (.int .i64 0)).setCell ⟨bx, 3, none⟩ (.int .i64 0)).setCell ⟨bx, 4, none⟩ (.int .i64 n1)).setCell ⟨bx, 5, none⟩ (.int .i64 n2)).setCell ⟨bx, 6, none⟩ (.int .i64 0)).setCell ⟨bx, 7, none⟩ (.string ⟨#[]⟩)).cell? ⟨b, off + 2, none⟩ = some (.int .i64 n2) := ⟨(cell_put (cell_put (cell_put (cell_put (cell_put (cell_put (cell_put (cell_put hS'.1 hne (.int .i64 5)) hne (.int .i64 n0)) hne (.int .i64 0)) hne (.int .i64 0)) hne (.int .i64 n1)) hne (.int .i64 n2)) hne (.int .i64 0)) hne (.string ⟨#[]⟩)), (cell_put (cell_put (cell_put (cell_put (cell_put (cell_put (cell_put (cell_put hS'.2.1 hne (.int .i64 5)) hne (.int .i64 n0)) hne (.int .i64 0)) hne (.int .i64 0)) hne (.int .i64 n1)) hne (.int .i64 n2)) hne (.int .i64 0)) hne (.string ⟨#[]⟩)), (cell_put (cell_put (cell_put (cell_put (cell_put (cell_put (cell_put (cell_put hS'.2.2 hne (.int .i64 5)) hne (.int .i64 n0)) hne (.int .i64 0)) hne (.int .i64 0)) hne (.int .i64 n1)) hne (.int .i64 n2)) hne (.int .i64 0)) hne (.string ⟨#[]⟩))⟩
  clear K3 LZ0 hS' hS0 k0 k1 k2 k3 k4 k5 k6 k7 f0 f1 f2 f3 f4 f5 f6 f7
  generalize ((((((((w3.setCell ⟨bx, 0, none⟩ (.int .i64 5)).setCell ⟨bx, 1, none⟩ (.int .i64 n0)).setCell ⟨bx, 2, none⟩ (.int .i64 0)).setCell ⟨bx, 3, none⟩ (.int .i64 0)).setCell ⟨bx, 4, none⟩ (.int .i64 n1)).setCell ⟨bx, 5, none⟩ (.int .i64 n2)).setCell ⟨bx, 6, none⟩ (.int .i64 0)).setCell ⟨bx, 7, none⟩ (.string ⟨#[]⟩)) = wz at *
  try go_wp2_with fail
  refine hK.out _ _ ?_ (fun hH2 => ?_)
  · (try dsimp only); (first | assumption | exact hS0)
  clear hK K hH1
  try simp only [Act.put, List.setIfInBounds_toArray, List.set_cons_zero, List.set_cons_succ]
  refine wpAnyH_done (by kernel_rfl) ?_ _
  refine NoPanic.normal ?_
  clear hS''
  have k0 : wz.cell? ⟨bx, 0, none⟩ = some (.int .i64 5) := LZ.out.1.cell 0
  have k1 : wz.cell? ⟨bx, 1, none⟩ = some (.int .i64 n0) := LZ.out.1.cell 1
  have k2 : wz.cell? ⟨bx, 2, none⟩ = some (.int .i64 0) := LZ.out.1.cell 2
  have k3 : wz.cell? ⟨bx, 3, none⟩ = some (.int .i64 0) := LZ.out.1.cell 3
  have k4 : wz.cell? ⟨bx, 4, none⟩ = some (.int .i64 n1) := LZ.out.1.cell 4
  have k5 : wz.cell? ⟨bx, 5, none⟩ = some (.int .i64 n2) := LZ.out.1.cell 5
  have k6 : wz.cell? ⟨bx, 6, none⟩ = some (.int .i64 0) := LZ.out.1.cell 6
  have k7 : wz.cell? ⟨bx, 7, none⟩ = some (.string ⟨#[]⟩) := LZ.out.1.cell 7
  go_wp2_with fail
  refine (desk_did_all wz g3 g3 p d h t H ⟨5, n0, 0, 0, n1, n2, 0, ByteArray.empty⟩ wz hp KZ.out.self (by show 0 ≤ maxLen; exact Nat.zero_le _) OK.out ht (fun ev h => by simp [tellD, h])).mono ?_
  rintro e w5 ⟨rfl, g5, hk5, -⟩
  have HP := hid (show EffPost w0 g0 p d h t H (some ⟨5, n0, 0, 0, n1, n2, 0, ByteArray.empty⟩) (.returned (.bool true)) w5 from ⟨rfl, g5, KZ.out.did hk5⟩)
  clear hk5
  go_wp2
  go_ret
  exact HP.out
  -- END list

set_option maxHeartbeats 8000000 in
set_option maxRecDepth 100000 in
theorem desk_step_commit (w0 : World) (g0 g : Nat → Nat) (p d h : Nat) (t : List UInt8) (H : Ht) (w : World) (hp : 1 ≤ p) (k : DkAt w0 g0 p d h t H g w) (hO : ∀ x, EvOk (doH H x).1) (ht : t.length ≤ 800000000)
    (s : ByteArray) (n0 : Int) (a : Option Addr) (cap : Nat) (hR : RowC w g (p + 20) 3 1 (.slice a 1 cap) 1 [.int .i64 n0]) (hw : wordD s.data.toList = (6, 1)) :
    Calls Tryz.prog 20 #[.pointer (some ⟨d, 0, none⟩), .string s, .slice a 1 cap] w (EffPost w0 g0 p d h t H (some ⟨6, n0, 0, 0, 0, 0, 0, ByteArray.empty⟩)) := by
  obtain ⟨i0, hi, hz0, hz1, hz2⟩ := info_parts Tryz.infoInt
  have OK := hid hO
  have HW := hid hw
  have hA := Evo.alloc g 0 w (.cells #[.int .i64 0, .int .i64 0, .int .i64 0] 3)
  have K1 := hid (k.fresh hA)
  have R1 := hid (hR.frame hA (by omega))
  have q1 : 1 + 3 ≤ maxLen := by unfold maxLen; omega
  have q2 : (1 + 3) * 8 ≤ 140737488355328 := by omega
  clear hO hw k hR hA
  go_enter Tryz.func20, Tryz.ntmps20
  go_wp2_with fail
  refine (desk_word s _).mono ?_
  rintro e w' ⟨rfl, rfl⟩
  rw [HW.out]
  go_wp2_with (refine wpList_append2 rfl (.tmp 24) (.tmp 25) 54 rfl 3 i0 (.int .i64 0) 1 8 Tryz.underlying54 hi hz0 hz1 hz2 rfl (by decide) (.slice a 1 cap) 1 [.int .i64 n0] rfl R1.out.1 ⟨w.heap.size, 0, none⟩ 3 3 [.int .i64 0, .int .i64 0, .int .i64 0] rfl rfl (cells_new w [.int .i64 0, .int .i64 0, .int .i64 0] 3) (by intro u hu; simp at hu; subst hu; rfl) q1 q2 ?_)
  intro v9 w9 ho hg hf
  obtain ⟨a9, c9, rfl, -, -⟩ := ownsRow.sliceAt ho
  obtain ⟨g9, hR9, hE9⟩ : ∃ g9, RowC w9 g9 (p + 20) 3 1 (.slice a9 (1 + 3) c9) (1 + 3) [.int .i64 n0, .int .i64 0, .int .i64 0, .int .i64 0] ∧ Evo (p + 20) (p + 20 + 1) (extc g w 0) g9 (w.alloc (.cells #[.int .i64 0, .int .i64 0, .int .i64 0] 3)) w9 := ⟨_, R1.out.grown ho hg (by simpa using hf)⟩
  have K9 := hid (K1.out.far hE9)
  have R9 := hid hR9
  clear ho hg hf hR9 hE9 K1 R1
  obtain ⟨b, off, rfl, hb⟩ := SliceAt.lt (cells := [.int .i64 n0, .int .i64 0, .int .i64 0, .int .i64 0]) R9.out.sliceAt (by simp)
  have hcs := R9.out.sliceAt
  have c0 : w9.cell? ⟨b, off, none⟩ = some (.int .i64 n0) := sliceAt_get hcs (j := 0) rfl
  have c1 : w9.cell? ⟨b, off + 1, none⟩ = some (.int .i64 0) := sliceAt_get hcs (j := 1) rfl
  have c2 : w9.cell? ⟨b, off + 2, none⟩ = some (.int .i64 0) := sliceAt_get hcs (j := 2) rfl
  have hS0 : w9.drew.cell? ⟨b, off, none⟩ = some (.int .i64 n0) ∧ w9.drew.cell? ⟨b, off + 1, none⟩ = some (.int .i64 0) ∧ w9.drew.cell? ⟨b, off + 2, none⟩ = some (.int .i64 0) := ⟨c0, c1, c2⟩
  clear hcs c0 c1 c2
  go_wp2_with fail
  -- REGION commit
  refine wp_region_noPanic ?_
  refine wp_region_held_drew (S := (fun W : World => W.cell? ⟨b, off, none⟩ = some (.int .i64 n0) ∧ W.cell? ⟨b, off + 1, none⟩ = some (.int .i64 0) ∧ W.cell? ⟨b, off + 2, none⟩ = some (.int .i64 0))) (by kernel_rfl) ?_ (fun hH0 => ?_)
  · (try dsimp only); (first | assumption | exact hS0)
  refine tk 0 (h := ?_)
  try simp only [Act.put, List.setIfInBounds_toArray, List.set_cons_zero, List.set_cons_succ]
  refine tk 1 (h := ?_)
  try simp only [Act.put, List.setIfInBounds_toArray, List.set_cons_zero, List.set_cons_succ]
  refine tk 2 (h := ?_)
  try simp only [Act.put, List.setIfInBounds_toArray, List.set_cons_zero, List.set_cons_succ]
  refine tk 3 (h := ?_)
  try simp only [Act.put, List.setIfInBounds_toArray, List.set_cons_zero, List.set_cons_succ]
  refine tk 4 (h := ?_)
  try simp only [Act.put, List.setIfInBounds_toArray, List.set_cons_zero, List.set_cons_succ]
  refine tk 5 (h := ?_)
  try simp only [Act.put, List.setIfInBounds_toArray, List.set_cons_zero, List.set_cons_succ]
  refine tk 6 (h := ?_)
  try simp only [Act.put, List.setIfInBounds_toArray, List.set_cons_zero, List.set_cons_succ]
  refine tk 7 (h := ?_)
  try simp only [Act.put, List.setIfInBounds_toArray, List.set_cons_zero, List.set_cons_succ]
  refine tk 8 (h := ?_)
  try simp only [Act.put, List.setIfInBounds_toArray, List.set_cons_zero, List.set_cons_succ]
  refine tk 9 (h := ?_)
  try simp only [Act.put, List.setIfInBounds_toArray, List.set_cons_zero, List.set_cons_succ]
  refine tk 10 (h := ?_)
  try simp only [Act.put, List.setIfInBounds_toArray, List.set_cons_zero, List.set_cons_succ]
  refine wpAnyH_ready (rs := [11]) (by kernel_rfl) (by simp) ?_
  refine AllReadyH.cons (by simp only [List.getElem?_toArray, List.getElem?_cons_zero, List.getElem?_cons_succ]; rfl) (fun K hK => ?_) AllReadyH.nil
  go_simp
  have hA := Evo.alloc g9 (p + 20) w9 (.cells #[.int .i64 0, .int .i64 0, .int .i64 0, .int .i64 0, .int .i64 0, .int .i64 0, .int .i64 0, .string ⟨#[]⟩] 75)
  have hB := (Below.refl (w9.alloc (.cells #[.int .i64 0, .int .i64 0, .int .i64 0, .int .i64 0, .int .i64 0, .int .i64 0, .int .i64 0, .string ⟨#[]⟩] 75)).heap.size (w9.alloc (.cells #[.int .i64 0, .int .i64 0, .int .i64 0, .int .i64 0, .int .i64 0, .int .i64 0, .int .i64 0, .string ⟨#[]⟩] 75))).drew
  have K3 := hid ((K9.out.fresh hA).below hB)
  have LZ0 := hid ((LocC.new g9 (p + 20) w9 75 [.int .i64 0, .int .i64 0, .int .i64 0, .int .i64 0, .int .i64 0, .int .i64 0, .int .i64 0, .string ⟨#[]⟩]).below hB)
  have hbl := ((Below.refl w9.heap.size w9).alloc (Nat.le_refl _) (.cells #[.int .i64 0, .int .i64 0, .int .i64 0, .int .i64 0, .int .i64 0, .int .i64 0, .int .i64 0, .string ⟨#[]⟩] 75)).drew
  have hne : b ≠ w9.heap.size := Nat.ne_of_lt hb
  have hS' : (w9.alloc (.cells #[.int .i64 0, .int .i64 0, .int .i64 0, .int .i64 0, .int .i64 0, .int .i64 0, .int .i64 0, .string ⟨#[]⟩] 75)).drew.cell? ⟨b, off, none⟩ = some (.int .i64 n0) ∧ (w9.alloc (.cells #[.int .i64 0, .int .i64 0, .int .i64 0, .int .i64 0, .int .i64 0, .int .i64 0, .int .i64 0, .string ⟨#[]⟩] 75)).drew.cell? ⟨b, off + 1, none⟩ = some (.int .i64 0) ∧ (w9.alloc (.cells #[.int .i64 0, .int .i64 0, .int .i64 0, .int .i64 0, .int .i64 0, .int .i64 0, .int .i64 0, .string ⟨#[]⟩] 75)).drew.cell? ⟨b, off + 2, none⟩ = some (.int .i64 0) := ⟨(below_cell hbl hb).trans hS0.1, (below_cell hbl hb).trans hS0.2.1, (below_cell hbl hb).trans hS0.2.2⟩
  clear hA hbl hB
  generalize (w9.alloc (.cells #[.int .i64 0, .int .i64 0, .int .i64 0, .int .i64 0, .int .i64 0, .int .i64 0, .int .i64 0, .string ⟨#[]⟩] 75)).drew = w3 at *
  generalize extc g9 w9 (p + 20) = g3 at *
  generalize w9.heap.size = bx at *
  have k0 : w3.cell? ⟨bx, 0, none⟩ = some (.int .i64 0) := LZ0.out.1.cell 0
  have f0 := LZ0.out.1.free 0
  have k1 : w3.cell? ⟨bx, 1, none⟩ = some (.int .i64 0) := LZ0.out.1.cell 1
  have f1 := LZ0.out.1.free 1
  have k2 : w3.cell? ⟨bx, 2, none⟩ = some (.int .i64 0) := LZ0.out.1.cell 2
  have f2 := LZ0.out.1.free 2
  have k3 : w3.cell? ⟨bx, 3, none⟩ = some (.int .i64 0) := LZ0.out.1.cell 3
  have f3 := LZ0.out.1.free 3
  have k4 : w3.cell? ⟨bx, 4, none⟩ = some (.int .i64 0) := LZ0.out.1.cell 4
  have f4 := LZ0.out.1.free 4
  have k5 : w3.cell? ⟨bx, 5, none⟩ = some (.int .i64 0) := LZ0.out.1.cell 5
  have f5 := LZ0.out.1.free 5
  have k6 : w3.cell? ⟨bx, 6, none⟩ = some (.int .i64 0) := LZ0.out.1.cell 6
  have f6 := LZ0.out.1.free 6
  have k7 : w3.cell? ⟨bx, 7, none⟩ = some (.string ⟨#[]⟩) := LZ0.out.1.cell 7
  have f7 := LZ0.out.1.free 7
  try go_wp2_with fail
  refine hK.out _ _ ?_ (fun hH1 => ?_)
  · (try dsimp only); (first | assumption | exact hS0)
  clear hK K hH0
  try simp only [Act.put, List.setIfInBounds_toArray, List.set_cons_zero, List.set_cons_succ]
  refine wpAnyH_ready (rs := [12]) (by kernel_rfl) (by simp) ?_
  refine AllReadyH.cons (by simp only [List.getElem?_toArray, List.getElem?_cons_zero, List.getElem?_cons_succ]; rfl) (fun K hK => ?_) AllReadyH.nil
  go_simp
  have KZ := hid (show DkWide w0 g0 p d h t H g3 ((((((((w3.setCell ⟨bx, 0, none⟩ (.int .i64 6)).setCell ⟨bx, 1, none⟩ (.int .i64 n0)).setCell ⟨bx, 2, none⟩ (.int .i64 0)).setCell ⟨bx, 3, none⟩ (.int .i64 0)).setCell ⟨bx, 4, none⟩ (.int .i64 0)).setCell ⟨bx, 5, none⟩ (.int .i64 0)).setCell ⟨bx, 6, none⟩ (.int .i64 0)).setCell ⟨bx, 7, none⟩ (.string ⟨#[]⟩)) from ((((((((K3.out.put1 LZ0.out.2 (.int .i64 6)).put1 LZ0.out.2 (.int .i64 n0)).put1 LZ0.out.2 (.int .i64 0)).put1 LZ0.out.2 (.int .i64 0)).put1 LZ0.out.2 (.int .i64 0)).put1 LZ0.out.2 (.int .i64 0)).put1 LZ0.out.2 (.int .i64 0)).put1 LZ0.out.2 (.string ⟨#[]⟩)))
  have LZ := hid (show LocC ((((((((w3.setCell ⟨bx, 0, none⟩ (.int .i64 6)).setCell ⟨bx, 1, none⟩ (.int .i64 n0)).setCell ⟨bx, 2, none⟩ (.int .i64 0)).setCell ⟨bx, 3, none⟩ (.int .i64 0)).setCell ⟨bx, 4, none⟩ (.int .i64 0)).setCell ⟨bx, 5, none⟩ (.int .i64 0)).setCell ⟨bx, 6, none⟩ (.int .i64 0)).setCell ⟨bx, 7, none⟩ (.string ⟨#[]⟩)) g3 (p + 20) bx 75 [.int .i64 6, .int .i64 n0, .int .i64 0, .int .i64 0, .int .i64 0, .int .i64 0, .int .i64 0, .string ⟨#[]⟩] from ⟨((((((((LZ0.out.1.set 0 (.int .i64 6)).set 1 (.int .i64 n0)).set 2 (.int .i64 0)).set 3 (.int .i64 0)).set 4 (.int .i64 0)).set 5 (.int .i64 0)).set 6 (.int .i64 0)).set 7 (.string ⟨#[]⟩)), LZ0.out.2⟩)
  have hS'' : ((((((((w3.setCell ⟨bx, 0, none⟩ (.int .i64 6)).setCell ⟨bx, 1, none⟩ (.int .i64 n0)).setCell ⟨bx, 2, none⟩ (.int .i64 0)).setCell ⟨bx, 3, none⟩ (.int .i64 0)).setCell ⟨bx, 4, none⟩ (.int .i64 0)).setCell ⟨bx, 5, none⟩ (.int .i64 0)).setCell ⟨bx, 6, none⟩ (.int .i64 0)).setCell ⟨bx, 7, none⟩ (.string ⟨#[]⟩)).cell? ⟨b, off, none⟩ = some (.int .i64 n0) ∧ ((((((((w3.setCell ⟨bx, 0, none⟩ (.int .i64 6)).setCell ⟨bx, 1, none⟩ (.int .i64 n0)).setCell ⟨bx, 2, none⟩ (.int .i64 0)).setCell ⟨bx, 3, none⟩ (.int .i64 0)).setCell ⟨bx, 4, none⟩ (.int .i64 0)).setCell ⟨bx, 5, none⟩ (.int .i64 0)).setCell ⟨bx, 6, none⟩ (.int .i64 0)).setCell ⟨bx, 7, none⟩ (.string ⟨#[]⟩)).cell? ⟨b, off + 1, none⟩ = some (.int .i64 0) ∧ ((((((((w3.setCell ⟨bx, 0, none⟩ (.int .i64 6)).setCell ⟨bx, 1, none⟩ (.int .i64 n0)).setCell ⟨bx, 2, none⟩ (.int .i64 0)).setCell ⟨bx, 3, none⟩ (.int .i64 0)).setCell ⟨bx, 4, none⟩ (.int .i64 0)).setCell ⟨bx, 5, none⟩ (.int .i64 0)).setCell ⟨bx, 6, none⟩ (.int .i64 0)).setCell ⟨bx, 7, none⟩ (.string ⟨#[]⟩)).cell? ⟨b, off + 2, none⟩ = some (.int .i64 0) := ⟨(cell_put (cell_put (cell_put (cell_put (cell_put (cell_put (cell_put (cell_put hS'.1 hne (.int .i64 6)) hne (.int .i64 n0)) hne (.int .i64 0)) hne (.int .i64 0)) hne (.int .i64 0)) hne (.int .i64 0)) hne (.int .i64 0)) hne (.string ⟨#[]⟩)), (cell_put (cell_put (cell_put (cell_put (cell_put (cell_put (cell_put (cell_put hS'.2.1 hne (.int .i64 6)) hne (.int .i64 n0)) hne (.int .i64 0)) hne (.int .i64 0)) hne (.int .i64 0)) hne (.int .i64 0)) hne (.int .i64 0)) hne (.string ⟨#[]⟩)), (cell_put (cell_put (cell_put (cell_put (cell_put (cell_put (cell_put (cell_put hS'.2.2 hne (.int .i64 6)) hne (.int .i64 n0)) hne (.int .i64 0)) hne (.int .i64 0)) hne (.int .i64 0)) hne (.int .i64 0)) hne (.int .i64 0)) hne (.string ⟨#[]⟩))⟩
  clear K3 LZ0 hS' hS0 k0 k1 k2 k3 k4 k5 k6 k7 f0 f1 f2 f3 f4 f5 f6 f7
  generalize ((((((((w3.setCell ⟨bx, 0, none⟩ (.int .i64 6)).setCell ⟨bx, 1, none⟩ (.int .i64 n0)).setCell ⟨bx, 2, none⟩ (.int .i64 0)).setCell ⟨bx, 3, none⟩ (.int .i64 0)).setCell ⟨bx, 4, none⟩ (.int .i64 0)).setCell ⟨bx, 5, none⟩ (.int .i64 0)).setCell ⟨bx, 6, none⟩ (.int .i64 0)).setCell ⟨bx, 7, none⟩ (.string ⟨#[]⟩)) = wz at *
  try go_wp2_with fail
  refine hK.out _ _ ?_ (fun hH2 => ?_)
  · (try dsimp only); (first | assumption | exact hS0)
  clear hK K hH1
  try simp only [Act.put, List.setIfInBounds_toArray, List.set_cons_zero, List.set_cons_succ]
  refine wpAnyH_done (by kernel_rfl) ?_ _
  refine NoPanic.normal ?_
  clear hS''
  have k0 : wz.cell? ⟨bx, 0, none⟩ = some (.int .i64 6) := LZ.out.1.cell 0
  have k1 : wz.cell? ⟨bx, 1, none⟩ = some (.int .i64 n0) := LZ.out.1.cell 1
  have k2 : wz.cell? ⟨bx, 2, none⟩ = some (.int .i64 0) := LZ.out.1.cell 2
  have k3 : wz.cell? ⟨bx, 3, none⟩ = some (.int .i64 0) := LZ.out.1.cell 3
  have k4 : wz.cell? ⟨bx, 4, none⟩ = some (.int .i64 0) := LZ.out.1.cell 4
  have k5 : wz.cell? ⟨bx, 5, none⟩ = some (.int .i64 0) := LZ.out.1.cell 5
  have k6 : wz.cell? ⟨bx, 6, none⟩ = some (.int .i64 0) := LZ.out.1.cell 6
  have k7 : wz.cell? ⟨bx, 7, none⟩ = some (.string ⟨#[]⟩) := LZ.out.1.cell 7
  go_wp2_with fail
  refine (desk_did_n3 wz g3 g3 p d h t H ⟨6, n0, 0, 0, 0, 0, 0, ByteArray.empty⟩ wz hp KZ.out.self (by show 0 ≤ maxLen; exact Nat.zero_le _) OK.out ht (fun ev h => by simp [tellD, h])).mono ?_
  rintro e w5 ⟨rfl, g5, hk5, -⟩
  have HP := hid (show EffPost w0 g0 p d h t H (some ⟨6, n0, 0, 0, 0, 0, 0, ByteArray.empty⟩) (.returned (.bool true)) w5 from ⟨rfl, g5, KZ.out.did hk5⟩)
  clear hk5
  go_wp2
  go_ret
  exact HP.out
  -- END commit

set_option maxHeartbeats 8000000 in
set_option maxRecDepth 100000 in
theorem desk_step_abort (w0 : World) (g0 g : Nat → Nat) (p d h : Nat) (t : List UInt8) (H : Ht) (w : World) (hp : 1 ≤ p) (k : DkAt w0 g0 p d h t H g w) (hO : ∀ x, EvOk (doH H x).1) (ht : t.length ≤ 800000000)
    (s : ByteArray) (n0 : Int) (a : Option Addr) (cap : Nat) (hR : RowC w g (p + 20) 3 1 (.slice a 1 cap) 1 [.int .i64 n0]) (hw : wordD s.data.toList = (7, 1)) :
    Calls Tryz.prog 20 #[.pointer (some ⟨d, 0, none⟩), .string s, .slice a 1 cap] w (EffPost w0 g0 p d h t H (some ⟨7, n0, 0, 0, 0, 0, 0, ByteArray.empty⟩)) := by
  obtain ⟨i0, hi, hz0, hz1, hz2⟩ := info_parts Tryz.infoInt
  have OK := hid hO
  have HW := hid hw
  have hA := Evo.alloc g 0 w (.cells #[.int .i64 0, .int .i64 0, .int .i64 0] 3)
  have K1 := hid (k.fresh hA)
  have R1 := hid (hR.frame hA (by omega))
  have q1 : 1 + 3 ≤ maxLen := by unfold maxLen; omega
  have q2 : (1 + 3) * 8 ≤ 140737488355328 := by omega
  clear hO hw k hR hA
  go_enter Tryz.func20, Tryz.ntmps20
  go_wp2_with fail
  refine (desk_word s _).mono ?_
  rintro e w' ⟨rfl, rfl⟩
  rw [HW.out]
  go_wp2_with (refine wpList_append2 rfl (.tmp 24) (.tmp 25) 54 rfl 3 i0 (.int .i64 0) 1 8 Tryz.underlying54 hi hz0 hz1 hz2 rfl (by decide) (.slice a 1 cap) 1 [.int .i64 n0] rfl R1.out.1 ⟨w.heap.size, 0, none⟩ 3 3 [.int .i64 0, .int .i64 0, .int .i64 0] rfl rfl (cells_new w [.int .i64 0, .int .i64 0, .int .i64 0] 3) (by intro u hu; simp at hu; subst hu; rfl) q1 q2 ?_)
  intro v9 w9 ho hg hf
  obtain ⟨a9, c9, rfl, -, -⟩ := ownsRow.sliceAt ho
  obtain ⟨g9, hR9, hE9⟩ : ∃ g9, RowC w9 g9 (p + 20) 3 1 (.slice a9 (1 + 3) c9) (1 + 3) [.int .i64 n0, .int .i64 0, .int .i64 0, .int .i64 0] ∧ Evo (p + 20) (p + 20 + 1) (extc g w 0) g9 (w.alloc (.cells #[.int .i64 0, .int .i64 0, .int .i64 0] 3)) w9 := ⟨_, R1.out.grown ho hg (by simpa using hf)⟩
  have K9 := hid (K1.out.far hE9)
  have R9 := hid hR9
  clear ho hg hf hR9 hE9 K1 R1
  obtain ⟨b, off, rfl, hb⟩ := SliceAt.lt (cells := [.int .i64 n0, .int .i64 0, .int .i64 0, .int .i64 0]) R9.out.sliceAt (by simp)
  have hcs := R9.out.sliceAt
  have c0 : w9.cell? ⟨b, off, none⟩ = some (.int .i64 n0) := sliceAt_get hcs (j := 0) rfl
  have c1 : w9.cell? ⟨b, off + 1, none⟩ = some (.int .i64 0) := sliceAt_get hcs (j := 1) rfl
  have c2 : w9.cell? ⟨b, off + 2, none⟩ = some (.int .i64 0) := sliceAt_get hcs (j := 2) rfl
  have hS0 : w9.drew.cell? ⟨b, off, none⟩ = some (.int .i64 n0) ∧ w9.drew.cell? ⟨b, off + 1, none⟩ = some (.int .i64 0) ∧ w9.drew.cell? ⟨b, off + 2, none⟩ = some (.int .i64 0) := ⟨c0, c1, c2⟩
  clear hcs c0 c1 c2
  go_wp2_with fail
  -- REGION abort
  refine wp_region_noPanic ?_
  refine wp_region_held_drew (S := (fun W : World => W.cell? ⟨b, off, none⟩ = some (.int .i64 n0) ∧ W.cell? ⟨b, off + 1, none⟩ = some (.int .i64 0) ∧ W.cell? ⟨b, off + 2, none⟩ = some (.int .i64 0))) (by kernel_rfl) ?_ (fun hH0 => ?_)
  · (try dsimp only); (first | assumption | exact hS0)
  refine tk 0 (h := ?_)
  try simp only [Act.put, List.setIfInBounds_toArray, List.set_cons_zero, List.set_cons_succ]
  refine tk 1 (h := ?_)
  try simp only [Act.put, List.setIfInBounds_toArray, List.set_cons_zero, List.set_cons_succ]
  refine tk 2 (h := ?_)
  try simp only [Act.put, List.setIfInBounds_toArray, List.set_cons_zero, List.set_cons_succ]
  refine tk 3 (h := ?_)
  try simp only [Act.put, List.setIfInBounds_toArray, List.set_cons_zero, List.set_cons_succ]
  refine tk 4 (h := ?_)
  try simp only [Act.put, List.setIfInBounds_toArray, List.set_cons_zero, List.set_cons_succ]
  refine tk 5 (h := ?_)
  try simp only [Act.put, List.setIfInBounds_toArray, List.set_cons_zero, List.set_cons_succ]
  refine tk 6 (h := ?_)
  try simp only [Act.put, List.setIfInBounds_toArray, List.set_cons_zero, List.set_cons_succ]
  refine tk 7 (h := ?_)
  try simp only [Act.put, List.setIfInBounds_toArray, List.set_cons_zero, List.set_cons_succ]
  refine tk 8 (h := ?_)
  try simp only [Act.put, List.setIfInBounds_toArray, List.set_cons_zero, List.set_cons_succ]
  refine tk 9 (h := ?_)
  try simp only [Act.put, List.setIfInBounds_toArray, List.set_cons_zero, List.set_cons_succ]
  refine tk 10 (h := ?_)
  try simp only [Act.put, List.setIfInBounds_toArray, List.set_cons_zero, List.set_cons_succ]
  refine wpAnyH_ready (rs := [11]) (by kernel_rfl) (by simp) ?_
  refine AllReadyH.cons (by simp only [List.getElem?_toArray, List.getElem?_cons_zero, List.getElem?_cons_succ]; rfl) (fun K hK => ?_) AllReadyH.nil
  go_simp
  have hA := Evo.alloc g9 (p + 20) w9 (.cells #[.int .i64 0, .int .i64 0, .int .i64 0, .int .i64 0, .int .i64 0, .int .i64 0, .int .i64 0, .string ⟨#[]⟩] 75)
  have hB := (Below.refl (w9.alloc (.cells #[.int .i64 0, .int .i64 0, .int .i64 0, .int .i64 0, .int .i64 0, .int .i64 0, .int .i64 0, .string ⟨#[]⟩] 75)).heap.size (w9.alloc (.cells #[.int .i64 0, .int .i64 0, .int .i64 0, .int .i64 0, .int .i64 0, .int .i64 0, .int .i64 0, .string ⟨#[]⟩] 75))).drew
  have K3 := hid ((K9.out.fresh hA).below hB)
  have LZ0 := hid ((LocC.new g9 (p + 20) w9 75 [.int .i64 0, .int .i64 0, .int .i64 0, .int .i64 0, .int .i64 0, .int .i64 0, .int .i64 0, .string ⟨#[]⟩]).below hB)
  have hbl := ((Below.refl w9.heap.size w9).alloc (Nat.le_refl _) (.cells #[.int .i64 0, .int .i64 0, .int .i64 0, .int .i64 0, .int .i64 0, .int .i64 0, .int .i64 0, .string ⟨#[]⟩] 75)).drew
  have hne : b ≠ w9.heap.size := Nat.ne_of_lt hb
  have hS' : (w9.alloc (.cells #[.int .i64 0, .int .i64 0, .int .i64 0, .int .i64 0, .int .i64 0, .int .i64 0, .int .i64 0, .string ⟨#[]⟩] 75)).drew.cell? ⟨b, off, none⟩ = some (.int .i64 n0) ∧ (w9.alloc (.cells #[.int .i64 0, .int .i64 0, .int .i64 0, .int .i64 0, .int .i64 0, .int .i64 0, .int .i64 0, .string ⟨#[]⟩] 75)).drew.cell? ⟨b, off + 1, none⟩ = some (.int .i64 0) ∧ (w9.alloc (.cells #[.int .i64 0, .int .i64 0, .int .i64 0, .int .i64 0, .int .i64 0, .int .i64 0, .int .i64 0, .string ⟨#[]⟩] 75)).drew.cell? ⟨b, off + 2, none⟩ = some (.int .i64 0) := ⟨(below_cell hbl hb).trans hS0.1, (below_cell hbl hb).trans hS0.2.1, (below_cell hbl hb).trans hS0.2.2⟩
  clear hA hbl hB
  generalize (w9.alloc (.cells #[.int .i64 0, .int .i64 0, .int .i64 0, .int .i64 0, .int .i64 0, .int .i64 0, .int .i64 0, .string ⟨#[]⟩] 75)).drew = w3 at *
  generalize extc g9 w9 (p + 20) = g3 at *
  generalize w9.heap.size = bx at *
  have k0 : w3.cell? ⟨bx, 0, none⟩ = some (.int .i64 0) := LZ0.out.1.cell 0
  have f0 := LZ0.out.1.free 0
  have k1 : w3.cell? ⟨bx, 1, none⟩ = some (.int .i64 0) := LZ0.out.1.cell 1
  have f1 := LZ0.out.1.free 1
  have k2 : w3.cell? ⟨bx, 2, none⟩ = some (.int .i64 0) := LZ0.out.1.cell 2
  have f2 := LZ0.out.1.free 2
  have k3 : w3.cell? ⟨bx, 3, none⟩ = some (.int .i64 0) := LZ0.out.1.cell 3
  have f3 := LZ0.out.1.free 3
  have k4 : w3.cell? ⟨bx, 4, none⟩ = some (.int .i64 0) := LZ0.out.1.cell 4
  have f4 := LZ0.out.1.free 4
  have k5 : w3.cell? ⟨bx, 5, none⟩ = some (.int .i64 0) := LZ0.out.1.cell 5
  have f5 := LZ0.out.1.free 5
  have k6 : w3.cell? ⟨bx, 6, none⟩ = some (.int .i64 0) := LZ0.out.1.cell 6
  have f6 := LZ0.out.1.free 6
  have k7 : w3.cell? ⟨bx, 7, none⟩ = some (.string ⟨#[]⟩) := LZ0.out.1.cell 7
  have f7 := LZ0.out.1.free 7
  try go_wp2_with fail
  refine hK.out _ _ ?_ (fun hH1 => ?_)
  · (try dsimp only); (first | assumption | exact hS0)
  clear hK K hH0
  try simp only [Act.put, List.setIfInBounds_toArray, List.set_cons_zero, List.set_cons_succ]
  refine wpAnyH_ready (rs := [12]) (by kernel_rfl) (by simp) ?_
  refine AllReadyH.cons (by simp only [List.getElem?_toArray, List.getElem?_cons_zero, List.getElem?_cons_succ]; rfl) (fun K hK => ?_) AllReadyH.nil
  go_simp
  have KZ := hid (show DkWide w0 g0 p d h t H g3 ((((((((w3.setCell ⟨bx, 0, none⟩ (.int .i64 7)).setCell ⟨bx, 1, none⟩ (.int .i64 n0)).setCell ⟨bx, 2, none⟩ (.int .i64 0)).setCell ⟨bx, 3, none⟩ (.int .i64 0)).setCell ⟨bx, 4, none⟩ (.int .i64 0)).setCell ⟨bx, 5, none⟩ (.int .i64 0)).setCell ⟨bx, 6, none⟩ (.int .i64 0)).setCell ⟨bx, 7, none⟩ (.string ⟨#[]⟩)) from ((((((((K3.out.put1 LZ0.out.2 (.int .i64 7)).put1 LZ0.out.2 (.int .i64 n0)).put1 LZ0.out.2 (.int .i64 0)).put1 LZ0.out.2 (.int .i64 0)).put1 LZ0.out.2 (.int .i64 0)).put1 LZ0.out.2 (.int .i64 0)).put1 LZ0.out.2 (.int .i64 0)).put1 LZ0.out.2 (.string ⟨#[]⟩)))
  have LZ := hid (show LocC ((((((((w3.setCell ⟨bx, 0, none⟩ (.int .i64 7)).setCell ⟨bx, 1, none⟩ (.int .i64 n0)).setCell ⟨bx, 2, none⟩ (.int .i64 0)).setCell ⟨bx, 3, none⟩ (.int .i64 0)).setCell ⟨bx, 4, none⟩ (.int .i64 0)).setCell ⟨bx, 5, none⟩ (.int .i64 0)).setCell ⟨bx, 6, none⟩ (.int .i64 0)).setCell ⟨bx, 7, none⟩ (.string ⟨#[]⟩)) g3 (p + 20) bx 75 [.int .i64 7, .int .i64 n0, .int .i64 0, .int .i64 0, .int .i64 0, .int .i64 0, .int .i64 0, .string ⟨#[]⟩] from ⟨((((((((LZ0.out.1.set 0 (.int .i64 7)).set 1 (.int .i64 n0)).set 2 (.int .i64 0)).set 3 (.int .i64 0)).set 4 (.int .i64 0)).set 5 (.int .i64 0)).set 6 (.int .i64 0)).set 7 (.string ⟨#[]⟩)), LZ0.out.2⟩)
  have hS'' : ((((((((w3.setCell ⟨bx, 0, none⟩ (.int .i64 7)).setCell ⟨bx, 1, none⟩ (.int .i64 n0)).setCell ⟨bx, 2, none⟩ (.int .i64 0)).setCell ⟨bx, 3, none⟩ (.int .i64 0)).setCell ⟨bx, 4, none⟩ (.int .i64 0)).setCell ⟨bx, 5, none⟩ (.int .i64 0)).setCell ⟨bx, 6, none⟩ (.int .i64 0)).setCell ⟨bx, 7, none⟩ (.string ⟨#[]⟩)).cell? ⟨b, off, none⟩ = some (.int .i64 n0) ∧ ((((((((w3.setCell ⟨bx, 0, none⟩ (.int .i64 7)).setCell ⟨bx, 1, none⟩ (.int .i64 n0)).setCell ⟨bx, 2, none⟩ (.int .i64 0)).setCell ⟨bx, 3, none⟩ (.int .i64 0)).setCell ⟨bx, 4, none⟩ (.int .i64 0)).setCell ⟨bx, 5, none⟩ (.int .i64 0)).setCell ⟨bx, 6, none⟩ (.int .i64 0)).setCell ⟨bx, 7, none⟩ (.string ⟨#[]⟩)).cell? ⟨b, off + 1, none⟩ = some (.int .i64 0) ∧ ((((((((w3.setCell ⟨bx, 0, none⟩ (.int .i64 7)).setCell ⟨bx, 1, none⟩ (.int .i64 n0)).setCell ⟨bx, 2, none⟩ (.int .i64 0)).setCell ⟨bx, 3, none⟩ (.int .i64 0)).setCell ⟨bx, 4, none⟩ (.int .i64 0)).setCell ⟨bx, 5, none⟩ (.int .i64 0)).setCell ⟨bx, 6, none⟩ (.int .i64 0)).setCell ⟨bx, 7, none⟩ (.string ⟨#[]⟩)).cell? ⟨b, off + 2, none⟩ = some (.int .i64 0) := ⟨(cell_put (cell_put (cell_put (cell_put (cell_put (cell_put (cell_put (cell_put hS'.1 hne (.int .i64 7)) hne (.int .i64 n0)) hne (.int .i64 0)) hne (.int .i64 0)) hne (.int .i64 0)) hne (.int .i64 0)) hne (.int .i64 0)) hne (.string ⟨#[]⟩)), (cell_put (cell_put (cell_put (cell_put (cell_put (cell_put (cell_put (cell_put hS'.2.1 hne (.int .i64 7)) hne (.int .i64 n0)) hne (.int .i64 0)) hne (.int .i64 0)) hne (.int .i64 0)) hne (.int .i64 0)) hne (.int .i64 0)) hne (.string ⟨#[]⟩)), (cell_put (cell_put (cell_put (cell_put (cell_put (cell_put (cell_put (cell_put hS'.2.2 hne (.int .i64 7)) hne (.int .i64 n0)) hne (.int .i64 0)) hne (.int .i64 0)) hne (.int .i64 0)) hne (.int .i64 0)) hne (.int .i64 0)) hne (.string ⟨#[]⟩))⟩
  clear K3 LZ0 hS' hS0 k0 k1 k2 k3 k4 k5 k6 k7 f0 f1 f2 f3 f4 f5 f6 f7
  generalize ((((((((w3.setCell ⟨bx, 0, none⟩ (.int .i64 7)).setCell ⟨bx, 1, none⟩ (.int .i64 n0)).setCell ⟨bx, 2, none⟩ (.int .i64 0)).setCell ⟨bx, 3, none⟩ (.int .i64 0)).setCell ⟨bx, 4, none⟩ (.int .i64 0)).setCell ⟨bx, 5, none⟩ (.int .i64 0)).setCell ⟨bx, 6, none⟩ (.int .i64 0)).setCell ⟨bx, 7, none⟩ (.string ⟨#[]⟩)) = wz at *
  try go_wp2_with fail
  refine hK.out _ _ ?_ (fun hH2 => ?_)
  · (try dsimp only); (first | assumption | exact hS0)
  clear hK K hH1
  try simp only [Act.put, List.setIfInBounds_toArray, List.set_cons_zero, List.set_cons_succ]
  refine wpAnyH_done (by kernel_rfl) ?_ _
  refine NoPanic.normal ?_
  clear hS''
  have k0 : wz.cell? ⟨bx, 0, none⟩ = some (.int .i64 7) := LZ.out.1.cell 0
  have k1 : wz.cell? ⟨bx, 1, none⟩ = some (.int .i64 n0) := LZ.out.1.cell 1
  have k2 : wz.cell? ⟨bx, 2, none⟩ = some (.int .i64 0) := LZ.out.1.cell 2
  have k3 : wz.cell? ⟨bx, 3, none⟩ = some (.int .i64 0) := LZ.out.1.cell 3
  have k4 : wz.cell? ⟨bx, 4, none⟩ = some (.int .i64 0) := LZ.out.1.cell 4
  have k5 : wz.cell? ⟨bx, 5, none⟩ = some (.int .i64 0) := LZ.out.1.cell 5
  have k6 : wz.cell? ⟨bx, 6, none⟩ = some (.int .i64 0) := LZ.out.1.cell 6
  have k7 : wz.cell? ⟨bx, 7, none⟩ = some (.string ⟨#[]⟩) := LZ.out.1.cell 7
  go_wp2_with fail
  refine (desk_did_ok wz g3 g3 p d h t H ⟨7, n0, 0, 0, 0, 0, 0, ByteArray.empty⟩ wz hp KZ.out.self (by show 0 ≤ maxLen; exact Nat.zero_le _) OK.out ht (fun ev h => by simp [tellD, h])).mono ?_
  rintro e w5 ⟨rfl, g5, hk5, -⟩
  have HP := hid (show EffPost w0 g0 p d h t H (some ⟨7, n0, 0, 0, 0, 0, 0, ByteArray.empty⟩) (.returned (.bool true)) w5 from ⟨rfl, g5, KZ.out.did hk5⟩)
  clear hk5
  go_wp2
  go_ret
  exact HP.out
  -- END abort

set_option maxHeartbeats 8000000 in
set_option maxRecDepth 100000 in
theorem desk_step_clear (w0 : World) (g0 g : Nat → Nat) (p d h : Nat) (t : List UInt8) (H : Ht) (w : World) (hp : 1 ≤ p) (k : DkAt w0 g0 p d h t H g w) (hO : ∀ x, EvOk (doH H x).1) (ht : t.length ≤ 800000000)
    (s : ByteArray)  (a : Option Addr) (cap : Nat) (hR : RowC w g (p + 20) 3 1 (.slice a 0 cap) 0 []) (hw : wordD s.data.toList = (8, 0)) :
    Calls Tryz.prog 20 #[.pointer (some ⟨d, 0, none⟩), .string s, .slice a 0 cap] w (EffPost w0 g0 p d h t H (some ⟨8, 0, 0, 0, 0, 0, 0, ByteArray.empty⟩)) := by
  obtain ⟨i0, hi, hz0, hz1, hz2⟩ := info_parts Tryz.infoInt
  have OK := hid hO
  have HW := hid hw
  have hA := Evo.alloc g 0 w (.cells #[.int .i64 0, .int .i64 0, .int .i64 0] 3)
  have K1 := hid (k.fresh hA)
  have R1 := hid (hR.frame hA (by omega))
  have q1 : 0 + 3 ≤ maxLen := by unfold maxLen; omega
  have q2 : (0 + 3) * 8 ≤ 140737488355328 := by omega
  clear hO hw k hR hA
  go_enter Tryz.func20, Tryz.ntmps20
  go_wp2_with fail
  refine (desk_word s _).mono ?_
  rintro e w' ⟨rfl, rfl⟩
  rw [HW.out]
  go_wp2_with (refine wpList_append2 rfl (.tmp 24) (.tmp 25) 54 rfl 3 i0 (.int .i64 0) 1 8 Tryz.underlying54 hi hz0 hz1 hz2 rfl (by decide) (.slice a 0 cap) 0 [] rfl R1.out.1 ⟨w.heap.size, 0, none⟩ 3 3 [.int .i64 0, .int .i64 0, .int .i64 0] rfl rfl (cells_new w [.int .i64 0, .int .i64 0, .int .i64 0] 3) (by intro u hu; simp at hu; subst hu; rfl) q1 q2 ?_)
  intro v9 w9 ho hg hf
  obtain ⟨a9, c9, rfl, -, -⟩ := ownsRow.sliceAt ho
  obtain ⟨g9, hR9, hE9⟩ : ∃ g9, RowC w9 g9 (p + 20) 3 1 (.slice a9 (0 + 3) c9) (0 + 3) [.int .i64 0, .int .i64 0, .int .i64 0] ∧ Evo (p + 20) (p + 20 + 1) (extc g w 0) g9 (w.alloc (.cells #[.int .i64 0, .int .i64 0, .int .i64 0] 3)) w9 := ⟨_, R1.out.grown ho hg (by simpa using hf)⟩
  have K9 := hid (K1.out.far hE9)
  have R9 := hid hR9
  clear ho hg hf hR9 hE9 K1 R1
  obtain ⟨b, off, rfl, hb⟩ := SliceAt.lt (cells := [.int .i64 0, .int .i64 0, .int .i64 0]) R9.out.sliceAt (by simp)
  have hcs := R9.out.sliceAt
  have c0 : w9.cell? ⟨b, off, none⟩ = some (.int .i64 0) := sliceAt_get hcs (j := 0) rfl
  have c1 : w9.cell? ⟨b, off + 1, none⟩ = some (.int .i64 0) := sliceAt_get hcs (j := 1) rfl
  have c2 : w9.cell? ⟨b, off + 2, none⟩ = some (.int .i64 0) := sliceAt_get hcs (j := 2) rfl
  have hS0 : w9.drew.cell? ⟨b, off, none⟩ = some (.int .i64 0) ∧ w9.drew.cell? ⟨b, off + 1, none⟩ = some (.int .i64 0) ∧ w9.drew.cell? ⟨b, off + 2, none⟩ = some (.int .i64 0) := ⟨c0, c1, c2⟩
  clear hcs c0 c1 c2
  go_wp2_with fail
  -- REGION clear
  refine wp_region_noPanic ?_
  refine wp_region_held_drew (S := (fun W : World => W.cell? ⟨b, off, none⟩ = some (.int .i64 0) ∧ W.cell? ⟨b, off + 1, none⟩ = some (.int .i64 0) ∧ W.cell? ⟨b, off + 2, none⟩ = some (.int .i64 0))) (by kernel_rfl) ?_ (fun hH0 => ?_)
  · (try dsimp only); (first | assumption | exact hS0)
  refine tk 0 (h := ?_)
  try simp only [Act.put, List.setIfInBounds_toArray, List.set_cons_zero, List.set_cons_succ]
  refine tk 1 (h := ?_)
  try simp only [Act.put, List.setIfInBounds_toArray, List.set_cons_zero, List.set_cons_succ]
  refine tk 2 (h := ?_)
  try simp only [Act.put, List.setIfInBounds_toArray, List.set_cons_zero, List.set_cons_succ]
  refine tk 3 (h := ?_)
  try simp only [Act.put, List.setIfInBounds_toArray, List.set_cons_zero, List.set_cons_succ]
  refine tk 4 (h := ?_)
  try simp only [Act.put, List.setIfInBounds_toArray, List.set_cons_zero, List.set_cons_succ]
  refine tk 5 (h := ?_)
  try simp only [Act.put, List.setIfInBounds_toArray, List.set_cons_zero, List.set_cons_succ]
  refine tk 6 (h := ?_)
  try simp only [Act.put, List.setIfInBounds_toArray, List.set_cons_zero, List.set_cons_succ]
  refine tk 7 (h := ?_)
  try simp only [Act.put, List.setIfInBounds_toArray, List.set_cons_zero, List.set_cons_succ]
  refine tk 8 (h := ?_)
  try simp only [Act.put, List.setIfInBounds_toArray, List.set_cons_zero, List.set_cons_succ]
  refine tk 9 (h := ?_)
  try simp only [Act.put, List.setIfInBounds_toArray, List.set_cons_zero, List.set_cons_succ]
  refine tk 10 (h := ?_)
  try simp only [Act.put, List.setIfInBounds_toArray, List.set_cons_zero, List.set_cons_succ]
  refine wpAnyH_ready (rs := [11]) (by kernel_rfl) (by simp) ?_
  refine AllReadyH.cons (by simp only [List.getElem?_toArray, List.getElem?_cons_zero, List.getElem?_cons_succ]; rfl) (fun K hK => ?_) AllReadyH.nil
  go_simp
  have hA := Evo.alloc g9 (p + 20) w9 (.cells #[.int .i64 0, .int .i64 0, .int .i64 0, .int .i64 0, .int .i64 0, .int .i64 0, .int .i64 0, .string ⟨#[]⟩] 75)
  have hB := (Below.refl (w9.alloc (.cells #[.int .i64 0, .int .i64 0, .int .i64 0, .int .i64 0, .int .i64 0, .int .i64 0, .int .i64 0, .string ⟨#[]⟩] 75)).heap.size (w9.alloc (.cells #[.int .i64 0, .int .i64 0, .int .i64 0, .int .i64 0, .int .i64 0, .int .i64 0, .int .i64 0, .string ⟨#[]⟩] 75))).drew
  have K3 := hid ((K9.out.fresh hA).below hB)
  have LZ0 := hid ((LocC.new g9 (p + 20) w9 75 [.int .i64 0, .int .i64 0, .int .i64 0, .int .i64 0, .int .i64 0, .int .i64 0, .int .i64 0, .string ⟨#[]⟩]).below hB)
  have hbl := ((Below.refl w9.heap.size w9).alloc (Nat.le_refl _) (.cells #[.int .i64 0, .int .i64 0, .int .i64 0, .int .i64 0, .int .i64 0, .int .i64 0, .int .i64 0, .string ⟨#[]⟩] 75)).drew
  have hne : b ≠ w9.heap.size := Nat.ne_of_lt hb
  have hS' : (w9.alloc (.cells #[.int .i64 0, .int .i64 0, .int .i64 0, .int .i64 0, .int .i64 0, .int .i64 0, .int .i64 0, .string ⟨#[]⟩] 75)).drew.cell? ⟨b, off, none⟩ = some (.int .i64 0) ∧ (w9.alloc (.cells #[.int .i64 0, .int .i64 0, .int .i64 0, .int .i64 0, .int .i64 0, .int .i64 0, .int .i64 0, .string ⟨#[]⟩] 75)).drew.cell? ⟨b, off + 1, none⟩ = some (.int .i64 0) ∧ (w9.alloc (.cells #[.int .i64 0, .int .i64 0, .int .i64 0, .int .i64 0, .int .i64 0, .int .i64 0, .int .i64 0, .string ⟨#[]⟩] 75)).drew.cell? ⟨b, off + 2, none⟩ = some (.int .i64 0) := ⟨(below_cell hbl hb).trans hS0.1, (below_cell hbl hb).trans hS0.2.1, (below_cell hbl hb).trans hS0.2.2⟩
  clear hA hbl hB
  generalize (w9.alloc (.cells #[.int .i64 0, .int .i64 0, .int .i64 0, .int .i64 0, .int .i64 0, .int .i64 0, .int .i64 0, .string ⟨#[]⟩] 75)).drew = w3 at *
  generalize extc g9 w9 (p + 20) = g3 at *
  generalize w9.heap.size = bx at *
  have k0 : w3.cell? ⟨bx, 0, none⟩ = some (.int .i64 0) := LZ0.out.1.cell 0
  have f0 := LZ0.out.1.free 0
  have k1 : w3.cell? ⟨bx, 1, none⟩ = some (.int .i64 0) := LZ0.out.1.cell 1
  have f1 := LZ0.out.1.free 1
  have k2 : w3.cell? ⟨bx, 2, none⟩ = some (.int .i64 0) := LZ0.out.1.cell 2
  have f2 := LZ0.out.1.free 2
  have k3 : w3.cell? ⟨bx, 3, none⟩ = some (.int .i64 0) := LZ0.out.1.cell 3
  have f3 := LZ0.out.1.free 3
  have k4 : w3.cell? ⟨bx, 4, none⟩ = some (.int .i64 0) := LZ0.out.1.cell 4
  have f4 := LZ0.out.1.free 4
  have k5 : w3.cell? ⟨bx, 5, none⟩ = some (.int .i64 0) := LZ0.out.1.cell 5
  have f5 := LZ0.out.1.free 5
  have k6 : w3.cell? ⟨bx, 6, none⟩ = some (.int .i64 0) := LZ0.out.1.cell 6
  have f6 := LZ0.out.1.free 6
  have k7 : w3.cell? ⟨bx, 7, none⟩ = some (.string ⟨#[]⟩) := LZ0.out.1.cell 7
  have f7 := LZ0.out.1.free 7
  try go_wp2_with fail
  refine hK.out _ _ ?_ (fun hH1 => ?_)
  · (try dsimp only); (first | assumption | exact hS0)
  clear hK K hH0
  try simp only [Act.put, List.setIfInBounds_toArray, List.set_cons_zero, List.set_cons_succ]
  refine wpAnyH_ready (rs := [12]) (by kernel_rfl) (by simp) ?_
  refine AllReadyH.cons (by simp only [List.getElem?_toArray, List.getElem?_cons_zero, List.getElem?_cons_succ]; rfl) (fun K hK => ?_) AllReadyH.nil
  go_simp
  have KZ := hid (show DkWide w0 g0 p d h t H g3 ((((((((w3.setCell ⟨bx, 0, none⟩ (.int .i64 8)).setCell ⟨bx, 1, none⟩ (.int .i64 0)).setCell ⟨bx, 2, none⟩ (.int .i64 0)).setCell ⟨bx, 3, none⟩ (.int .i64 0)).setCell ⟨bx, 4, none⟩ (.int .i64 0)).setCell ⟨bx, 5, none⟩ (.int .i64 0)).setCell ⟨bx, 6, none⟩ (.int .i64 0)).setCell ⟨bx, 7, none⟩ (.string ⟨#[]⟩)) from ((((((((K3.out.put1 LZ0.out.2 (.int .i64 8)).put1 LZ0.out.2 (.int .i64 0)).put1 LZ0.out.2 (.int .i64 0)).put1 LZ0.out.2 (.int .i64 0)).put1 LZ0.out.2 (.int .i64 0)).put1 LZ0.out.2 (.int .i64 0)).put1 LZ0.out.2 (.int .i64 0)).put1 LZ0.out.2 (.string ⟨#[]⟩)))
  have LZ := hid (show LocC ((((((((w3.setCell ⟨bx, 0, none⟩ (.int .i64 8)).setCell ⟨bx, 1, none⟩ (.int .i64 0)).setCell ⟨bx, 2, none⟩ (.int .i64 0)).setCell ⟨bx, 3, none⟩ (.int .i64 0)).setCell ⟨bx, 4, none⟩ (.int .i64 0)).setCell ⟨bx, 5, none⟩ (.int .i64 0)).setCell ⟨bx, 6, none⟩ (.int .i64 0)).setCell ⟨bx, 7, none⟩ (.string ⟨#[]⟩)) g3 (p + 20) bx 75 [.int .i64 8, .int .i64 0, .int .i64 0, .int .i64 0, .int .i64 0, .int .i64 0, .int .i64 0, .string ⟨#[]⟩] from ⟨((((((((LZ0.out.1.set 0 (.int .i64 8)).set 1 (.int .i64 0)).set 2 (.int .i64 0)).set 3 (.int .i64 0)).set 4 (.int .i64 0)).set 5 (.int .i64 0)).set 6 (.int .i64 0)).set 7 (.string ⟨#[]⟩)), LZ0.out.2⟩)
  have hS'' : ((((((((w3.setCell ⟨bx, 0, none⟩ (.int .i64 8)).setCell ⟨bx, 1, none⟩ (.int .i64 0)).setCell ⟨bx, 2, none⟩ (.int .i64 0)).setCell ⟨bx, 3, none⟩ (.int .i64 0)).setCell ⟨bx, 4, none⟩ (.int .i64 0)).setCell ⟨bx, 5, none⟩ (.int .i64 0)).setCell ⟨bx, 6, none⟩ (.int .i64 0)).setCell ⟨bx, 7, none⟩ (.string ⟨#[]⟩)).cell? ⟨b, off, none⟩ = some (.int .i64 0) ∧ ((((((((w3.setCell ⟨bx, 0, none⟩ (.int .i64 8)).setCell ⟨bx, 1, none⟩ (.int .i64 0)).setCell ⟨bx, 2, none⟩ (.int .i64 0)).setCell ⟨bx, 3, none⟩ (.int .i64 0)).setCell ⟨bx, 4, none⟩ (.int .i64 0)).setCell ⟨bx, 5, none⟩ (.int .i64 0)).setCell ⟨bx, 6, none⟩ (.int .i64 0)).setCell ⟨bx, 7, none⟩ (.string ⟨#[]⟩)).cell? ⟨b, off + 1, none⟩ = some (.int .i64 0) ∧ ((((((((w3.setCell ⟨bx, 0, none⟩ (.int .i64 8)).setCell ⟨bx, 1, none⟩ (.int .i64 0)).setCell ⟨bx, 2, none⟩ (.int .i64 0)).setCell ⟨bx, 3, none⟩ (.int .i64 0)).setCell ⟨bx, 4, none⟩ (.int .i64 0)).setCell ⟨bx, 5, none⟩ (.int .i64 0)).setCell ⟨bx, 6, none⟩ (.int .i64 0)).setCell ⟨bx, 7, none⟩ (.string ⟨#[]⟩)).cell? ⟨b, off + 2, none⟩ = some (.int .i64 0) := ⟨(cell_put (cell_put (cell_put (cell_put (cell_put (cell_put (cell_put (cell_put hS'.1 hne (.int .i64 8)) hne (.int .i64 0)) hne (.int .i64 0)) hne (.int .i64 0)) hne (.int .i64 0)) hne (.int .i64 0)) hne (.int .i64 0)) hne (.string ⟨#[]⟩)), (cell_put (cell_put (cell_put (cell_put (cell_put (cell_put (cell_put (cell_put hS'.2.1 hne (.int .i64 8)) hne (.int .i64 0)) hne (.int .i64 0)) hne (.int .i64 0)) hne (.int .i64 0)) hne (.int .i64 0)) hne (.int .i64 0)) hne (.string ⟨#[]⟩)), (cell_put (cell_put (cell_put (cell_put (cell_put (cell_put (cell_put (cell_put hS'.2.2 hne (.int .i64 8)) hne (.int .i64 0)) hne (.int .i64 0)) hne (.int .i64 0)) hne (.int .i64 0)) hne (.int .i64 0)) hne (.int .i64 0)) hne (.string ⟨#[]⟩))⟩
  clear K3 LZ0 hS' hS0 k0 k1 k2 k3 k4 k5 k6 k7 f0 f1 f2 f3 f4 f5 f6 f7
  generalize ((((((((w3.setCell ⟨bx, 0, none⟩ (.int .i64 8)).setCell ⟨bx, 1, none⟩ (.int .i64 0)).setCell ⟨bx, 2, none⟩ (.int .i64 0)).setCell ⟨bx, 3, none⟩ (.int .i64 0)).setCell ⟨bx, 4, none⟩ (.int .i64 0)).setCell ⟨bx, 5, none⟩ (.int .i64 0)).setCell ⟨bx, 6, none⟩ (.int .i64 0)).setCell ⟨bx, 7, none⟩ (.string ⟨#[]⟩)) = wz at *
  try go_wp2_with fail
  refine hK.out _ _ ?_ (fun hH2 => ?_)
  · (try dsimp only); (first | assumption | exact hS0)
  clear hK K hH1
  try simp only [Act.put, List.setIfInBounds_toArray, List.set_cons_zero, List.set_cons_succ]
  refine wpAnyH_done (by kernel_rfl) ?_ _
  refine NoPanic.normal ?_
  clear hS''
  have k0 : wz.cell? ⟨bx, 0, none⟩ = some (.int .i64 8) := LZ.out.1.cell 0
  have k1 : wz.cell? ⟨bx, 1, none⟩ = some (.int .i64 0) := LZ.out.1.cell 1
  have k2 : wz.cell? ⟨bx, 2, none⟩ = some (.int .i64 0) := LZ.out.1.cell 2
  have k3 : wz.cell? ⟨bx, 3, none⟩ = some (.int .i64 0) := LZ.out.1.cell 3
  have k4 : wz.cell? ⟨bx, 4, none⟩ = some (.int .i64 0) := LZ.out.1.cell 4
  have k5 : wz.cell? ⟨bx, 5, none⟩ = some (.int .i64 0) := LZ.out.1.cell 5
  have k6 : wz.cell? ⟨bx, 6, none⟩ = some (.int .i64 0) := LZ.out.1.cell 6
  have k7 : wz.cell? ⟨bx, 7, none⟩ = some (.string ⟨#[]⟩) := LZ.out.1.cell 7
  go_wp2_with fail
  refine (desk_did_n3 wz g3 g3 p d h t H ⟨8, 0, 0, 0, 0, 0, 0, ByteArray.empty⟩ wz hp KZ.out.self (by show 0 ≤ maxLen; exact Nat.zero_le _) OK.out ht (fun ev h => by simp [tellD, h])).mono ?_
  rintro e w5 ⟨rfl, g5, hk5, -⟩
  have HP := hid (show EffPost w0 g0 p d h t H (some ⟨8, 0, 0, 0, 0, 0, 0, ByteArray.empty⟩) (.returned (.bool true)) w5 from ⟨rfl, g5, KZ.out.did hk5⟩)
  clear hk5
  go_wp2
  go_ret
  exact HP.out
  -- END clear

set_option maxHeartbeats 8000000 in
set_option maxRecDepth 100000 in
theorem desk_step_crash (w0 : World) (g0 g : Nat → Nat) (p d h : Nat) (t : List UInt8) (H : Ht) (w : World) (hp : 1 ≤ p) (k : DkAt w0 g0 p d h t H g w) (hO : ∀ x, EvOk (doH H x).1) (ht : t.length ≤ 800000000)
    (s : ByteArray)  (a : Option Addr) (cap : Nat) (hR : RowC w g (p + 20) 3 1 (.slice a 0 cap) 0 []) (hw : wordD s.data.toList = (9, 0)) :
    Calls Tryz.prog 20 #[.pointer (some ⟨d, 0, none⟩), .string s, .slice a 0 cap] w (EffPost w0 g0 p d h t H (some ⟨9, 0, 0, 0, 0, 0, 0, ByteArray.empty⟩)) := by
  obtain ⟨i0, hi, hz0, hz1, hz2⟩ := info_parts Tryz.infoInt
  have OK := hid hO
  have HW := hid hw
  have hA := Evo.alloc g 0 w (.cells #[.int .i64 0, .int .i64 0, .int .i64 0] 3)
  have K1 := hid (k.fresh hA)
  have R1 := hid (hR.frame hA (by omega))
  have q1 : 0 + 3 ≤ maxLen := by unfold maxLen; omega
  have q2 : (0 + 3) * 8 ≤ 140737488355328 := by omega
  clear hO hw k hR hA
  go_enter Tryz.func20, Tryz.ntmps20
  go_wp2_with fail
  refine (desk_word s _).mono ?_
  rintro e w' ⟨rfl, rfl⟩
  rw [HW.out]
  go_wp2_with (refine wpList_append2 rfl (.tmp 24) (.tmp 25) 54 rfl 3 i0 (.int .i64 0) 1 8 Tryz.underlying54 hi hz0 hz1 hz2 rfl (by decide) (.slice a 0 cap) 0 [] rfl R1.out.1 ⟨w.heap.size, 0, none⟩ 3 3 [.int .i64 0, .int .i64 0, .int .i64 0] rfl rfl (cells_new w [.int .i64 0, .int .i64 0, .int .i64 0] 3) (by intro u hu; simp at hu; subst hu; rfl) q1 q2 ?_)
  intro v9 w9 ho hg hf
  obtain ⟨a9, c9, rfl, -, -⟩ := ownsRow.sliceAt ho
  obtain ⟨g9, hR9, hE9⟩ : ∃ g9, RowC w9 g9 (p + 20) 3 1 (.slice a9 (0 + 3) c9) (0 + 3) [.int .i64 0, .int .i64 0, .int .i64 0] ∧ Evo (p + 20) (p + 20 + 1) (extc g w 0) g9 (w.alloc (.cells #[.int .i64 0, .int .i64 0, .int .i64 0] 3)) w9 := ⟨_, R1.out.grown ho hg (by simpa using hf)⟩
  have K9 := hid (K1.out.far hE9)
  have R9 := hid hR9
  clear ho hg hf hR9 hE9 K1 R1
  obtain ⟨b, off, rfl, hb⟩ := SliceAt.lt (cells := [.int .i64 0, .int .i64 0, .int .i64 0]) R9.out.sliceAt (by simp)
  have hcs := R9.out.sliceAt
  have c0 : w9.cell? ⟨b, off, none⟩ = some (.int .i64 0) := sliceAt_get hcs (j := 0) rfl
  have c1 : w9.cell? ⟨b, off + 1, none⟩ = some (.int .i64 0) := sliceAt_get hcs (j := 1) rfl
  have c2 : w9.cell? ⟨b, off + 2, none⟩ = some (.int .i64 0) := sliceAt_get hcs (j := 2) rfl
  have hS0 : w9.drew.cell? ⟨b, off, none⟩ = some (.int .i64 0) ∧ w9.drew.cell? ⟨b, off + 1, none⟩ = some (.int .i64 0) ∧ w9.drew.cell? ⟨b, off + 2, none⟩ = some (.int .i64 0) := ⟨c0, c1, c2⟩
  clear hcs c0 c1 c2
  go_wp2_with fail
  -- REGION crash
  refine wp_region_noPanic ?_
  refine wp_region_held_drew (S := (fun W : World => W.cell? ⟨b, off, none⟩ = some (.int .i64 0) ∧ W.cell? ⟨b, off + 1, none⟩ = some (.int .i64 0) ∧ W.cell? ⟨b, off + 2, none⟩ = some (.int .i64 0))) (by kernel_rfl) ?_ (fun hH0 => ?_)
  · (try dsimp only); (first | assumption | exact hS0)
  refine tk 0 (h := ?_)
  try simp only [Act.put, List.setIfInBounds_toArray, List.set_cons_zero, List.set_cons_succ]
  refine tk 1 (h := ?_)
  try simp only [Act.put, List.setIfInBounds_toArray, List.set_cons_zero, List.set_cons_succ]
  refine tk 2 (h := ?_)
  try simp only [Act.put, List.setIfInBounds_toArray, List.set_cons_zero, List.set_cons_succ]
  refine tk 3 (h := ?_)
  try simp only [Act.put, List.setIfInBounds_toArray, List.set_cons_zero, List.set_cons_succ]
  refine tk 4 (h := ?_)
  try simp only [Act.put, List.setIfInBounds_toArray, List.set_cons_zero, List.set_cons_succ]
  refine tk 5 (h := ?_)
  try simp only [Act.put, List.setIfInBounds_toArray, List.set_cons_zero, List.set_cons_succ]
  refine tk 6 (h := ?_)
  try simp only [Act.put, List.setIfInBounds_toArray, List.set_cons_zero, List.set_cons_succ]
  refine tk 7 (h := ?_)
  try simp only [Act.put, List.setIfInBounds_toArray, List.set_cons_zero, List.set_cons_succ]
  refine tk 8 (h := ?_)
  try simp only [Act.put, List.setIfInBounds_toArray, List.set_cons_zero, List.set_cons_succ]
  refine tk 9 (h := ?_)
  try simp only [Act.put, List.setIfInBounds_toArray, List.set_cons_zero, List.set_cons_succ]
  refine tk 10 (h := ?_)
  try simp only [Act.put, List.setIfInBounds_toArray, List.set_cons_zero, List.set_cons_succ]
  refine wpAnyH_ready (rs := [11]) (by kernel_rfl) (by simp) ?_
  refine AllReadyH.cons (by simp only [List.getElem?_toArray, List.getElem?_cons_zero, List.getElem?_cons_succ]; rfl) (fun K hK => ?_) AllReadyH.nil
  go_simp
  have hA := Evo.alloc g9 (p + 20) w9 (.cells #[.int .i64 0, .int .i64 0, .int .i64 0, .int .i64 0, .int .i64 0, .int .i64 0, .int .i64 0, .string ⟨#[]⟩] 75)
  have hB := (Below.refl (w9.alloc (.cells #[.int .i64 0, .int .i64 0, .int .i64 0, .int .i64 0, .int .i64 0, .int .i64 0, .int .i64 0, .string ⟨#[]⟩] 75)).heap.size (w9.alloc (.cells #[.int .i64 0, .int .i64 0, .int .i64 0, .int .i64 0, .int .i64 0, .int .i64 0, .int .i64 0, .string ⟨#[]⟩] 75))).drew
  have K3 := hid ((K9.out.fresh hA).below hB)
  have LZ0 := hid ((LocC.new g9 (p + 20) w9 75 [.int .i64 0, .int .i64 0, .int .i64 0, .int .i64 0, .int .i64 0, .int .i64 0, .int .i64 0, .string ⟨#[]⟩]).below hB)
  have hbl := ((Below.refl w9.heap.size w9).alloc (Nat.le_refl _) (.cells #[.int .i64 0, .int .i64 0, .int .i64 0, .int .i64 0, .int .i64 0, .int .i64 0, .int .i64 0, .string ⟨#[]⟩] 75)).drew
  have hne : b ≠ w9.heap.size := Nat.ne_of_lt hb
  have hS' : (w9.alloc (.cells #[.int .i64 0, .int .i64 0, .int .i64 0, .int .i64 0, .int .i64 0, .int .i64 0, .int .i64 0, .string ⟨#[]⟩] 75)).drew.cell? ⟨b, off, none⟩ = some (.int .i64 0) ∧ (w9.alloc (.cells #[.int .i64 0, .int .i64 0, .int .i64 0, .int .i64 0, .int .i64 0, .int .i64 0, .int .i64 0, .string ⟨#[]⟩] 75)).drew.cell? ⟨b, off + 1, none⟩ = some (.int .i64 0) ∧ (w9.alloc (.cells #[.int .i64 0, .int .i64 0, .int .i64 0, .int .i64 0, .int .i64 0, .int .i64 0, .int .i64 0, .string ⟨#[]⟩] 75)).drew.cell? ⟨b, off + 2, none⟩ = some (.int .i64 0) := ⟨(below_cell hbl hb).trans hS0.1, (below_cell hbl hb).trans hS0.2.1, (below_cell hbl hb).trans hS0.2.2⟩
  clear hA hbl hB
  generalize (w9.alloc (.cells #[.int .i64 0, .int .i64 0, .int .i64 0, .int .i64 0, .int .i64 0, .int .i64 0, .int .i64 0, .string ⟨#[]⟩] 75)).drew = w3 at *
  generalize extc g9 w9 (p + 20) = g3 at *
  generalize w9.heap.size = bx at *
  have k0 : w3.cell? ⟨bx, 0, none⟩ = some (.int .i64 0) := LZ0.out.1.cell 0
  have f0 := LZ0.out.1.free 0
  have k1 : w3.cell? ⟨bx, 1, none⟩ = some (.int .i64 0) := LZ0.out.1.cell 1
  have f1 := LZ0.out.1.free 1
  have k2 : w3.cell? ⟨bx, 2, none⟩ = some (.int .i64 0) := LZ0.out.1.cell 2
  have f2 := LZ0.out.1.free 2
  have k3 : w3.cell? ⟨bx, 3, none⟩ = some (.int .i64 0) := LZ0.out.1.cell 3
  have f3 := LZ0.out.1.free 3
  have k4 : w3.cell? ⟨bx, 4, none⟩ = some (.int .i64 0) := LZ0.out.1.cell 4
  have f4 := LZ0.out.1.free 4
  have k5 : w3.cell? ⟨bx, 5, none⟩ = some (.int .i64 0) := LZ0.out.1.cell 5
  have f5 := LZ0.out.1.free 5
  have k6 : w3.cell? ⟨bx, 6, none⟩ = some (.int .i64 0) := LZ0.out.1.cell 6
  have f6 := LZ0.out.1.free 6
  have k7 : w3.cell? ⟨bx, 7, none⟩ = some (.string ⟨#[]⟩) := LZ0.out.1.cell 7
  have f7 := LZ0.out.1.free 7
  try go_wp2_with fail
  refine hK.out _ _ ?_ (fun hH1 => ?_)
  · (try dsimp only); (first | assumption | exact hS0)
  clear hK K hH0
  try simp only [Act.put, List.setIfInBounds_toArray, List.set_cons_zero, List.set_cons_succ]
  refine wpAnyH_ready (rs := [12]) (by kernel_rfl) (by simp) ?_
  refine AllReadyH.cons (by simp only [List.getElem?_toArray, List.getElem?_cons_zero, List.getElem?_cons_succ]; rfl) (fun K hK => ?_) AllReadyH.nil
  go_simp
  have KZ := hid (show DkWide w0 g0 p d h t H g3 ((((((((w3.setCell ⟨bx, 0, none⟩ (.int .i64 9)).setCell ⟨bx, 1, none⟩ (.int .i64 0)).setCell ⟨bx, 2, none⟩ (.int .i64 0)).setCell ⟨bx, 3, none⟩ (.int .i64 0)).setCell ⟨bx, 4, none⟩ (.int .i64 0)).setCell ⟨bx, 5, none⟩ (.int .i64 0)).setCell ⟨bx, 6, none⟩ (.int .i64 0)).setCell ⟨bx, 7, none⟩ (.string ⟨#[]⟩)) from ((((((((K3.out.put1 LZ0.out.2 (.int .i64 9)).put1 LZ0.out.2 (.int .i64 0)).put1 LZ0.out.2 (.int .i64 0)).put1 LZ0.out.2 (.int .i64 0)).put1 LZ0.out.2 (.int .i64 0)).put1 LZ0.out.2 (.int .i64 0)).put1 LZ0.out.2 (.int .i64 0)).put1 LZ0.out.2 (.string ⟨#[]⟩)))
  have LZ := hid (show LocC ((((((((w3.setCell ⟨bx, 0, none⟩ (.int .i64 9)).setCell ⟨bx, 1, none⟩ (.int .i64 0)).setCell ⟨bx, 2, none⟩ (.int .i64 0)).setCell ⟨bx, 3, none⟩ (.int .i64 0)).setCell ⟨bx, 4, none⟩ (.int .i64 0)).setCell ⟨bx, 5, none⟩ (.int .i64 0)).setCell ⟨bx, 6, none⟩ (.int .i64 0)).setCell ⟨bx, 7, none⟩ (.string ⟨#[]⟩)) g3 (p + 20) bx 75 [.int .i64 9, .int .i64 0, .int .i64 0, .int .i64 0, .int .i64 0, .int .i64 0, .int .i64 0, .string ⟨#[]⟩] from ⟨((((((((LZ0.out.1.set 0 (.int .i64 9)).set 1 (.int .i64 0)).set 2 (.int .i64 0)).set 3 (.int .i64 0)).set 4 (.int .i64 0)).set 5 (.int .i64 0)).set 6 (.int .i64 0)).set 7 (.string ⟨#[]⟩)), LZ0.out.2⟩)
  have hS'' : ((((((((w3.setCell ⟨bx, 0, none⟩ (.int .i64 9)).setCell ⟨bx, 1, none⟩ (.int .i64 0)).setCell ⟨bx, 2, none⟩ (.int .i64 0)).setCell ⟨bx, 3, none⟩ (.int .i64 0)).setCell ⟨bx, 4, none⟩ (.int .i64 0)).setCell ⟨bx, 5, none⟩ (.int .i64 0)).setCell ⟨bx, 6, none⟩ (.int .i64 0)).setCell ⟨bx, 7, none⟩ (.string ⟨#[]⟩)).cell? ⟨b, off, none⟩ = some (.int .i64 0) ∧ ((((((((w3.setCell ⟨bx, 0, none⟩ (.int .i64 9)).setCell ⟨bx, 1, none⟩ (.int .i64 0)).setCell ⟨bx, 2, none⟩ (.int .i64 0)).setCell ⟨bx, 3, none⟩ (.int .i64 0)).setCell ⟨bx, 4, none⟩ (.int .i64 0)).setCell ⟨bx, 5, none⟩ (.int .i64 0)).setCell ⟨bx, 6, none⟩ (.int .i64 0)).setCell ⟨bx, 7, none⟩ (.string ⟨#[]⟩)).cell? ⟨b, off + 1, none⟩ = some (.int .i64 0) ∧ ((((((((w3.setCell ⟨bx, 0, none⟩ (.int .i64 9)).setCell ⟨bx, 1, none⟩ (.int .i64 0)).setCell ⟨bx, 2, none⟩ (.int .i64 0)).setCell ⟨bx, 3, none⟩ (.int .i64 0)).setCell ⟨bx, 4, none⟩ (.int .i64 0)).setCell ⟨bx, 5, none⟩ (.int .i64 0)).setCell ⟨bx, 6, none⟩ (.int .i64 0)).setCell ⟨bx, 7, none⟩ (.string ⟨#[]⟩)).cell? ⟨b, off + 2, none⟩ = some (.int .i64 0) := ⟨(cell_put (cell_put (cell_put (cell_put (cell_put (cell_put (cell_put (cell_put hS'.1 hne (.int .i64 9)) hne (.int .i64 0)) hne (.int .i64 0)) hne (.int .i64 0)) hne (.int .i64 0)) hne (.int .i64 0)) hne (.int .i64 0)) hne (.string ⟨#[]⟩)), (cell_put (cell_put (cell_put (cell_put (cell_put (cell_put (cell_put (cell_put hS'.2.1 hne (.int .i64 9)) hne (.int .i64 0)) hne (.int .i64 0)) hne (.int .i64 0)) hne (.int .i64 0)) hne (.int .i64 0)) hne (.int .i64 0)) hne (.string ⟨#[]⟩)), (cell_put (cell_put (cell_put (cell_put (cell_put (cell_put (cell_put (cell_put hS'.2.2 hne (.int .i64 9)) hne (.int .i64 0)) hne (.int .i64 0)) hne (.int .i64 0)) hne (.int .i64 0)) hne (.int .i64 0)) hne (.int .i64 0)) hne (.string ⟨#[]⟩))⟩
  clear K3 LZ0 hS' hS0 k0 k1 k2 k3 k4 k5 k6 k7 f0 f1 f2 f3 f4 f5 f6 f7
  generalize ((((((((w3.setCell ⟨bx, 0, none⟩ (.int .i64 9)).setCell ⟨bx, 1, none⟩ (.int .i64 0)).setCell ⟨bx, 2, none⟩ (.int .i64 0)).setCell ⟨bx, 3, none⟩ (.int .i64 0)).setCell ⟨bx, 4, none⟩ (.int .i64 0)).setCell ⟨bx, 5, none⟩ (.int .i64 0)).setCell ⟨bx, 6, none⟩ (.int .i64 0)).setCell ⟨bx, 7, none⟩ (.string ⟨#[]⟩)) = wz at *
  try go_wp2_with fail
  refine hK.out _ _ ?_ (fun hH2 => ?_)
  · (try dsimp only); (first | assumption | exact hS0)
  clear hK K hH1
  try simp only [Act.put, List.setIfInBounds_toArray, List.set_cons_zero, List.set_cons_succ]
  refine wpAnyH_done (by kernel_rfl) ?_ _
  refine NoPanic.normal ?_
  clear hS''
  have k0 : wz.cell? ⟨bx, 0, none⟩ = some (.int .i64 9) := LZ.out.1.cell 0
  have k1 : wz.cell? ⟨bx, 1, none⟩ = some (.int .i64 0) := LZ.out.1.cell 1
  have k2 : wz.cell? ⟨bx, 2, none⟩ = some (.int .i64 0) := LZ.out.1.cell 2
  have k3 : wz.cell? ⟨bx, 3, none⟩ = some (.int .i64 0) := LZ.out.1.cell 3
  have k4 : wz.cell? ⟨bx, 4, none⟩ = some (.int .i64 0) := LZ.out.1.cell 4
  have k5 : wz.cell? ⟨bx, 5, none⟩ = some (.int .i64 0) := LZ.out.1.cell 5
  have k6 : wz.cell? ⟨bx, 6, none⟩ = some (.int .i64 0) := LZ.out.1.cell 6
  have k7 : wz.cell? ⟨bx, 7, none⟩ = some (.string ⟨#[]⟩) := LZ.out.1.cell 7
  go_wp2_with fail
  refine (desk_did_ok wz g3 g3 p d h t H ⟨9, 0, 0, 0, 0, 0, 0, ByteArray.empty⟩ wz hp KZ.out.self (by show 0 ≤ maxLen; exact Nat.zero_le _) OK.out ht (fun ev h => by simp [tellD, h])).mono ?_
  rintro e w5 ⟨rfl, g5, hk5, -⟩
  have HP := hid (show EffPost w0 g0 p d h t H (some ⟨9, 0, 0, 0, 0, 0, 0, ByteArray.empty⟩) (.returned (.bool true)) w5 from ⟨rfl, g5, KZ.out.did hk5⟩)
  clear hk5
  go_wp2
  go_ret
  exact HP.out
  -- END crash

set_option maxHeartbeats 8000000 in
set_option maxRecDepth 100000 in
theorem desk_step_tear (w0 : World) (g0 g : Nat → Nat) (p d h : Nat) (t : List UInt8) (H : Ht) (w : World) (hp : 1 ≤ p) (k : DkAt w0 g0 p d h t H g w) (hO : ∀ x, EvOk (doH H x).1) (ht : t.length ≤ 800000000)
    (s : ByteArray) (n0 n1 : Int) (a : Option Addr) (cap : Nat) (hR : RowC w g (p + 20) 3 1 (.slice a 2 cap) 2 [.int .i64 n0, .int .i64 n1]) (hw : wordD s.data.toList = (10, 2)) :
    Calls Tryz.prog 20 #[.pointer (some ⟨d, 0, none⟩), .string s, .slice a 2 cap] w (EffPost w0 g0 p d h t H (some ⟨10, n0, 0, 0, 0, 0, n1, ByteArray.empty⟩)) := by
  obtain ⟨i0, hi, hz0, hz1, hz2⟩ := info_parts Tryz.infoInt
  have OK := hid hO
  have HW := hid hw
  have hA := Evo.alloc g 0 w (.cells #[.int .i64 0, .int .i64 0, .int .i64 0] 3)
  have K1 := hid (k.fresh hA)
  have R1 := hid (hR.frame hA (by omega))
  have q1 : 2 + 3 ≤ maxLen := by unfold maxLen; omega
  have q2 : (2 + 3) * 8 ≤ 140737488355328 := by omega
  clear hO hw k hR hA
  go_enter Tryz.func20, Tryz.ntmps20
  go_wp2_with fail
  refine (desk_word s _).mono ?_
  rintro e w' ⟨rfl, rfl⟩
  rw [HW.out]
  go_wp2_with (refine wpList_append2 rfl (.tmp 24) (.tmp 25) 54 rfl 3 i0 (.int .i64 0) 1 8 Tryz.underlying54 hi hz0 hz1 hz2 rfl (by decide) (.slice a 2 cap) 2 [.int .i64 n0, .int .i64 n1] rfl R1.out.1 ⟨w.heap.size, 0, none⟩ 3 3 [.int .i64 0, .int .i64 0, .int .i64 0] rfl rfl (cells_new w [.int .i64 0, .int .i64 0, .int .i64 0] 3) (by intro u hu; simp at hu; subst hu; rfl) q1 q2 ?_)
  intro v9 w9 ho hg hf
  obtain ⟨a9, c9, rfl, -, -⟩ := ownsRow.sliceAt ho
  obtain ⟨g9, hR9, hE9⟩ : ∃ g9, RowC w9 g9 (p + 20) 3 1 (.slice a9 (2 + 3) c9) (2 + 3) [.int .i64 n0, .int .i64 n1, .int .i64 0, .int .i64 0, .int .i64 0] ∧ Evo (p + 20) (p + 20 + 1) (extc g w 0) g9 (w.alloc (.cells #[.int .i64 0, .int .i64 0, .int .i64 0] 3)) w9 := ⟨_, R1.out.grown ho hg (by simpa using hf)⟩
  have K9 := hid (K1.out.far hE9)
  have R9 := hid hR9
  clear ho hg hf hR9 hE9 K1 R1
  obtain ⟨b, off, rfl, hb⟩ := SliceAt.lt (cells := [.int .i64 n0, .int .i64 n1, .int .i64 0, .int .i64 0, .int .i64 0]) R9.out.sliceAt (by simp)
  have hcs := R9.out.sliceAt
  have c0 : w9.cell? ⟨b, off, none⟩ = some (.int .i64 n0) := sliceAt_get hcs (j := 0) rfl
  have c1 : w9.cell? ⟨b, off + 1, none⟩ = some (.int .i64 n1) := sliceAt_get hcs (j := 1) rfl
  have c2 : w9.cell? ⟨b, off + 2, none⟩ = some (.int .i64 0) := sliceAt_get hcs (j := 2) rfl
  have hS0 : w9.drew.cell? ⟨b, off, none⟩ = some (.int .i64 n0) ∧ w9.drew.cell? ⟨b, off + 1, none⟩ = some (.int .i64 n1) ∧ w9.drew.cell? ⟨b, off + 2, none⟩ = some (.int .i64 0) := ⟨c0, c1, c2⟩
  clear hcs c0 c1 c2
  go_wp2_with fail
  -- REGION tear
  refine wp_region_noPanic ?_
  refine wp_region_held_drew (S := (fun W : World => W.cell? ⟨b, off, none⟩ = some (.int .i64 n0) ∧ W.cell? ⟨b, off + 1, none⟩ = some (.int .i64 n1) ∧ W.cell? ⟨b, off + 2, none⟩ = some (.int .i64 0))) (by kernel_rfl) ?_ (fun hH0 => ?_)
  · (try dsimp only); (first | assumption | exact hS0)
  refine tk 0 (h := ?_)
  try simp only [Act.put, List.setIfInBounds_toArray, List.set_cons_zero, List.set_cons_succ]
  refine tk 1 (h := ?_)
  try simp only [Act.put, List.setIfInBounds_toArray, List.set_cons_zero, List.set_cons_succ]
  refine tk 2 (h := ?_)
  try simp only [Act.put, List.setIfInBounds_toArray, List.set_cons_zero, List.set_cons_succ]
  refine tk 3 (h := ?_)
  try simp only [Act.put, List.setIfInBounds_toArray, List.set_cons_zero, List.set_cons_succ]
  refine tk 4 (h := ?_)
  try simp only [Act.put, List.setIfInBounds_toArray, List.set_cons_zero, List.set_cons_succ]
  refine tk 5 (h := ?_)
  try simp only [Act.put, List.setIfInBounds_toArray, List.set_cons_zero, List.set_cons_succ]
  refine tk 6 (h := ?_)
  try simp only [Act.put, List.setIfInBounds_toArray, List.set_cons_zero, List.set_cons_succ]
  refine tk 7 (h := ?_)
  try simp only [Act.put, List.setIfInBounds_toArray, List.set_cons_zero, List.set_cons_succ]
  refine tk 8 (h := ?_)
  try simp only [Act.put, List.setIfInBounds_toArray, List.set_cons_zero, List.set_cons_succ]
  refine tk 9 (h := ?_)
  try simp only [Act.put, List.setIfInBounds_toArray, List.set_cons_zero, List.set_cons_succ]
  refine tk 10 (h := ?_)
  try simp only [Act.put, List.setIfInBounds_toArray, List.set_cons_zero, List.set_cons_succ]
  refine wpAnyH_ready (rs := [11]) (by kernel_rfl) (by simp) ?_
  refine AllReadyH.cons (by simp only [List.getElem?_toArray, List.getElem?_cons_zero, List.getElem?_cons_succ]; rfl) (fun K hK => ?_) AllReadyH.nil
  go_simp
  have hA := Evo.alloc g9 (p + 20) w9 (.cells #[.int .i64 0, .int .i64 0, .int .i64 0, .int .i64 0, .int .i64 0, .int .i64 0, .int .i64 0, .string ⟨#[]⟩] 75)
  have hB := (Below.refl (w9.alloc (.cells #[.int .i64 0, .int .i64 0, .int .i64 0, .int .i64 0, .int .i64 0, .int .i64 0, .int .i64 0, .string ⟨#[]⟩] 75)).heap.size (w9.alloc (.cells #[.int .i64 0, .int .i64 0, .int .i64 0, .int .i64 0, .int .i64 0, .int .i64 0, .int .i64 0, .string ⟨#[]⟩] 75))).drew
  have K3 := hid ((K9.out.fresh hA).below hB)
  have LZ0 := hid ((LocC.new g9 (p + 20) w9 75 [.int .i64 0, .int .i64 0, .int .i64 0, .int .i64 0, .int .i64 0, .int .i64 0, .int .i64 0, .string ⟨#[]⟩]).below hB)
  have hbl := ((Below.refl w9.heap.size w9).alloc (Nat.le_refl _) (.cells #[.int .i64 0, .int .i64 0, .int .i64 0, .int .i64 0, .int .i64 0, .int .i64 0, .int .i64 0, .string ⟨#[]⟩] 75)).drew
  have hne : b ≠ w9.heap.size := Nat.ne_of_lt hb
  have hS' : (w9.alloc (.cells #[.int .i64 0, .int .i64 0, .int .i64 0, .int .i64 0, .int .i64 0, .int .i64 0, .int .i64 0, .string ⟨#[]⟩] 75)).drew.cell? ⟨b, off, none⟩ = some (.int .i64 n0) ∧ (w9.alloc (.cells #[.int .i64 0, .int .i64 0, .int .i64 0, .int .i64 0, .int .i64 0, .int .i64 0, .int .i64 0, .string ⟨#[]⟩] 75)).drew.cell? ⟨b, off + 1, none⟩ = some (.int .i64 n1) ∧ (w9.alloc (.cells #[.int .i64 0, .int .i64 0, .int .i64 0, .int .i64 0, .int .i64 0, .int .i64 0, .int .i64 0, .string ⟨#[]⟩] 75)).drew.cell? ⟨b, off + 2, none⟩ = some (.int .i64 0) := ⟨(below_cell hbl hb).trans hS0.1, (below_cell hbl hb).trans hS0.2.1, (below_cell hbl hb).trans hS0.2.2⟩
  clear hA hbl hB
  generalize (w9.alloc (.cells #[.int .i64 0, .int .i64 0, .int .i64 0, .int .i64 0, .int .i64 0, .int .i64 0, .int .i64 0, .string ⟨#[]⟩] 75)).drew = w3 at *
  generalize extc g9 w9 (p + 20) = g3 at *
  generalize w9.heap.size = bx at *
  have k0 : w3.cell? ⟨bx, 0, none⟩ = some (.int .i64 0) := LZ0.out.1.cell 0
  have f0 := LZ0.out.1.free 0
  have k1 : w3.cell? ⟨bx, 1, none⟩ = some (.int .i64 0) := LZ0.out.1.cell 1
  have f1 := LZ0.out.1.free 1
  have k2 : w3.cell? ⟨bx, 2, none⟩ = some (.int .i64 0) := LZ0.out.1.cell 2
  have f2 := LZ0.out.1.free 2
  have k3 : w3.cell? ⟨bx, 3, none⟩ = some (.int .i64 0) := LZ0.out.1.cell 3
  have f3 := LZ0.out.1.free 3
  have k4 : w3.cell? ⟨bx, 4, none⟩ = some (.int .i64 0) := LZ0.out.1.cell 4
  have f4 := LZ0.out.1.free 4
  have k5 : w3.cell? ⟨bx, 5, none⟩ = some (.int .i64 0) := LZ0.out.1.cell 5
  have f5 := LZ0.out.1.free 5
  have k6 : w3.cell? ⟨bx, 6, none⟩ = some (.int .i64 0) := LZ0.out.1.cell 6
  have f6 := LZ0.out.1.free 6
  have k7 : w3.cell? ⟨bx, 7, none⟩ = some (.string ⟨#[]⟩) := LZ0.out.1.cell 7
  have f7 := LZ0.out.1.free 7
  try go_wp2_with fail
  refine hK.out _ _ ?_ (fun hH1 => ?_)
  · (try dsimp only); (first | assumption | exact hS0)
  clear hK K hH0
  try simp only [Act.put, List.setIfInBounds_toArray, List.set_cons_zero, List.set_cons_succ]
  refine wpAnyH_ready (rs := [12]) (by kernel_rfl) (by simp) ?_
  refine AllReadyH.cons (by simp only [List.getElem?_toArray, List.getElem?_cons_zero, List.getElem?_cons_succ]; rfl) (fun K hK => ?_) AllReadyH.nil
  go_simp
  have KZ := hid (show DkWide w0 g0 p d h t H g3 ((((((((w3.setCell ⟨bx, 0, none⟩ (.int .i64 10)).setCell ⟨bx, 1, none⟩ (.int .i64 n0)).setCell ⟨bx, 2, none⟩ (.int .i64 0)).setCell ⟨bx, 3, none⟩ (.int .i64 0)).setCell ⟨bx, 4, none⟩ (.int .i64 n1)).setCell ⟨bx, 5, none⟩ (.int .i64 0)).setCell ⟨bx, 6, none⟩ (.int .i64 0)).setCell ⟨bx, 7, none⟩ (.string ⟨#[]⟩)) from ((((((((K3.out.put1 LZ0.out.2 (.int .i64 10)).put1 LZ0.out.2 (.int .i64 n0)).put1 LZ0.out.2 (.int .i64 0)).put1 LZ0.out.2 (.int .i64 0)).put1 LZ0.out.2 (.int .i64 n1)).put1 LZ0.out.2 (.int .i64 0)).put1 LZ0.out.2 (.int .i64 0)).put1 LZ0.out.2 (.string ⟨#[]⟩)))
  have LZ := hid (show LocC ((((((((w3.setCell ⟨bx, 0, none⟩ (.int .i64 10)).setCell ⟨bx, 1, none⟩ (.int .i64 n0)).setCell ⟨bx, 2, none⟩ (.int .i64 0)).setCell ⟨bx, 3, none⟩ (.int .i64 0)).setCell ⟨bx, 4, none⟩ (.int .i64 n1)).setCell ⟨bx, 5, none⟩ (.int .i64 0)).setCell ⟨bx, 6, none⟩ (.int .i64 0)).setCell ⟨bx, 7, none⟩ (.string ⟨#[]⟩)) g3 (p + 20) bx 75 [.int .i64 10, .int .i64 n0, .int .i64 0, .int .i64 0, .int .i64 n1, .int .i64 0, .int .i64 0, .string ⟨#[]⟩] from ⟨((((((((LZ0.out.1.set 0 (.int .i64 10)).set 1 (.int .i64 n0)).set 2 (.int .i64 0)).set 3 (.int .i64 0)).set 4 (.int .i64 n1)).set 5 (.int .i64 0)).set 6 (.int .i64 0)).set 7 (.string ⟨#[]⟩)), LZ0.out.2⟩)
  have hS'' : ((((((((w3.setCell ⟨bx, 0, none⟩ (.int .i64 10)).setCell ⟨bx, 1, none⟩ (.int .i64 n0)).setCell ⟨bx, 2, none⟩ (.int .i64 0)).setCell ⟨bx, 3, none⟩ (.int .i64 0)).setCell ⟨bx, 4, none⟩ (.int .i64 n1)).setCell ⟨bx, 5, none⟩ (.int .i64 0)).setCell ⟨bx, 6, none⟩ (.int .i64 0)).setCell ⟨bx, 7, none⟩ (.string ⟨#[]⟩)).cell? ⟨b, off, none⟩ = some (.int .i64 n0) ∧ ((((((((w3.setCell ⟨bx, 0, none⟩ (.int .i64 10)).setCell ⟨bx, 1, none⟩ (.int .i64 n0)).setCell ⟨bx, 2, none⟩ (.int .i64 0)).setCell ⟨bx, 3, none⟩ (.int .i64 0)).setCell ⟨bx, 4, none⟩ (.int .i64 n1)).setCell ⟨bx, 5, none⟩ (.int .i64 0)).setCell ⟨bx, 6, none⟩ (.int .i64 0)).setCell ⟨bx, 7, none⟩ (.string ⟨#[]⟩)).cell? ⟨b, off + 1, none⟩ = some (.int .i64 n1) ∧ ((((((((w3.setCell ⟨bx, 0, none⟩ (.int .i64 10)).setCell ⟨bx, 1, none⟩ (.int .i64 n0)).setCell ⟨bx, 2, none⟩ (.int .i64 0)).setCell ⟨bx, 3, none⟩ (.int .i64 0)).setCell ⟨bx, 4, none⟩ (.int .i64 n1)).setCell ⟨bx, 5, none⟩ (.int .i64 0)).setCell ⟨bx, 6, none⟩ (.int .i64 0)).setCell ⟨bx, 7, none⟩ (.string ⟨#[]⟩)).cell? ⟨b, off + 2, none⟩ = some (.int .i64 0) := ⟨(cell_put (cell_put (cell_put (cell_put (cell_put (cell_put (cell_put (cell_put hS'.1 hne (.int .i64 10)) hne (.int .i64 n0)) hne (.int .i64 0)) hne (.int .i64 0)) hne (.int .i64 n1)) hne (.int .i64 0)) hne (.int .i64 0)) hne (.string ⟨#[]⟩)), (cell_put (cell_put (cell_put (cell_put (cell_put (cell_put (cell_put (cell_put hS'.2.1 hne (.int .i64 10)) hne (.int .i64 n0)) hne (.int .i64 0)) hne (.int .i64 0)) hne (.int .i64 n1)) hne (.int .i64 0)) hne (.int .i64 0)) hne (.string ⟨#[]⟩)), (cell_put (cell_put (cell_put (cell_put (cell_put (cell_put (cell_put (cell_put hS'.2.2 hne (.int .i64 10)) hne (.int .i64 n0)) hne (.int .i64 0)) hne (.int .i64 0)) hne (.int .i64 n1)) hne (.int .i64 0)) hne (.int .i64 0)) hne (.string ⟨#[]⟩))⟩
  clear K3 LZ0 hS' hS0 k0 k1 k2 k3 k4 k5 k6 k7 f0 f1 f2 f3 f4 f5 f6 f7
  generalize ((((((((w3.setCell ⟨bx, 0, none⟩ (.int .i64 10)).setCell ⟨bx, 1, none⟩ (.int .i64 n0)).setCell ⟨bx, 2, none⟩ (.int .i64 0)).setCell ⟨bx, 3, none⟩ (.int .i64 0)).setCell ⟨bx, 4, none⟩ (.int .i64 n1)).setCell ⟨bx, 5, none⟩ (.int .i64 0)).setCell ⟨bx, 6, none⟩ (.int .i64 0)).setCell ⟨bx, 7, none⟩ (.string ⟨#[]⟩)) = wz at *
  try go_wp2_with fail
  refine hK.out _ _ ?_ (fun hH2 => ?_)
  · (try dsimp only); (first | assumption | exact hS0)
  clear hK K hH1
  try simp only [Act.put, List.setIfInBounds_toArray, List.set_cons_zero, List.set_cons_succ]
  refine wpAnyH_done (by kernel_rfl) ?_ _
  refine NoPanic.normal ?_
  have hcn := hS''.2.1
  clear hS''
  go_wp2_with fail
  have hS1 : wz.drew.cell? ⟨b, off + 1, none⟩ = some (.int .i64 n1) := hcn
  have KT := hid (KZ.out.below (Below.refl wz.heap.size wz).drew)
  have LT := hid (LZ.out.below (Below.refl wz.heap.size wz).drew)
  have k4 : wz.drew.cell? ⟨bx, 4, none⟩ = some (.int .i64 n1) := LT.out.1.cell 4
  have f4 := LT.out.1.free 4
  clear KZ LZ hcn
  -- REGION tear16
  refine wp_region_noPanic ?_
  refine wp_region_held_drew (S := (fun W : World => W.cell? ⟨b, off + 1, none⟩ = some (.int .i64 n1))) (by kernel_rfl) ?_ (fun hH0 => ?_)
  · (try dsimp only); (first | assumption | exact hS1)
  refine tk 0 (h := ?_)
  try simp only [Act.put, List.setIfInBounds_toArray, List.set_cons_zero, List.set_cons_succ]
  refine tk 1 (h := ?_)
  try simp only [Act.put, List.setIfInBounds_toArray, List.set_cons_zero, List.set_cons_succ]
  refine tk 2 (h := ?_)
  try simp only [Act.put, List.setIfInBounds_toArray, List.set_cons_zero, List.set_cons_succ]
  refine tk 3 (h := ?_)
  try simp only [Act.put, List.setIfInBounds_toArray, List.set_cons_zero, List.set_cons_succ]
  refine wpAnyH_ready (rs := [4]) (by kernel_rfl) (by simp) ?_
  refine AllReadyH.cons (by simp only [List.getElem?_toArray, List.getElem?_cons_zero, List.getElem?_cons_succ]; rfl) (fun K hK => ?_) AllReadyH.nil
  go_simp
  have KT2 := hid (show DkWide w0 g0 p d h t H g3 (wz.setCell ⟨bx, 4, none⟩ (.int .i64 0)).drew from (KT.out.put1 LT.out.2 (.int .i64 0)))
  have LT2 := hid (show LocC (wz.setCell ⟨bx, 4, none⟩ (.int .i64 0)).drew g3 (p + 20) bx 75 [.int .i64 10, .int .i64 n0, .int .i64 0, .int .i64 0, .int .i64 0, .int .i64 0, .int .i64 0, .string ⟨#[]⟩] from ⟨LT.out.1.set 4 (.int .i64 0), LT.out.2⟩)
  have hS2 : (wz.setCell ⟨bx, 4, none⟩ (.int .i64 0)).drew.cell? ⟨b, off + 1, none⟩ = some (.int .i64 n1) := cell_put hS1 hne (.int .i64 0)
  clear hS1 KT LT k4 f4
  generalize (wz.setCell ⟨bx, 4, none⟩ (.int .i64 0)).drew = wy at *
  have k6 : wy.cell? ⟨bx, 6, none⟩ = some (.int .i64 0) := LT2.out.1.cell 6
  have f6 := LT2.out.1.free 6
  try go_wp2_with fail
  refine hK.out _ _ ?_ (fun hH1 => ?_)
  · (try dsimp only); (first | assumption | exact hS1)
  clear hK K hH0
  try simp only [Act.put, List.setIfInBounds_toArray, List.set_cons_zero, List.set_cons_succ]
  refine tk 5 (h := ?_)
  try simp only [Act.put, List.setIfInBounds_toArray, List.set_cons_zero, List.set_cons_succ]
  refine wpAnyH_ready (rs := [6]) (by kernel_rfl) (by simp) ?_
  refine AllReadyH.cons (by simp only [List.getElem?_toArray, List.getElem?_cons_zero, List.getElem?_cons_succ]; rfl) (fun K hK => ?_) AllReadyH.nil
  go_simp
  have KT3 := hid (show DkWide w0 g0 p d h t H g3 (wy.setCell ⟨bx, 6, none⟩ (.int .i64 n1)) from (KT2.out.put1 LT2.out.2 (.int .i64 n1)))
  have LT3 := hid (show LocC (wy.setCell ⟨bx, 6, none⟩ (.int .i64 n1)) g3 (p + 20) bx 75 [.int .i64 10, .int .i64 n0, .int .i64 0, .int .i64 0, .int .i64 0, .int .i64 0, .int .i64 n1, .string ⟨#[]⟩] from ⟨LT2.out.1.set 6 (.int .i64 n1), LT2.out.2⟩)
  have hS3 : (wy.setCell ⟨bx, 6, none⟩ (.int .i64 n1)).cell? ⟨b, off + 1, none⟩ = some (.int .i64 n1) := cell_put hS2 hne (.int .i64 n1)
  clear hS2 KT2 LT2 k6 f6
  generalize wy.setCell ⟨bx, 6, none⟩ (.int .i64 n1) = wx at *
  try go_wp2_with fail
  refine hK.out _ _ ?_ (fun hH2 => ?_)
  · (try dsimp only); (first | assumption | exact hS1)
  clear hK K hH1
  try simp only [Act.put, List.setIfInBounds_toArray, List.set_cons_zero, List.set_cons_succ]
  refine wpAnyH_done (by kernel_rfl) ?_ _
  refine NoPanic.normal ?_
  clear hS3
  have k0 : wx.cell? ⟨bx, 0, none⟩ = some (.int .i64 10) := LT3.out.1.cell 0
  have k1 : wx.cell? ⟨bx, 1, none⟩ = some (.int .i64 n0) := LT3.out.1.cell 1
  have k2 : wx.cell? ⟨bx, 2, none⟩ = some (.int .i64 0) := LT3.out.1.cell 2
  have k3 : wx.cell? ⟨bx, 3, none⟩ = some (.int .i64 0) := LT3.out.1.cell 3
  have k4 : wx.cell? ⟨bx, 4, none⟩ = some (.int .i64 0) := LT3.out.1.cell 4
  have k5 : wx.cell? ⟨bx, 5, none⟩ = some (.int .i64 0) := LT3.out.1.cell 5
  have k6 : wx.cell? ⟨bx, 6, none⟩ = some (.int .i64 n1) := LT3.out.1.cell 6
  have k7 : wx.cell? ⟨bx, 7, none⟩ = some (.string ⟨#[]⟩) := LT3.out.1.cell 7
  go_wp2_with fail
  refine (desk_did_n4 wx g3 g3 p d h t H ⟨10, n0, 0, 0, 0, 0, n1, ByteArray.empty⟩ wx hp KT3.out.self (by show 0 ≤ maxLen; exact Nat.zero_le _) OK.out ht (fun ev h => by simp [tellD, h])).mono ?_
  rintro e w5 ⟨rfl, g5, hk5, -⟩
  have HP := hid (show EffPost w0 g0 p d h t H (some ⟨10, n0, 0, 0, 0, 0, n1, ByteArray.empty⟩) (.returned (.bool true)) w5 from ⟨rfl, g5, KT3.out.did hk5⟩)
  clear hk5
  go_wp2
  go_ret
  exact HP.out
  -- END tear16
  -- END tear

end Go.Proofs.YtoiobhcgpajogabGreatDoor
