/- A desk in memory: what its Builder does, that lies at the head of the desk's block. -/
import Derived.Test.YtoiobhcgpajogabGreatDoorText1
import Derived.Test.YtoiobhcgpajogabGreatDoorDeskP
import Derived.Lib.UnsafeStr
import Derived.Lib.AppendStr
import Derived.RegionTactic
namespace Go.Proofs.YtoiobhcgpajogabGreatDoor
open Go.RowKit

theorem run_append_str2 {P : Program} (w : World) (t u ty e : TypeId) (i : TypeInfo) (ht : P.underlying t = some (.slice e)) (hu : P.underlying u = some .string) (hi : P.info? e = some i) (hz : i.zero = some (.int .u8 0))
    (hsize : i.size = 1) (hby : i.bytes = 1) (v : Value) (n : Nat) (xs : List Value) (hown : w.ownsRow 0 e 1 v n xs) (s : ByteArray)
    (h63 : n + s.size ≤ maxLen) (hbytes : n + s.size ≤ 140737488355328) :
    ∃ v' w', (Builtin.append_ #[t, u] ty #[v, .string s]).run P w = .ok v' w' ∧ w'.ownsRow 0 e 1 v' (n + s.size) (xs ++ Lib.strCells s) ∧ w.grownBy w' v.ownBlock ∧
      (v'.ownBlock = v.ownBlock ∨ ∀ k, v'.ownBlock = some k → w.heap.size ≤ k) := by
  obtain ⟨v', w', hr, ho, hg, h4⟩ := Lib.run_append_own_string (P := P) w 0 t u ty e i ht hu hi hz hsize hby v n xs hown s h63 hbytes (Nat.zero_le _)
  refine ⟨v', w', hr, ho, hg, ?_⟩
  rcases hown.2 with ⟨rfl, rfl⟩ | ⟨r, cap, cur, rfl, -, hgr, hnc, hcm, hcs, htake⟩
  · by_cases hm : s.size = 0
    · left; rw [h4.2 ⟨rfl, hm⟩]
    · right
      have hx : xs = [] := List.eq_nil_of_length_eq_zero (by simpa using hown.1)
      subst hx
      obtain ⟨v2, w2, hr2, ho2, -, -⟩ := Lib.run_append_own_string (P := P) w w.heap.size t u ty e i ht hu hi hz hsize hby (.slice none 0 0) 0 [] (World.ownsRow_nil w w.heap.size e 1) s h63 hbytes (Nat.le_refl _)
      rw [hr] at hr2
      cases hr2
      exact fun k hk => (ho2.lt k hk).1
  · by_cases hroom : n + s.size ≤ cap
    · left
      rw [Lib.run_append_room_string (P := P) w t u ty e i ht hu hi hsize r n cap cur hgr s hroom (by have h' : cur.size = cap := (by simpa using hcs); omega)] at hr
      cases hr
      rfl
    · right
      have holds : ∀ j u, xs[j]? = some u → w.cell? ((⟨r, 0, none⟩ : Addr).add j) = some u := hown.cells (g := r) rfl
      rw [Lib.run_append_grow_string (P := P) w t u ty e i (.int .u8 0) ht hu hi hz ⟨r, 0, none⟩ n cap xs (by rw [hsize]; simpa using hown.1) holds s (by omega) (by unfold maxLen at h63; omega) (by rw [hby]; exact growslice_fits (by omega) (by omega))] at hr
      cases hr
      intro k hk; cases hk; exact Nat.le_refl _

section
variable {P : Program} {ops : Array Oper} {rest : List Oper} {o : Oper} {a : Act} {w : World} {Q : Exit → Act → World → Prop}
theorem wpList_append_str2 (hgd : o.guard = none) (sl x : Operand) (t u : TypeId) (ho : o.op = .call { callee := .builtin .append, args := #[sl, x], argTypes := #[t, u] })
    (e : TypeId) (i : TypeInfo) (ht : P.underlying t = some (.slice e)) (hu : P.underlying u = some .string) (hi : P.info? e = some i) (hz : i.zero = some (.int .u8 0)) (hsize : i.size = 1) (hby : i.bytes = 1)
    (v : Value) (n : Nat) (xs : List Value) (hs : a.eval sl = v) (hown : w.ownsRow 0 e 1 v n xs) (s : ByteArray) (hx : a.eval x = .string s) (h63 : n + s.size ≤ maxLen) (hbytes : n + s.size ≤ 140737488355328)
    (h : ∀ v' w', w'.ownsRow 0 e 1 v' (n + s.size) (xs ++ Lib.strCells s) → w.grownBy w' v.ownBlock → (v'.ownBlock = v.ownBlock ∨ ∀ k, v'.ownBlock = some k → w.heap.size ≤ k) → wpList P ops Q rest (a.put o.dst v') w') : wpList P ops Q (o :: rest) a w := by
  refine wpList_plain hgd fun K hK => ?_
  obtain ⟨v', w', hr, h2, h3, h4⟩ := run_append_str2 (P := P) w t u o.type e i ht hu hi hz hsize hby v n xs hown s h63 hbytes
  unfold Oper.wp execOp
  simp only [ho, resolve, invoke, builtin, Sem.run_bind, Sem.run_pure, Result.andThen_ok, List.map_toArray, List.map_cons, List.map_nil, hs, hx, hr]
  exact hK _ _ (h v' w' h2 h3 h4)
end

theorem Tryz.liesDesk : liesAt Tryz.prog Tryz.prog.depth 40 (3 / Tryz.prog.cellsOf 40) 0 38 1 = true := by kernel_rfl

set_option maxHeartbeats 1000000 in
set_option maxRecDepth 100000 in
theorem copyCheck_desk (b : Nat) (w : World) (h0 : w.cell? ⟨b, 0, none⟩ = some (.pointer Option.none)) (hsh : w.shape? b = some (40, 3)) (hfz : w.frozen? ⟨b, 0, none⟩ = false) :
    Calls Tryz.prog 66 #[.pointer (some ⟨b, 0, none⟩)] w fun e w' => e = .returned (.tuple #[]) ∧ w' = w.setCell ⟨b, 0, none⟩ (.pointer (some ⟨b, 0, none⟩)) := by
  obtain ⟨j, hj, hjs⟩ := Option.map_eq_some_iff.1 Tryz.sizeBuilder
  have HJ := hid hjs
  have hne := fun (w : World) => Lib.run_neq_ptr_same (P := Tryz.prog) w (tp := 35) ⟨b, 0, none⟩ Tryz.underlying35 hj
  clear hjs
  go_enter Tryz.func66, Tryz.ntmps66
  go_wp2
  rw [Lib.run_to_unsafe w ⟨b, 0, none⟩ Tryz.underlying35 Tryz.underlying131 hj (by rw [HJ.out]; decide) hsh (Nat.zero_lt_succ 2)]
  simp only [Result.andThen]
  rw [Oper.upon_value]
  go_wp2
  rw [run_callFunc_extern Tryz.func84 (by kernel_rfl) (by kernel_rfl) (by kernel_rfl) (e := Extern.AbiNoEscape.same) (by kernel_rfl)]
  rw [Lib.run_noEscape]
  simp only [Result.andThen]
  rw [Oper.upon_value]
  go_wp2
  rw [Lib.run_from_unsafe w ⟨b, 0, none⟩ Tryz.underlying131 Tryz.underlying35 hj hsh Tryz.liesDesk]
  simp only [Result.andThen]
  rw [Oper.upon_value]
  go_wp2
  go_end0
  exact ⟨rfl, rfl⟩

/-- A desk at block d, of the colour p; what its Builder holds is in a row of p + 1. -/
def DeskB (w : World) (g : Nat → Nat) (p d h : Nat) (t : List UInt8) : Prop :=
  ∃ a0 v, (a0 = .pointer none ∨ a0 = .pointer (some ⟨d, 0, none⟩)) ∧ LocC w g p d 40 [a0, v, .pointer (some ⟨h, 0, none⟩)] ∧ RowC w g (p + 1) 5 1 v t.length (Lib.byteCells t)

theorem DeskB.frame {lo hi : Nat} {w w' : World} {g g' : Nat → Nat} {p d h : Nat} {t : List UInt8} (k : DeskB w g p d h t) (e : Evo lo hi g g' w w') (hc : p + 2 ≤ lo ∨ hi ≤ p) : DeskB w' g' p d h t := by
  obtain ⟨a0, v, h0, hL, hR⟩ := k
  exact ⟨a0, v, h0, hL.frame e (by omega), hR.frame e (by omega)⟩

theorem DeskB.below {w w' : World} {g : Nat → Nat} {p d h : Nat} {t : List UInt8} (k : DeskB w g p d h t) (e : Below w.heap.size w w') : DeskB w' g p d h t := by
  obtain ⟨a0, v, h0, hL, hR⟩ := k
  exact ⟨a0, v, h0, hL.below e, ownsRow.lift hR.1 (fun r hr => e.block r (hR.1.lt r hr).2), hR.2⟩

theorem DeskB.ptr {w : World} {g : Nat → Nat} {p d h : Nat} {t : List UInt8} (k : DeskB w g p d h t) : w.cell? ⟨d, 2, none⟩ = some (.pointer (some ⟨h, 0, none⟩)) := by
  obtain ⟨a0, v, -, hL, -⟩ := k
  exact hL.1.cell 2

theorem LocC.shape {w : World} {g : Nat → Nat} {q b : Nat} {T : TypeId} {cs : List Value} (h : LocC w g q b T cs) : w.shape? b = some (T, cs.length) := by
  have := h.1
  unfold Loc at this
  simp [World.shape?, this]

theorem desk_copyCheck (g : Nat → Nat) (p d h : Nat) (t : List UInt8) (w : World) (hD : DeskB w g p d h t) :
    Calls Tryz.prog 66 #[.pointer (some ⟨d, 0, none⟩)] w fun e w' => e = .returned (.tuple #[]) ∧ (∃ v, LocC w' g p d 40 [.pointer (some ⟨d, 0, none⟩), v, .pointer (some ⟨h, 0, none⟩)] ∧ RowC w' g (p + 1) 5 1 v t.length (Lib.byteCells t)) ∧ Evo p (p + 1) g g w w' := by
  obtain ⟨a0, v, h0, hL, hR⟩ := hD
  rcases h0 with rfl | rfl
  · refine (copyCheck_desk d w (hL.1.cell 0) hL.shape (hL.1.free 0)).mono ?_
    rintro e w' ⟨rfl, rfl⟩
    have e := evo_store (w := w) (i := 0) (.pointer (some ⟨d, 0, none⟩)) hL.2
    exact ⟨rfl, ⟨v, ⟨hL.1.set 0 _, hL.2⟩, hR.frame e (by omega)⟩, e⟩
  · refine (copyCheck_used d w (hL.1.cell 0)).mono ?_
    rintro e w' ⟨rfl, rfl⟩
    exact ⟨rfl, ⟨v, hL, hR⟩, Evo.refl _ _ _ _⟩

def WritePostD (g : Nat → Nat) (p d h : Nat) (t : List UInt8) (s : ByteArray) (w : World) (e : Ending) (w' : World) : Prop :=
  e = .returned (.tuple #[.int .i64 s.size, .nilIface]) ∧ ∃ g', DeskB w' g' p d h (t ++ s.data.toList) ∧ Evo p (p + 2) g g' w w'

set_option maxHeartbeats 2000000 in
set_option maxRecDepth 100000 in
theorem desk_WriteString (g : Nat → Nat) (p d h : Nat) (t : List UInt8) (s : ByteArray) (w : World) (hD : DeskB w g p d h t) (hlen : t.length + s.size ≤ 1000000000) :
    Calls Tryz.prog 46 #[.pointer (some ⟨d, 0, none⟩), .string s] w (WritePostD g p d h t s w) := by
  obtain ⟨i0, hi, hz0, hz1, hz2⟩ := info_parts Tryz.infoU8
  have l1 : t.length + s.size ≤ maxLen := by unfold maxLen; omega
  have l2 : t.length + s.size ≤ 140737488355328 := by omega
  go_enter Tryz.func46, Tryz.ntmps46
  go_wp2_with fail
  refine (desk_copyCheck g p d h t w hD).mono ?_
  rintro e w1 ⟨rfl, ⟨v, hL, hR⟩, hE⟩
  have c1 : w1.cell? ⟨d, 1, none⟩ = some v := hL.1.cell 1
  have HL := hid hL
  have HR := hid hR
  have HE := hid hE
  clear hL hR hE hD
  go_wp2_with (refine wpList_append_str2 rfl (.tmp 12) (.tmp 13) 36 9 rfl 5 i0 Tryz.underlying36 Tryz.underlying9 hi hz0 hz1 hz2 v t.length (Lib.byteCells t) rfl HR.out.1 s rfl l1 l2 ?_)
  intro v2 w2 ho hg hf
  obtain ⟨a2, c2, rfl, -, -⟩ := ownsRow.sliceAt ho
  obtain ⟨hR2, hE2⟩ := HR.out.grown ho hg hf
  have hL2 := HL.out.frame hE2 (by omega)
  have f1 : w2.frozen? ⟨d, 1, none⟩ = false := hL2.1.free 1
  have d1 : w2.cell? ⟨d, 1, none⟩ = some v := hL2.1.cell 1
  have hE3 := evo_store (w := w2) (i := 1) (.slice a2 (t.length + s.size) c2) hL2.2
  have HL3 := hid (show LocC (w2.setCell ⟨d, 1, none⟩ (.slice a2 (t.length + s.size) c2)) (extc g w1 (p + 1)) p d 40 [.pointer (some ⟨d, 0, none⟩), .slice a2 (t.length + s.size) c2, .pointer (some ⟨h, 0, none⟩)] from ⟨hL2.1.set 1 (.slice a2 (t.length + s.size) c2), hL2.2⟩)
  have HP := hid (show WritePostD g p d h t s w (.returned (.tuple #[.int .i64 s.size, .nilIface])) (w2.setCell ⟨d, 1, none⟩ (.slice a2 (t.length + s.size) c2)) from ⟨rfl, _, ⟨_, _, .inr rfl, HL3.out, by
    have e1 : (t ++ s.data.toList).length = t.length + s.size := by simp
    rw [e1, Lib.byteCells_append]
    exact hR2.frame hE3 (by omega)⟩, ((HE.out.wide (by omega) (by omega)).trans (hE2.wide (by omega) (by omega))).trans (hE3.wide (by omega) (by omega))⟩)
  clear ho hg hf hR2 hE2 hL2 hE3 HL3 HL HR HE
  go_wp2
  go_ret2
  exact HP.out

set_option maxHeartbeats 2000000 in
set_option maxRecDepth 100000 in
theorem desk_Reset (g : Nat → Nat) (p d h : Nat) (a0 v : Value) (w : World) (hL : LocC w g p d 40 [a0, v, .pointer (some ⟨h, 0, none⟩)]) :
    Calls Tryz.prog 10 #[.pointer (some ⟨d, 0, none⟩)] w fun e w' => e = .returned (.tuple #[]) ∧ DeskB w' g p d h [] ∧ Evo p (p + 1) g g w w' := by
  have c0 : w.cell? ⟨d, 0, none⟩ = some a0 := hL.1.cell 0
  have f0 : w.frozen? ⟨d, 0, none⟩ = false := hL.1.free 0
  have hE1 := evo_store (w := w) (i := 0) (.pointer none) hL.2
  have hL1 := (show LocC (w.setCell ⟨d, 0, none⟩ (.pointer none)) g p d 40 [.pointer none, v, .pointer (some ⟨h, 0, none⟩)] from ⟨hL.1.set 0 (.pointer none), hL.2⟩)
  have c1 := hL1.1.cell 1
  have f1 := hL1.1.free 1
  have hE2 := evo_store (w := w.setCell ⟨d, 0, none⟩ (.pointer none)) (i := 1) (.slice none 0 0) hL1.2
  have HP := hid (show DeskB ((w.setCell ⟨d, 0, none⟩ (.pointer none)).setCell ⟨d, 1, none⟩ (.slice none 0 0)) g p d h [] ∧ Evo p (p + 1) g g w ((w.setCell ⟨d, 0, none⟩ (.pointer none)).setCell ⟨d, 1, none⟩ (.slice none 0 0)) from ⟨⟨.pointer none, .slice none 0 0, .inl rfl, ⟨hL1.1.set 1 (.slice none 0 0), hL1.2⟩, ⟨World.ownsRow_nil _ 0 _ _, nofun⟩⟩, hE1.trans hE2⟩)
  clear hE1 hE2 hL1 hL
  go_enter Tryz.func10, Tryz.ntmps10
  go_wp2
  go_end0
  exact ⟨rfl, HP.out⟩

theorem evo_freeze {g : Nat → Nat} {w : World} {b i q : Nat} (n : Nat) (hq : g b = q) : Evo q (q + 1) g g w (w.freeze ⟨b, i, none⟩ n) := by
  unfold World.freeze
  split
  · exact Evo.refl _ _ _ _
  · refine ⟨rfl, rfl, rfl, by simp, fun _ _ => rfl, fun k _ hn => ?_⟩
    simp only [Array.getElem?_modify]
    rw [if_neg (by rintro rfl; exact hn ⟨by simp [hq], by simp [hq]⟩)]

def StringPostD (g : Nat → Nat) (p d h : Nat) (t : List UInt8) (w : World) (e : Ending) (w' : World) : Prop :=
  e = .returned (.string ⟨t.toArray⟩) ∧ ∃ a0 v g', LocC w' g' p d 40 [a0, v, .pointer (some ⟨h, 0, none⟩)] ∧ Evo p (p + 2) g g' w w'

theorem Tryz.cellsU8 : Tryz.prog.cellsOf 5 = 1 := by kernel_rfl

set_option maxHeartbeats 4000000 in
set_option maxRecDepth 100000 in
theorem desk_String (g : Nat → Nat) (p d h : Nat) (t : List UInt8) (w : World) (hD : DeskB w g p d h t) :
    Calls Tryz.prog 12 #[.pointer (some ⟨d, 0, none⟩)] w (StringPostD g p d h t w) := by
  obtain ⟨a0, v, -, hL, hR⟩ := hD
  have hmixed : Tryz.prog.follows .mixedOrders = true := by kernel_rfl
  have c1 : w.drew.cell? ⟨d, 1, none⟩ = some v := hL.1.cell 1
  have HL := hid hL
  rcases hR.1.2 with ⟨rfl, hn⟩ | ⟨r, cap, cur, rfl, -, hgr, hnc, hcm, hcs, -⟩
  · have ht : t = [] := List.eq_nil_of_length_eq_zero hn
    subst ht
    have hUS := fun W => Lib.run_unsafeString_none (P := Tryz.prog) W 65 3 9 none
    have hSD : (Builtin.unsafeSliceData_ #[36] 65 #[.slice none 0 0]).run Tryz.prog w.drew = .ok (.pointer none) w.drew := rfl
    clear hL hR hn
    go_enter Tryz.func12, Tryz.ntmps12
    go_wp2
    go_region
    all_goals (go_wp2; go_ret; exact ⟨rfl, a0, _, g, HL.out.below (Below.refl _ _).drew, (Evo.drew 0 0 g w).none (by omega)⟩)
  · by_cases h0 : t = []
    · subst h0
      have hUS := fun W q => Lib.run_unsafeString_none (P := Tryz.prog) W 65 3 9 q
      by_cases hc : cap = 0
      · subst hc
        have hSD : (Builtin.unsafeSliceData_ #[36] 65 #[.slice (some ⟨r, 0, none⟩) 0 0]).run Tryz.prog w.drew = .ok (.pointer (some ⟨w.drew.heap.size, 0, none⟩)) (w.drew.alloc (.view ⟨r, 0, none⟩ 5)) :=
          Lib.run_unsafeSliceData_zero w.drew _ _ 5 Tryz.underlying65 ⟨r, 0, none⟩ 0 (5, cur.size) (by have hg' : w.drew.heap[r]? = some (.cells cur 5 (0, 0)) := hgr; simp [World.shape?, hg'])
        have hE := (Evo.drew 0 0 g w).trans (Evo.alloc g 0 w.drew (.view ⟨r, 0, none⟩ 5))
        have hLA := hL.frame hE (by omega)
        have c2 : (w.drew.alloc (.view ⟨r, 0, none⟩ 5)).cell? ⟨d, 1, none⟩ = some (.slice (some ⟨r, 0, none⟩) 0 0) := hLA.1.cell 1
        have c3 : (w.alloc (.view ⟨r, 0, none⟩ 5)).drew.cell? ⟨d, 1, none⟩ = some (.slice (some ⟨r, 0, none⟩) 0 0) := c2
        have HE := hid hE
        have HLA := hid hLA
        clear hL hR hE hLA hgr hnc hcm hcs
        go_enter Tryz.func12, Tryz.ntmps12
        go_wp2
        go_region
        all_goals (go_wp2; go_ret; exact ⟨rfl, a0, _, _, HLA.out, HE.out.none (by omega)⟩)
      · have hSD : (Builtin.unsafeSliceData_ #[36] 65 #[.slice (some ⟨r, 0, none⟩) 0 cap]).run Tryz.prog w.drew = .ok (.pointer (some ⟨r, 0, none⟩)) w.drew := Lib.run_unsafeSliceData_row _ _ _ _ _ _ hc
        clear hL hR hgr hnc hcm hcs hc
        go_enter Tryz.func12, Tryz.ntmps12
        go_wp2
        go_region
        all_goals (go_wp2; go_ret; exact ⟨rfl, a0, _, g, HL.out.below (Below.refl _ _).drew, (Evo.drew 0 0 g w).none (by omega)⟩)
    · have hl0 : t.length ≠ 0 := by simpa using h0
      have hSD : (Builtin.unsafeSliceData_ #[36] 65 #[.slice (some ⟨r, 0, none⟩) t.length cap]).run Tryz.prog w.drew = .ok (.pointer (some ⟨r, 0, none⟩)) w.drew := Lib.run_unsafeSliceData_row _ _ _ _ _ _ (by omega)
      have hUS : (Builtin.unsafeString_ #[65, 3] 9 #[.pointer (some ⟨r, 0, none⟩), .int .i64 t.length]).run Tryz.prog w.drew = .ok (.string ⟨t.toArray⟩) (w.drew.freeze ⟨r, 0, none⟩ t.length) := by
        refine Lib.run_unsafeString_row w.drew 65 3 9 5 Tryz.underlying65 Tryz.cellsU8 r cur.size (by have hg' : w.drew.heap[r]? = some (.cells cur 5 (0, 0)) := hgr; simp [World.shape?, hg']) t h0 (by omega) (by unfold maxLen at hcm; omega) ?_
        intro j x hx
        exact hR.1.cells (g := r) rfl j (.int .u8 x.toNat) (by simp [Lib.byteCells, hx])
      have hE := ((Evo.drew (p + 1) (p + 1 + 1) g w).trans (evo_freeze (i := 0) t.length (hR.2 r rfl)))
      have HLA := hid (hL.frame hE (by omega))
      have HE := hid hE
      clear hL hR hE hgr hnc hcm hcs hl0 h0
      go_enter Tryz.func12, Tryz.ntmps12
      go_wp2
      go_region
      all_goals (go_wp2; go_ret; exact ⟨rfl, a0, _, _, HLA.out, HE.out.wide (by omega) (by omega)⟩)

end Go.Proofs.YtoiobhcgpajogabGreatDoor
