/- A desk in memory: what its Builder does, that lies at the head of the desk's block. -/
import Derived.Test.YtoiobhcgpajogabGreatDoorText1
import Derived.Test.YtoiobhcgpajogabGreatDoorDeskP
import Derived.Lib.UnsafeStr
import Derived.Lib.AppendStr
import Derived.RegionTactic
import Derived.Lib.ItoaLen
import Derived.Lib.AppendIntMem
import Derived.Deep.RegionHeld3
import Derived.Deep.QuietTactic
import Derived.BigQuiet
import Derived.Deep.MidRow
namespace Go.Proofs.YtoiobhcgpajogabGreatDoor
open Go.RowKit

theorem run_append_str2 {P : Program} (w : World) (t u ty e : TypeId) (i : TypeInfo) (ht : P.underlying t = some (.slice e)) (hu : P.underlying u = some .string) (hi : P.info? e = some i) (hz : i.zero = some (.int .u8 0))
    (hsize : i.size = 1) (hby : i.bytes = 1) (v : Value) (n : Nat) (xs : List Value) (hown : w.ownsRow 0 e 1 v n xs) (s : ByteArray)
    (h63 : n + s.size ≤ maxLen) (hbytes : n + s.size ≤ 140737488355328) :
    ∃ v' w', (Builtin.append_ #[t, u] ty #[v, .string s]).run P w = .ok v' w' ∧ w'.ownsRow 0 e 1 v' (n + s.size) (xs ++ Lib.strCells s) ∧ w.grownBy w' v.ownBlock ∧
      (v'.ownBlock = v.ownBlock ∨ ∀ k, v'.ownBlock = some k → w.heap.size ≤ k) := by
  obtain ⟨v', w', hr, ho, hg, h4⟩ := Lib.run_append_own_string (P := P) w 0 t u ty e i ht hu hi hz hsize hby v n xs hown s h63 hbytes (Nat.zero_le _)
  refine ⟨v', w', hr, ho, hg, ?_⟩
  rcases hown.2 with ⟨rfl, rfl⟩ | ⟨r, cap, cur, rfl, -, hgr, hnc, hcm, hcs, htake⟩
  · by_cases hm : s.size = 0
    · left; rw [h4.2 ⟨rfl, hm⟩]
    · right
      have hx : xs = [] := List.eq_nil_of_length_eq_zero (by simpa using hown.1)
      subst hx
      obtain ⟨v2, w2, hr2, ho2, -, -⟩ := Lib.run_append_own_string (P := P) w w.heap.size t u ty e i ht hu hi hz hsize hby (.slice none 0 0) 0 [] (World.ownsRow_nil w w.heap.size e 1) s h63 hbytes (Nat.le_refl _)
      rw [hr] at hr2
      cases hr2
      exact fun k hk => (ho2.lt k hk).1
  · by_cases hroom : n + s.size ≤ cap
    · left
      rw [Lib.run_append_room_string (P := P) w t u ty e i ht hu hi hsize r n cap cur hgr s hroom (by have h' : cur.size = cap := (by simpa using hcs); omega)] at hr
      cases hr
      rfl
    · right
      have holds : ∀ j u, xs[j]? = some u → w.cell? ((⟨r, 0, none⟩ : Addr).add j) = some u := hown.cells (g := r) rfl
      rw [Lib.run_append_grow_string (P := P) w t u ty e i (.int .u8 0) ht hu hi hz ⟨r, 0, none⟩ n cap xs (by rw [hsize]; simpa using hown.1) holds s (by omega) (by unfold maxLen at h63; omega) (by rw [hby]; exact growslice_fits (by omega) (by omega))] at hr
      cases hr
      intro k hk; cases hk; exact Nat.le_refl _

section
variable {P : Program} {ops : Array Oper} {rest : List Oper} {o : Oper} {a : Act} {w : World} {Q : Exit → Act → World → Prop}
theorem wpList_append_str2 (hgd : o.guard = none) (sl x : Operand) (t u : TypeId) (ho : o.op = .call { callee := .builtin .append, args := #[sl, x], argTypes := #[t, u] })
    (e : TypeId) (i : TypeInfo) (ht : P.underlying t = some (.slice e)) (hu : P.underlying u = some .string) (hi : P.info? e = some i) (hz : i.zero = some (.int .u8 0)) (hsize : i.size = 1) (hby : i.bytes = 1)
    (v : Value) (n : Nat) (xs : List Value) (hs : a.eval sl = v) (hown : w.ownsRow 0 e 1 v n xs) (s : ByteArray) (hx : a.eval x = .string s) (h63 : n + s.size ≤ maxLen) (hbytes : n + s.size ≤ 140737488355328)
    (h : ∀ v' w', w'.ownsRow 0 e 1 v' (n + s.size) (xs ++ Lib.strCells s) → w.grownBy w' v.ownBlock → (v'.ownBlock = v.ownBlock ∨ ∀ k, v'.ownBlock = some k → w.heap.size ≤ k) → wpList P ops Q rest (a.put o.dst v') w') : wpList P ops Q (o :: rest) a w := by
  refine wpList_plain hgd fun K hK => ?_
  obtain ⟨v', w', hr, h2, h3, h4⟩ := run_append_str2 (P := P) w t u o.type e i ht hu hi hz hsize hby v n xs hown s h63 hbytes
  unfold Oper.wp execOp
  simp only [ho, resolve, invoke, builtin, Sem.run_bind, Sem.run_pure, Result.andThen_ok, List.map_toArray, List.map_cons, List.map_nil, hs, hx, hr]
  exact hK _ _ (h v' w' h2 h3 h4)
end

theorem Tryz.liesDesk : liesAt Tryz.prog Tryz.prog.depth 40 (3 / Tryz.prog.cellsOf 40) 0 38 1 = true := by kernel_rfl

set_option maxHeartbeats 1000000 in
set_option maxRecDepth 100000 in
theorem copyCheck_desk (b : Nat) (w : World) (h0 : w.cell? ⟨b, 0, none⟩ = some (.pointer Option.none)) (hsh : w.shape? b = some (40, 3)) (hfz : w.frozen? ⟨b, 0, none⟩ = false) :
    Calls Tryz.prog 66 #[.pointer (some ⟨b, 0, none⟩)] w fun e w' => e = .returned (.tuple #[]) ∧ w' = w.setCell ⟨b, 0, none⟩ (.pointer (some ⟨b, 0, none⟩)) := by
  obtain ⟨j, hj, hjs⟩ := Option.map_eq_some_iff.1 Tryz.sizeBuilder
  have HJ := hid hjs
  have hne := fun (w : World) => Lib.run_neq_ptr_same (P := Tryz.prog) w (tp := 35) ⟨b, 0, none⟩ Tryz.underlying35 hj
  clear hjs
  go_enter Tryz.func66, Tryz.ntmps66
  go_wp2
  rw [Lib.run_to_unsafe w ⟨b, 0, none⟩ Tryz.underlying35 Tryz.underlying131 hj (by rw [HJ.out]; decide) hsh (Nat.zero_lt_succ 2)]
  simp only [Result.andThen]
  rw [Oper.upon_value]
  go_wp2
  rw [run_callFunc_extern Tryz.func84 (by kernel_rfl) (by kernel_rfl) (by kernel_rfl) (e := Extern.AbiNoEscape.same) (by kernel_rfl)]
  rw [Lib.run_noEscape]
  simp only [Result.andThen]
  rw [Oper.upon_value]
  go_wp2
  rw [Lib.run_from_unsafe w ⟨b, 0, none⟩ Tryz.underlying131 Tryz.underlying35 hj hsh Tryz.liesDesk]
  simp only [Result.andThen]
  rw [Oper.upon_value]
  go_wp2
  go_end0
  exact ⟨rfl, rfl⟩

/-- A desk at block d, of the colour p; what its Builder holds is in a row of p + 1. -/
def DeskB (w : World) (g : Nat → Nat) (p d h : Nat) (t : List UInt8) : Prop :=
  ∃ a0 v, (a0 = .pointer none ∨ a0 = .pointer (some ⟨d, 0, none⟩)) ∧ LocC w g p d 40 [a0, v, .pointer (some ⟨h, 0, none⟩)] ∧ RowC w g (p + 1) 5 1 v t.length (Lib.byteCells t)

theorem DeskB.frame {lo hi : Nat} {w w' : World} {g g' : Nat → Nat} {p d h : Nat} {t : List UInt8} (k : DeskB w g p d h t) (e : Evo lo hi g g' w w') (hc : p + 2 ≤ lo ∨ hi ≤ p) : DeskB w' g' p d h t := by
  obtain ⟨a0, v, h0, hL, hR⟩ := k
  exact ⟨a0, v, h0, hL.frame e (by omega), hR.frame e (by omega)⟩

theorem DeskB.below {w w' : World} {g : Nat → Nat} {p d h : Nat} {t : List UInt8} (k : DeskB w g p d h t) (e : Below w.heap.size w w') : DeskB w' g p d h t := by
  obtain ⟨a0, v, h0, hL, hR⟩ := k
  exact ⟨a0, v, h0, hL.below e, ownsRow.lift hR.1 (fun r hr => e.block r (hR.1.lt r hr).2), hR.2⟩

theorem DeskB.ptr {w : World} {g : Nat → Nat} {p d h : Nat} {t : List UInt8} (k : DeskB w g p d h t) : w.cell? ⟨d, 2, none⟩ = some (.pointer (some ⟨h, 0, none⟩)) := by
  obtain ⟨a0, v, -, hL, -⟩ := k
  exact hL.1.cell 2

theorem LocC.shape {w : World} {g : Nat → Nat} {q b : Nat} {T : TypeId} {cs : List Value} (h : LocC w g q b T cs) : w.shape? b = some (T, cs.length) := by
  have := h.1
  unfold Loc at this
  simp [World.shape?, this]

theorem desk_copyCheck (g : Nat → Nat) (p d h : Nat) (t : List UInt8) (w : World) (hD : DeskB w g p d h t) :
    Calls Tryz.prog 66 #[.pointer (some ⟨d, 0, none⟩)] w fun e w' => e = .returned (.tuple #[]) ∧ (∃ v, LocC w' g p d 40 [.pointer (some ⟨d, 0, none⟩), v, .pointer (some ⟨h, 0, none⟩)] ∧ RowC w' g (p + 1) 5 1 v t.length (Lib.byteCells t)) ∧ Evo p (p + 1) g g w w' := by
  obtain ⟨a0, v, h0, hL, hR⟩ := hD
  rcases h0 with rfl | rfl
  · refine (copyCheck_desk d w (hL.1.cell 0) hL.shape (hL.1.free 0)).mono ?_
    rintro e w' ⟨rfl, rfl⟩
    have e := evo_store (w := w) (i := 0) (.pointer (some ⟨d, 0, none⟩)) hL.2
    exact ⟨rfl, ⟨v, ⟨hL.1.set 0 _, hL.2⟩, hR.frame e (by omega)⟩, e⟩
  · refine (copyCheck_used d w (hL.1.cell 0)).mono ?_
    rintro e w' ⟨rfl, rfl⟩
    exact ⟨rfl, ⟨v, hL, hR⟩, Evo.refl _ _ _ _⟩

def WritePostD (g : Nat → Nat) (p d h : Nat) (t : List UInt8) (s : ByteArray) (w : World) (e : Ending) (w' : World) : Prop :=
  e = .returned (.tuple #[.int .i64 s.size, .nilIface]) ∧ ∃ g', DeskB w' g' p d h (t ++ s.data.toList) ∧ Evo p (p + 2) g g' w w'

set_option maxHeartbeats 2000000 in
set_option maxRecDepth 100000 in
theorem desk_WriteString (g : Nat → Nat) (p d h : Nat) (t : List UInt8) (s : ByteArray) (w : World) (hD : DeskB w g p d h t) (hlen : t.length + s.size ≤ 1000000000) :
    Calls Tryz.prog 46 #[.pointer (some ⟨d, 0, none⟩), .string s] w (WritePostD g p d h t s w) := by
  obtain ⟨i0, hi, hz0, hz1, hz2⟩ := info_parts Tryz.infoU8
  have l1 : t.length + s.size ≤ maxLen := by unfold maxLen; omega
  have l2 : t.length + s.size ≤ 140737488355328 := by omega
  go_enter Tryz.func46, Tryz.ntmps46
  go_wp2_with fail
  refine (desk_copyCheck g p d h t w hD).mono ?_
  rintro e w1 ⟨rfl, ⟨v, hL, hR⟩, hE⟩
  have c1 : w1.cell? ⟨d, 1, none⟩ = some v := hL.1.cell 1
  have HL := hid hL
  have HR := hid hR
  have HE := hid hE
  clear hL hR hE hD
  go_wp2_with (refine wpList_append_str2 rfl (.tmp 12) (.tmp 13) 36 9 rfl 5 i0 Tryz.underlying36 Tryz.underlying9 hi hz0 hz1 hz2 v t.length (Lib.byteCells t) rfl HR.out.1 s rfl l1 l2 ?_)
  intro v2 w2 ho hg hf
  obtain ⟨a2, c2, rfl, -, -⟩ := ownsRow.sliceAt ho
  obtain ⟨hR2, hE2⟩ := HR.out.grown ho hg hf
  have hL2 := HL.out.frame hE2 (by omega)
  have f1 : w2.frozen? ⟨d, 1, none⟩ = false := hL2.1.free 1
  have d1 : w2.cell? ⟨d, 1, none⟩ = some v := hL2.1.cell 1
  have hE3 := evo_store (w := w2) (i := 1) (.slice a2 (t.length + s.size) c2) hL2.2
  have HL3 := hid (show LocC (w2.setCell ⟨d, 1, none⟩ (.slice a2 (t.length + s.size) c2)) (extc g w1 (p + 1)) p d 40 [.pointer (some ⟨d, 0, none⟩), .slice a2 (t.length + s.size) c2, .pointer (some ⟨h, 0, none⟩)] from ⟨hL2.1.set 1 (.slice a2 (t.length + s.size) c2), hL2.2⟩)
  have HP := hid (show WritePostD g p d h t s w (.returned (.tuple #[.int .i64 s.size, .nilIface])) (w2.setCell ⟨d, 1, none⟩ (.slice a2 (t.length + s.size) c2)) from ⟨rfl, _, ⟨_, _, .inr rfl, HL3.out, by
    have e1 : (t ++ s.data.toList).length = t.length + s.size := by simp
    rw [e1, Lib.byteCells_append]
    exact hR2.frame hE3 (by omega)⟩, ((HE.out.wide (by omega) (by omega)).trans (hE2.wide (by omega) (by omega))).trans (hE3.wide (by omega) (by omega))⟩)
  clear ho hg hf hR2 hE2 hL2 hE3 HL3 HL HR HE
  go_wp2
  go_ret2
  exact HP.out

set_option maxHeartbeats 2000000 in
set_option maxRecDepth 100000 in
theorem desk_Reset (g : Nat → Nat) (p d h : Nat) (a0 v : Value) (w : World) (hL : LocC w g p d 40 [a0, v, .pointer (some ⟨h, 0, none⟩)]) :
    Calls Tryz.prog 10 #[.pointer (some ⟨d, 0, none⟩)] w fun e w' => e = .returned (.tuple #[]) ∧ DeskB w' g p d h [] ∧ Evo p (p + 1) g g w w' := by
  have c0 : w.cell? ⟨d, 0, none⟩ = some a0 := hL.1.cell 0
  have f0 : w.frozen? ⟨d, 0, none⟩ = false := hL.1.free 0
  have hE1 := evo_store (w := w) (i := 0) (.pointer none) hL.2
  have hL1 := (show LocC (w.setCell ⟨d, 0, none⟩ (.pointer none)) g p d 40 [.pointer none, v, .pointer (some ⟨h, 0, none⟩)] from ⟨hL.1.set 0 (.pointer none), hL.2⟩)
  have c1 := hL1.1.cell 1
  have f1 := hL1.1.free 1
  have hE2 := evo_store (w := w.setCell ⟨d, 0, none⟩ (.pointer none)) (i := 1) (.slice none 0 0) hL1.2
  have HP := hid (show DeskB ((w.setCell ⟨d, 0, none⟩ (.pointer none)).setCell ⟨d, 1, none⟩ (.slice none 0 0)) g p d h [] ∧ Evo p (p + 1) g g w ((w.setCell ⟨d, 0, none⟩ (.pointer none)).setCell ⟨d, 1, none⟩ (.slice none 0 0)) from ⟨⟨.pointer none, .slice none 0 0, .inl rfl, ⟨hL1.1.set 1 (.slice none 0 0), hL1.2⟩, ⟨World.ownsRow_nil _ 0 _ _, nofun⟩⟩, hE1.trans hE2⟩)
  clear hE1 hE2 hL1 hL
  go_enter Tryz.func10, Tryz.ntmps10
  go_wp2
  go_end0
  exact ⟨rfl, HP.out⟩

theorem evo_freeze {g : Nat → Nat} {w : World} {b i q : Nat} (n : Nat) (hq : g b = q) : Evo q (q + 1) g g w (w.freeze ⟨b, i, none⟩ n) := by
  unfold World.freeze
  split
  · exact Evo.refl _ _ _ _
  · refine ⟨rfl, rfl, rfl, by simp, fun _ _ => rfl, fun k _ hn => ?_⟩
    simp only [Array.getElem?_modify]
    rw [if_neg (by rintro rfl; exact hn ⟨by simp [hq], by simp [hq]⟩)]

def StringPostD (g : Nat → Nat) (p d h : Nat) (t : List UInt8) (w : World) (e : Ending) (w' : World) : Prop :=
  e = .returned (.string ⟨t.toArray⟩) ∧ ∃ a0 v g', LocC w' g' p d 40 [a0, v, .pointer (some ⟨h, 0, none⟩)] ∧ Evo p (p + 2) g g' w w'

theorem Tryz.cellsU8 : Tryz.prog.cellsOf 5 = 1 := by kernel_rfl

set_option maxHeartbeats 4000000 in
set_option maxRecDepth 100000 in
theorem desk_String (g : Nat → Nat) (p d h : Nat) (t : List UInt8) (w : World) (hD : DeskB w g p d h t) :
    Calls Tryz.prog 12 #[.pointer (some ⟨d, 0, none⟩)] w (StringPostD g p d h t w) := by
  obtain ⟨a0, v, -, hL, hR⟩ := hD
  have hmixed : Tryz.prog.follows .mixedOrders = true := by kernel_rfl
  have c1 : w.drew.cell? ⟨d, 1, none⟩ = some v := hL.1.cell 1
  have HL := hid hL
  rcases hR.1.2 with ⟨rfl, hn⟩ | ⟨r, cap, cur, rfl, -, hgr, hnc, hcm, hcs, -⟩
  · have ht : t = [] := List.eq_nil_of_length_eq_zero hn
    subst ht
    have hUS := fun W => Lib.run_unsafeString_none (P := Tryz.prog) W 65 3 9 none
    have hSD : (Builtin.unsafeSliceData_ #[36] 65 #[.slice none 0 0]).run Tryz.prog w.drew = .ok (.pointer none) w.drew := rfl
    clear hL hR hn
    go_enter Tryz.func12, Tryz.ntmps12
    go_wp2
    go_region
    all_goals (go_wp2; go_ret; exact ⟨rfl, a0, _, g, HL.out.below (Below.refl _ _).drew, (Evo.drew 0 0 g w).none (by omega)⟩)
  · by_cases h0 : t = []
    · subst h0
      have hUS := fun W q => Lib.run_unsafeString_none (P := Tryz.prog) W 65 3 9 q
      by_cases hc : cap = 0
      · subst hc
        have hSD : (Builtin.unsafeSliceData_ #[36] 65 #[.slice (some ⟨r, 0, none⟩) 0 0]).run Tryz.prog w.drew = .ok (.pointer (some ⟨w.drew.heap.size, 0, none⟩)) (w.drew.alloc (.view ⟨r, 0, none⟩ 5)) :=
          Lib.run_unsafeSliceData_zero w.drew _ _ 5 Tryz.underlying65 ⟨r, 0, none⟩ 0 (5, cur.size) (by have hg' : w.drew.heap[r]? = some (.cells cur 5 (0, 0)) := hgr; simp [World.shape?, hg'])
        have hE := (Evo.drew 0 0 g w).trans (Evo.alloc g 0 w.drew (.view ⟨r, 0, none⟩ 5))
        have hLA := hL.frame hE (by omega)
        have c2 : (w.drew.alloc (.view ⟨r, 0, none⟩ 5)).cell? ⟨d, 1, none⟩ = some (.slice (some ⟨r, 0, none⟩) 0 0) := hLA.1.cell 1
        have c3 : (w.alloc (.view ⟨r, 0, none⟩ 5)).drew.cell? ⟨d, 1, none⟩ = some (.slice (some ⟨r, 0, none⟩) 0 0) := c2
        have HE := hid hE
        have HLA := hid hLA
        clear hL hR hE hLA hgr hnc hcm hcs
        go_enter Tryz.func12, Tryz.ntmps12
        go_wp2
        go_region
        all_goals (go_wp2; go_ret; exact ⟨rfl, a0, _, _, HLA.out, HE.out.none (by omega)⟩)
      · have hSD : (Builtin.unsafeSliceData_ #[36] 65 #[.slice (some ⟨r, 0, none⟩) 0 cap]).run Tryz.prog w.drew = .ok (.pointer (some ⟨r, 0, none⟩)) w.drew := Lib.run_unsafeSliceData_row _ _ _ _ _ _ hc
        clear hL hR hgr hnc hcm hcs hc
        go_enter Tryz.func12, Tryz.ntmps12
        go_wp2
        go_region
        all_goals (go_wp2; go_ret; exact ⟨rfl, a0, _, g, HL.out.below (Below.refl _ _).drew, (Evo.drew 0 0 g w).none (by omega)⟩)
    · have hl0 : t.length ≠ 0 := by simpa using h0
      have hSD : (Builtin.unsafeSliceData_ #[36] 65 #[.slice (some ⟨r, 0, none⟩) t.length cap]).run Tryz.prog w.drew = .ok (.pointer (some ⟨r, 0, none⟩)) w.drew := Lib.run_unsafeSliceData_row _ _ _ _ _ _ (by omega)
      have hUS : (Builtin.unsafeString_ #[65, 3] 9 #[.pointer (some ⟨r, 0, none⟩), .int .i64 t.length]).run Tryz.prog w.drew = .ok (.string ⟨t.toArray⟩) (w.drew.freeze ⟨r, 0, none⟩ t.length) := by
        refine Lib.run_unsafeString_row w.drew 65 3 9 5 Tryz.underlying65 Tryz.cellsU8 r cur.size (by have hg' : w.drew.heap[r]? = some (.cells cur 5 (0, 0)) := hgr; simp [World.shape?, hg']) t h0 (by omega) (by unfold maxLen at hcm; omega) ?_
        intro j x hx
        exact hR.1.cells (g := r) rfl j (.int .u8 x.toNat) (by simp [Lib.byteCells, hx])
      have hE := ((Evo.drew (p + 1) (p + 1 + 1) g w).trans (evo_freeze (i := 0) t.length (hR.2 r rfl)))
      have HLA := hid (hL.frame hE (by omega))
      have HE := hid hE
      clear hL hR hE hgr hnc hcm hcs hl0 h0
      go_enter Tryz.func12, Tryz.ntmps12
      go_wp2
      go_region
      all_goals (go_wp2; go_ret; exact ⟨rfl, a0, _, _, HLA.out, HE.out.wide (by omega) (by omega)⟩)

end Go.Proofs.YtoiobhcgpajogabGreatDoor

/- A desk: what the library's variables hold; the walks of num, of what is told, of say. -/
namespace Go.Proofs.YtoiobhcgpajogabGreatDoor
open Go.RowKit

/-- What the library's variables hold that a desk's walks read; their blocks have the colour 0. -/
structure GlobC (w : World) (g : Nat → Nat) : Prop where
  tab : Lib.TabIs Tryz.prog w "internal/strconv.uint64pow10" .u64 Lib.pow10Tab
  len : ∃ m, w.cell? ⟨0, 0, none⟩ = some (.int .i64 m)
  syn : ∃ ev, w.cell? ⟨1, 0, none⟩ = some ev ∧ (ev = .nilIface ∨ ∃ te pe, ev = .iface te pe)
  rng : ∃ ev, w.cell? ⟨2, 0, none⟩ = some ev ∧ (ev = .nilIface ∨ ∃ te pe, ev = .iface te pe)
  col : g 5 = 0 ∧ g 0 = 0 ∧ g 1 = 0 ∧ g 2 = 0

theorem Tryz.globTab : Tryz.prog.globalNamed "internal/strconv.uint64pow10" = some 5 := by kernel_rfl

theorem tabIs_same {w w' : World} (h : Lib.TabIs Tryz.prog w "internal/strconv.uint64pow10" .u64 Lib.pow10Tab) (e : 5 < w.heap.size → w'.heap[5]? = w.heap[5]?) :
    Lib.TabIs Tryz.prog w' "internal/strconv.uint64pow10" .u64 Lib.pow10Tab := by
  unfold Lib.TabIs World.var? at *
  rw [Tryz.globTab] at *
  simp only [Option.bind_some] at *
  have hlt : 5 < w.heap.size := by
    rcases Nat.lt_or_ge 5 w.heap.size with h' | h'
    · exact h'
    · rw [Array.getElem?_eq_none h'] at h; cases h
  rw [e hlt]
  exact h

theorem Evo.cell {lo hi : Nat} {g g' : Nat → Nat} {w w' : World} (e : Evo lo hi g g' w w') {a : Addr} {v : Value} (h : w.cell? a = some v) (hc : g a.block < lo ∨ hi ≤ g a.block) : w'.cell? a = some v := by
  have hlt := World.block_lt_of_cell? w _ h
  have hs := e.same a.block hlt (fun ⟨_, _⟩ => by omega)
  rw [← h]
  unfold World.cell?
  rw [hs]

theorem GlobC.frame {lo hi : Nat} {g g' : Nat → Nat} {w w' : World} (h : GlobC w g) (e : Evo lo hi g g' w w') (h1 : 1 ≤ lo ∨ hi ≤ lo) : GlobC w' g' := by
  obtain ⟨c0, c1, c2, c3⟩ := h.col
  obtain ⟨m, hm⟩ := h.len
  obtain ⟨ev, hs, hs'⟩ := h.syn
  obtain ⟨er, hr, hr'⟩ := h.rng
  have hlt : 5 < w.heap.size := by
    have ht := h.tab
    unfold Lib.TabIs World.var? at ht
    rw [Tryz.globTab] at ht
    simp only [Option.bind_some] at ht
    rcases Nat.lt_or_ge 5 w.heap.size with h' | h'
    · exact h'
    · rw [Array.getElem?_eq_none h'] at ht; cases ht
  have b1 := World.block_lt_of_cell? w _ hm
  have b2 := World.block_lt_of_cell? w _ hs
  have b3 := World.block_lt_of_cell? w _ hr
  exact ⟨tabIs_same h.tab (fun hb => e.same _ hb (fun ⟨_, _⟩ => by omega)), ⟨m, e.cell hm (by simp only [c1]; omega)⟩, ⟨ev, e.cell hs (by simp only [c2]; omega), hs'⟩, ⟨er, e.cell hr (by simp only [c3]; omega), hr'⟩,
    (e.col _ hlt).trans c0, (e.col _ b1).trans c1, (e.col _ b2).trans c2, (e.col _ b3).trans c3⟩

theorem GlobC.below {g : Nat → Nat} {w w' : World} (h : GlobC w g) (e : Below w.heap.size w w') : GlobC w' g := by
  have k := h.frame (Evo.of_below (lo := 0) (hi := 0) g 0 e) (by omega)
  obtain ⟨c0, c1, c2, c3⟩ := h.col
  exact ⟨k.tab, k.len, k.syn, k.rng, c0, c1, c2, c3⟩

set_option maxHeartbeats 1000000 in
theorem desk_num (n : Int) (h0 : -9223372036854775808 ≤ n) (h1 : n ≤ 9223372036854775807) (w : World) (hT : Lib.TabIs Tryz.prog w "internal/strconv.uint64pow10" .u64 Lib.pow10Tab) :
    Calls Tryz.prog 23 #[.int .i64 n] w (StrPost (Lib.itoa n) w) := by
  have HT := hid hT
  clear hT
  go_enter Tryz.func23, Tryz.ntmps23
  go_wp2_with fail
  refine (Tryz.strconv_Itoa n h0 h1 w HT.out).mono ?_
  rintro e w1 ⟨rfl, k, os, hw1⟩
  have hb := hid (show Below w.heap.size w w1 from by rw [hw1]; exact Lib.below_grow _ _ (Nat.le_refl _) _ _)
  clear hw1
  go_wp2
  go_ret
  exact ⟨rfl, hb.out⟩

theorem tabIs_below {w w' : World} (h : Lib.TabIs Tryz.prog w "internal/strconv.uint64pow10" .u64 Lib.pow10Tab) (e : Below w.heap.size w w') : Lib.TabIs Tryz.prog w' "internal/strconv.uint64pow10" .u64 Lib.pow10Tab :=
  tabIs_same h (fun hb => e.block _ hb)

set_option maxHeartbeats 1000000 in
theorem desk_ok (c n : Int) (b : Bool) (s : ByteArray) (a : Option Addr) (len cap : Nat) (w : World) :
    Calls Tryz.prog 36 #[.agg #[.int .i64 c, .int .i64 n, .bool b, .string s, .slice a len cap]] w (StrPost b_ok w) := by
  have hb := hid ((Below.refl w.heap.size w).alloc (Nat.le_refl _) (.cells #[.int .i64 c, .int .i64 n, .bool b, .string s, .slice a len cap] 87))
  go_enter Tryz.func36, Tryz.ntmps36
  go_wp2
  go_ret
  exact ⟨rfl, hb.out⟩

set_option maxHeartbeats 2000000 in
theorem desk_tellN (c n : Int) (h0 : -9223372036854775808 ≤ n) (h1 : n ≤ 9223372036854775807) (b : Bool) (s : ByteArray) (a : Option Addr) (len cap : Nat) (w : World) (hT : Lib.TabIs Tryz.prog w "internal/strconv.uint64pow10" .u64 Lib.pow10Tab) :
    Calls Tryz.prog 43 #[.agg #[.int .i64 c, .int .i64 n, .bool b, .string s, .slice a len cap]] w (StrPost (b_ok ++ 32 :: Lib.itoa n) w) := by
  have hb := hid ((Below.refl w.heap.size w).alloc (Nat.le_refl _) (.cells #[.int .i64 c, .int .i64 n, .bool b, .string s, .slice a len cap] 87))
  have L0 := hid (Loc.new w 87 [.int .i64 c, .int .i64 n, .bool b, .string s, .slice a len cap])
  have HT := hid (tabIs_below hT hb.out)
  have hl := Lib.itoa_length_le n h0 h1
  clear hT
  go_enter Tryz.func43, Tryz.ntmps43
  go_upto_region 1 with (fail)
  have k1 := L0.out.cell 1
  have HB1 := hid (show Below w.heap.size w (w.alloc (.cells #[.int .i64 c, .int .i64 n, .bool b, .string s, .slice a len cap] 87)) from hb.out)
  go_wp2_with fail
  refine (desk_num n h0 h1 _ HT.out).mono ?_
  rintro e w1 ⟨rfl, hb1⟩
  have HB2 := hid (hb.out.trans (hb1.mono hb.out.size))
  clear hb1 k1
  go_wp2
  go_ret
  exact ⟨rfl, HB2.out⟩

set_option maxHeartbeats 2000000 in
theorem desk_tellM (c n : Int) (h0 : -9223372036854775808 ≤ n) (h1 : n ≤ 9223372036854775807) (b : Bool) (s : ByteArray) (a : Option Addr) (len cap : Nat) (w : World) (hT : Lib.TabIs Tryz.prog w "internal/strconv.uint64pow10" .u64 Lib.pow10Tab) :
    Calls Tryz.prog 44 #[.agg #[.int .i64 c, .int .i64 n, .bool b, .string s, .slice a len cap]] w (StrPost (b_ok ++ 32 :: Lib.itoa n) w) := by
  have hb := hid ((Below.refl w.heap.size w).alloc (Nat.le_refl _) (.cells #[.int .i64 c, .int .i64 n, .bool b, .string s, .slice a len cap] 87))
  have L0 := hid (Loc.new w 87 [.int .i64 c, .int .i64 n, .bool b, .string s, .slice a len cap])
  have HT := hid (tabIs_below hT hb.out)
  have hl := Lib.itoa_length_le n h0 h1
  clear hT
  go_enter Tryz.func44, Tryz.ntmps44
  go_upto_region 1 with (fail)
  have k1 := L0.out.cell 1
  have HB1 := hid (show Below w.heap.size w (w.alloc (.cells #[.int .i64 c, .int .i64 n, .bool b, .string s, .slice a len cap] 87)) from hb.out)
  go_wp2_with fail
  refine (desk_num n h0 h1 _ HT.out).mono ?_
  rintro e w1 ⟨rfl, hb1⟩
  have HB2 := hid (hb.out.trans (hb1.mono hb.out.size))
  clear hb1 k1
  go_wp2
  go_ret
  exact ⟨rfl, HB2.out⟩

end Go.Proofs.YtoiobhcgpajogabGreatDoor

/- A desk: what is told of an event; the walks of say and of do. -/
namespace Go.Proofs.YtoiobhcgpajogabGreatDoor
open Go.RowKit

set_option maxHeartbeats 2000000 in
theorem desk_tellV (c n : Int) (b : Bool) (s : ByteArray) (hs : s.size ≤ 1000) (a : Option Addr) (len cap : Nat) (w : World) :
    Calls Tryz.prog 39 #[.agg #[.int .i64 c, .int .i64 n, .bool b, .string s, .slice a len cap]] w (StrPost (b_has ++ 32 :: valL ⟨b, s⟩) w) := by
  have hb := hid ((Below.refl w.heap.size w).alloc (Nat.le_refl _) (.cells #[.int .i64 c, .int .i64 n, .bool b, .string s, .slice a len cap] 87))
  have L0 := hid (Loc.new w 87 [.int .i64 c, .int .i64 n, .bool b, .string s, .slice a len cap])
  have hv : (valL ⟨b, s⟩).length ≤ 10000 := by
    have h2 := (showL_length s.data.toList).2
    have h3 : s.data.toList.length = s.size := by simp
    unfold valL
    split <;> simp <;> omega
  have k2 := L0.out.cell 2
  have k3 := L0.out.cell 3
  go_enter Tryz.func39, Tryz.ntmps39
  go_wp2_with fail
  refine (text_Value b s _ (by omega)).mono ?_
  rintro e w1 ⟨rfl, hb1⟩
  have HB2 := hid (hb.out.trans (hb1.mono hb.out.size))
  clear hb1 k2 k3
  go_wp2
  go_ret
  exact ⟨rfl, HB2.out⟩

theorem pairsD_snoc (l : List Ent) (x : Ent) : pairsD (l ++ [x]) = pairsD l ++ (32 :: (Lib.itoa x.n ++ valL x.v)) := by simp [pairsD]

set_option maxHeartbeats 4000000 in
set_option maxRecDepth 100000 in
theorem desk_pairs (a : Option Addr) (cap : Nat) (l : List Ent) (w : World) (h8 : l.length ≤ 8) (hl : ∀ x ∈ l, 0 ≤ x.n ∧ x.n < 8 ∧ ckV x.v = 0) (hA : SliceAt w a (encEnts l)) (hT : Lib.TabIs Tryz.prog w "internal/strconv.uint64pow10" .u64 Lib.pow10Tab) :
    Calls Tryz.prog 42 #[.slice a l.length cap] w (StrPost (pairsD l) w) := by
  have HA := hid hA
  have HT := hid hT
  have HL := hid hl
  have hpl := pairsD_le l hl
  clear hA hT hl
  go_enter Tryz.func42, Tryz.ntmps42
  go_wp2
  go_loopw [3, 8] (fun s i wr => ∃ (k : Nat) (r : ByteArray), k ≤ l.length ∧ i = .int .i64 k ∧ s = .string r ∧ Hid (r = ⟨(pairsD (l.take k)).toArray⟩) ∧ r.size ≤ 59 * k ∧ Hid (Below w.heap.size w wr)) (fun _ i _ => l.length - (intOf i).toNat)
  case atStart => exact ⟨0, ⟨#[]⟩, Nat.zero_le _, rfl, rfl, hid rfl, by simp [ByteArray.size], hid (Below.refl _ _)⟩
  case round =>
    obtain ⟨k, r, hk, rfl, rfl, HR, hr, HB⟩ := hrel
    by_cases hlt : k < l.length
    · obtain ⟨bk, off, rfl, hf⟩ := HA.out.ents (by omega)
      obtain ⟨e0, e1, e2⟩ := hf k hlt
      have hbk : bk < w.heap.size := World.block_lt_of_cell? w _ e0
      have q0 := (below_cell HB.out hbk).trans e0
      have q1 := (below_cell HB.out hbk).trans e1
      have q2 := (below_cell HB.out hbk).trans e2
      obtain ⟨x0, x1, x2⟩ := HL.out l[k] (List.getElem_mem _)
      have ST := hid (show pairsD (l.take (k + 1)) = pairsD (l.take k) ++ (32 :: (Lib.itoa l[k].n ++ valL l[k].v)) from by rw [List.take_succ_eq_append_getElem hlt, pairsD_snoc])
      clear hf e0 e1 e2
      generalize l[k] = x at *
      have hs12 := size12 x2
      have hv37 := valL_le x2
      have hi21 := itoa_le21 x0 (by omega)
      have hki : (k : Int) < (l.length : Int) := by omega
      have hk0 : (0 : Int) ≤ (k : Int) := by omega
      have j1 : ¬ (9223372036854775807 < 1 + (Lib.itoa x.n).length) := by omega
      have j2 : ¬ (9223372036854775807 < 1 + (Lib.itoa x.n).length + (valL x.v).length) := by omega
      have j3 : ¬ (9223372036854775807 < r.size + (1 + (Lib.itoa x.n).length + (valL x.v).length)) := by omega
      go_upto_region 5 with (fail)
      have hbA := (Below.refl wr.heap.size wr).alloc (Nat.le_refl _) (.cells #[.int .i64 x.n, .bool x.v.there, .string x.v.bytes] 107)
      have HB1 := hid (HB.out.trans (hbA.mono HB.out.size))
      have LP := hid (Loc.new wr 107 [.int .i64 x.n, .bool x.v.there, .string x.v.bytes])
      clear hbA HB q0 q1 q2
      generalize wr.alloc (.cells #[.int .i64 x.n, .bool x.v.there, .string x.v.bytes] 107) = w1 at *
      generalize wr.heap.size = bp at *
      have NT := hid (fun W (h : Below w1.heap.size w1 W) => tabIs_below (tabIs_below HT.out HB1.out) h)
      have KS := hid (fun W (h : Below w1.heap.size w1 W) => (show Below w1.heap.size w1 W ∧ W.cell? ⟨bp, 0, none⟩ = some (.int .i64 x.n) ∧ W.cell? ⟨bp, 1, none⟩ = some (.bool x.v.there) ∧ W.cell? ⟨bp, 2, none⟩ = some (.string x.v.bytes) from ⟨h, (LP.out.keep h).cell 0, (LP.out.keep h).cell 1, (LP.out.keep h).cell 2⟩))
      -- REGION 5
      refine wp_region_noPanic ?_
      refine wp_region_held_drew (S := (fun W' : World => Below w1.heap.size w1 W' ∧ W'.cell? ⟨bp, 0, none⟩ = some (.int .i64 x.n) ∧ W'.cell? ⟨bp, 1, none⟩ = some (.bool x.v.there) ∧ W'.cell? ⟨bp, 2, none⟩ = some (.string x.v.bytes))) (by kernel_rfl) ?_ (fun hH0 => ?_)
      · (try dsimp only); (first | assumption | exact KS.out _ (Below.refl w1.heap.size w1).drew)
      refine wpAnyH_take (i := 0) (v := ?_) (by simp only [List.getElem?_toArray, List.getElem?_cons_zero]; rfl) (by kernel_rfl) (by kernel_rfl) (by kernel_rfl) (fun _ _ _ h => h) (Or.inl ⟨by rfl, ?_⟩) (by assumption) ?_
      rotate_left
      · intro w hSw; (try dsimp only at hSw); go_simp; (try with_reducible rfl)
      try simp only [Act.put, List.setIfInBounds_toArray, List.set_cons_zero, List.set_cons_succ]
      refine wpAnyH_take (i := 1) (v := ?_) (by simp only [List.getElem?_toArray, List.getElem?_cons_zero, List.getElem?_cons_succ]; rfl) (by kernel_rfl) (by kernel_rfl) (by kernel_rfl) (fun _ _ _ h => h) (Or.inl ⟨by rfl, ?_⟩) (by assumption) ?_
      rotate_left
      · intro w hSw; (try dsimp only at hSw); go_simp; (try with_reducible rfl)
      try simp only [Act.put, List.setIfInBounds_toArray, List.set_cons_zero, List.set_cons_succ]
      refine wpAnyH_take (i := 2) (v := ?_) (by simp only [List.getElem?_toArray, List.getElem?_cons_zero, List.getElem?_cons_succ]; rfl) (by kernel_rfl) (by kernel_rfl) (by kernel_rfl) (fun _ _ _ h => h) (Or.inl ⟨by rfl, ?_⟩) (by assumption) ?_
      rotate_left
      · intro w hSw; (try dsimp only at hSw); go_simp; (try with_reducible rfl)
      try simp only [Act.put, List.setIfInBounds_toArray, List.set_cons_zero, List.set_cons_succ]
      refine wpAnyH_take (i := 5) (v := ?_) (by simp only [List.getElem?_toArray, List.getElem?_cons_zero, List.getElem?_cons_succ]; rfl) (by kernel_rfl) (by kernel_rfl) (by kernel_rfl) (fun _ _ _ h => h) (Or.inl ⟨by rfl, ?_⟩) (by assumption) ?_
      rotate_left
      · intro w hSw; (try dsimp only at hSw); go_simp; (try with_reducible rfl)
      try simp only [Act.put, List.setIfInBounds_toArray, List.set_cons_zero, List.set_cons_succ]
      refine wpAnyH_take (i := 6) (v := ?_) (by simp only [List.getElem?_toArray, List.getElem?_cons_zero, List.getElem?_cons_succ]; rfl) (by kernel_rfl) (by kernel_rfl) (by kernel_rfl) (fun _ _ _ h => h) (Or.inl ⟨by rfl, ?_⟩) (by assumption) ?_
      rotate_left
      · intro w hSw; (try dsimp only at hSw); go_simp; (try with_reducible rfl)
      try simp only [Act.put, List.setIfInBounds_toArray, List.set_cons_zero, List.set_cons_succ]
      refine wpAnyH_ready (rs := [3]) (by kernel_rfl) (by simp) ?_
      refine AllReadyH.cons (by simp only [List.getElem?_toArray, List.getElem?_cons_zero, List.getElem?_cons_succ]; rfl) (fun K hK => ?_) AllReadyH.nil
      go_simp
      go_at_call 23
      have hS := (‹Below _ w1 _ ∧ _›).1
      (with_reducible refine (desk_num x.n (by omega) (by omega) _ (NT.out _ hS)).mono ?_)
      rintro e w5 ⟨rfl, hb5⟩
      have hS' := KS.out _ (hS.trans (hb5.mono hS.size))
      clear hb5 hS
      try go_wp2_with fail
      refine hK.out _ _ ?_ (fun hH1 => ?_)
      · (try dsimp only); (first | assumption | exact KS.out _ (Below.refl w1.heap.size w1).drew)
      clear hK K hH0
      try simp only [Act.put, List.setIfInBounds_toArray, List.set_cons_zero, List.set_cons_succ]
      refine wpAnyH_take (i := 4) (v := ?_) (by simp only [List.getElem?_toArray, List.getElem?_cons_zero, List.getElem?_cons_succ]; rfl) (by kernel_rfl) (by kernel_rfl) (by kernel_rfl) (fun _ _ _ h => h) (Or.inl ⟨by rfl, ?_⟩) (by assumption) ?_
      rotate_left
      · intro w hSw; (try dsimp only at hSw); go_simp; (try with_reducible rfl)
      try simp only [Act.put, List.setIfInBounds_toArray, List.set_cons_zero, List.set_cons_succ]
      refine wpAnyH_ready (rs := [7]) (by kernel_rfl) (by simp) ?_
      refine AllReadyH.cons (by simp only [List.getElem?_toArray, List.getElem?_cons_zero, List.getElem?_cons_succ]; rfl) (fun K hK => ?_) AllReadyH.nil
      go_simp
      go_at_call 40
      have hS := (‹Below _ w1 _ ∧ _›).1
      (with_reducible refine (text_Value x.v.there x.v.bytes _ (by omega)).mono ?_)
      rintro e w5 ⟨rfl, hb5⟩
      have hS' := KS.out _ (hS.trans (hb5.mono hS.size))
      clear hb5 hS
      try go_wp2_with fail
      refine hK.out _ _ ?_ (fun hH2 => ?_)
      · (try dsimp only); (first | assumption | exact KS.out _ (Below.refl w1.heap.size w1).drew)
      clear hK K hH1
      try simp only [Act.put, List.setIfInBounds_toArray, List.set_cons_zero, List.set_cons_succ]
      refine wpAnyH_take (i := 8) (v := ?_) (by simp only [List.getElem?_toArray, List.getElem?_cons_zero, List.getElem?_cons_succ]; rfl) (by kernel_rfl) (by kernel_rfl) (by kernel_rfl) (fun _ _ _ h => h) (Or.inl ⟨by rfl, ?_⟩) (by assumption) ?_
      rotate_left
      · intro w hSw; (try dsimp only at hSw); go_simp; (try with_reducible rfl)
      try simp only [Act.put, List.setIfInBounds_toArray, List.set_cons_zero, List.set_cons_succ]
      refine wpAnyH_take (i := 9) (v := ?_) (by simp only [List.getElem?_toArray, List.getElem?_cons_zero, List.getElem?_cons_succ]; rfl) (by kernel_rfl) (by kernel_rfl) (by kernel_rfl) (fun _ _ _ h => h) (Or.inl ⟨by rfl, ?_⟩) (by assumption) ?_
      rotate_left
      · intro w hSw; (try dsimp only at hSw); go_simp; (try with_reducible rfl)
      try simp only [Act.put, List.setIfInBounds_toArray, List.set_cons_zero, List.set_cons_succ]
      refine wpAnyH_take (i := 10) (v := ?_) (by simp only [List.getElem?_toArray, List.getElem?_cons_zero, List.getElem?_cons_succ]; rfl) (by kernel_rfl) (by kernel_rfl) (by kernel_rfl) (fun _ _ _ h => h) (Or.inl ⟨by rfl, ?_⟩) (by assumption) ?_
      rotate_left
      · intro w hSw; (try dsimp only at hSw); go_simp; (try with_reducible rfl)
      try simp only [Act.put, List.setIfInBounds_toArray, List.set_cons_zero, List.set_cons_succ]
      refine wpAnyH_done (by kernel_rfl) ?_ _
      refine NoPanic.normal ?_
      rotate_left
      -- END 5
      all_goals
        have HB5 := hid (HB1.out.trans ((‹Below _ w1 w5 ∧ _›).1.mono HB1.out.size))
        clear NT KS hS'
        go_wp2
        go_roundw
        case rel =>
          refine ⟨k + 1, _, by omega, by go_num, rfl, hid ?_, ?_, HB5⟩
          · rw [HR.out, ST.out]
            rw [show (⟨#[32]⟩ : ByteArray) ++ ⟨(Lib.itoa x.n).toArray⟩ = ⟨(32 :: Lib.itoa x.n).toArray⟩ from ba_append [32] _, ba_append (32 :: Lib.itoa x.n) _]
            exact ba_append _ _
          · simp only [ByteArray.size_append]
            show _ + (1 + (Lib.itoa x.n).toArray.size + (valL x.v).toArray.size) ≤ _
            simp only [List.size_toArray]
            omega
        case measure => simp [intOf]; omega
    · obtain rfl : k = l.length := by omega
      have e := List.take_length (l := l)
      rw [e] at HR
      clear e
      go_wp2
      go_ret
      exact ⟨by rw [← HR.out]; rfl, HB.out⟩

set_option maxHeartbeats 2000000 in
theorem desk_tellL (c n : Int) (b : Bool) (s : ByteArray) (a : Option Addr) (l : List Ent) (cap : Nat) (w : World) (h8 : l.length ≤ 8) (hl : ∀ x ∈ l, 0 ≤ x.n ∧ x.n < 8 ∧ ckV x.v = 0) (hA : SliceAt w a (encEnts l)) (hT : Lib.TabIs Tryz.prog w "internal/strconv.uint64pow10" .u64 Lib.pow10Tab) :
    Calls Tryz.prog 41 #[.agg #[.int .i64 c, .int .i64 n, .bool b, .string s, .slice a l.length cap]] w (StrPost (b_all ++ pairsD l) w) := by
  have hb := hid ((Below.refl w.heap.size w).alloc (Nat.le_refl _) (.cells #[.int .i64 c, .int .i64 n, .bool b, .string s, .slice a l.length cap] 87))
  have L0 := hid (Loc.new w 87 [.int .i64 c, .int .i64 n, .bool b, .string s, .slice a l.length cap])
  have HT := hid (tabIs_below hT hb.out)
  have HA := hid (sliceAt_below hA hb.out)
  have HL := hid hl
  have hpl : (pairsD l).length ≤ 472 := by have := pairsD_le l hl; omega
  have j0 : ¬ (9223372036854775807 < 3 + (pairsD l).length) := by omega
  clear hT hA hl
  have k3 := L0.out.cell 4
  go_enter Tryz.func41, Tryz.ntmps41
  go_wp2_with fail
  refine (desk_pairs a cap l _ h8 HL.out HA.out HT.out).mono ?_
  rintro e w1 ⟨rfl, hb1⟩
  have HB2 := hid (hb.out.trans (hb1.mono hb.out.size))
  clear hb1 k3
  go_wp2
  go_ret
  exact ⟨congrArg (fun x => Ending.returned (.string x)) (ba_append [97, 108, 108] _), HB2.out⟩

def SayPost (g : Nat → Nat) (p d h : Nat) (t : List UInt8) (w : World) (e : Ending) (w' : World) : Prop :=
  e = .returned (.tuple #[]) ∧ ∃ g', DeskB w' g' p d h t ∧ Evo p (p + 2) g g' w w'

set_option maxHeartbeats 2000000 in
set_option maxRecDepth 100000 in
theorem desk_say (g : Nat → Nat) (p d h : Nat) (t : List UInt8) (w : World) (bk c : Nat) (xs : List ByteArray) (hcells : ∀ (j : Nat) x, xs[j]? = some x → w.cell? ⟨bk, 0 + j, none⟩ = some (.string x)) (hbk : bk < w.heap.size) (hn : xs.length ≤ 10) (hc : xs.length ≤ c)
    (hlen : (Lib.join (xs.map (·.data.toList)) [32]).length ≤ 100000) (ht : t.length ≤ 900000000) (hD : DeskB w g p d h t) :
    Calls Tryz.prog 22 #[.pointer (some ⟨d, 0, none⟩), .slice (some ⟨bk, 0, none⟩) xs.length c] w (SayPost g p d h (t ++ (Lib.join (xs.map (·.data.toList)) [32] ++ [10])) w) := by
  have HC := hid (show ∀ (j : Nat) x, xs[j]? = some x → w.drew.cell? ⟨bk, 0 + j, none⟩ = some (.string x) from hcells)
  have HD := hid (hD.below (Below.refl _ _).drew)
  have JN := hid (Tryz.strings_Join bk 0 c xs ⟨#[32]⟩ w.drew HC.out hbk (by omega) hc (by show (Lib.join _ [32]).length ≤ _; omega))
  have hE0 := hid (Evo.drew 0 0 g w)
  have HJ := hid (show Lib.join (xs.map (·.data.toList)) [32] = Lib.join (xs.map (·.data.toList)) (⟨#[32]⟩ : ByteArray).data.toList from rfl)
  rw [HJ.out] at hlen ⊢
  generalize Lib.join (xs.map (·.data.toList)) (⟨#[32]⟩ : ByteArray).data.toList = J at *
  have j0 : ¬ (9223372036854775807 < J.length + 1) := by omega
  clear hcells hD HC
  go_enter Tryz.func22, Tryz.ntmps22
  go_wp2_with fail
  -- REGION 0
  refine wp_region_noPanic ?_
  refine wp_region_held_drew (S := (fun _ : World => True)) (by kernel_rfl) ?_ (fun hH0 => ?_)
  · (try dsimp only); all_goals trivial
  refine wpAnyH_take (i := 0) (v := ?_) (by simp only [List.getElem?_toArray, List.getElem?_cons_zero]; rfl) (by kernel_rfl) (by kernel_rfl) (by kernel_rfl) (fun _ _ _ h => h) (Or.inl ⟨by rfl, ?_⟩) (by assumption) ?_
  rotate_left
  · intro w hSw; (try dsimp only at hSw); go_simp; (try with_reducible rfl)
  try simp only [Act.put, List.setIfInBounds_toArray, List.set_cons_zero, List.set_cons_succ]
  refine wpAnyH_take (i := 1) (v := ?_) (by simp only [List.getElem?_toArray, List.getElem?_cons_zero, List.getElem?_cons_succ]; rfl) (by kernel_rfl) (by kernel_rfl) (by kernel_rfl) (fun _ _ _ h => h) (Or.inl ⟨by rfl, ?_⟩) (by assumption) ?_
  rotate_left
  · intro w hSw; (try dsimp only at hSw); go_simp; (try with_reducible rfl)
  try simp only [Act.put, List.setIfInBounds_toArray, List.set_cons_zero, List.set_cons_succ]
  refine wpAnyH_take (i := 2) (v := ?_) (by simp only [List.getElem?_toArray, List.getElem?_cons_zero, List.getElem?_cons_succ]; rfl) (by kernel_rfl) (by kernel_rfl) (by kernel_rfl) (fun _ _ _ h => h) (Or.inl ⟨by rfl, ?_⟩) (by assumption) ?_
  rotate_left
  · intro w hSw; (try dsimp only at hSw); go_simp; (try with_reducible rfl)
  try simp only [Act.put, List.setIfInBounds_toArray, List.set_cons_zero, List.set_cons_succ]
  refine wpAnyH_take (i := 3) (v := ?_) (by simp only [List.getElem?_toArray, List.getElem?_cons_zero, List.getElem?_cons_succ]; rfl) (by kernel_rfl) (by kernel_rfl) (by kernel_rfl) (fun _ _ _ h => h) (Or.inl ⟨by rfl, ?_⟩) (by assumption) ?_
  rotate_left
  · intro w hSw; (try dsimp only at hSw); go_simp; (try with_reducible rfl)
  try simp only [Act.put, List.setIfInBounds_toArray, List.set_cons_zero, List.set_cons_succ]
  refine wpAnyH_ready (rs := [4]) (by kernel_rfl) (by simp) ?_
  refine AllReadyH.cons (by simp only [List.getElem?_toArray, List.getElem?_cons_zero, List.getElem?_cons_succ]; rfl) (fun K hK => ?_) AllReadyH.nil
  go_simp
  go_at_call 47
  refine (JN.out).mono ?_
  rintro e w1 ⟨rfl, hb1⟩
  have HD1 := hid (HD.out.below hb1)
  have HE1 := hid (Evo.of_same (lo := 0) (hi := 0) (g := g) hb1)
  clear hb1
  try go_wp2_with fail
  refine hK.out _ _ ?_ (fun hH1 => ?_)
  · (try dsimp only); all_goals trivial
  clear hK K hH0
  try simp only [Act.put, List.setIfInBounds_toArray, List.set_cons_zero, List.set_cons_succ]
  refine wpAnyH_take (i := 5) (v := ?_) (by simp only [List.getElem?_toArray, List.getElem?_cons_zero, List.getElem?_cons_succ]; rfl) (by kernel_rfl) (by kernel_rfl) (by kernel_rfl) (fun _ _ _ h => h) (Or.inl ⟨by rfl, ?_⟩) (by assumption) ?_
  rotate_left
  · intro w hSw; (try dsimp only at hSw); go_simp; (try with_reducible rfl)
  try simp only [Act.put, List.setIfInBounds_toArray, List.set_cons_zero, List.set_cons_succ]
  refine wpAnyH_ready (rs := [6]) (by kernel_rfl) (by simp) ?_
  refine AllReadyH.cons (by simp only [List.getElem?_toArray, List.getElem?_cons_zero, List.getElem?_cons_succ]; rfl) (fun K hK => ?_) AllReadyH.nil
  go_simp
  go_at_call 46
  refine (desk_WriteString g p d h t _ w1 HD1.out (by rw [ByteArray.size_append]; show t.length + (J.toArray.size + 1) ≤ _; simp only [List.size_toArray]; omega)).mono ?_
  rintro e w2 ⟨rfl, g2, hD2, hE2⟩
  have HD2 := hid hD2
  have HE2 := hid hE2
  clear hD2 hE2
  try go_wp2_with fail
  refine hK.out _ _ ?_ (fun hH2 => ?_)
  · (try dsimp only); all_goals trivial
  clear hK K hH1
  try simp only [Act.put, List.setIfInBounds_toArray, List.set_cons_zero, List.set_cons_succ]
  refine wpAnyH_done (by kernel_rfl) ?_ _
  refine NoPanic.normal ?_
  rotate_left
  -- END 0
  all_goals
    go_wp2
    go_end0
    refine ⟨rfl, g2, ?_, ?_⟩
    · have e1 : ((⟨J.toArray⟩ : ByteArray) ++ ⟨#[10]⟩).data.toList = J ++ [10] := by simp
      have := HD2.out
      rw [e1] at this
      exact this
    · exact ((hE0.out.trans HE1.out).none (by omega)).trans HE2.out
end Go.Proofs.YtoiobhcgpajogabGreatDoor
