/- The walks of table.Check and PairsFault. -/
import Derived.Test.YtoiobhcgpajogabGreatDoorKit
import Derived.Lib.AppendStr
import Derived.Deep.Cut
namespace Go.Proofs.YtoiobhcgpajogabGreatDoor
open Go.RowKit

def ckPs (prev : Int) : List Ent → Int
  | [] => 0
  | x :: l => if x.n < 0 ∨ 8 ≤ x.n then 1 else if x.n ≤ prev then 5 else if ckV x.v ≠ 0 then ckV x.v else ckPs x.n l

def prevAt (l : List Ent) (k : Nat) : Int := match k with | 0 => -1 | k + 1 => (l.getD k default).n

theorem ckV_cases (v : Val) : ckV v = 0 ∨ ckV v = 2 ∨ ckV v = 4 := by
  unfold ckV
  split
  · exact .inr (.inl rfl)
  · split
    · exact .inr (.inr rfl)
    · exact .inl rfl

theorem chain_Key_in (k : Int) (w : World) (h : 0 ≤ k ∧ k < 8) : Calls Tryz.prog 111 #[.int .i64 k] w fun e w' => e = .returned (.bool true) ∧ w = w' := by
  refine (chain_Key k w).mono ?_
  rintro e w' ⟨rfl, rfl⟩
  exact ⟨by simp [h.1, h.2], rfl⟩
theorem chain_Key_out (k : Int) (w : World) (h : k < 0 ∨ 8 ≤ k) : Calls Tryz.prog 111 #[.int .i64 k] w fun e w' => e = .returned (.bool false) ∧ w = w' := by
  refine (chain_Key k w).mono ?_
  rintro e w' ⟨rfl, rfl⟩
  exact ⟨by simp; omega, rfl⟩
theorem loc_three {w : World} {b : Nat} {T : TypeId} {x y z : Value} (h : Loc w b T [x, y, z]) : w.cell? ⟨b, 0, none⟩ = some x ∧ w.cell? ⟨b, 1, none⟩ = some y ∧ w.cell? ⟨b, 2, none⟩ = some z := ⟨h.cell 0, h.cell 1, h.cell 2⟩

theorem ckPs_step (pv : Int) (x : Ent) (l : List Ent) (h : 0 ≤ x.n ∧ x.n < 8) (h2 : pv < x.n) : ckPs pv (x :: l) = if ckV x.v ≠ 0 then ckV x.v else ckPs x.n l := by
  rw [ckPs, if_neg (by omega), if_neg (by omega)]
theorem ckPs_range (pv : Int) (x : Ent) (l : List Ent) (h : x.n < 0 ∨ 8 ≤ x.n) : ckPs pv (x :: l) = 1 := by rw [ckPs, if_pos h]
theorem ckPs_order (pv : Int) (x : Ent) (l : List Ent) (h : 0 ≤ x.n ∧ x.n < 8) (h2 : x.n ≤ pv) : ckPs pv (x :: l) = 5 := by rw [ckPs, if_neg (by omega), if_pos h2]

set_option maxHeartbeats 2000000 in
set_option maxRecDepth 100000 in
theorem table_Check (a : Option Addr) (cap : Nat) (l : List Ent) (w : World) (hn : l.length ≤ 1000000) (hv : ∀ x ∈ l, x.v.bytes.size ≤ maxLen) (h : SliceAt w a (encEnts l)) :
    Calls Tryz.prog 126 #[.slice a l.length cap] w (ValPost (ckPs (-1) l) w) := by
  have H := hid h
  have HV := hid hv
  have fin : ∀ x, ckPs (-1) l = x → ∀ w' : World, Below w.heap.size w w' → ValPost (ckPs (-1) l) w (.returned (.int .i64 x)) w' := fun x hx w' hb => ⟨by rw [hx], hb⟩
  have F := hid fin
  clear h hv fin
  go_enter Tryz.func126, Tryz.ntmps126
  go_wp2
  go_loopw [8] (fun i wr => ∃ k : Nat, k ≤ l.length ∧ i = .int .i64 k ∧ Hid (ckPs (-1) l = ckPs (prevAt l k) (l.drop k)) ∧ Below w.heap.size w wr) (fun i _ => l.length - (intOf i).toNat)
  case atStart => exact ⟨0, Nat.zero_le _, rfl, hid rfl, Below.refl _ _⟩
  case round =>
    obtain ⟨k, hk, rfl, HR, hb⟩ := hrel
    by_cases hlt : k < l.length
    · have hd := List.drop_eq_getElem_cons hlt
      rw [hd] at HR
      have hnx : prevAt l (k + 1) = l[k].n := by simp [prevAt, List.getD, List.getElem?_eq_getElem hlt]
      have hsz := HV.out l[k] (List.getElem_mem _)
      obtain ⟨b1, o1, rfl, v1⟩ := H.out.ents (by omega)
      obtain ⟨p1, p2, p3⟩ := v1 k hlt
      have l1 := World.block_lt_of_cell? w _ p1
      simp only at l1
      have P1 := (below_cell hb l1).trans p1
      have P2 := (below_cell hb l1).trans p2
      have P3 := (below_cell hb l1).trans p3
      have PP : 0 < k → w.cell? ⟨b1, o1 + (k - 1) * 3, none⟩ = some (.int .i64 (prevAt l k)) := by
        intro h0
        obtain ⟨j, rfl⟩ : ∃ j, k = j + 1 := ⟨k - 1, by omega⟩
        have := (v1 j (by omega)).1
        simpa [prevAt, List.getD, List.getElem?_eq_getElem (show j < l.length by omega)] using this
      have hp0 : k = 0 → prevAt l k = -1 := by rintro rfl; rfl
      have HP := hid PP
      have HP0 := hid hp0
      have HB := hid hb
      have HN := hid hnx
      have HS := hid hsz
      have hbb : b1 ≠ wr.heap.size := by have := hb.size; omega
      clear v1 p1 p2 p3 hb hd hnx PP hp0 hsz
      generalize l[k] = x at *
      generalize prevAt l k = pv at *
      have hki : (k : Int) < (l.length : Int) := by omega
      have hk0 : (0 : Int) ≤ (k : Int) := by omega
      go_wp2_with fail
      have L1 := hid (Loc.new wr 107 [.int .i64 x.n, .bool x.v.there, .string x.v.bytes])
      have HB1 := hid (HB.out.alloc HB.out.size (.cells #[.int .i64 x.n, .bool x.v.there, .string x.v.bytes] 107))
      have P1q : 0 < k → (wr.alloc (.cells #[.int .i64 x.n, .bool x.v.there, .string x.v.bytes] 107)).cell? ⟨b1, o1 + (k - 1) * 3, none⟩ = some (.int .i64 pv) := fun h0 => (HB1.out.cell (p := ⟨b1, o1 + (k - 1) * 3, none⟩) l1).trans (HP.out h0)
      generalize wr.alloc (.cells #[.int .i64 x.n, .bool x.v.there, .string x.v.bytes] 107) = W1 at *
      obtain ⟨Q1, Q2, Q3⟩ := loc_three L1.out
      by_cases hr : 0 ≤ x.n ∧ x.n < 8
      · have CK := hid (chain_Key_in x.n W1 hr)
        refine CK.out.mono ?_
        rintro e w' ⟨rfl, rfl⟩
        have HR0 := hid hr
        by_cases h0 : k = 0
        · have hpv := HP0.out h0
          have z0 : decide ((0 : Int) < (k : Int)) = false := by simp [h0]
          clear P1q
          have P1q := True.intro
          have d1 : ckPs (-1) l = if ckV x.v ≠ 0 then ckV x.v else ckPs x.n (l.drop (k + 1)) := by rw [HR.out, ckPs_step _ _ _ hr (by omega)]
          have D1 := hid d1
          clear d1
          go_wp2_with fail
          go_quiet (fail)
          have HBq := hid (HB1.out.trans ((below_drewN W1 nq).mono HB1.out.size))
          have Lq := hid (L1.out.drewN nq)
          generalize W1.drewN nq = W2 at *
          obtain ⟨t0, t1, t2⟩ := loc_three Lq.out
          clear Q1 Q2 Q3 P1q
          go_wp2_with fail
          refine (chain_Check _ _ _ HS.out).mono ?_
          rintro e w2 ⟨rfl, hb2⟩
          have HB2 := hid (HBq.out.trans (hb2.mono HBq.out.size))
          clear hb2 t0 t1 t2
          rcases ckV_cases x.v with hc | hc | hc
          · have hc2 := hc
            rw [show ckV ⟨x.v.there, x.v.bytes⟩ = 0 from hc]
            have HR2 := hid (show ckPs (-1) l = ckPs (prevAt l (k + 1)) (l.drop (k + 1)) by rw [D1.out, hc, HN.out]; rfl)
            clear hc hc2
            go_wp2
            go_roundw
            case rel => exact ⟨k + 1, by omega, by go_num, HR2, HB2.out⟩
            case measure => simp [intOf]; omega
          · rw [show ckV ⟨x.v.there, x.v.bytes⟩ = 2 from hc]
            have HR2 := hid (show ckPs (-1) l = 2 by rw [D1.out, hc]; rfl)
            clear hc
            go_wp2
            go_ret
            exact F.out _ HR2.out _ HB2.out
          · rw [show ckV ⟨x.v.there, x.v.bytes⟩ = 4 from hc]
            have HR2 := hid (show ckPs (-1) l = 4 by rw [D1.out, hc]; rfl)
            clear hc
            go_wp2
            go_ret
            exact F.out _ HR2.out _ HB2.out
        · have h0' : 0 < k := by omega
          have z0 : (0 : Int) < (k : Int) := by omega
          have z1 : IntKind.i64.wrap ((k : Int) - 1) = (k : Int) - 1 := IntWalk.i64_in _ ⟨by omega, by omega⟩
          have z2 : ((k : Int) - 1).toNat = k - 1 := by omega
          have z3 : (0 : Int) ≤ (k : Int) - 1 := by omega
          have z4 : (k : Int) - 1 < (l.length : Int) := by omega
          have P1q := P1q h0'
          by_cases ho : x.n ≤ pv
          · have HF := hid (show ckPs (-1) l = 5 by rw [HR.out, ckPs_order _ _ _ hr ho])
            clear hr
            go_wp2_with fail
            go_quiet (fail)
            have HBq := hid (HB1.out.trans ((below_drewN W1 nq).mono HB1.out.size))
            go_wp2
            go_ret
            exact F.out _ HF.out _ HBq.out
          · have ho2 : pv < x.n := by omega
            have d1 : ckPs (-1) l = if ckV x.v ≠ 0 then ckV x.v else ckPs x.n (l.drop (k + 1)) := by rw [HR.out, ckPs_step _ _ _ hr (by omega)]
            have D1 := hid d1
            clear d1
            go_wp2_with fail
            go_quiet (fail)
            have HBq := hid (HB1.out.trans ((below_drewN W1 nq).mono HB1.out.size))
            have Lq := hid (L1.out.drewN nq)
            generalize W1.drewN nq = W2 at *
            obtain ⟨t0, t1, t2⟩ := loc_three Lq.out
            clear Q1 Q2 Q3 P1q
            go_wp2_with fail
            refine (chain_Check _ _ _ HS.out).mono ?_
            rintro e w2 ⟨rfl, hb2⟩
            have HB2 := hid (HBq.out.trans (hb2.mono HBq.out.size))
            clear hb2 t0 t1 t2
            rcases ckV_cases x.v with hc | hc | hc
            · have hc2 := hc
              rw [show ckV ⟨x.v.there, x.v.bytes⟩ = 0 from hc]
              have HR2 := hid (show ckPs (-1) l = ckPs (prevAt l (k + 1)) (l.drop (k + 1)) by rw [D1.out, hc, HN.out]; rfl)
              clear hc hc2
              go_wp2
              go_roundw
              case rel => exact ⟨k + 1, by omega, by go_num, HR2, HB2.out⟩
              case measure => simp [intOf]; omega
            · rw [show ckV ⟨x.v.there, x.v.bytes⟩ = 2 from hc]
              have HR2 := hid (show ckPs (-1) l = 2 by rw [D1.out, hc]; rfl)
              clear hc
              go_wp2
              go_ret
              exact F.out _ HR2.out _ HB2.out
            · rw [show ckV ⟨x.v.there, x.v.bytes⟩ = 4 from hc]
              have HR2 := hid (show ckPs (-1) l = 4 by rw [D1.out, hc]; rfl)
              clear hc
              go_wp2
              go_ret
              exact F.out _ HR2.out _ HB2.out
      · have hr2 : x.n < 0 ∨ 8 ≤ x.n := by omega
        have HF := hid (show ckPs (-1) l = 1 by rw [HR.out, ckPs_range _ _ _ hr2])
        have CK := hid (chain_Key_out x.n W1 hr2)
        refine CK.out.mono ?_
        rintro e w' ⟨rfl, rfl⟩
        clear hr hr2 P1q
        go_wp2
        go_ret
        exact F.out _ HF.out _ HB1.out
    · obtain rfl : k = l.length := by omega
      have hf : ckPs (-1) l = 0 := by rw [HR.out, List.drop_eq_nil_of_le (Nat.le_refl _)]; rfl
      have HF := hid hf
      have HB := hid hb
      clear hb hf
      go_wp2
      go_ret
      exact F.out _ HF.out _ HB.out

end Go.Proofs.YtoiobhcgpajogabGreatDoor
/- The walk of PairsFault. -/
namespace Go.Proofs.YtoiobhcgpajogabGreatDoor
open Go.RowKit
end Go.Proofs.YtoiobhcgpajogabGreatDoor
/- The walk of SamePairs, of any two. -/
namespace Go.Proofs.YtoiobhcgpajogabGreatDoor
open Go.RowKit

end Go.Proofs.YtoiobhcgpajogabGreatDoor
/- The walk of greatPairs. -/
namespace Go.Proofs.YtoiobhcgpajogabGreatDoor
open Go.RowKit

end Go.Proofs.YtoiobhcgpajogabGreatDoor
/- The walk of SamePairs, of any two: it leaves the world as it was, but for draws. -/
namespace Go.Proofs.YtoiobhcgpajogabGreatDoor
open Go.RowKit

end Go.Proofs.YtoiobhcgpajogabGreatDoor
/- The bytes of pairs, in plain words; an append of a string's bytes as a step of a region that draws. -/
namespace Go.Proofs.YtoiobhcgpajogabGreatDoor
open Go.RowKit

def keyB (n : Int) : UInt8 := UInt8.ofNat n.toNat
def bodyE (x : Ent) : List UInt8 := if x.v.there then keyB x.n :: UInt8.ofNat x.v.bytes.size :: x.v.bytes.data.toList else [keyB x.n, 255]
def bodyL (l : List Ent) : List UInt8 := l.flatMap bodyE
def encL (l : List Ent) : List UInt8 := UInt8.ofNat (2 + (bodyL l).length) :: UInt8.ofNat l.length :: bodyL l

def OkE (x : Ent) : Prop := 0 ≤ x.n ∧ x.n < 8 ∧ x.v.bytes.size ≤ 12 ∧ (x.v.there = false → x.v.bytes.size = 0)

theorem ckV_zero {v : Val} (h : ckV v = 0) : v.bytes.size ≤ 12 ∧ (v.there = false → v.bytes.size = 0) := by
  unfold ckV at h
  split at h
  · omega
  · split at h
    · omega
    · rename_i h1 h2
      refine ⟨by omega, fun h3 => ?_⟩
      rw [h3, isEmpty_size] at h2
      simp at h2
      rw [h2]
      rfl

theorem ckPs_zero (l : List Ent) (pv : Int) (h0 : -1 ≤ pv) (h7 : pv ≤ 7) (h : ckPs pv l = 0) : (∀ x ∈ l, OkE x) ∧ (l.length : Int) ≤ 7 - pv ∧ (∀ x ∈ l, pv < x.n) := by
  induction l generalizing pv with
  | nil => exact ⟨by simp, by simp; omega, by simp⟩
  | cons x l ih =>
    rw [ckPs] at h
    split at h
    · omega
    · split at h
      · omega
      · split at h
        · rename_i h1 h2 h3
          exact absurd h h3
        · rename_i h1 h2 h3
          have hc : ckV x.v = 0 := by
            rcases ckV_cases x.v with h | h | h
            · exact h
            · rw [h] at h3; exact absurd (by decide) h3
            · rw [h] at h3; exact absurd (by decide) h3
          obtain ⟨i1, i2, i3⟩ := ih x.n (by omega) (by omega) h
          have hv := ckV_zero hc
          refine ⟨?_, by simp; omega, ?_⟩
          · intro y hy
            rcases List.mem_cons.1 hy with rfl | hy
            · exact ⟨by omega, by omega, hv.1, hv.2⟩
            · exact i1 y hy
          · intro y hy
            rcases List.mem_cons.1 hy with rfl | hy
            · omega
            · have := i3 y hy; omega

theorem bodyE_length {x : Ent} (h : OkE x) : 2 ≤ (bodyE x).length ∧ (bodyE x).length ≤ 14 := by
  unfold bodyE
  have := h.2.2.1
  split <;> simp <;> omega

theorem bodyL_length {l : List Ent} (h : ∀ x ∈ l, OkE x) : (bodyL l).length ≤ 14 * l.length := by
  induction l with
  | nil => simp [bodyL]
  | cons x l ih =>
    have h1 := bodyE_length (h x (List.mem_cons_self ..))
    have h2 := ih (fun y hy => h y (List.mem_cons_of_mem _ hy))
    simp only [bodyL, List.flatMap_cons, List.length_append, List.length_cons] at *
    omega

section
variable {P : Program} {w : World}

theorem step_append_string {ops : Array Oper} {o : Oper} {a : Act} {K : Act → World → Prop} {Q : Exit → Act → World → Prop} {E : Prop} (hgd : o.guard = none) (sl x : Operand) (t u : TypeId)
    (ho : o.op = .call { callee := .builtin .append, args := #[sl, x], argTypes := #[t, u] })
    (base : Nat) (e : TypeId) (i : TypeInfo) (ht : P.underlying t = some (.slice e)) (hu : P.underlying u = some .string) (hi : P.info? e = some i) (hz : i.zero = some (.int .u8 0))
    (hsize : i.size = 1) (hby : i.bytes = 1)
    (v : Value) (n : Nat) (xs : List Value) (hs : a.eval sl = v) (hown : w.ownsRow base e 1 v n xs) (s : ByteArray) (hx : a.eval x = .string s)
    (h63 : n + s.size ≤ maxLen) (hbytes : n + s.size ≤ 140737488355328) (hbase : base ≤ w.heap.size)
    (hK : ∀ v' w', w'.ownsRow base e 1 v' (n + s.size) (xs ++ Lib.strCells s) → w.grownBy w' v.ownBlock → K (a.put o.dst v') w') :
    if Region.wanted o (yielded ops a.tmps) = true then Oper.wp P o a w K Q else E := by
  have hw : Region.wanted o (yielded ops a.tmps) = true := by simp [Region.wanted, hgd]
  rw [if_pos hw]
  obtain ⟨v', w', hr, h2, h3, h4⟩ := Lib.run_append_own_string (P := P) w base t u o.type e i ht hu hi hz hsize hby v n xs hown s h63 hbytes hbase
  unfold Oper.wp execOp
  simp only [ho, resolve, invoke, builtin, Sem.run_bind, Sem.run_pure, Result.andThen_ok, List.map_toArray, List.map_cons, List.map_nil, hs, hx, hr]
  exact hK _ _ h2 h3

theorem step_append_own' {ops : Array Oper} {o : Oper} {a : Act} {K : Act → World → Prop} {Q : Exit → Act → World → Prop} {E : Prop} (hgd : o.guard = none) (sl x : Operand) (t : TypeId)
    (ho : o.op = .call { callee := .builtin .append, args := #[sl, x], argTypes := #[t, t] })
    (base : Nat) (e : TypeId) (i : TypeInfo) (z : Value) (size bytes : Nat) (ht : P.underlying t = some (.slice e)) (hi : P.info? e = some i) (hz : i.zero = some z)
    (hsize : i.size = size) (hby : i.bytes = bytes) (hzs : z.cells.size = size) (hsz : 0 < size)
    (v : Value) (n : Nat) (xs : List Value) (hs : a.eval sl = v) (hown : w.ownsRow base e size v n xs)
    (ad : Addr) (m c : Nat) (news : List Value) (hx : a.eval x = .slice (some ad) m c) (hl : news.length = m * size) (hnews : ∀ j u, news[j]? = some u → w.cell? (ad.add j) = some u) (h1 : ∀ u ∈ news, u.oneCell' = true)
    (h63 : n + m ≤ maxLen) (hbytes : (n + m) * bytes ≤ 140737488355328) (hbase : base ≤ w.heap.size)
    (hK : ∀ v' w', w'.ownsRow base e size v' (n + m) (xs ++ news) → w.grownBy w' v.ownBlock → K (a.put o.dst v') w') :
    if Region.wanted o (yielded ops a.tmps) = true then Oper.wp P o a w K Q else E := by
  have hw : Region.wanted o (yielded ops a.tmps) = true := by simp [Region.wanted, hgd]
  rw [if_pos hw]
  obtain ⟨v', w', hr, h2, h3, h4⟩ := run_append_own (P := P) w base t o.type e i z size bytes ht hi hz hsize hby hzs hsz v n xs hown ad m c news hl hnews h1 h63 hbytes hbase
  unfold Oper.wp execOp
  simp only [ho, resolve, invoke, builtin, Sem.run_bind, Sem.run_pure, Result.andThen_ok, List.map_toArray, List.map_cons, List.map_nil, hs, hx, hr]
  exact hK _ _ h2 h3
end

end Go.Proofs.YtoiobhcgpajogabGreatDoor
/- The walk of Encode. -/
namespace Go.Proofs.YtoiobhcgpajogabGreatDoor
open Go.RowKit

def EncPost (l : List Ent) (w : World) (e : Ending) (w' : World) : Prop :=
  ∃ v n, e = .returned (.tuple #[v, .int .i64 (ckPs (-1) l)]) ∧ w'.ownsRow w.heap.size 5 1 v n (Lib.byteCells (if ckPs (-1) l = 0 then encL l else [])) ∧ Below w.heap.size w w'

theorem byteCells_append (a b : List UInt8) : Lib.byteCells (a ++ b) = Lib.byteCells a ++ Lib.byteCells b := by simp [Lib.byteCells]
theorem byteCells_length (a : List UInt8) : (Lib.byteCells a).length = a.length := by simp [Lib.byteCells]

theorem keyB_toNat {n : Int} (h : 0 ≤ n ∧ n < 8) : ((keyB n).toNat : Int) = n := by
  unfold keyB
  simp
  omega

theorem oneCell_bytes (l : List UInt8) : ∀ u ∈ Lib.byteCells l, u.oneCell' = true := by
  intro u hu
  obtain ⟨b, _, rfl⟩ := List.mem_map.1 hu
  rfl

theorem bodyL_snoc (l : List Ent) (x : Ent) : bodyL (l ++ [x]) = bodyL l ++ bodyE x := by simp [bodyL]

theorem sliceAt_below {w w' : World} {a : Option Addr} {cells : List Value} (h : SliceAt w a cells) (k : Below w.heap.size w w') : SliceAt w' a cells := by
  by_cases hne : cells = []
  · exact .inl hne
  · obtain ⟨b, off, ha, hlt⟩ := h.lt hne
    exact h.lift (fun ad had => by rw [ha] at had; cases had; exact k.block b hlt)

def preL (n : Nat) (l : List Ent) : List UInt8 := 0 :: UInt8.ofNat n :: bodyL l

theorem preL_snoc (n : Nat) (l : List Ent) (x : Ent) : preL n (l ++ [x]) = preL n l ++ bodyE x := by simp [preL, bodyL_snoc]

theorem enc_row {w : World} {B : Nat} {v : Value} {pre : List UInt8} {n : Int} {s t : ByteArray} (h : w.ownsRow B 5 1 v (pre.length + 2 + s.size) (Lib.byteCells pre ++ [.int .u8 (IntKind.u8.wrap n), .int .u8 (IntKind.u8.wrap s.size)] ++ Lib.strCells s)) (ht : t = s) (hn : 0 ≤ n ∧ n < 8) (hs : s.size ≤ 12) :
    w.ownsRow B 5 1 v (pre ++ (keyB n :: UInt8.ofNat t.size :: t.data.toList)).length (Lib.byteCells (pre ++ (keyB n :: UInt8.ofNat t.size :: t.data.toList))) := by
  subst ht
  have e1 : IntKind.u8.wrap n = ((keyB n).toNat : Int) := by rw [keyB_toNat hn, IntWalk.u8_in _ ⟨by omega, by omega⟩]
  have e2 : IntKind.u8.wrap (t.size : Int) = ((UInt8.ofNat t.size).toNat : Int) := by
    rw [IntWalk.u8_in _ ⟨by omega, by omega⟩]
    simp
    omega
  rw [e1, e2] at h
  have e3 : Lib.byteCells (pre ++ (keyB n :: UInt8.ofNat t.size :: t.data.toList)) = Lib.byteCells pre ++ [.int .u8 ((keyB n).toNat : Int), .int .u8 ((UInt8.ofNat t.size).toNat : Int)] ++ Lib.strCells t := by
    simp [Lib.byteCells, Lib.strCells]
  have e4 : (pre ++ (keyB n :: UInt8.ofNat t.size :: t.data.toList)).length = pre.length + 2 + t.size := by simp; omega
  rw [e3, e4]
  exact h

set_option maxHeartbeats 4000000 in
set_option maxRecDepth 100000 in
theorem codec_Encode (a : Option Addr) (cap : Nat) (l : List Ent) (w : World) (hn : l.length ≤ 1000000) (hv : ∀ x ∈ l, x.v.bytes.size ≤ maxLen) (h : SliceAt w a (encEnts l)) :
    Calls Tryz.prog 135 #[.slice a l.length cap] w (EncPost l w) := by
  have CK := fun w' (hb : Below w.heap.size w w') => table_Check a cap l w' hn hv (sliceAt_below h hb)
  have CKH := hid CK
  have H := hid h
  clear h CK hv
  by_cases hc : ckPs (-1) l = 0
  · obtain ⟨hok, hlen, -⟩ := ckPs_zero l (-1) (by omega) (by omega) hc
    have hlen' : l.length ≤ 8 := by omega
    have HOK := hid hok
    have HC := hid hc
    clear hok hlen hc
    obtain ⟨i0, hi, hz0, hz1, hz2⟩ := info_parts Tryz.infoU8
    go_enter Tryz.func135, Tryz.ntmps135
    go_wp2_with fail
    refine (CKH.out _ (Below.refl _ _)).mono ?_
    rintro e w1 ⟨rfl, hb⟩
    rw [HC.out]
    have HB1 := hid hb
    clear hb
    go_wp2_with fail
    have O0 : (w1.alloc (.cells #[.int .u8 0, .int .u8 l.length] 5)).ownsRow w.heap.size 5 1 (.slice (some ⟨w1.heap.size, 0, none⟩) 2 2) 2 [Value.int .u8 0, .int .u8 l.length] := World.ownsRow_lit (base := w.heap.size) (e := 5) (size := 1) w1 #[.int .u8 0, .int .u8 l.length] 2 HB1.out.size (by decide) rfl
    have hpre : [Value.int .u8 0, .int .u8 l.length] = Lib.byteCells (preL l.length []) := by
      have : (UInt8.ofNat l.length).toNat = l.length := by simp; omega
      simp [preL, bodyL, Lib.byteCells, this]
    have O0' : (w1.alloc (.cells #[.int .u8 0, .int .u8 l.length] 5)).ownsRow w.heap.size 5 1 (.slice (some ⟨w1.heap.size, 0, none⟩) 2 2) 2 (Lib.byteCells (preL l.length [])) := hpre ▸ O0
    have O0h := hid O0'
    clear O0 O0' hpre
    go_loopw [5, 19] (fun o i wr => ∃ k : Nat, k ≤ l.length ∧ i = .int .i64 k ∧ wr.ownsRow w.heap.size 5 1 o (preL l.length (l.take k)).length (Lib.byteCells (preL l.length (l.take k))) ∧ Below w.heap.size w wr) (fun _ i _ => l.length - (intOf i).toNat)
    case atStart => exact ⟨0, Nat.zero_le _, rfl, O0h.out, HB1.out.alloc HB1.out.size _⟩
    case round =>
      obtain ⟨k, hk, rfl, ho, hb⟩ := hrel
      have hln : (preL l.length (l.take k)).length ≤ 200 := by
        have := bodyL_length (l := l.take k) (fun x hx => HOK.out x (List.mem_of_mem_take hx))
        simp [preL] at *
        omega
      by_cases hlt : k < l.length
      · have hst : preL l.length (l.take (k + 1)) = preL l.length (l.take k) ++ bodyE l[k] := by rw [List.take_succ_eq_append_getElem hlt, preL_snoc]
        have hox := HOK.out l[k] (List.getElem_mem _)
        obtain ⟨b1, o1, rfl, v1⟩ := H.out.ents (by omega)
        obtain ⟨p1, p2, p3⟩ := v1 k hlt
        have l1 := World.block_lt_of_cell? w _ p1
        simp only at l1
        have P1 := (below_cell hb l1).trans p1
        have P2 := (below_cell hb l1).trans p2
        have P3 := (below_cell hb l1).trans p3
        have HB := hid hb
        have HO := hid ho
        have HST := hid hst
        clear v1 p1 p2 p3 hb hst ho
        generalize hx : l[k] = x at *
        clear hx
        obtain ⟨y1, y2, y3, y4⟩ := hox
        have hki : (k : Int) < (l.length : Int) := by omega
        have hk0 : (0 : Int) ≤ (k : Int) := by omega
        have hpos : 0 < (preL l.length (l.take k)).length := by simp [preL]
        generalize preL l.length (l.take k) = pre at *
        obtain ⟨g, bcap, rfl, hbc, hgl⟩ := ownsRow.some HO.out hpos
        go_upto_region 8 with (fail)
        have L1 := hid (Loc.new wr 107 [.int .i64 x.n, .bool x.v.there, .string x.v.bytes])
        have HB1 := hid (HB.out.alloc HB.out.size (.cells #[.int .i64 x.n, .bool x.v.there, .string x.v.bytes] 107))
        have HO1 := hid (HO.out.alloc (.cells #[.int .i64 x.n, .bool x.v.there, .string x.v.bytes] 107))
        generalize wr.alloc (.cells #[.int .i64 x.n, .bool x.v.there, .string x.v.bytes] 107) = W1 at *
        obtain ⟨Q1, Q2, Q3⟩ := loc_three L1.out
        clear P1 P2 P3
        cases ht : x.v.there
        · rw [ht] at Q2
          have hbe : bodyE x = [keyB x.n, 255] := by unfold bodyE; rw [ht]; rfl
          have HBE := hid hbe
          clear hbe y3 y4
          have q1 : pre.length + 2 ≤ maxLen := by unfold maxLen; omega
          have q2 : (pre.length + 2) * 1 ≤ 140737488355328 := by omega
          go_wp2_with (refine wpList_append_own _ rfl (.tmp 27) (.tmp 31) 36 rfl w.heap.size 5 i0 (.int .u8 0) 1 1 Tryz.underlying36 hi hz0 hz1 hz2 rfl (by decide) (.slice (some ⟨g, 0, none⟩) pre.length bcap) pre.length (Lib.byteCells pre) rfl (HO1.out.alloc _) ⟨W1.heap.size, 0, none⟩ 2 2 [.int .u8 x.n, .int .u8 255] rfl rfl (cells_new W1 _ _) ?c2 q1 q2 ?c5 ?_)
          case c2 => intro u hu; simp at hu; rcases hu with rfl | rfl <;> rfl
          case c5 => have := HB1.out.size; simp; omega
          intro v' w2 hown' hgrow _
          have hw2 := hid ((HB1.out.alloc HB1.out.size _).grown hgrow (by have := HB1.out.size; simp; omega) (fun j hj => (HO1.out.lt j hj).1))
          have HO2 := hid hown'
          clear hown' hgrow Q1 Q2 Q3
          go_wp2
          go_roundw
          case rel =>
            refine ⟨k + 1, by omega, by go_num, ?_, hw2.out⟩
            rw [HST.out, HBE.out]
            have e : Lib.byteCells (pre ++ [keyB x.n, 255]) = Lib.byteCells pre ++ [.int .u8 x.n, .int .u8 255] := by
              have := keyB_toNat ⟨y1, y2⟩
              rw [byteCells_append]
              simp [Lib.byteCells, this]
            rw [e]
            simpa using HO2.out
          case measure => simp [intOf]; omega
        · rw [ht] at Q2
          have hbe : bodyE x = keyB x.n :: UInt8.ofNat x.v.bytes.size :: x.v.bytes.data.toList := by unfold bodyE; rw [ht]; rfl
          have HBE := hid hbe
          clear hbe y4
          have q1 : pre.length + 2 ≤ maxLen := by unfold maxLen; omega
          have q2 : (pre.length + 2) * 1 ≤ 140737488355328 := by omega
          have q3 : pre.length + 2 + x.v.bytes.size ≤ maxLen := by unfold maxLen; omega
          have q4 : pre.length + 2 + x.v.bytes.size ≤ 140737488355328 := by omega
          generalize hs : x.v.bytes = s at *
          have HSB := hid hs
          clear hs
          have hB1s := HB1.out.size
          have hL1 := L1.out.lt
          have hne : g ≠ wr.heap.size := by omega
          go_wp2_with fail
          go_region_law (first
            | (refine step_append_own' rfl (.tmp 33) (.tmp 42) 36 rfl w.heap.size 5 i0 (.int .u8 0) 1 1 Tryz.underlying36 hi hz0 hz1 hz2 rfl (by decide) (.slice (some ⟨g, 0, none⟩) pre.length bcap) pre.length (Lib.byteCells pre) rfl (HO1.out.drew.alloc _) ⟨W1.heap.size, 0, none⟩ 2 2 [.int .u8 (IntKind.u8.wrap x.n), .int .u8 (IntKind.u8.wrap s.size)] rfl rfl (cells_new _ _ _) (by intro u hu; simp at hu; rcases hu with rfl | rfl <;> rfl) q1 q2 (by simp; omega) ?_; intro v' w2 hown' hgrow; have L2 : Loc w2 wr.heap.size 107 _ := (hgrow.block _ (by simp; omega) (by simpa [Value.ownBlock] using hne.symm)).trans (L1.out.drew.alloc _); have n3 : w2.cell? ⟨wr.heap.size, 2, none⟩ = some (.string s) := L2.cell 2; have hB2 := (HB1.out.drew.alloc hB1s _).grown hgrow (by simp; omega) (fun j hj => (HO1.out.lt j hj).1); have hB2s := hB2.size; clear L2)
            | (refine step_append_string rfl (.tmp 43) (.tmp 46) 36 9 rfl w.heap.size 5 i0 Tryz.underlying36 Tryz.underlying9 hi hz0 hz1 hz2 _ (pre.length + 2) _ rfl ‹World.ownsRow _ _ _ _ _ _ _› s rfl q3 q4 (by assumption) ?_; intro v3 w3 hown3 hgrow3; have hB3 := hB2.grown hgrow3 hB2s (fun j hj => (hown'.lt j hj).1)))
          all_goals
            have HO3 := hid hown3
            have HB3 := hid hB3
            clear hown3 hB3 hgrow3 hown' hgrow hB2 hB2s n3 Q1 Q2 Q3
            go_wp2
            go_roundw
            case rel =>
              refine ⟨k + 1, by omega, by go_num, ?_, HB3.out⟩
              rw [HST.out, HBE.out]
              exact enc_row HO3.out rfl ⟨y1, y2⟩ y3
            case measure => simp [intOf]; omega
      · obtain rfl : k = l.length := by omega
        rw [List.take_length] at ho hln
        have hpos : 0 < (preL l.length l).length := by simp [preL]
        obtain ⟨g, bcap, rfl, hbc, hgl⟩ := ownsRow.some ho hpos
        have c0 := ho.cellAt 0 (by omega)
        have f0 := ho.frozenAt 0
        have c0' : wr.cell? ⟨g, 0, none⟩ = some (.int .u8 0) := c0
        have hst := (ho.stored 0 (.int .u8 (2 + ((bodyL l).length : Int)))).1
        have hgg := (ho.lt g rfl).1
        have HB := hid hb
        have HO := hid ho
        have HST := hid hst
        clear c0 ho hst hb
        have hp0 : (0 : Int) < ((preL l.length l).length : Int) := by omega
        have hpl : (preL l.length l).length = 2 + (bodyL l).length := by simp [preL]; omega
        generalize hN : (preL l.length l).length = N at *
        have hbl := bodyL_length HOK.out
        go_wp2
        refine bodyPost_ret (v := .tuple #[.slice (some ⟨g, 0, none⟩) N bcap, .int .i64 0]) (by simp [results, Tryz.results135, go_sem]) rfl ⟨_, N, by rw [HC.out], ?_, HB.out.setCell hgg _⟩
        rw [if_pos HC.out]
        have e : (Lib.byteCells (preL l.length l)).set 0 (.int .u8 (2 + ((bodyL l).length : Int))) = Lib.byteCells (encL l) := by
          have e1 : ((UInt8.ofNat (2 + (bodyL l).length)).toNat : Int) = 2 + ((bodyL l).length : Int) := by simp; omega
          simp only [preL, encL, Lib.byteCells, List.map_cons, List.set_cons_zero, e1]
        rw [← e]
        exact HST.out
  · have hc' : (ckPs (-1) l != 0) = true := by simpa using hc
    go_enter Tryz.func135, Tryz.ntmps135
    go_wp2_with fail
    refine (CKH.out _ (Below.refl _ _)).mono ?_
    rintro e w1 ⟨rfl, hb⟩
    have HB1 := hid hb
    have HC := hid hc
    clear hb hc CKH
    generalize hce : ckPs (-1) l = c at hc' HC ⊢
    have HCE := hid hce
    clear hce
    go_wp2
    refine bodyPost_ret (v := .tuple #[.slice none 0 0, .int .i64 c]) (by simp [results, Tryz.results135, go_sem]) rfl ⟨_, 0, by rw [HCE.out], ?_, HB1.out⟩
    rw [HCE.out, if_neg HC.out]
    exact World.ownsRow_nil _ _ _ _

end Go.Proofs.YtoiobhcgpajogabGreatDoor
/- What comes in: a slice of pairs, of bytes. -/
namespace Go.Proofs.YtoiobhcgpajogabGreatDoor
open Go.RowKit

def PairsAt (w : World) (a : Option Addr) (l : List Ent) : Prop := SliceAt w a (encEnts l) ∧ ∀ x ∈ l, x.v.bytes.size ≤ maxLen

theorem PairsAt.below {w w' : World} {a : Option Addr} {l : List Ent} (h : PairsAt w a l) (k : Below w.heap.size w w') : PairsAt w' a l := ⟨sliceAt_below h.1 k, h.2⟩

theorem PairsAt.sl {w : World} {a : Option Addr} {l : List Ent} (h : PairsAt w a l) : SliceAt w a (encEnts l) := And.left h

def BytesIn (w : World) (a : Option Addr) (cap : Nat) (l : List UInt8) : Prop := l.length ≤ cap ∧ SliceAt w a (Lib.byteCells l)

theorem BytesIn.of_row {w : World} {B e n : Nat} {v : Value} {l : List UInt8} (h : w.ownsRow B e 1 v n (Lib.byteCells l)) : ∃ a cap, v = .slice a l.length cap ∧ BytesIn w a cap l ∧ (a = none → cap = 0) ∧ (∀ ad, a = some ad → B ≤ ad.block ∧ ad.off = 0) := by
  have hn : n = l.length := by have := h.1; simp [Lib.byteCells] at this; omega
  subst hn
  rcases h.2 with ⟨rfl, h0⟩ | ⟨g, cap, cur, rfl, hb, hgg, hnc, hm, hz, ht⟩
  · have : l = [] := List.eq_nil_of_length_eq_zero h0
    subst this
    exact ⟨none, 0, rfl, ⟨Nat.le_refl _, .inl rfl⟩, fun _ => rfl, by intro ad h; cases h⟩
  · obtain ⟨a, c, e, hs, -⟩ := ownsRow.sliceAt h
    cases e
    exact ⟨_, cap, rfl, ⟨hnc, hs⟩, (fun h => by cases h), by intro ad h; cases h; exact ⟨hb, rfl⟩⟩

theorem BytesIn.below {w w' : World} {a : Option Addr} {cap : Nat} {l : List UInt8} (h : BytesIn w a cap l) (k : Below w.heap.size w w') : BytesIn w' a cap l := ⟨h.1, sliceAt_below h.2 k⟩

end Go.Proofs.YtoiobhcgpajogabGreatDoor
