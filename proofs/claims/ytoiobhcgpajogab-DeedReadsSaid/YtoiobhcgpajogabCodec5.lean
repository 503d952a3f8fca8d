/- The bytes of pairs, in plain words; an append of a string's bytes as a step of a region that draws. -/
import Derived.Test.YtoiobhcgpajogabCodec4
import Derived.Lib.AppendStr
namespace Go.Proofs.Ytoiobhcgpajogab
open Go.RowKit

def keyB (n : Int) : UInt8 := UInt8.ofNat n.toNat
def bodyE (x : Ent) : List UInt8 := if x.v.there then keyB x.n :: UInt8.ofNat x.v.bytes.size :: x.v.bytes.data.toList else [keyB x.n, 255]
def bodyL (l : List Ent) : List UInt8 := l.flatMap bodyE
def encL (l : List Ent) : List UInt8 := UInt8.ofNat (2 + (bodyL l).length) :: UInt8.ofNat l.length :: bodyL l

def OkE (x : Ent) : Prop := 0 ≤ x.n ∧ x.n < 8 ∧ x.v.bytes.size ≤ 12 ∧ (x.v.there = false → x.v.bytes.size = 0)

theorem ckV_zero {v : Val} (h : ckV v = 0) : v.bytes.size ≤ 12 ∧ (v.there = false → v.bytes.size = 0) := by
  unfold ckV at h
  split at h
  · omega
  · split at h
    · omega
    · rename_i h1 h2
      refine ⟨by omega, fun h3 => ?_⟩
      rw [h3, isEmpty_size] at h2
      simp at h2
      rw [h2]
      rfl

theorem ckPs_zero (l : List Ent) (pv : Int) (h0 : -1 ≤ pv) (h7 : pv ≤ 7) (h : ckPs pv l = 0) : (∀ x ∈ l, OkE x) ∧ (l.length : Int) ≤ 7 - pv ∧ (∀ x ∈ l, pv < x.n) := by
  induction l generalizing pv with
  | nil => exact ⟨by simp, by simp; omega, by simp⟩
  | cons x l ih =>
    rw [ckPs] at h
    split at h
    · omega
    · split at h
      · omega
      · split at h
        · rename_i h1 h2 h3
          exact absurd h h3
        · rename_i h1 h2 h3
          have hc : ckV x.v = 0 := by
            rcases ckV_cases x.v with h | h | h
            · exact h
            · rw [h] at h3; exact absurd (by decide) h3
            · rw [h] at h3; exact absurd (by decide) h3
          obtain ⟨i1, i2, i3⟩ := ih x.n (by omega) (by omega) h
          have hv := ckV_zero hc
          refine ⟨?_, by simp; omega, ?_⟩
          · intro y hy
            rcases List.mem_cons.1 hy with rfl | hy
            · exact ⟨by omega, by omega, hv.1, hv.2⟩
            · exact i1 y hy
          · intro y hy
            rcases List.mem_cons.1 hy with rfl | hy
            · omega
            · have := i3 y hy; omega

theorem bodyE_length {x : Ent} (h : OkE x) : 2 ≤ (bodyE x).length ∧ (bodyE x).length ≤ 14 := by
  unfold bodyE
  have := h.2.2.1
  split <;> simp <;> omega

theorem bodyL_length {l : List Ent} (h : ∀ x ∈ l, OkE x) : (bodyL l).length ≤ 14 * l.length := by
  induction l with
  | nil => simp [bodyL]
  | cons x l ih =>
    have h1 := bodyE_length (h x (List.mem_cons_self ..))
    have h2 := ih (fun y hy => h y (List.mem_cons_of_mem _ hy))
    simp only [bodyL, List.flatMap_cons, List.length_append, List.length_cons] at *
    omega

section
variable {P : Program} {w : World}

theorem step_append_string {ops : Array Oper} {o : Oper} {a : Act} {K : Act → World → Prop} {Q : Exit → Act → World → Prop} {E : Prop} (hgd : o.guard = none) (sl x : Operand) (t u : TypeId)
    (ho : o.op = .call { callee := .builtin .append, args := #[sl, x], argTypes := #[t, u] })
    (base : Nat) (e : TypeId) (i : TypeInfo) (ht : P.underlying t = some (.slice e)) (hu : P.underlying u = some .string) (hi : P.info? e = some i) (hz : i.zero = some (.int .u8 0))
    (hsize : i.size = 1) (hby : i.bytes = 1)
    (v : Value) (n : Nat) (xs : List Value) (hs : a.eval sl = v) (hown : w.ownsRow base e 1 v n xs) (s : ByteArray) (hx : a.eval x = .string s)
    (h63 : n + s.size ≤ maxLen) (hbytes : n + s.size ≤ 140737488355328) (hbase : base ≤ w.heap.size)
    (hK : ∀ v' w', w'.ownsRow base e 1 v' (n + s.size) (xs ++ Lib.strCells s) → w.grownBy w' v.ownBlock → K (a.put o.dst v') w') :
    if Region.wanted o (yielded ops a.tmps) = true then Oper.wp P o a w K Q else E := by
  have hw : Region.wanted o (yielded ops a.tmps) = true := by simp [Region.wanted, hgd]
  rw [if_pos hw]
  obtain ⟨v', w', hr, h2, h3, h4⟩ := Lib.run_append_own_string (P := P) w base t u o.type e i ht hu hi hz hsize hby v n xs hown s h63 hbytes hbase
  unfold Oper.wp execOp
  simp only [ho, resolve, invoke, builtin, Sem.run_bind, Sem.run_pure, Result.andThen_ok, List.map_toArray, List.map_cons, List.map_nil, hs, hx, hr]
  exact hK _ _ h2 h3

theorem step_append_own' {ops : Array Oper} {o : Oper} {a : Act} {K : Act → World → Prop} {Q : Exit → Act → World → Prop} {E : Prop} (hgd : o.guard = none) (sl x : Operand) (t : TypeId)
    (ho : o.op = .call { callee := .builtin .append, args := #[sl, x], argTypes := #[t, t] })
    (base : Nat) (e : TypeId) (i : TypeInfo) (z : Value) (size bytes : Nat) (ht : P.underlying t = some (.slice e)) (hi : P.info? e = some i) (hz : i.zero = some z)
    (hsize : i.size = size) (hby : i.bytes = bytes) (hzs : z.cells.size = size) (hsz : 0 < size)
    (v : Value) (n : Nat) (xs : List Value) (hs : a.eval sl = v) (hown : w.ownsRow base e size v n xs)
    (ad : Addr) (m c : Nat) (news : List Value) (hx : a.eval x = .slice (some ad) m c) (hl : news.length = m * size) (hnews : ∀ j u, news[j]? = some u → w.cell? (ad.add j) = some u) (h1 : ∀ u ∈ news, u.oneCell' = true)
    (h63 : n + m ≤ maxLen) (hbytes : (n + m) * bytes ≤ 140737488355328) (hbase : base ≤ w.heap.size)
    (hK : ∀ v' w', w'.ownsRow base e size v' (n + m) (xs ++ news) → w.grownBy w' v.ownBlock → K (a.put o.dst v') w') :
    if Region.wanted o (yielded ops a.tmps) = true then Oper.wp P o a w K Q else E := by
  have hw : Region.wanted o (yielded ops a.tmps) = true := by simp [Region.wanted, hgd]
  rw [if_pos hw]
  obtain ⟨v', w', hr, h2, h3, h4⟩ := run_append_own (P := P) w base t o.type e i z size bytes ht hi hz hsize hby hzs hsz v n xs hown ad m c news hl hnews h1 h63 hbytes hbase
  unfold Oper.wp execOp
  simp only [ho, resolve, invoke, builtin, Sem.run_bind, Sem.run_pure, Result.andThen_ok, List.map_toArray, List.map_cons, List.map_nil, hs, hx, hr]
  exact hK _ _ h2 h3
end

end Go.Proofs.Ytoiobhcgpajogab
