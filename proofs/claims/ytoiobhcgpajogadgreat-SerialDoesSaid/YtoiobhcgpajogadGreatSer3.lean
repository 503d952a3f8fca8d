/- The walks of acts, and of the document's Replay. -/
import Derived.Test.YtoiobhcgpajogadGreatBook12
namespace Go.Proofs.YtoiobhcgpajogadGreat
open Go.RowKit

theorem Tryz.infoRAct : (Tryz.prog.info? 44).map (fun i => (i.zero, i.size, i.bytes)) = some (some (.agg #[.int .i64 0, .int .i64 0, .int .i64 0, .bool false, .string ByteArray.empty, .slice none 0 0]), 6, 72) := by kernel_rfl

/-- A list of the walk's own grows, wherever the operation stands. -/
theorem wp_append_own {P : Program} {w : World} {o : Oper} {a : Act} {K : Act → World → Prop} {Q : Exit → Act → World → Prop} (sl x : Operand) (t : TypeId)
    (ho : o.op = .call { callee := .builtin .append, args := #[sl, x], argTypes := #[t, t] })
    (base : Nat) (e : TypeId) (i : TypeInfo) (z : Value) (size bytes : Nat) (ht : P.underlying t = some (.slice e)) (hi : P.info? e = some i) (hz : i.zero = some z)
    (hsize : i.size = size) (hby : i.bytes = bytes) (hzs : z.cells.size = size) (hsz : 0 < size)
    (v : Value) (n : Nat) (xs : List Value) (hs : a.eval sl = v) (hown : w.ownsRow base e size v n xs)
    (ad : Addr) (m c : Nat) (news : List Value) (hx : a.eval x = .slice (some ad) m c) (hl : news.length = m * size) (hnews : ∀ j u, news[j]? = some u → w.cell? (ad.add j) = some u) (h1 : ∀ u ∈ news, u.oneCell' = true)
    (h63 : n + m ≤ maxLen) (hbytes : (n + m) * bytes ≤ 140737488355328) (hbase : base ≤ w.heap.size)
    (hK : ∀ v' w', w'.ownsRow base e size v' (n + m) (xs ++ news) → w.grownBy w' v.ownBlock → K (a.put o.dst v') w') : Oper.wp P o a w K Q := by
  obtain ⟨v', w', hr, h2, h3, h4⟩ := run_append_own (P := P) w base t o.type e i z size bytes ht hi hz hsize hby hzs hsz v n xs hown ad m c news hl hnews h1 h63 hbytes hbase
  unfold Oper.wp execOp
  simp only [ho, resolve, invoke, builtin, Sem.run_bind, Sem.run_pure, Result.andThen_ok, List.map_toArray, List.map_cons, List.map_nil, hs, hx, hr]
  exact hK _ _ h2 h3

def ActsPost (l : List Acx) (w : World) (e : Ending) (w' : World) : Prop := ∃ ad c, e = .returned (.slice ad l.length c) ∧ ActsF w' ad l ∧ Below w.heap.size w w' ∧ ∀ x, ad = some x → w.heap.size ≤ x.block ∧ x.block < w'.heap.size

set_option maxHeartbeats 2000000 in
set_option maxRecDepth 100000 in
theorem law_acts (a : Option Addr) (cap : Nat) (l : List Acx) (w : World) (hn : l.length ≤ 1000000) (hA : ActsF w a l) :
    Calls Tryz.prog 13 #[.slice a l.length cap] w (ActsPost l w) := by
  have HA := hid hA
  have N0 := hid (World.ownsRow_nil w w.heap.size 44 6)
  obtain ⟨i0, hi, hz0, hz1, hz2⟩ := info_parts Tryz.infoRAct
  have hn63 : (l.length : Int) ≤ 9223372036854775807 := by omega
  clear hA
  go_enter Tryz.func13, Tryz.ntmps13
  go_wp2
  go_loopw [3, 4] (fun o i wr => ∃ k : Nat, k ≤ l.length ∧ i = .int .i64 k ∧ Hid (wr.ownsRow w.heap.size 44 6 o k (encActs (l.take k))) ∧ Hid (Below w.heap.size w wr)) (fun _ i _ => l.length - (intOf i).toNat)
  case atStart => exact ⟨0, Nat.zero_le _, rfl, N0, hid (Below.refl _ _)⟩
  case round =>
    clear N0
    obtain ⟨k, hk, rfl, HO, HB⟩ := hrel
    obtain ⟨ao, co, rfl, -, -⟩ := ownsRow.sliceAt HO.out
    by_cases hlt : k < l.length
    · obtain ⟨b, off, rfl, hbw, hf⟩ := HA.out.facts (by omega)
      obtain ⟨f0, f1, f2, f3, f4, f5, -⟩ := hf k hlt
      have f0 := (below_cell HB.out hbw).trans f0
      have f1 := (below_cell HB.out hbw).trans f1
      have f2 := (below_cell HB.out hbw).trans f2
      have f3 := (below_cell HB.out hbw).trans f3
      have f4 := (below_cell HB.out hbw).trans f4
      have f5 := (below_cell HB.out hbw).trans f5
      have HST := hid (show encActs (l.take (k + 1)) = encActs (l.take k) ++ encAcx l[k] from by rw [List.take_succ_eq_append_getElem hlt, encActs_append]; simp [encActs])
      have hki : (k : Int) < (l.length : Int) := by omega
      have hk0 : (0 : Int) ≤ (k : Int) := by omega
      have q1 : k + 1 ≤ maxLen := by unfold maxLen; omega
      have q2 : (k + 1) * 72 ≤ 140737488355328 := by omega
      have hwz := HB.out.size
      clear hf
      generalize l[k] = z at *
      go_upto_region 5 with (fail)
      have HBD := hid (HB.out.trans ((Below.refl wr.heap.size wr).drew.mono HB.out.size))
      have hS0 : wr.drew.cell? ⟨b, off + k * 6, none⟩ = some (.int .i64 z.a.kind) ∧ wr.drew.cell? ⟨b, off + k * 6 + 1, none⟩ = some (.int .i64 z.a.key) ∧ wr.drew.cell? ⟨b, off + k * 6 + 2, none⟩ = some (.int .i64 z.a.to_) ∧ wr.drew.cell? ⟨b, off + k * 6 + 3, none⟩ = some (.bool z.a.v.there) ∧ wr.drew.cell? ⟨b, off + k * 6 + 4, none⟩ = some (.string z.a.v.bytes) ∧ wr.drew.cell? ⟨b, off + k * 6 + 5, none⟩ = some (.slice z.ad z.a.l.length z.cap) := ⟨f0, f1, f2, f3, f4, f5⟩
      have KS := hid (fun W (h : Below w.heap.size wr.drew W) => (show W.cell? ⟨b, off + k * 6, none⟩ = some (.int .i64 z.a.kind) ∧ W.cell? ⟨b, off + k * 6 + 1, none⟩ = some (.int .i64 z.a.key) ∧ W.cell? ⟨b, off + k * 6 + 2, none⟩ = some (.int .i64 z.a.to_) ∧ W.cell? ⟨b, off + k * 6 + 3, none⟩ = some (.bool z.a.v.there) ∧ W.cell? ⟨b, off + k * 6 + 4, none⟩ = some (.string z.a.v.bytes) ∧ W.cell? ⟨b, off + k * 6 + 5, none⟩ = some (.slice z.ad z.a.l.length z.cap) from
        ⟨(below_cell h hbw).trans hS0.1, (below_cell h hbw).trans hS0.2.1, (below_cell h hbw).trans hS0.2.2.1, (below_cell h hbw).trans hS0.2.2.2.1, (below_cell h hbw).trans hS0.2.2.2.2.1, (below_cell h hbw).trans hS0.2.2.2.2.2⟩))
      clear f0 f1 f2 f3 f4 f5
      -- REGION 5
      refine wp_region_noPanic ?_
      refine wp_region_held_drew (S := (fun W : World => W.cell? ⟨b, off + k * 6, none⟩ = some (.int .i64 z.a.kind) ∧ W.cell? ⟨b, off + k * 6 + 1, none⟩ = some (.int .i64 z.a.key) ∧ W.cell? ⟨b, off + k * 6 + 2, none⟩ = some (.int .i64 z.a.to_) ∧ W.cell? ⟨b, off + k * 6 + 3, none⟩ = some (.bool z.a.v.there) ∧ W.cell? ⟨b, off + k * 6 + 4, none⟩ = some (.string z.a.v.bytes) ∧ W.cell? ⟨b, off + k * 6 + 5, none⟩ = some (.slice z.ad z.a.l.length z.cap))) (by kernel_rfl) ?_ (fun hH0 => ?_)
      · (try dsimp only); (first | assumption | exact hS0)
      refine wpAnyH_take (i := 0) (v := ?_) (by simp only [List.getElem?_toArray, List.getElem?_cons_zero]; rfl) (by kernel_rfl) (by kernel_rfl) (by kernel_rfl) (fun _ _ _ h => h) (Or.inl ⟨by rfl, ?_⟩) (by assumption) ?_
      rotate_left
      · intro w hSw; (try dsimp only at hSw); go_simp; (try with_reducible rfl)
      try simp only [Act.put, List.setIfInBounds_toArray, List.set_cons_zero, List.set_cons_succ]
      refine wpAnyH_take (i := 1) (v := ?_) (by simp only [List.getElem?_toArray, List.getElem?_cons_zero, List.getElem?_cons_succ]; rfl) (by kernel_rfl) (by kernel_rfl) (by kernel_rfl) (fun _ _ _ h => h) (Or.inl ⟨by rfl, ?_⟩) (by assumption) ?_
      rotate_left
      · intro w hSw; (try dsimp only at hSw); go_simp; (try with_reducible rfl)
      try simp only [Act.put, List.setIfInBounds_toArray, List.set_cons_zero, List.set_cons_succ]
      refine wpAnyH_take (i := 2) (v := ?_) (by simp only [List.getElem?_toArray, List.getElem?_cons_zero, List.getElem?_cons_succ]; rfl) (by kernel_rfl) (by kernel_rfl) (by kernel_rfl) (fun _ _ _ h => h) (Or.inl ⟨by rfl, ?_⟩) (by assumption) ?_
      rotate_left
      · intro w hSw; (try dsimp only at hSw); go_simp; (try with_reducible rfl)
      try simp only [Act.put, List.setIfInBounds_toArray, List.set_cons_zero, List.set_cons_succ]
      refine wpAnyH_take (i := 3) (v := ?_) (by simp only [List.getElem?_toArray, List.getElem?_cons_zero, List.getElem?_cons_succ]; rfl) (by kernel_rfl) (by kernel_rfl) (by kernel_rfl) (fun _ _ _ h => h) (Or.inl ⟨by rfl, ?_⟩) (by assumption) ?_
      rotate_left
      · intro w hSw; (try dsimp only at hSw); go_simp; (try with_reducible rfl)
      try simp only [Act.put, List.setIfInBounds_toArray, List.set_cons_zero, List.set_cons_succ]
      refine wpAnyH_take (i := 4) (v := ?_) (by simp only [List.getElem?_toArray, List.getElem?_cons_zero, List.getElem?_cons_succ]; rfl) (by kernel_rfl) (by kernel_rfl) (by kernel_rfl) (fun _ _ _ h => h) (Or.inl ⟨by rfl, ?_⟩) (by assumption) ?_
      rotate_left
      · intro w hSw; (try dsimp only at hSw); go_simp; (try with_reducible rfl)
      try simp only [Act.put, List.setIfInBounds_toArray, List.set_cons_zero, List.set_cons_succ]
      refine wpAnyH_take (i := 5) (v := ?_) (by simp only [List.getElem?_toArray, List.getElem?_cons_zero, List.getElem?_cons_succ]; rfl) (by kernel_rfl) (by kernel_rfl) (by kernel_rfl) (fun _ _ _ h => h) (Or.inl ⟨by rfl, ?_⟩) (by assumption) ?_
      rotate_left
      · intro w hSw; (try dsimp only at hSw); go_simp; (try with_reducible rfl)
      try simp only [Act.put, List.setIfInBounds_toArray, List.set_cons_zero, List.set_cons_succ]
      refine wpAnyH_take (i := 6) (v := ?_) (by simp only [List.getElem?_toArray, List.getElem?_cons_zero, List.getElem?_cons_succ]; rfl) (by kernel_rfl) (by kernel_rfl) (by kernel_rfl) (fun _ _ _ h => h) (Or.inl ⟨by rfl, ?_⟩) (by assumption) ?_
      rotate_left
      · intro w hSw; (try dsimp only at hSw); go_simp; (try with_reducible rfl)
      try simp only [Act.put, List.setIfInBounds_toArray, List.set_cons_zero, List.set_cons_succ]
      refine wpAnyH_take (i := 7) (v := ?_) (by simp only [List.getElem?_toArray, List.getElem?_cons_zero, List.getElem?_cons_succ]; rfl) (by kernel_rfl) (by kernel_rfl) (by kernel_rfl) (fun _ _ _ h => h) (Or.inl ⟨by rfl, ?_⟩) (by assumption) ?_
      rotate_left
      · intro w hSw; (try dsimp only at hSw); go_simp; (try with_reducible rfl)
      try simp only [Act.put, List.setIfInBounds_toArray, List.set_cons_zero, List.set_cons_succ]
      refine wpAnyH_take (i := 8) (v := ?_) (by simp only [List.getElem?_toArray, List.getElem?_cons_zero, List.getElem?_cons_succ]; rfl) (by kernel_rfl) (by kernel_rfl) (by kernel_rfl) (fun _ _ _ h => h) (Or.inl ⟨by rfl, ?_⟩) (by assumption) ?_
      rotate_left
      · intro w hSw; (try dsimp only at hSw); go_simp; (try with_reducible rfl)
      try simp only [Act.put, List.setIfInBounds_toArray, List.set_cons_zero, List.set_cons_succ]
      refine wpAnyH_take (i := 9) (v := ?_) (by simp only [List.getElem?_toArray, List.getElem?_cons_zero, List.getElem?_cons_succ]; rfl) (by kernel_rfl) (by kernel_rfl) (by kernel_rfl) (fun _ _ _ h => h) (Or.inl ⟨by rfl, ?_⟩) (by assumption) ?_
      rotate_left
      · intro w hSw; (try dsimp only at hSw); go_simp; (try with_reducible rfl)
      try simp only [Act.put, List.setIfInBounds_toArray, List.set_cons_zero, List.set_cons_succ]
      refine wpAnyH_take (i := 10) (v := ?_) (by simp only [List.getElem?_toArray, List.getElem?_cons_zero, List.getElem?_cons_succ]; rfl) (by kernel_rfl) (by kernel_rfl) (by kernel_rfl) (fun _ _ _ h => h) (Or.inl ⟨by rfl, ?_⟩) (by assumption) ?_
      rotate_left
      · intro w hSw; (try dsimp only at hSw); go_simp; (try with_reducible rfl)
      try simp only [Act.put, List.setIfInBounds_toArray, List.set_cons_zero, List.set_cons_succ]
      refine wpAnyH_take (i := 11) (v := ?_) (by simp only [List.getElem?_toArray, List.getElem?_cons_zero, List.getElem?_cons_succ]; rfl) (by kernel_rfl) (by kernel_rfl) (by kernel_rfl) (fun _ _ _ h => h) (Or.inl ⟨by rfl, ?_⟩) (by assumption) ?_
      rotate_left
      · intro w hSw; (try dsimp only at hSw); go_simp; (try with_reducible rfl)
      try simp only [Act.put, List.setIfInBounds_toArray, List.set_cons_zero, List.set_cons_succ]
      refine wpAnyH_take (i := 12) (v := ?_) (by simp only [List.getElem?_toArray, List.getElem?_cons_zero, List.getElem?_cons_succ]; rfl) (by kernel_rfl) (by kernel_rfl) (by kernel_rfl) (fun _ _ _ h => h) (Or.inl ⟨by rfl, ?_⟩) (by assumption) ?_
      rotate_left
      · intro w hSw; (try dsimp only at hSw); go_simp; (try with_reducible rfl)
      try simp only [Act.put, List.setIfInBounds_toArray, List.set_cons_zero, List.set_cons_succ]
      refine wpAnyH_take (i := 13) (v := ?_) (by simp only [List.getElem?_toArray, List.getElem?_cons_zero, List.getElem?_cons_succ]; rfl) (by kernel_rfl) (by kernel_rfl) (by kernel_rfl) (fun _ _ _ h => h) (Or.inl ⟨by rfl, ?_⟩) (by assumption) ?_
      rotate_left
      · intro w hSw; (try dsimp only at hSw); go_simp; (try with_reducible rfl)
      try simp only [Act.put, List.setIfInBounds_toArray, List.set_cons_zero, List.set_cons_succ]
      refine wpAnyH_take (i := 14) (v := ?_) (by simp only [List.getElem?_toArray, List.getElem?_cons_zero, List.getElem?_cons_succ]; rfl) (by kernel_rfl) (by kernel_rfl) (by kernel_rfl) (fun _ _ _ h => h) (Or.inl ⟨by rfl, ?_⟩) (by assumption) ?_
      rotate_left
      · intro w hSw; (try dsimp only at hSw); go_simp; (try with_reducible rfl)
      try simp only [Act.put, List.setIfInBounds_toArray, List.set_cons_zero, List.set_cons_succ]
      refine wpAnyH_take (i := 15) (v := ?_) (by simp only [List.getElem?_toArray, List.getElem?_cons_zero, List.getElem?_cons_succ]; rfl) (by kernel_rfl) (by kernel_rfl) (by kernel_rfl) (fun _ _ _ h => h) (Or.inl ⟨by rfl, ?_⟩) (by assumption) ?_
      rotate_left
      · intro w hSw; (try dsimp only at hSw); go_simp; (try with_reducible rfl)
      try simp only [Act.put, List.setIfInBounds_toArray, List.set_cons_zero, List.set_cons_succ]
      refine wpAnyH_take (i := 16) (v := ?_) (by simp only [List.getElem?_toArray, List.getElem?_cons_zero, List.getElem?_cons_succ]; rfl) (by kernel_rfl) (by kernel_rfl) (by kernel_rfl) (fun _ _ _ h => h) (Or.inl ⟨by rfl, ?_⟩) (by assumption) ?_
      rotate_left
      · intro w hSw; (try dsimp only at hSw); go_simp; (try with_reducible rfl)
      try simp only [Act.put, List.setIfInBounds_toArray, List.set_cons_zero, List.set_cons_succ]
      refine wpAnyH_take (i := 17) (v := ?_) (by simp only [List.getElem?_toArray, List.getElem?_cons_zero, List.getElem?_cons_succ]; rfl) (by kernel_rfl) (by kernel_rfl) (by kernel_rfl) (fun _ _ _ h => h) (Or.inl ⟨by rfl, ?_⟩) (by assumption) ?_
      rotate_left
      · intro w hSw; (try dsimp only at hSw); go_simp; (try with_reducible rfl)
      try simp only [Act.put, List.setIfInBounds_toArray, List.set_cons_zero, List.set_cons_succ]
      refine wpAnyH_take (i := 18) (v := ?_) (by simp only [List.getElem?_toArray, List.getElem?_cons_zero, List.getElem?_cons_succ]; rfl) (by kernel_rfl) (by kernel_rfl) (by kernel_rfl) (fun _ _ _ h => h) (Or.inl ⟨by rfl, ?_⟩) (by assumption) ?_
      rotate_left
      · intro w hSw; (try dsimp only at hSw); go_simp; (try with_reducible rfl)
      try simp only [Act.put, List.setIfInBounds_toArray, List.set_cons_zero, List.set_cons_succ]
      refine wpAnyH_take (i := 19) (v := ?_) (by simp only [List.getElem?_toArray, List.getElem?_cons_zero, List.getElem?_cons_succ]; rfl) (by kernel_rfl) (by kernel_rfl) (by kernel_rfl) (fun _ _ _ h => h) (Or.inl ⟨by rfl, ?_⟩) (by assumption) ?_
      rotate_left
      · intro w hSw; (try dsimp only at hSw); go_simp; (try with_reducible rfl)
      try simp only [Act.put, List.setIfInBounds_toArray, List.set_cons_zero, List.set_cons_succ]
      refine wpAnyH_take (i := 20) (v := ?_) (by simp only [List.getElem?_toArray, List.getElem?_cons_zero, List.getElem?_cons_succ]; rfl) (by kernel_rfl) (by kernel_rfl) (by kernel_rfl) (fun _ _ _ h => h) (Or.inl ⟨by rfl, ?_⟩) (by assumption) ?_
      rotate_left
      · intro w hSw; (try dsimp only at hSw); go_simp; (try with_reducible rfl)
      try simp only [Act.put, List.setIfInBounds_toArray, List.set_cons_zero, List.set_cons_succ]
      refine wpAnyH_take (i := 21) (v := ?_) (by simp only [List.getElem?_toArray, List.getElem?_cons_zero, List.getElem?_cons_succ]; rfl) (by kernel_rfl) (by kernel_rfl) (by kernel_rfl) (fun _ _ _ h => h) (Or.inl ⟨by rfl, ?_⟩) (by assumption) ?_
      rotate_left
      · intro w hSw; (try dsimp only at hSw); go_simp; (try with_reducible rfl)
      try simp only [Act.put, List.setIfInBounds_toArray, List.set_cons_zero, List.set_cons_succ]
      refine wpAnyH_take (i := 22) (v := ?_) (by simp only [List.getElem?_toArray, List.getElem?_cons_zero, List.getElem?_cons_succ]; rfl) (by kernel_rfl) (by kernel_rfl) (by kernel_rfl) (fun _ _ _ h => h) (Or.inl ⟨by rfl, ?_⟩) (by assumption) ?_
      rotate_left
      · intro w hSw; (try dsimp only at hSw); go_simp; (try with_reducible rfl)
      try simp only [Act.put, List.setIfInBounds_toArray, List.set_cons_zero, List.set_cons_succ]
      refine wpAnyH_take (i := 23) (v := ?_) (by simp only [List.getElem?_toArray, List.getElem?_cons_zero, List.getElem?_cons_succ]; rfl) (by kernel_rfl) (by kernel_rfl) (by kernel_rfl) (fun _ _ _ h => h) (Or.inl ⟨by rfl, ?_⟩) (by assumption) ?_
      rotate_left
      · intro w hSw; (try dsimp only at hSw); go_simp; (try with_reducible rfl)
      try simp only [Act.put, List.setIfInBounds_toArray, List.set_cons_zero, List.set_cons_succ]
      refine wpAnyH_take (i := 24) (v := ?_) (by simp only [List.getElem?_toArray, List.getElem?_cons_zero, List.getElem?_cons_succ]; rfl) (by kernel_rfl) (by kernel_rfl) (by kernel_rfl) (fun _ _ _ h => h) (Or.inl ⟨by rfl, ?_⟩) (by assumption) ?_
      rotate_left
      · intro w hSw; (try dsimp only at hSw); go_simp; (try with_reducible rfl)
      try simp only [Act.put, List.setIfInBounds_toArray, List.set_cons_zero, List.set_cons_succ]
      refine wpAnyH_take (i := 25) (v := ?_) (by simp only [List.getElem?_toArray, List.getElem?_cons_zero, List.getElem?_cons_succ]; rfl) (by kernel_rfl) (by kernel_rfl) (by kernel_rfl) (fun _ _ _ h => h) (Or.inl ⟨by rfl, ?_⟩) (by assumption) ?_
      rotate_left
      · intro w hSw; (try dsimp only at hSw); go_simp; (try with_reducible rfl)
      try simp only [Act.put, List.setIfInBounds_toArray, List.set_cons_zero, List.set_cons_succ]
      refine wpAnyH_take (i := 26) (v := ?_) (by simp only [List.getElem?_toArray, List.getElem?_cons_zero, List.getElem?_cons_succ]; rfl) (by kernel_rfl) (by kernel_rfl) (by kernel_rfl) (fun _ _ _ h => h) (Or.inl ⟨by rfl, ?_⟩) (by assumption) ?_
      rotate_left
      · intro w hSw; (try dsimp only at hSw); go_simp; (try with_reducible rfl)
      try simp only [Act.put, List.setIfInBounds_toArray, List.set_cons_zero, List.set_cons_succ]
      refine wpAnyH_ready (rs := [27]) (by kernel_rfl) (by simp) ?_
      refine AllReadyH.cons (by simp only [List.getElem?_toArray, List.getElem?_cons_zero, List.getElem?_cons_succ]; rfl) (fun K hK => ?_) AllReadyH.nil
      go_simp
      have hwd := HBD.out.size
      have hA := Below.alloc (B := w.heap.size) (Below.refl w.heap.size wr.drew) hwd (.cells #[.int .i64 z.a.kind, .int .i64 z.a.key, .int .i64 z.a.to_, .bool z.a.v.there, .string z.a.v.bytes, .slice z.ad z.a.l.length z.cap] 44)
      have hS' := KS.out _ hA
      try go_wp2_with fail
      refine hK.out _ _ ?_ (fun hH1 => ?_)
      · (try dsimp only); (first | assumption | exact hS0)
      clear hK K hH0
      try simp only [Act.put, List.setIfInBounds_toArray, List.set_cons_zero, List.set_cons_succ]
      refine wpAnyH_ready (rs := [28]) (by kernel_rfl) (by simp) ?_
      refine AllReadyH.cons (by simp only [List.getElem?_toArray, List.getElem?_cons_zero, List.getElem?_cons_succ]; rfl) (fun K hK => ?_) AllReadyH.nil
      have hB9 := HBD.out.alloc HBD.out.size (.cells (encAcx z).toArray 44)
      refine wp_append_own (.tmp 11) (.tmp 38) 37 rfl w.heap.size 44 i0 (.agg #[.int .i64 0, .int .i64 0, .int .i64 0, .bool false, .string ByteArray.empty, .slice none 0 0]) 6 72 Tryz.underlying37 hi hz0 hz1 hz2 rfl (by decide) (.slice ao k co) k (encActs (l.take k)) rfl (HO.out.drew.alloc _) ⟨wr.heap.size, 0, none⟩ 1 1 (encAcx z) rfl rfl (cells_new wr.drew (encAcx z) 44) (encAcx_one z) q1 q2 (by simp; omega) ?_
      intro v' w4 hown' hgrow
      have HB4 := hid (hB9.grown hgrow (by simp; omega) (fun j hj => (HO.out.lt j hj).1))
      have HO4 := hid hown'
      have hS' := KS.out _ ((Below.alloc (B := w.heap.size) (Below.refl w.heap.size wr.drew) HBD.out.size (.cells (encAcx z).toArray 44)).grown hgrow (by simp; omega) (fun j hj => (HO.out.lt j hj).1))
      clear hown' hgrow hB9
      refine hK.out _ _ ?_ (fun hH2 => ?_)
      · (try dsimp only); (first | assumption | exact hS0)
      clear hK K hH1
      try simp only [Act.put]
      refine wpAnyH_take (i := 29) (v := ?_) (by simp only [List.getElem?_toArray, List.getElem?_cons_zero, List.getElem?_cons_succ]; rfl) (by kernel_rfl) (by kernel_rfl) (by kernel_rfl) (fun _ _ _ h => h) (Or.inl ⟨by rfl, ?_⟩) (by assumption) ?_
      rotate_left
      · intro w hSw; (try dsimp only at hSw); go_simp; (try with_reducible rfl)
      try simp only [Act.put, List.setIfInBounds_toArray, List.set_cons_zero, List.set_cons_succ]
      refine wpAnyH_done (by kernel_rfl) ?_ _
      refine NoPanic.normal ?_
      rotate_left
      -- END 5
      go_wp2
      go_roundw
      case rel => exact ⟨k + 1, by omega, by go_num, hid (by rw [HST.out]; exact HO4.out), HB4⟩
      case measure => simp [intOf]; omega
    · obtain rfl : k = l.length := by omega
      obtain ⟨a', c', e', hs', ho'⟩ := ownsRow.sliceAt HO.out
      cases e'
      rw [List.take_length] at hs'
      have HP := hid (show ActsPost l w (.returned (.slice ao l.length co)) wr from ⟨ao, co, rfl, ⟨hs', fun z hz => (HA.out.below HB.out).2 z hz⟩, HB.out, fun x e => HO.out.lt _ (ho' x e)⟩)
      clear HO hs' ho'
      go_wp2
      go_ret
      exact HP.out

/-- What the document's Replay holds: the world's box, the result's. -/
structure RepR (w wr : World) (f : Nat → Val) : Prop where
  box : Loc wr w.heap.size 48 (vals8 f)
  res : Loc wr (w.heap.size + 1) 48 (vals8 fun _ => Val.zero)
  below : Below w.heap.size w wr

theorem RepR.keep {w wr wv : World} {f : Nat → Val} (h : RepR w wr f) (k : Below wr.heap.size wr wv) : RepR w wv f := ⟨h.box.keep k, h.res.keep k, h.below.trans (k.mono h.below.size)⟩
theorem RepR.put {w wr : World} {f : Nat → Val} (h : RepR w wr f) {n : Nat} (hn : n < 8) (v : Val) : RepR w ((wr.setCell ⟨w.heap.size, n * 2, none⟩ (.bool v.there)).setCell ⟨w.heap.size, n * 2 + 1, none⟩ (.string v.bytes)) (upd f n v) :=
  ⟨h.box.set2 hn v, (h.res.other (by simp) _).other (by simp) _, (h.below.setCell (by simp) _).setCell (by simp) _⟩

theorem listW_zero (w : Nat → Val) (f t : Int) : listW w f t 0 = [] := rfl

set_option maxHeartbeats 4000000 in
set_option maxRecDepth 100000 in
theorem ref_Replay (f : Nat → Val) (a : Option Addr) (cap : Nat) (l : List Acx) (w : World) (hn : l.length ≤ 1000000) (hl : ∀ z ∈ l, z.a.l.length ≤ 1000000) (hA : ActsF w a l) :
    Calls Tryz.prog 12 #[.agg (vals8 f).toArray, .slice a l.length cap] w (SheetPost (replay f (l.map (·.a))).1 (replay f (l.map (·.a))).2 w) := by
  have F : ∀ r, replay f (l.map (·.a)) = r → ∀ w', Below w.heap.size w w' → SheetPost (replay f (l.map (·.a))).1 (replay f (l.map (·.a))).2 w (.returned (.tuple #[.agg (vals8 r.1).toArray, .bool r.2])) w' := by
    rintro r rfl w' hb
    exact ⟨rfl, hb⟩
  have HF := hid F
  have HR := hid (show replay f (l.map (·.a)) = replayA (f, true) (l.map (·.a)) from rfl)
  have HA := hid hA
  have HL := hid hl
  clear F hA hl
  have hn63 : (l.length : Int) ≤ 9223372036854775807 := by omega
  generalize replay f (l.map (·.a)) = R at *
  go_enter Tryz.func12, Tryz.ntmps12
  go_wp2
  have R0 := hid (show RepR w ((w.alloc (.cells (vals8 f).toArray 48)).alloc (.cells (vals8 fun _ => Val.zero).toArray 48)) f from ⟨(Loc.new w _ _).alloc _, Loc.at (n := w.heap.size + 1) _ _ _ (by simp), ((Below.refl w.heap.size w).alloc (Nat.le_refl _) _).alloc (by simp) _⟩)
  go_loopw [6, 7] (fun o i wr => ∃ (k : Nat) (r : (Nat → Val) × Bool), k ≤ l.length ∧ i = .int .i64 k ∧ o = .bool r.2 ∧ Hid (R = replayA r ((l.drop k).map (·.a))) ∧ Hid (RepR w wr r.1)) (fun _ i _ => l.length - (intOf i).toNat)
  case atStart => exact ⟨0, (f, true), Nat.zero_le _, rfl, rfl, hid (by rw [HR.out]; rfl), R0⟩
  case round =>
    obtain ⟨k, ⟨rf, rb⟩, hk, rfl, rfl, HQ, H⟩ := hrel
    clear R0 HR
    by_cases hlt : k < l.length
    · obtain ⟨sb, off, rfl, hsb, hf⟩ := (HA.out.below H.out.below).facts (by omega)
      obtain ⟨f0, f1, f2, f3, f4, f5, hfl⟩ := hf k hlt
      have hst : R = if l[k].a.key < 0 ∨ 8 ≤ l[k].a.key then (rf, false) else replayA (stepA (rf, rb) l[k].a) ((l.drop (k + 1)).map (·.a)) := by
        rw [HQ.out, List.drop_eq_getElem_cons hlt, List.map_cons, replayA]
      have hz8 := HL.out l[k] (List.getElem_mem _)
      clear hf
      generalize l[k] = z at *
      obtain ⟨⟨kd, ky, zt, zv, zl⟩, zad, zcap⟩ := z
      simp only at f0 f1 f2 f3 f4 f5 hfl hst hz8
      have HFL := hid hfl
      have HST := hid hst
      have hki : (k : Int) < (l.length : Int) := by omega
      have hk0 : (0 : Int) ≤ (k : Int) := by omega
      clear hfl hst HQ
      simp only at H
      have hb8 := H.out.res.lt
      go_upto_region 6 with (fail)
      have H1 := hid (H.out.keep ((Below.refl _ _).alloc (Nat.le_refl _) (.cells #[.int .i64 kd, .int .i64 ky, .int .i64 zt, .bool zv.there, .string zv.bytes, .slice zad zl.length zcap] 44)))
      have Z1 : Hid (Loc (wr.alloc (.cells #[.int .i64 kd, .int .i64 ky, .int .i64 zt, .bool zv.there, .string zv.bytes, .slice zad zl.length zcap] 44)) wr.heap.size 44 [.int .i64 kd, .int .i64 ky, .int .i64 zt, .bool zv.there, .string zv.bytes, .slice zad zl.length zcap]) := hid (Loc.new wr _ _)
      have S1 := hid (sliceAt_below HFL.out ((Below.refl _ _).alloc (Nat.le_refl _) (.cells #[.int .i64 kd, .int .i64 ky, .int .i64 zt, .bool zv.there, .string zv.bytes, .slice zad zl.length zcap] 44)))
      clear H HFL f0 f1 f2 f3 f4 f5
      generalize wr.alloc (.cells #[.int .i64 kd, .int .i64 ky, .int .i64 zt, .bool zv.there, .string zv.bytes, .slice zad zl.length zcap] 44) = w1 at *
      generalize wr.heap.size = b8 at *
      have p0 := Z1.out.cell 0
      have p1 := Z1.out.cell 1
      have p3 := Z1.out.cell 3
      have p4 := Z1.out.cell 4
      by_cases hkey : ky < 0 ∨ 8 ≤ ky
      · have CK := hid (fun W => ref_IsKey_out ky W hkey)
        have HE := hid (show R = (rf, false) from by rw [HST.out, if_pos hkey])
        clear hkey HST
        go_wp2_with fail
        refine (CK.out _).mono ?_
        rintro e w2 ⟨rfl, rfl⟩
        have H2 := hid H1.out
        clear CK
        go_wp2_with (first
          | refine wpList_load_vals rfl (.tmp 2) rfl w.heap.size rfl rf H2.out.box ?_
          | (refine wpList_store_mid rfl 48 (.tmp 4) (.tmp 25) rfl (w.heap.size + 1) 0 (vals8 rf).toArray rfl rfl (H2.out.res.there8 _) Tryz.infoWorld (vals8_one _) ?_
             have L3 := hid (H2.out.res.setAll (vs := (vals8 rf).toArray.toList) rfl)
             have B3 := hid (Below.setCells' (Nat.le_succ w.heap.size) (vals8 rf).toArray.toList 0 H2.out.below)
             generalize w1.setCells (w.heap.size + 1) 0 (vals8 rf).toArray.toList = w3 at *))
        have hr := run_loadVar_mid (P := Tryz.prog) w3 (w.heap.size + 1) 0 48 (vals8 rf) _ L3.out.range Tryz.underlying48 rfl Tryz.infoWorld
        refine bodyPost_ret (v := .tuple #[.agg (vals8 rf).toArray, .bool false]) (by simp [results, Tryz.results12, asAddr, hr]) rfl ?_
        exact HF.out _ HE.out _ B3.out
      · obtain ⟨n, hn8, rfl⟩ : ∃ n : Nat, n < 8 ∧ ky = n := ⟨ky.toNat, by omega, by omega⟩
        have CK := hid (fun W => ref_IsKey_in (n : Int) W (by omega))
        have HT := hid (show R = replayA (stepA (rf, rb) ⟨kd, n, zt, zv, zl⟩) ((l.drop (k + 1)).map (·.a)) from by rw [HST.out, if_neg hkey])
        have hn0 : (0 : Int) ≤ (n : Int) := by omega
        have hn8' : (n : Int) < 8 := by omega
        clear hkey HST
        go_wp2_with fail
        refine (CK.out _).mono ?_
        rintro e w2 ⟨rfl, rfl⟩
        clear CK
        have m1 := (H1.out.box.cell (n * 2)).trans (vals8_get _ n hn8).1
        have m2 := (H1.out.box.cell (n * 2 + 1)).trans (vals8_get _ n hn8).2
        have r1 := H1.out.box.free (n * 2)
        have r2 := H1.out.box.free (n * 2 + 1)
        by_cases h3 : kd = 3 ∨ kd = 4
        · have HT2 := hid (show R = replayA (upd rf n zv, rb) ((l.drop (k + 1)).map (·.a)) from by rw [HT.out]; unfold stepA; simp only; rw [if_neg (by omega), if_pos h3]; rfl)
          clear HT
          rcases h3 with rfl | rfl
          all_goals (
            go_upto_region 10 with (fail)
            have H3 := hid (H1.out.put hn8 zv)
            have ne3 : b8 ≠ w.heap.size := by omega
            have Z3 := hid (show Loc ((w1.setCell ⟨w.heap.size, n * 2, none⟩ (.bool zv.there)).setCell ⟨w.heap.size, n * 2 + 1, none⟩ (.string zv.bytes)) b8 44 _ from (Z1.out.other ne3 _).other ne3 _)
            clear H1 Z1 S1 p0 p1 p3 p4 m1 m2 r1 r2
            generalize (w1.setCell ⟨w.heap.size, n * 2, none⟩ (.bool zv.there)).setCell ⟨w.heap.size, n * 2 + 1, none⟩ (.string zv.bytes) = w3 at *
            have p0 := Z3.out.cell 0
            go_wp2_with fail
            go_quiet (fail)
            have H4 := hid (H3.out.keep (below_drewN w3 nq))
            have Z4 := hid (Z3.out.keep (below_drewN w3 nq))
            generalize w3.drewN nq = w4 at *
            have p0 := Z4.out.cell 0
            go_wp2
            go_roundw
            case rel => exact ⟨k + 1, (upd rf n zv, rb), by omega, by go_num, rfl, HT2, H4⟩
            case measure => simp [intOf]; omega)
        by_cases h2 : kd = 2
        · subst h2
          have HT2 := hid (show R = replayA (rf, rb && decide (rf n = zv)) ((l.drop (k + 1)).map (·.a)) from by rw [HT.out]; rfl)
          clear h3 HT r1 r2
          by_cases he : rf n = zv
          · have HT3 := hid (show R = replayA (rf, rb) ((l.drop (k + 1)).map (·.a)) from by rw [HT2.out, decide_eq_true he, Bool.and_true])
            rw [he] at m1 m2
            clear HT2 he
            go_wp2_with fail
            go_quiet (fail)
            have H4 := hid (H1.out.keep (below_drewN w1 nq))
            have Z4 := hid (Z1.out.keep (below_drewN w1 nq))
            generalize w1.drewN nq = w4 at *
            have p0 := Z4.out.cell 0
            go_wp2
            go_roundw
            case rel => exact ⟨k + 1, (rf, rb), by omega, by go_num, rfl, HT3, H4⟩
            case measure => simp [intOf]; omega
          · have HT3 := hid (show R = replayA (rf, false) ((l.drop (k + 1)).map (·.a)) from by rw [HT2.out, decide_eq_false he, Bool.and_false])
            clear HT2
            generalize rf n = y at *
            by_cases e2 : y.there = zv.there
            · have g2 : (zv.there == zv.there) = true := by simp
              have g3 : (y.bytes.toList == zv.bytes.toList) = false := by
                rw [toList_beq]
                simp
                intro hb
                apply he
                obtain ⟨yt, yb⟩ := y
                obtain ⟨vt, vb⟩ := zv
                simp only at e2 hb
                rw [e2, hb]
              rw [e2] at m1
              clear he e2
              go_wp2_with fail
              go_quiet (fail)
              have H4 := hid (H1.out.keep (below_drewN w1 nq))
              have Z4 := hid (Z1.out.keep (below_drewN w1 nq))
              generalize w1.drewN nq = w4 at *
              have p0 := Z4.out.cell 0
              go_wp2
              go_roundw
              case rel => exact ⟨k + 1, (rf, false), by omega, by go_num, rfl, HT3, H4⟩
              case measure => simp [intOf]; omega
            · have g2 : (y.there == zv.there) = false := by simpa using e2
              clear he e2
              go_wp2_with fail
              go_quiet (fail)
              have H4 := hid (H1.out.keep (below_drewN w1 nq))
              have Z4 := hid (Z1.out.keep (below_drewN w1 nq))
              generalize w1.drewN nq = w4 at *
              have p0 := Z4.out.cell 0
              go_wp2
              go_roundw
              case rel => exact ⟨k + 1, (rf, false), by omega, by go_num, rfl, HT3, H4⟩
              case measure => simp [intOf]; omega
        have o2 : (kd == 2) = false := by simpa using h2
        have o3 : (kd == 3) = false := by simp; omega
        have o4 : (kd == 4) = false := by simp; omega
        by_cases h5 : kd = 5
        · subst h5
          have HT2 := hid (show R = replayA (rf, rb && decide (listW rf n zt 8 = zl)) ((l.drop (k + 1)).map (·.a)) from by rw [HT.out]; rfl)
          clear h2 h3 HT m1 m2 r1 r2 o2 o3 o4
          go_wp2_with fail
          go_quiet (fail)
          have H4 := hid (H1.out.keep (below_drewN w1 nq))
          have Z4 := hid (Z1.out.keep (below_drewN w1 nq))
          have S4 := hid (sliceAt_below S1.out (below_drewN w1 nq))
          clear H1 Z1 S1 p0 p1 p3 p4
          generalize w1.drewN nq = w4 at *
          have p0 := Z4.out.cell 0
          obtain ⟨j0, hj, hy0, hy1, hy2⟩ := info_parts Tryz.infoPair
          have N0 := hid (World.ownsRow_nil w4 w4.heap.size 98 3)
          have hb4 := Z4.out.lt
          go_wp2
          go_loopw [9, 10] (fun o i wr => ∃ m : Nat, m ≤ 8 ∧ i = .int .i64 m ∧ Hid (wr.ownsRow w4.heap.size 98 3 o (listW rf n zt m).length (encEnts (listW rf n zt m))) ∧ Hid (Below w4.heap.size w4 wr)) (fun _ i _ => 8 - (intOf i).toNat)
          case atStart => exact ⟨0, by omega, rfl, hid (by rw [listW_zero]; exact N0.out), hid (Below.refl _ _)⟩
          case round =>
            obtain ⟨m, hm2, rfl, HO, HB⟩ := hrel
            clear N0
            have H2 := hid (H4.out.keep HB.out)
            have Z2 := hid (Z4.out.keep HB.out)
            have z1 : wr.cell? ⟨b8, 1, none⟩ = some (.int .i64 n) := Z2.out.cell 1
            have z2 : wr.cell? ⟨b8, 2, none⟩ = some (.int .i64 zt) := Z2.out.cell 2
            obtain ⟨ao, co, rfl, hso, -⟩ := ownsRow.sliceAt HO.out
            have hle := listW_len rf n zt m
            by_cases hlt2 : m < 8
            · have m1 := (H2.out.box.cell (m * 2)).trans (vals8_get _ m hlt2).1
              have m2 := (H2.out.box.cell (m * 2 + 1)).trans (vals8_get _ m hlt2).2
              have hmi : (m : Int) < 8 := by omega
              have hm0 : (0 : Int) ≤ (m : Int) := by omega
              have hsu := listW_succ rf n zt m
              clear hso
              by_cases hin : (n : Int) ≤ (m : Int) ∧ (m : Int) ≤ zt ∧ (rf m).there = true
              · obtain ⟨hi1, hi2, hi3⟩ := hin
                have HSU := hid (show listW rf n zt (m + 1) = listW rf n zt m ++ [⟨(m : Int), rf m⟩] from by rw [hsu, if_pos ⟨hi1, hi2, hi3⟩])
                have hge : (m : Int) ≥ (n : Int) := hi1
                rw [hi3] at m1
                have hwz := HB.out.size
                generalize hye : (⟨(m : Int), rf m⟩ : Ent) = ye at *
                have HYE := hid (show encEnt ye = [.int .i64 m, .bool true, .string (rf m).bytes] from by subst hye; rw [← hi3]; rfl)
                have q1 : (listW rf n zt m).length + 1 ≤ maxLen := by unfold maxLen; omega
                have q2 : ((listW rf n zt m).length + 1) * 32 ≤ 140737488355328 := by omega
                clear hsu hi3 H2 Z2 hle hye
                generalize listW rf n zt m = out at *
                go_wp2_with (refine wpList_append_own _ rfl (.tmp 74) (.tmp 80) 41 rfl w4.heap.size 98 j0 (.agg #[.int .i64 0, .bool false, .string ByteArray.empty]) 3 32 Tryz.underlying41 hj hy0 hy1 hy2 rfl (by decide) (.slice ao out.length co) out.length (encEnts out) rfl (HO.out.alloc _) ⟨wr.heap.size, 0, none⟩ 1 1 (encEnt ye) rfl (by rw [HYE.out]; rfl) ?c1 (encEnt_one _) q1 q2 ?c5 ?_)
                case c1 => rw [HYE.out]; first | exact cells_new wr [.int .i64 m, .bool true, .string (rf m).bytes] 98 | exact fun _ _ h => h
                case c5 => first | exact hwz | omega | (simp; omega)
                intro v' w3 hown' hgrow _
                have HB2 := hid ((HB.out.alloc HB.out.size (.cells #[.int .i64 m, .bool true, .string (rf m).bytes] 98)).grown hgrow (by simp; omega) (fun j hj => (HO.out.lt j hj).1))
                have HO2 := hid (show w3.ownsRow w4.heap.size 98 3 v' (out ++ [ye]).length (encEnts (out ++ [ye])) by rw [encEnts_append, List.length_append]; simpa [encEnts] using hown')
                clear hown' hgrow
                go_wp2
                go_roundw
                case rel => exact ⟨m + 1, by omega, by go_num, hid (by rw [HSU.out]; exact HO2.out), HB2⟩
                case measure => simp [intOf]; omega
              · have HSU := hid (show listW rf n zt (m + 1) = listW rf n zt m from by rw [hsu, if_neg hin, List.append_nil])
                clear hsu H2 Z2
                by_cases hi1 : (n : Int) ≤ (m : Int)
                · have hge : (m : Int) ≥ (n : Int) := hi1
                  by_cases hi2 : (m : Int) ≤ zt
                  · have hi3 : (rf m).there = false := by
                      cases hq : (rf m).there
                      · rfl
                      · exact absurd ⟨hi1, hi2, hq⟩ hin
                    rw [hi3] at m1
                    clear hin
                    go_wp2
                    go_roundw
                    case rel => exact ⟨m + 1, by omega, by go_num, hid (by rw [HSU.out]; exact HO.out), HB⟩
                    case measure => simp [intOf]; omega
                  · clear hin
                    go_wp2
                    go_roundw
                    case rel => exact ⟨m + 1, by omega, by go_num, hid (by rw [HSU.out]; exact HO.out), HB⟩
                    case measure => simp [intOf]; omega
                · have hge : ¬ (m : Int) ≥ (n : Int) := hi1
                  clear hin
                  go_wp2
                  go_roundw
                  case rel => exact ⟨m + 1, by omega, by go_num, hid (by rw [HSU.out]; exact HO.out), HB⟩
                  case measure => simp [intOf]; omega
            · obtain rfl : m = 8 := by omega
              have HSO := hid hso
              have HSZ := hid (sliceAt_below S4.out HB.out)
              have z5 : wr.cell? ⟨b8, 5, none⟩ = some (.slice zad zl.length zcap) := Z2.out.cell 5
              clear hso HO Z2
              cases rb with
              | false =>
                have HT3 := hid (show R = replayA (rf, false) ((l.drop (k + 1)).map (·.a)) from HT2.out)
                clear HT2
                go_wp2
                go_roundw
                case rel => exact ⟨k + 1, (rf, false), by omega, by go_num, rfl, HT3, H2⟩
                case measure => simp [intOf]; omega
              | true =>
                have HT3 := hid (show ∀ q : Bool, (q = true ↔ listW rf n zt 8 = zl) → R = replayA (rf, q) ((l.drop (k + 1)).map (·.a)) from fun q hq => by
                  rw [HT2.out]
                  by_cases e : listW rf n zt 8 = zl
                  · rw [decide_eq_true e, hq.2 e]; rfl
                  · rw [decide_eq_false e, show q = false by cases q; rfl; exact absurd (hq.1 rfl) e]; rfl)
                clear HT2
                generalize listW rf n zt 8 = out at *
                go_wp2_with fail
                (with_reducible refine (ref_SamePairs ao zad co zcap out zl wr (by omega) hz8 HSO.out HSZ.out).mono ?_)
                rintro e w' ⟨bq, rfl, hiff, hb⟩
                have HQ2 := hid (HT3.out bq hiff)
                have H3 := hid (H2.out.keep hb)
                clear hb hiff H2 HT3
                go_wp2
                go_roundw
                case rel => exact ⟨k + 1, (rf, _), by omega, by go_num, rfl, HQ2, H3⟩
                case measure => simp [intOf]; omega
        · have HT2 := hid (show R = replayA (rf, rb) ((l.drop (k + 1)).map (·.a)) from by rw [HT.out]; unfold stepA; simp only; rw [if_neg h2, if_neg h3, if_neg h5])
          have o5 : (kd == 5) = false := by simpa using h5
          clear h2 h3 h5 HT m1 m2 r1 r2
          go_wp2_with fail
          go_quiet (fail)
          have H4 := hid (H1.out.keep (below_drewN w1 nq))
          have Z4 := hid (Z1.out.keep (below_drewN w1 nq))
          generalize w1.drewN nq = w4 at *
          have p0 := Z4.out.cell 0
          go_wp2
          go_roundw
          case rel => exact ⟨k + 1, (rf, rb), by omega, by go_num, rfl, HT2, H4⟩
          case measure => simp [intOf]; omega
    · obtain rfl : k = l.length := by omega
      have HE := hid (show R = (rf, rb) from by rw [HQ.out, List.drop_length]; rfl)
      clear HQ
      simp only at H
      go_wp2_with (first
        | refine wpList_load_vals rfl (.tmp 2) rfl w.heap.size rfl rf H.out.box ?_
        | (refine wpList_store_mid rfl 48 (.tmp 4) (.tmp 89) rfl (w.heap.size + 1) 0 (vals8 rf).toArray rfl rfl (H.out.res.there8 _) Tryz.infoWorld (vals8_one _) ?_
           have L3 := hid (H.out.res.setAll (vs := (vals8 rf).toArray.toList) rfl)
           have B3 := hid (Below.setCells' (Nat.le_succ w.heap.size) (vals8 rf).toArray.toList 0 H.out.below)
           generalize wr.setCells (w.heap.size + 1) 0 (vals8 rf).toArray.toList = w3 at *))
      have hr := run_loadVar_mid (P := Tryz.prog) w3 (w.heap.size + 1) 0 48 (vals8 rf) _ L3.out.range Tryz.underlying48 rfl Tryz.infoWorld
      refine bodyPost_ret (v := .tuple #[.agg (vals8 rf).toArray, .bool rb]) (by simp [results, Tryz.results12, asAddr, hr]) rfl ?_
      exact HF.out _ HE.out _ B3.out

end Go.Proofs.YtoiobhcgpajogadGreat
