/- The house of a vault's law: rows of pointers, memory. -/
import Derived.Test.YtoiobhcgpajogacHouse2
import Derived.Test.YtoiobhcgpajogacCourt4
import Derived.Test.YtoiobhcgpajogacCodec7
namespace Go.Proofs.Ytoiobhcgpajogac
open Go.RowKit

/-- A row of single cells behind a slice: the slice owns it, or it is full. -/
def RowP (w : World) (g : Nat → Nat) (q e : Nat) (v : Value) (xs : List Value) : Prop :=
  RowC w g q e 1 v xs.length xs ∨ ∃ b o, v = .slice (some ⟨b, o, none⟩) xs.length xs.length ∧ b < w.heap.size ∧ g b = q ∧ SliceAt w (some ⟨b, o, none⟩) xs

section
variable {lo hi : Nat} {w w' : World} {g g' : Nat → Nat} {q e : Nat} {v : Value} {xs : List Value}

theorem RowP.nil (w : World) (g : Nat → Nat) (q e : Nat) : RowP w g q e (.slice none 0 0) [] := .inl ⟨World.ownsRow_nil w 0 e 1, nofun⟩

theorem RowP.slice (h : RowP w g q e v xs) : ∃ a cap, v = .slice a xs.length cap ∧ SliceAt w a xs ∧ (∀ ad, a = some ad → ad.block < w.heap.size ∧ g ad.block = q) := by
  rcases h with ⟨h1, h2⟩ | ⟨b, o, rfl, hb, hg, hs⟩
  · obtain ⟨a, cap, rfl, hs, ho⟩ := ownsRow.sliceAt h1
    exact ⟨a, cap, rfl, hs, fun ad e => ⟨(h1.lt _ (ho ad e)).2, h2 _ (ho ad e)⟩⟩
  · exact ⟨_, _, rfl, hs, fun ad e => by cases e; exact ⟨hb, hg⟩⟩

theorem RowP.frame (h : RowP w g q e v xs) (k : Evo lo hi g g' w w') (hc : q < lo ∨ hi ≤ q) : RowP w' g' q e v xs := by
  rcases h with h | ⟨b, o, rfl, hb, hg, hs⟩
  · exact .inl (h.frame k hc)
  · exact .inr ⟨b, o, rfl, Nat.lt_of_lt_of_le hb k.size, (k.col b hb).trans hg, hs.lift (fun ad e => by cases e; exact k.same b hb (by rw [hg]; omega))⟩

theorem RowP.below (h : RowP w g q e v xs) (k : Below w.heap.size w w') : RowP w' g q e v xs := by
  rcases h with h | ⟨b, o, rfl, hb, hg, hs⟩
  · exact .inl (h.below k)
  · exact .inr ⟨b, o, rfl, Nat.lt_of_lt_of_le hb k.size, hg, hs.lift (fun ad e => by cases e; exact k.block b hb)⟩

/-- Of a row the first ones, full. -/
theorem RowP.take (h : RowP w g q e v xs) {a : Option Addr} {cap : Nat} (hv : v = .slice a xs.length cap) {k : Nat} (hk : k < xs.length) :
    RowP w g q e (.slice a k k) (xs.take k) := by
  obtain ⟨a', cap', e', hs, hb⟩ := h.slice
  rw [hv] at e'
  cases e'
  have hl : (xs.take k).length = k := by simp; omega
  have hne : xs ≠ [] := by rintro rfl; cases hk
  rcases hs with hs | ⟨b, o, rfl, hs⟩
  · exact absurd hs hne
  refine .inr ⟨b, o, by rw [hl], (hb _ rfl).1, (hb _ rfl).2, .inr ⟨b, o, rfl, fun j u hu => hs j u ?_⟩⟩
  rw [List.getElem?_take] at hu
  split at hu
  · exact hu
  · cases hu

/-- append to a row, be it the slice's own or full. -/
theorem run_append_p {P : Program} (t ty : TypeId) (i : TypeInfo) (z : Value) (ht : P.underlying t = some (.slice e)) (hi : P.info? e = some i) (hz : i.zero = some z)
    (hsize : i.size = 1) (hby : i.bytes = 8) (hzs : z.cells.size = 1) (h : RowP w g q e v xs) (ad : Addr) (c : Nat) (news : List Value) (hnews : ∀ j u, news[j]? = some u → w.cell? (ad.add j) = some u) (h1 : ∀ u ∈ news, u.oneCell' = true)
    (hpos : 0 < news.length) (h63 : xs.length + news.length ≤ 1000000) :
    ∃ v' w', (Builtin.append_ #[t, t] ty #[v, .slice (some ad) news.length c]).run P w = .ok v' w' ∧ RowP w' (extc g w q) q e v' (xs ++ news) ∧ Evo q (q + 1) g (extc g w q) w w' := by
  have l1 : xs.length + news.length ≤ maxLen := by unfold maxLen; omega
  have l2 : (xs.length + news.length) * 8 ≤ 140737488355328 := by omega
  rcases h with h | ⟨b, o, rfl, hb, hg, hs⟩
  · obtain ⟨v', w', hr, ho, hgr, hf⟩ := run_append2 (P := P) w t ty e i z 1 8 ht hi hz hsize hby hzs (by decide) v xs.length xs h.1 ad news.length c news (by omega) hnews h1 l1 l2
    obtain ⟨hR, hE⟩ := h.grown ho hgr hf
    exact ⟨v', w', hr, .inl (by rw [List.length_append]; exact hR), hE⟩
  · obtain ⟨v', w', hr, ho, hgr⟩ := run_append_arg_grows (P := P) w t ty e i z 1 8 ht hi hz hsize hby hzs (by decide) ⟨b, o, none⟩ xs.length xs.length xs (by omega)
      (by
        intro j u hu
        rcases hs with h | ⟨b', o', e, h⟩
        · rw [h] at hu; cases hu
        · cases e
          rw [Addr.add_lit]
          exact h j u hu) ad news.length c news (by omega) hnews (by omega) l1 l2
    refine ⟨v', w', hr, .inl ⟨by rw [List.length_append]; exact ownsRow.zero ho, fun r hr => ?_⟩, evo_grown hgr (by intro k hk; cases hk)⟩
    exact extc_new (ho.lt r hr).1

theorem RowP.cap (h : RowP w g q e v xs) : ∃ a cap, v = .slice a xs.length cap ∧ xs.length ≤ cap := by
  rcases h with ⟨h1, -⟩ | ⟨b, o, rfl, -⟩
  · rcases h1.2 with ⟨rfl, hn⟩ | ⟨g, cap, cur, rfl, -, -, hn, -⟩
    · exact ⟨none, 0, by rw [hn], by omega⟩
    · exact ⟨_, cap, rfl, hn⟩
  · exact ⟨_, _, rfl, Nat.le_refl _⟩

/-- append of a slice to a row. -/
theorem run_append_row {P : Program} (t ty : TypeId) (i : TypeInfo) (z : Value) (ht : P.underlying t = some (.slice e)) (hi : P.info? e = some i) (hz : i.zero = some z)
    (hsize : i.size = 1) (hby : i.bytes = 8) (hzs : z.cells.size = 1) (h : RowP w g q e v xs) (b : Option Addr) (c : Nat) (news : List Value) (hs : SliceAt w b news) (h1 : ∀ u ∈ news, u.oneCell' = true)
    (h63 : xs.length + news.length ≤ 1000000) :
    ∃ v' w', (Builtin.append_ #[t, t] ty #[v, .slice b news.length c]).run P w = .ok v' w' ∧ RowP w' (extc g w q) q e v' (xs ++ news) ∧ Evo q (q + 1) g (extc g w q) w w' := by
  by_cases h0 : news = []
  · subst h0
    obtain ⟨a, cap, rfl, hle⟩ := h.cap
    refine ⟨_, w, run_append_nil w t ty e i ht hi a _ _ hle b c, ?_, Evo.of_below g q (Below.refl _ _)⟩
    rw [List.append_nil]
    exact h.frame (Evo.of_below (lo := 0) (hi := 0) g q (Below.refl _ _)) (by omega)
  · have hp : 0 < news.length := List.length_pos_iff.2 h0
    rcases hs with hs | ⟨b', o', rfl, hs⟩
    · exact absurd hs h0
    · exact run_append_p t ty i z ht hi hz hsize hby hzs h ⟨b', o', none⟩ c news (fun j u hu => by rw [Addr.add_lit]; exact hs j u hu) h1 hp h63

theorem wp_append_row {P : Program} {o : Oper} {a : Act} {K : Act → World → Prop} {Q : Exit → Act → World → Prop} (s y : Operand) (t : TypeId) (hop : o.op = Op.call { callee := Callee.builtin Builtin.append, args := #[s, y], argTypes := #[t, t] })
    (i : TypeInfo) (z : Value) (ht : P.underlying t = some (.slice e)) (hi : P.info? e = some i) (hz : i.zero = some z)
    (hsize : i.size = 1) (hby : i.bytes = 8) (hzs : z.cells.size = 1) (v : Value) (xs : List Value) (hsv : a.eval s = v) (h : RowP w g q e v xs) (b : Option Addr) (m c : Nat) (news : List Value) (hyv : a.eval y = .slice b m c) (hm : m = news.length)
    (hs : SliceAt w b news) (h1 : ∀ u ∈ news, u.oneCell' = true) (h63 : xs.length + news.length ≤ 1000000)
    (hK : ∀ v' w', RowP w' (extc g w q) q e v' (xs ++ news) → Evo q (q + 1) g (extc g w q) w w' → K (a.put o.dst v') w') : o.wp P a w K Q := by
  subst hm
  obtain ⟨v', w', hr, h2, h3⟩ := run_append_row (P := P) t o.type i z ht hi hz hsize hby hzs h b c news hs h1 h63
  unfold Oper.wp execOp
  simp only [hop, resolve, invoke, builtin, Sem.run_bind, Sem.run_pure, Result.andThen_ok, List.map_toArray, List.map_cons, List.map_nil, hsv, hyv, hr]
  exact hK v' w' h2 h3

/-- As one step of a region that draws. -/
theorem step_append_row {P : Program} {ops : Array Oper} {o : Oper} {a : Act} {K : Act → World → Prop} {Q : Exit → Act → World → Prop} {E : Prop} (hgd : o.guard = none) (s y : Operand) (t : TypeId)
    (hop : o.op = Op.call { callee := Callee.builtin Builtin.append, args := #[s, y], argTypes := #[t, t] })
    (i : TypeInfo) (z : Value) (ht : P.underlying t = some (.slice e)) (hi : P.info? e = some i) (hz : i.zero = some z)
    (hsize : i.size = 1) (hby : i.bytes = 8) (hzs : z.cells.size = 1) (v : Value) (xs : List Value) (hsv : a.eval s = v) (h : RowP w g q e v xs) (b : Option Addr) (m c : Nat) (news : List Value) (hyv : a.eval y = .slice b m c) (hm : m = news.length)
    (hs : SliceAt w b news) (h1 : ∀ u ∈ news, u.oneCell' = true) (h63 : xs.length + news.length ≤ 1000000)
    (hK : ∀ v' w', RowP w' (extc g w q) q e v' (xs ++ news) → Evo q (q + 1) g (extc g w q) w w' → K (a.put o.dst v') w') :
    if Region.wanted o (yielded ops a.tmps) = true then Oper.wp P o a w K Q else E := by
  have hw : Region.wanted o (yielded ops a.tmps) = true := by simp [Region.wanted, hgd]
  rw [if_pos hw]
  exact wp_append_row s y t hop i z ht hi hz hsize hby hzs v xs hsv h b m c news hyv hm hs h1 h63 hK
end

end Go.Proofs.Ytoiobhcgpajogac
