/- The document's log, as it lies in a court, in memory; the walks of Bytes, Put, Tear and Mend. -/
import Derived.Test.YtoiobhcgpajogaaGreatDoorLog1
import Derived.Test.YtoiobhcgpajogaaGreatDoorCodec7
namespace Go.Proofs.YtoiobhcgpajogaaGreatDoor
open Go.RowKit

theorem Loc.three {w : World} {b : Nat} {T : TypeId} {s x y : Value} {qs : List Value} (h : Loc w b T (s :: x :: y :: qs)) : w.cell? ⟨b, 1, none⟩ = some x ∧ w.cell? ⟨b, 2, none⟩ = some y ∧ w.frozen? ⟨b, 1, none⟩ = false ∧ w.frozen? ⟨b, 2, none⟩ = false :=
  ⟨h.cell 1, h.cell 2, h.free 1, h.free 2⟩

variable {sv : Value} {qs : List Value}

/-- A slice of pairs that lies in memory of the colour q. -/
def PairSl (w : World) (g : Nat → Nat) (q : Nat) (v : Value) (l : List Ent) : Prop :=
  ∃ a cap, v = .slice a l.length cap ∧ SliceAt w a (encEnts l) ∧ ∀ ad, a = some ad → ad.block < w.heap.size ∧ g ad.block = q

theorem PairSl.frame {lo hi : Nat} {g g' : Nat → Nat} {w w' : World} {q : Nat} {v : Value} {l : List Ent} (h : PairSl w g q v l) (k : Evo lo hi g g' w w') (hc : q < lo ∨ hi ≤ q) : PairSl w' g' q v l := by
  obtain ⟨a, cap, h1, h2, h3⟩ := h
  refine ⟨a, cap, h1, h2.lift (fun ad e => k.same _ (h3 ad e).1 (by have := (h3 ad e).2; omega)), fun ad e => ?_⟩
  obtain ⟨i1, i2⟩ := h3 ad e
  exact ⟨Nat.lt_of_lt_of_le i1 k.size, (k.col _ i1).trans i2⟩

/-- The slices of a log's commits. -/
def PairSls (w : World) (g : Nat → Nat) (q : Nat) : List Value → List (List Ent) → Prop
  | [], [] => True
  | v :: vs, l :: ls => PairSl w g q v l ∧ PairSls w g q vs ls
  | _, _ => False

theorem PairSls.frame {lo hi : Nat} {g g' : Nat → Nat} {w w' : World} {q : Nat} (k : Evo lo hi g g' w w') (hc : q < lo ∨ hi ≤ q) : ∀ {vs : List Value} {ls : List (List Ent)}, PairSls w g q vs ls → PairSls w' g' q vs ls
  | [], [], _ => trivial
  | _ :: _, _ :: _, ⟨h1, h2⟩ => ⟨h1.frame k hc, PairSls.frame k hc h2⟩

theorem PairSls.snoc {w : World} {g : Nat → Nat} {q : Nat} {v : Value} {l : List Ent} (h0 : PairSl w g q v l) : ∀ {vs : List Value} {ls : List (List Ent)}, PairSls w g q vs ls → PairSls w g q (vs ++ [v]) (ls ++ [l])
  | [], [], _ => ⟨h0, trivial⟩
  | _ :: _, _ :: _, ⟨h1, h2⟩ => ⟨h1, PairSls.snoc h0 h2⟩

theorem PairSls.length {w : World} {g : Nat → Nat} {q : Nat} : ∀ {vs : List Value} {ls : List (List Ent)}, PairSls w g q vs ls → vs.length = ls.length
  | [], [], _ => rfl
  | _ :: _, _ :: _, ⟨_, h2⟩ => by simp [PairSls.length h2]

theorem PairSls.get {w : World} {g : Nat → Nat} {q : Nat} : ∀ {vs : List Value} {ls : List (List Ent)}, PairSls w g q vs ls → ∀ i (hi : i < ls.length), ∃ v, vs[i]? = some v ∧ PairSl w g q v ls[i]
  | [], [], _, i, hi => by cases hi
  | v :: vs, l :: ls, ⟨h1, h2⟩, i, hi => by
    cases i with
    | zero => exact ⟨v, rfl, h1⟩
    | succ i =>
      obtain ⟨u, h3, h4⟩ := PairSls.get h2 i (by simpa using hi)
      exact ⟨u, by simpa using h3, by simpa using h4⟩

theorem PairSls.one {w : World} {g : Nat → Nat} {q : Nat} : ∀ {vs : List Value} {ls : List (List Ent)}, PairSls w g q vs ls → ∀ u ∈ vs, u.oneCell' = true
  | [], [], _, u, hu => by cases hu
  | v :: vs, l :: ls, ⟨h1, h2⟩, u, hu => by
    rcases List.mem_cons.1 hu with rfl | hu
    · obtain ⟨a, cap, rfl, -⟩ := h1; rfl
    · exact PairSls.one h2 u hu

def RollAt (w : World) (g : Nat → Nat) (p b : Nat) (sv : Value) (qs : List Value) (G : Lg) : Prop :=
  ∃ (vl : Value) (svs : List Value) (ta : Option Addr) (tc : Nat), LocC w g p b 67 (sv :: vl :: .slice ta G.torn.length tc :: qs) ∧ w.ownsRow 0 100 1 vl G.l.length svs ∧ (∀ r, vl.ownBlock = some r → g r = p + 2) ∧ PairSls w g (p + 1) svs G.l ∧ RowB w g (p + 3) ta tc G.torn

theorem RollAt.frame {lo hi : Nat} {g g' : Nat → Nat} {w w' : World} {p b : Nat} {G : Lg} (h : RollAt w g p b sv qs G) (k : Evo lo hi g g' w w') (hc : p + 4 ≤ lo ∨ hi ≤ p) : RollAt w' g' p b sv qs G := by
  obtain ⟨vl, svs, ta, tc, h1, h2, h3, h4, h5⟩ := h
  refine ⟨vl, svs, ta, tc, h1.frame k (by omega), ownsRow.lift h2 (fun r hr => k.same _ (h2.lt r hr).2 (by have := h3 r hr; omega)), fun r hr => (k.col _ (h2.lt r hr).2).trans (h3 r hr), h4.frame k (by omega), h5.frame k (by omega)⟩

theorem RollAt.fresh {g g' : Nat → Nat} {w w' : World} {p b : Nat} {G : Lg} (h : RollAt w g p b sv qs G) (k : Evo 0 0 g g' w w') : RollAt w' g' p b sv qs G := h.frame k (by omega)

theorem RollAt.below {w w' : World} {g : Nat → Nat} {p b : Nat} {G : Lg} (h : RollAt w g p b sv qs G) (k : Below w.heap.size w w') : RollAt w' g p b sv qs G := by
  have hE : Evo 0 0 g g w w' := ⟨k.os, k.tape, k.output, k.size, fun _ _ => rfl, fun j hj _ => k.block j hj⟩
  exact h.fresh hE

theorem RollAt.facts {w : World} {g : Nat → Nat} {p b : Nat} {G : Lg} (h : RollAt w g p b sv qs G) :
    ∃ (vl : Value) (svs : List Value) (ta : Option Addr) (la : Option Addr) (lc tc : Nat), vl = .slice la G.l.length lc ∧ w.cell? ⟨b, 1, none⟩ = some vl ∧ w.cell? ⟨b, 2, none⟩ = some (.slice ta G.torn.length tc) ∧ RowB w g (p + 3) ta tc G.torn ∧ b < w.heap.size ∧
      ∀ i (hi : i < G.l.length), ∃ r a c, la = some ⟨r, 0, none⟩ ∧ G.l.length ≤ lc ∧ w.cell? ⟨r, i, none⟩ = some (.slice a G.l[i].length c) ∧ SliceAt w a (encEnts G.l[i]) := by
  obtain ⟨vl, svs, ta, tc, h1, h2, h3, h4, h5⟩ := h
  obtain ⟨la, lc, rfl, -, -⟩ := ownsRow.sliceAt h2
  obtain ⟨c0, c1, -, -⟩ := h1.1.three
  refine ⟨_, svs, ta, la, lc, tc, rfl, c0, c1, h5, h1.1.lt, fun i hi => ?_⟩
  obtain ⟨r, cap, hv, hcap, -⟩ := ownsRow.some h2 (by omega)
  obtain ⟨rfl, -, rfl⟩ := Value.slice.inj hv
  obtain ⟨v, hv1, a, c, rfl, hs, -⟩ := h4.get i hi
  exact ⟨r, a, c, rfl, hcap, by
    have hi' : i < svs.length := by rw [h4.length]; exact hi
    have := h2.cellAt i (by omega)
    rw [hv1] at this
    exact this, hs⟩

theorem encAll_take (L : List (List Ent)) (k : Nat) (h : k < L.length) : encAll (L.take (k + 1)) = encAll (L.take k) ++ encL L[k] := by
  rw [List.take_succ_eq_append_getElem h, encAll_snoc]

theorem encAll_le (L : List (List Ent)) (k : Nat) : (encAll (L.take k)).length ≤ (encAll L).length := by
  have : encAll L = encAll (L.take k) ++ encAll (L.drop k) := by rw [encAll, encAll, encAll, ← List.flatMap_append, List.take_append_drop]
  rw [this, List.length_append]; omega

/-- Bytes that are handed back as a row in new memory. -/
def RowPostB (l : List UInt8) (w : World) (e : Ending) (w' : World) : Prop :=
  ∃ v n, e = .returned v ∧ w'.ownsRow w.heap.size 5 1 v n (Lib.byteCells l) ∧ Below w.heap.size w w'

set_option maxHeartbeats 2000000 in
set_option maxRecDepth 100000 in
theorem roll_Bytes (g : Nat → Nat) (p b : Nat) (G : Lg) (w : World) (hok : ∀ x ∈ G.l, ckPs (-1) x = 0) (hlen : G.bytes.length ≤ 100000) (h40 : G.l.length ≤ 1000) (hG : RollAt w g p b sv qs G) :
    Calls Tryz.prog 133 #[.pointer (some ⟨b, 1, none⟩)] w (RowPostB G.bytes w) := by
  have HG := hid hG
  have HOK := hid hok
  obtain ⟨i0, hi, hz0, hz1, hz2⟩ := info_parts Tryz.infoU8
  have N0 := hid (World.ownsRow_nil w w.heap.size 5 1)
  have hle := encAll_le G.l
  have hbl : (encAll G.l).length + G.torn.length = G.bytes.length := by simp [Lg.bytes]
  have HLE := hid hle
  have HBL := hid hbl
  clear hG hok hle hbl
  go_enter Tryz.func133, Tryz.ntmps133
  go_wp2
  go_loopw [3, 4] (fun o i wr => ∃ k : Nat, k ≤ G.l.length ∧ i = .int .i64 k ∧ Hid (wr.ownsRow w.heap.size 5 1 o (encAll (G.l.take k)).length (Lib.byteCells (encAll (G.l.take k)))) ∧ Hid (Below w.heap.size w wr)) (fun _ i _ => G.l.length - (intOf i).toNat)
  case atStart => exact ⟨0, Nat.zero_le _, rfl, N0, hid (Below.refl _ _)⟩
  case round =>
    obtain ⟨k, hk, rfl, HO, HB⟩ := hrel
    clear N0
    obtain ⟨vl, svs, ta, la, lc, tc, rfl, f0, f1, fR, fb, fe⟩ := (HG.out.below HB.out).facts
    have hpre := HLE.out k
    have hbl := HBL.out
    by_cases hlt : k < G.l.length
    · obtain ⟨r, a1, c1, rfl, hlc, hcell, hs1⟩ := fe k hlt
      have hki : (k : Int) < (G.l.length : Int) := by omega
      have hk0 : (0 : Int) ≤ (k : Int) := by omega
      have hc := HOK.out G.l[k] (List.getElem_mem _)
      have hst := hid (encAll_take G.l k hlt)
      have HBO := hid (ref_BytesOf a1 c1 G.l[k] wr hc hs1)
      have hel := (encL_bound hc).2
      have hel2 := (encL_bound hc).1
      obtain ⟨ao, co, rfl, -, -⟩ := ownsRow.sliceAt HO.out
      clear fe hs1 fR hc
      generalize G.l[k] = x at *
      generalize encAll (G.l.take k) = pre at *
      have t1 : pre.length + (encL x).length ≤ maxLen := by unfold maxLen; omega
      have t2 : (pre.length + (encL x).length) * 1 ≤ 140737488355328 := by omega
      go_wp2_with fail
      (with_reducible refine HBO.out.mono ?_)
      rintro e w2 ⟨v2, n2, rfl, hown2, hb2⟩
      obtain ⟨a2, c2, rfl, hx2, hnone2, -⟩ := BytesIn.of_row hown2
      have hn2 : n2 = (encL x).length := by have := hown2.1; rw [byteCells_length] at this; omega
      subst hn2
      have HX2 := hid hx2
      have HN2 := hid hnone2
      have HO2 := hid (ownsRow.lift HO.out (fun r hr => hb2.block r (HO.out.lt r hr).2))
      have HB2 := hid (HB.out.trans (hb2.mono HB.out.size))
      clear hown2 hb2 hx2 hnone2 HBO
      generalize encL x = ex at *
      go_wp2_with (refine wpList_app rfl (.tmp 14) (.tmp 22) 40 rfl w.heap.size 5 i0 (.int .u8 0) 1 1 Tryz.underlying40 hi hz0 hz1 hz2 rfl (by decide) (.slice ao pre.length co) pre.length (Lib.byteCells pre) rfl HO2.out a2 ex.length c2 (Lib.byteCells ex) rfl (by rw [byteCells_length]; simp) HX2.out.2 HN2.out (oneCell_bytes _) t1 t2 HB2.out.size ?_; intro v3 w3 ho3 hg3; have HB3 := hid (HB2.out.grown hg3 HB2.out.size (fun j hj => (HO2.out.lt j hj).1)); have HO3 := hid ho3; clear ho3 hg3)
      go_roundw
      case rel => exact ⟨k + 1, by omega, by go_num, hid (by rw [hst.out, byteCells_append, List.length_append]; exact HO3.out), HB3⟩
      case measure => simp [intOf]; omega
    · obtain rfl : k = G.l.length := by omega
      rw [List.take_length] at HO hpre
      obtain ⟨ao, co, rfl, -, -⟩ := ownsRow.sliceAt HO.out
      have HR := hid fR
      have hby := hid (show G.bytes = encAll G.l ++ G.torn from rfl)
      have t1 : (encAll G.l).length + G.torn.length ≤ maxLen := by unfold maxLen; omega
      have t2 : ((encAll G.l).length + G.torn.length) * 1 ≤ 140737488355328 := by omega
      clear fe fR
      generalize encAll G.l = pre at *
      go_wp2_with (refine wpList_app rfl (.tmp 24) (.tmp 28) 40 rfl w.heap.size 5 i0 (.int .u8 0) 1 1 Tryz.underlying40 hi hz0 hz1 hz2 rfl (by decide) (.slice ao pre.length co) pre.length (Lib.byteCells pre) rfl HO.out ta G.torn.length tc (Lib.byteCells G.torn) rfl (by rw [byteCells_length]; simp) HR.out.2.1 HR.out.2.2.1 (oneCell_bytes _) t1 t2 HB.out.size ?_; intro v3 w3 ho3 hg3; have HB3 := hid (HB.out.grown hg3 HB.out.size (fun j hj => (HO.out.lt j hj).1)); have HO3 := hid ho3; clear ho3 hg3)
      go_ret
      refine ⟨v3, pre.length + G.torn.length, rfl, ?_, HB3.out⟩
      rw [hby.out, byteCells_append]
      exact HO3.out

theorem PairSls.pop {w : World} {g : Nat → Nat} {q : Nat} {l : List Ent} : ∀ {ls : List (List Ent)} {vs : List Value}, PairSls w g q vs (ls ++ [l]) → ∃ vs' v, vs = vs' ++ [v] ∧ PairSls w g q vs' ls
  | [], [], h => h.elim
  | [], [v], _ => ⟨[], v, rfl, trivial⟩
  | [], _ :: _ :: _, h => h.2.elim
  | _ :: _, [], h => h.elim
  | _ :: _, v :: _, h => by
    obtain ⟨vs', u, rfl, h3⟩ := PairSls.pop h.2
    exact ⟨v :: vs', u, rfl, h.1, h3⟩

theorem ownsRow.shrink {w : World} {B e : Nat} {a : Option Addr} {n m cap : Nat} {xs : List Value} {x : Value} (h : w.ownsRow B e 1 (.slice a m cap) (n + 1) (xs ++ [x])) : w.ownsRow B e 1 (.slice a n cap) n xs := by
  obtain ⟨h1, h2⟩ := h
  have hx : xs.length = n := by simpa using h1
  rcases h2 with ⟨h2, h3⟩ | ⟨g, cap', cur, h2, h3, h4, h5, h6, h7, h8⟩
  · omega
  · obtain ⟨rfl, -, rfl⟩ := Value.slice.inj h2
    refine ⟨by omega, .inr ⟨g, cap, cur, rfl, h3, h4, by omega, h6, h7, ?_⟩⟩
    have := congrArg (List.take n) h8
    rw [List.take_take, show min n ((n + 1) * 1) = n by omega, List.take_append_of_le_length (by omega), List.take_of_length_le (l := xs) (by omega)] at this
    simpa using this

/-- A copy of pairs, in new memory. -/
theorem run_append_copy (w : World) (ty : TypeId) (a : Option Addr) (l : List Ent) (c : Nat) (hl : l.length ≤ 1000000) (hs : SliceAt w a (encEnts l)) :
    ∃ a' c' w', (Builtin.append_ #[100, 100] ty #[.slice none 0 0, .slice a l.length c]).run Tryz.prog w = .ok (.slice a' l.length c') w' ∧ SliceAt w' a' (encEnts l) ∧ Below w.heap.size w w' ∧ (∀ ad, a' = some ad → w.heap.size ≤ ad.block ∧ ad.block < w'.heap.size) := by
  obtain ⟨i0, hi, hz0, hz1, hz2⟩ := info_parts Tryz.infoPair
  by_cases h0 : l = []
  · subst h0
    exact ⟨none, 0, w, run_append_nil w _ _ _ _ Tryz.underlying100 hi none _ _ (Nat.le_refl _) a c, .inl rfl, Below.refl _ _, nofun⟩
  · obtain ⟨b2, o2, rfl, -⟩ := hs.ents (List.length_pos_iff.2 h0)
    have hnews : ∀ j u, (encEnts l)[j]? = some u → w.cell? ((⟨b2, o2, none⟩ : Addr).add j) = some u := by
      intro j u hu
      rcases hs with h | ⟨b', o', e, h⟩
      · rw [h] at hu; cases hu
      · cases e
        rw [Addr.add_lit]
        exact h j u hu
    obtain ⟨v', w', hr, h1, h2, -⟩ := run_append_own (P := Tryz.prog) w w.heap.size 100 ty 106 i0 _ 3 32 Tryz.underlying100 hi hz0 hz1 hz2 rfl (by decide) (.slice none 0 0) 0 [] (World.ownsRow_nil w _ _ 3) ⟨b2, o2, none⟩ l.length c (encEnts l) (encEnts_length l) hnews (encEnts_one l) (by unfold maxLen; omega) (by omega) (Nat.le_refl _)
    rw [Nat.zero_add, List.nil_append] at h1
    obtain ⟨a', c', rfl, hs', hb'⟩ := ownsRow.sliceAt h1
    exact ⟨a', c', w', hr, hs', (Below.refl _ _).grown h2 (Nat.le_refl _) (by intro j hj; cases hj), fun ad e => h1.lt ad.block (hb' ad e)⟩

section
variable {ops : Array Oper} {o : Oper} {a : Act} {w : World} {K : Act → World → Prop} {Q : Exit → Act → World → Prop} {E : Prop}

theorem step_run {P : Program} (hg : o.guard = none) (s x : Operand) (t : TypeId) (hop : o.op = Op.call { callee := Callee.builtin Builtin.append, args := #[s, x], argTypes := #[t, t] })
    (sv xv v' : Value) (w' : World) (hs : a.eval s = sv) (hx : a.eval x = xv) (hrun : (Builtin.append_ #[t, t] o.type #[sv, xv]).run P w = .ok v' w') (hK : K (a.put o.dst v') w') :
    if Region.wanted o (yielded ops a.tmps) = true then Oper.wp P o a w K Q else E := by
  have hw : Region.wanted o (yielded ops a.tmps) = true := by simp [Region.wanted, hg]
  rw [if_pos hw]
  unfold Oper.wp
  simp [execOp, hop, resolve, invoke, builtin, hs, hx, hrun, Result.andThen]
  exact hK

theorem step_copy (hg : o.guard = none) (s x : Operand) (hop : o.op = Op.call { callee := Callee.builtin Builtin.append, args := #[s, x], argTypes := #[100, 100] })
    (ad : Option Addr) (l : List Ent) (c : Nat) (hs : a.eval s = .slice none 0 0) (hx : a.eval x = .slice ad l.length c) (hl : l.length ≤ 1000000) (hsl : SliceAt w ad (encEnts l))
    (hK : ∀ a' c' w', SliceAt w' a' (encEnts l) → Below w.heap.size w w' → (∀ ad, a' = some ad → w.heap.size ≤ ad.block ∧ ad.block < w'.heap.size) → K (a.put o.dst (.slice a' l.length c')) w') :
    if Region.wanted o (yielded ops a.tmps) = true then Oper.wp Tryz.prog o a w K Q else E := by
  obtain ⟨a', c', w', hr, h1, h2, h3⟩ := run_append_copy w o.type ad l c hl hsl
  exact step_run hg s x _ hop _ _ _ w' hs hx hr (hK a' c' w' h1 h2 h3)

theorem step_row (hg : o.guard = none) (s x : Operand) (hop : o.op = Op.call { callee := Callee.builtin Builtin.append, args := #[s, x], argTypes := #[40, 40] })
    (g : Nat → Nat) (p : Nat) (aa : Option Addr) (cap : Nat) (l : List UInt8) (a2 : Option Addr) (cap2 : Nat) (m : List UInt8) (hs : a.eval s = .slice aa l.length cap) (hx : a.eval x = .slice a2 m.length cap2) (hl : l.length ≤ 1000000) (hm : m.length ≤ 1000000) (hm0 : m ≠ [])
    (hR : RowB w g p aa cap l) (h2 : SliceAt w a2 (Lib.byteCells m))
    (hK : ∀ a' cap' w', RowB w' (extc g w p) p a' cap' (l ++ m) → Evo p (p + 1) g (extc g w p) w w' → K (a.put o.dst (.slice a' (l.length + m.length) cap')) w') :
    if Region.wanted o (yielded ops a.tmps) = true then Oper.wp Tryz.prog o a w K Q else E := by
  obtain ⟨a', c', w', hr, h1, h2, -, -⟩ := row_append w g p o.type aa cap l a2 cap2 m hl hm hm0 hR h2
  exact step_run hg s x _ hop _ _ _ w' hs hx hr (hK a' c' w' h1 h2)
end

theorem Tryz.infoSl : (Tryz.prog.info? 100).map (fun i => (i.zero, i.size, i.bytes)) = some (some (.slice none 0 0), 1, 24) := by kernel_rfl

def PutRPost (g : Nat → Nat) (p b : Nat) (sv : Value) (qs : List Value) (x : Int × Lg) (w : World) (e : Ending) (w' : World) : Prop :=
  e = .returned (.int .i64 x.1) ∧ ∃ g', RollAt w' g' p b sv qs x.2 ∧ Evo p (p + 4) g g' w w'

theorem putR_stay {g : Nat → Nat} {p b : Nat} {x : Int} {G : Lg} {w w' : World} (hG : RollAt w g p b sv qs G) (hb : Below w.heap.size w w') : PutRPost g p b sv qs (x, G) w (.returned (.int .i64 x)) w' :=
  ⟨rfl, extc g w p, hG.fresh (Evo.of_below g p hb), Evo.of_below g p hb⟩

/-- One commit more. -/
theorem RollAt.more {w w3 w4 : World} {g : Nat → Nat} {p b : Nat} {G : Lg} {l : List Ent} {vl : Value} {svs : List Value} {ta : Option Addr} {tc : Nat} {a1 la : Option Addr} {c1 lc : Nat}
    (h1 : LocC w g p b 67 (sv :: vl :: .slice ta G.torn.length tc :: qs)) (h2 : w.ownsRow 0 100 1 vl G.l.length svs) (h3 : ∀ r, vl.ownBlock = some r → g r = p + 2) (h4 : PairSls w g (p + 1) svs G.l) (h5 : RowB w g (p + 3) ta tc G.torn)
    (hB : Below w.heap.size w w3) (hs : SliceAt w3 a1 (encEnts l)) (hnew : ∀ ad, a1 = some ad → w.heap.size ≤ ad.block ∧ ad.block < w3.heap.size)
    (ho : w4.ownsRow 0 100 1 (.slice la (G.l.length + 1) lc) (G.l.length + 1) (svs ++ [.slice a1 l.length c1])) (hg : w3.grownBy w4 vl.ownBlock) (hf : (Value.slice la (G.l.length + 1) lc).ownBlock = vl.ownBlock ∨ ∀ k, (Value.slice la (G.l.length + 1) lc).ownBlock = some k → w3.heap.size ≤ k) :
    ∃ g', RollAt (w4.setCell ⟨b, 1, none⟩ (.slice la (G.l.length + 1) lc)) g' p b sv qs ⟨G.l ++ [l], G.torn⟩ ∧ Evo p (p + 4) g g' w (w4.setCell ⟨b, 1, none⟩ (.slice la (G.l.length + 1) lc)) ∧ w4.cell? ⟨b, 1, none⟩ = some vl ∧ w4.frozen? ⟨b, 1, none⟩ = false := by
  let g' : Nat → Nat := fun k => if k < w.heap.size then g k else if (Value.slice la (G.l.length + 1) lc).ownBlock = some k then p + 2 else p + 1
  have hold : ∀ k, k < w.heap.size → g' k = g k := fun k hk => if_pos hk
  have EA : Evo 0 0 g g' w w3 := ⟨hB.os, hB.tape, hB.output, hB.size, hold, fun k hk _ => hB.block k hk⟩
  have hrow : ∀ r, vl.ownBlock = some r → g' r = p + 2 := fun r hr => by
    have := (h2.lt r hr).2
    rw [hold r this]; exact h3 r hr
  have EB : Evo (p + 2) (p + 3) g' g' w3 w4 := ⟨hg.os, hg.tape, hg.output, hg.size, fun _ _ => rfl, fun k hk hn => hg.block k hk (fun e => by have := hrow k e.symm; exact hn ⟨by omega, by omega⟩)⟩
  have L4 := ((h1.frame EA (by omega)).frame EB (by omega))
  have EC : Evo p (p + 1) g' g' w4 (w4.setCell ⟨b, 1, none⟩ (.slice la (G.l.length + 1) lc)) := evo_store _ L4.2
  have hlan : ∀ r, (Value.slice la (G.l.length + 1) lc).ownBlock = some r → g' r = p + 2 := by
    intro r hr
    by_cases hlt : r < w.heap.size
    · rcases hf with h | h
      · exact hrow r (by rw [← h]; exact hr)
      · have := h r hr; have := hB.size; omega
    · show (if r < w.heap.size then g r else if _ then p + 2 else p + 1) = p + 2
      rw [if_neg hlt, if_pos hr]
  have hbl : ∀ r, (Value.slice la (G.l.length + 1) lc).ownBlock = some r → r ≠ b := by
    rintro r hr rfl
    have e1 := hlan _ hr
    have e2 := L4.2
    omega
  refine ⟨g', ⟨_, svs ++ [.slice a1 l.length c1], ta, tc, L4.set 1 _, ?_, hlan, ?_, ((h5.frame EA (by omega)).frame EB (by omega)).frame EC (by omega)⟩, ?_, L4.1.cell 1, L4.1.free 1⟩
  · rw [List.length_append]
    exact ownsRow_setCell_other ho (a := ⟨b, 1, none⟩) (by intro h; exact hbl b (by simpa using h) rfl) _
  · refine PairSls.snoc ?_ (((h4.frame EA (by omega)).frame EB (by omega)).frame EC (by omega))
    have hp : PairSl w3 g' (p + 1) (.slice a1 l.length c1) l := by
      refine ⟨a1, c1, rfl, hs, fun ad e => ⟨(hnew ad e).2, ?_⟩⟩
      show (if ad.block < w.heap.size then _ else if _ then p + 2 else p + 1) = p + 1
      rw [if_neg (by have := (hnew ad e).1; omega), if_neg]
      intro h
      rcases hf with h' | h'
      · rw [h'] at h
        have := (h2.lt _ h).2
        have := (hnew ad e).1
        omega
      · have := h' _ h
        have := (hnew ad e).2
        omega
    exact (hp.frame EB (by omega)).frame EC (by omega)
  · exact ((EA.none (by omega)).trans (EB.wide (by omega) (by omega))).trans (EC.wide (by omega) (by omega))

set_option maxHeartbeats 4000000 in
set_option maxRecDepth 100000 in
theorem roll_Put (g : Nat → Nat) (p b : Nat) (G : Lg) (a : Option Addr) (cap : Nat) (l : List Ent) (w : World) (hl : l.length ≤ 1000000) (hv : ∀ x ∈ l, x.v.bytes.size ≤ maxLen) (hok : G.Ok) (hG : RollAt w g p b sv qs G) (h : SliceAt w a (encEnts l)) :
    Calls Tryz.prog 110 #[.pointer (some ⟨b, 1, none⟩), .slice a l.length cap] w (PutRPost g p b sv qs (putG G l) w) := by
  have HF := hid (ref_PairsFault a cap l w hl hv h)
  have HG := hid hG
  have hlen := hok.2.2.1
  have hn40 := hok.2.1
  obtain ⟨i0, hi, hz0, hz1, hz2⟩ := info_parts Tryz.infoSl
  by_cases hc : ckPs (-1) l = 0
  · obtain ⟨e1, e2⟩ := encL_bound hc
    have hput : putG G l = if 40 ≤ G.l.length ∨ 3000 < G.bytes.length + (encL l).length then (9, G) else (0, ⟨G.l ++ [l], G.torn⟩) := by unfold putG; rw [if_neg (by simpa using hc)]
    have HP := hid hput
    have HS := hid h
    have HBY := hid (fun W (hB : Below w.heap.size w W) => roll_Bytes g p b G W hok.1 (by omega) (by omega) (hG.below hB))
    have HBO := hid (fun W (hB : Below w.heap.size w W) => ref_BytesOf a cap l W hc (sliceAt_below h hB))
    rw [hc] at HF
    clear hput hv h hG hc
    go_enter Tryz.func110, Tryz.ntmps110
    go_wp2_with fail
    (with_reducible refine HF.out.mono ?_)
    rintro e w1 ⟨rfl, hb⟩
    have B1 := hid hb
    obtain ⟨vl, svs, ta, la, lc, tc, hvl, f0, f1, -, -, -⟩ := (HG.out.below hb).facts
    subst hvl
    clear hb HF
    by_cases h40 : 40 ≤ G.l.length
    · have h40' : (40 : Int) ≤ (G.l.length : Int) := by omega
      go_wp2
      go_ret
      rw [HP.out, if_pos (.inl h40)]
      exact putR_stay HG.out B1.out
    · have h40' : (G.l.length : Int) < 40 := by omega
      go_wp2_with fail
      (with_reducible refine (HBY.out w1 B1.out).mono ?_)
      rintro e w2 ⟨v2, n2, rfl, ho2, hb⟩
      have hn2 : n2 = G.bytes.length := by have := ho2.1; rw [byteCells_length] at this; omega
      subst hn2
      obtain ⟨a2, c2, rfl, -, -⟩ := ownsRow.sliceAt ho2
      have B2 := hid (B1.out.trans (hb.mono B1.out.size))
      clear ho2 hb f0 f1
      go_wp2_with fail
      (with_reducible refine (HBO.out w2 B2.out).mono ?_)
      rintro e w3 ⟨v3, n3, rfl, ho3, hb⟩
      have hn3 : n3 = (encL l).length := by have := ho3.1; rw [byteCells_length] at this; omega
      subst hn3
      obtain ⟨a3, c3, rfl, -, -⟩ := ownsRow.sliceAt ho3
      have B3 := hid (B2.out.trans (hb.mono B2.out.size))
      clear ho3 hb HBY HBO
      generalize (encL l).length = en at *
      generalize hgb : G.bytes.length = gb at *
      clear hgb
      by_cases h3 : 3000 < gb + en
      · have h3' : (3000 : Int) < (gb : Int) + (en : Int) := by omega
        go_wp2
        go_ret
        rw [HP.out, if_pos (.inr h3)]
        exact putR_stay HG.out B3.out
      · have h3' : (gb : Int) + (en : Int) ≤ 3000 := by omega
        have HP2 : Hid (putG G l = (0, ⟨G.l ++ [l], G.torn⟩)) := hid (by rw [HP.out, if_neg (by omega)])
        clear h3 HP
        obtain ⟨vl, svs, ta, tc, g1, g2, g3, g4, g5⟩ := HG.out.below B3.out
        obtain ⟨la, lc, rfl, -, -⟩ := ownsRow.sliceAt g2
        have q0 := g1.1.three.1
        have G1 := hid g1
        have G2 := hid g2
        have G3 := hid g3
        have G4 := hid g4
        have G5 := hid g5
        have S3 := hid (sliceAt_below HS.out B3.out)
        have t1 : G.l.length + 1 ≤ maxLen := by unfold maxLen; omega
        have t2 : (G.l.length + 1) * 24 ≤ 140737488355328 := by omega
        clear g1 g2 g3 g4 g5
        go_wp2_with fail
        go_region_law (first
          | (refine step_copy rfl (.tmp 33) (.tmp 34) rfl a l cap rfl rfl hl (sliceAt_below S3.out (Below.refl _ _).drew) ?_; intro a4 c4 w4 hs4 hb4 hn4; have q4 : w4.cell? ⟨b, 1, none⟩ = some (.slice la G.l.length lc) := (hb4.cell (p := ⟨b, 1, none⟩) G1.out.1.lt).trans q0; have q5 : (w4.alloc (.cells #[.slice a4 l.length c4] 100)).cell? ⟨b, 1, none⟩ = some (.slice la G.l.length lc) := (((Below.refl w4.heap.size w4).alloc (Nat.le_refl _) _).cell (p := ⟨b, 1, none⟩) (Nat.lt_of_lt_of_le G1.out.1.lt hb4.size)).trans q4)
          | (refine step_append2 rfl (.tmp 32) (.tmp 36) 61 rfl 100 i0 (.slice none 0 0) 1 24 Tryz.underlying61 hi hz0 hz1 hz2 rfl (by decide) (.slice la G.l.length lc) G.l.length svs rfl (ownsRow.lift G2.out (fun r hr => (Below.heap_alloc _ _ _ (Nat.lt_of_lt_of_le (G2.out.lt r hr).2 hb4.size)).trans (hb4.block r (G2.out.lt r hr).2))) ⟨w4.heap.size, 0, none⟩ 1 1 [.slice a4 l.length c4] rfl rfl (cells_new w4 [.slice a4 l.length c4] 100) (by intro u hu; simp at hu; subst hu; rfl) t1 t2 ?_; intro v5 w5 ho5 hg5 hf5; obtain ⟨la5, lc5, hv5, -, -⟩ := ownsRow.sliceAt ho5; subst hv5; obtain ⟨g6, K1, K2, K3, K4⟩ := RollAt.more G1.out G2.out G3.out G4.out G5.out (w3 := w4.alloc (.cells #[.slice a4 l.length c4] 100)) (((Below.refl _ _).drew.trans (hb4.mono (Nat.le_refl _))).alloc hb4.size _) (sliceAt_below hs4 ((Below.refl _ _).alloc (Nat.le_refl _) _)) (fun ad e => ⟨(hn4 ad e).1, by have := (hn4 ad e).2; simp; omega⟩) ho5 hg5 hf5; have HK1 := hid K1; have HK2 := hid K2; clear K1 K2 ho5 hg5 hf5 hs4 hb4 hn4))
        all_goals
          go_wp2
          go_ret
          rw [HP2.out]
          exact ⟨rfl, g6, HK1.out, (Evo.trans (⟨B3.out.os, B3.out.tape, B3.out.output, B3.out.size, fun _ _ => rfl, fun k hk _ => B3.out.block k hk⟩ : Evo p (p + 4) g g w w3) HK2.out)⟩
  · have hput : putG G l = (ckPs (-1) l, G) := by unfold putG; rw [if_pos hc]
    have hc' : (ckPs (-1) l != 0) = true := by simpa using hc
    rw [hput]
    clear hput hc hv h hG
    go_enter Tryz.func110, Tryz.ntmps110
    go_wp2_with fail
    (with_reducible refine HF.out.mono ?_)
    rintro e w1 ⟨rfl, hb⟩
    have HB := hid hb
    clear hb HF
    generalize ckPs (-1) l = code at *
    go_wp2
    go_ret
    exact putR_stay HG.out HB.out

theorem RowB.nil (w : World) (g : Nat → Nat) (p : Nat) : RowB w g p none 0 [] := ⟨Nat.le_refl _, .inl rfl, fun _ => rfl, nofun, .inl rfl⟩

theorem roll_Mend (g : Nat → Nat) (p b : Nat) (G : Lg) (w : World) (hG : RollAt w g p b sv qs G) :
    Calls Tryz.prog 104 #[.pointer (some ⟨b, 1, none⟩)] w (PutRPost g p b sv qs ((G.torn.length : Int), mendG G) w) := by
  obtain ⟨vl, svs, ta, tc, h1, h2, h3, h4, h5⟩ := hG
  obtain ⟨q0, q1, q0f, q1f⟩ := h1.1.three
  have EC : Evo p (p + 1) g g w (w.setCell ⟨b, 2, none⟩ (.slice none 0 0)) := evo_store _ h1.2
  have hbl : ∀ r, vl.ownBlock = some r → r ≠ b := by
    rintro r hr rfl
    have e1 := h3 _ hr
    have e2 := h1.2
    omega
  have H := hid (show RollAt (w.setCell ⟨b, 2, none⟩ (.slice none 0 0)) g p b sv qs (mendG G) from
    ⟨vl, svs, none, 0, h1.set 2 _, ownsRow_setCell_other h2 (a := ⟨b, 2, none⟩) (by intro h; exact hbl b (by simpa using h) rfl) _, h3, h4.frame EC (by omega), RowB.nil _ _ _⟩)
  have HE := hid EC
  clear h1 h2 h3 h4 h5 EC hbl
  generalize G.torn.length = tn at *
  go_enter Tryz.func104, Tryz.ntmps104
  go_wp2
  go_ret
  exact ⟨rfl, g, H.out, HE.out.wide (Nat.le_refl _) (by omega)⟩

/-- The last commit is taken back. -/
theorem RollAt.less {w : World} {g : Nat → Nat} {p b : Nat} {G : Lg} {l : List Ent} (h : RollAt w g p b sv qs ⟨G.l ++ [l], G.torn⟩) :
    ∃ la lc ta tc, G.l.length + 1 ≤ lc ∧ LocC w g p b 67 (sv :: .slice la (G.l.length + 1) lc :: .slice ta G.torn.length tc :: qs) ∧ RollAt (w.setCell ⟨b, 1, none⟩ (.slice la G.l.length lc)) g p b sv qs G ∧ Evo p (p + 4) g g w (w.setCell ⟨b, 1, none⟩ (.slice la G.l.length lc)) := by
  obtain ⟨vl, svs, ta, tc, h1, h2, h3, h4, h5⟩ := h
  have e : (G.l ++ [l]).length = G.l.length + 1 := by simp
  simp only [e] at h2
  obtain ⟨r, lc, rfl, hcap, -⟩ := ownsRow.some h2 (by omega)
  obtain ⟨svs', v, rfl, h4'⟩ := h4.pop
  have EC : Evo p (p + 1) g g w (w.setCell ⟨b, 1, none⟩ (.slice (some ⟨r, 0, none⟩) G.l.length lc)) := evo_store _ h1.2
  have hr := h3 r rfl
  have hbl : r ≠ b := by
    rintro rfl
    have e2 := h1.2
    omega
  refine ⟨some ⟨r, 0, none⟩, lc, ta, tc, hcap, h1, ⟨_, svs', ta, tc, h1.set 1 _, ?_, fun r' hr' => ?_, h4'.frame EC (by omega), h5.frame EC (by omega)⟩, EC.wide (Nat.le_refl _) (by omega)⟩
  · exact ownsRow_setCell_other (ownsRow.shrink h2) (a := ⟨b, 1, none⟩) (by intro h; exact hbl (by simpa [Value.ownBlock] using h)) _
  · cases hr'; exact hr

/-- Bytes of a torn commit come to what is torn. -/
theorem RollAt.tear {w : World} {g : Nat → Nat} {p b : Nat} {G : Lg} (h : RollAt w g p b sv qs G) :
    ∃ vl ta tc, LocC w g p b 67 (sv :: vl :: .slice ta G.torn.length tc :: qs) ∧ RowB w g (p + 3) ta tc G.torn ∧ ∀ (w' : World) (g' : Nat → Nat) (a' : Option Addr) (c' : Nat) (m : List UInt8), Evo (p + 3) (p + 3 + 1) g g' w w' → RowB w' g' (p + 3) a' c' (G.torn ++ m) →
      RollAt (w'.setCell ⟨b, 2, none⟩ (.slice a' (G.torn.length + m.length) c')) g' p b sv qs ⟨G.l, G.torn ++ m⟩ ∧ Evo p (p + 4) g g' w (w'.setCell ⟨b, 2, none⟩ (.slice a' (G.torn.length + m.length) c')) ∧
      w'.cell? ⟨b, 2, none⟩ = some (.slice ta G.torn.length tc) ∧ w'.frozen? ⟨b, 2, none⟩ = false := by
  obtain ⟨vl, svs, ta, tc, h1, h2, h3, h4, h5⟩ := h
  refine ⟨vl, ta, tc, h1, h5, fun w' g' a' c' m hE hR => ?_⟩
  have L := h1.frame hE (by omega)
  have EC : Evo p (p + 1) g' g' w' (w'.setCell ⟨b, 2, none⟩ (.slice a' (G.torn.length + m.length) c')) := evo_store _ L.2
  have hcol : ∀ r, vl.ownBlock = some r → g' r = p + 2 := fun r hr => (hE.col _ (h2.lt r hr).2).trans (h3 r hr)
  have hbl : ∀ r, vl.ownBlock = some r → r ≠ b := by
    rintro r hr rfl
    have e1 := hcol _ hr
    have e2 := L.2
    omega
  have o2 : w'.ownsRow 0 100 1 vl G.l.length svs := ownsRow.lift h2 (fun r hr => hE.same _ (h2.lt r hr).2 (by have := h3 r hr; omega))
  refine ⟨⟨vl, svs, a', c', ?_, ownsRow_setCell_other o2 (a := ⟨b, 2, none⟩) (by intro h; exact hbl b (by simpa using h) rfl) _, hcol, (h4.frame hE (by omega)).frame EC (by omega), hR.frame EC (by omega)⟩, (hE.wide (by omega) (by omega)).trans (EC.wide (by omega) (by omega)), L.1.cell 2, L.1.free 2⟩
  have := L.set 2 (.slice a' (G.torn.length + m.length) c')
  simpa using this

set_option maxHeartbeats 4000000 in
set_option maxRecDepth 100000 in
theorem roll_Tear (g : Nat → Nat) (p b : Nat) (G : Lg) (a : Option Addr) (cap : Nat) (l : List Ent) (keep : Int) (w : World) (hl : l.length ≤ 1000000) (hv : ∀ x ∈ l, x.v.bytes.size ≤ maxLen) (hok : G.Ok) (hG : RollAt w g p b sv qs G) (h : SliceAt w a (encEnts l))
    (hst : ∀ w' g', Evo p (p + 4) g g' w w' → SliceAt w' a (encEnts l)) :
    Calls Tryz.prog 81 #[.pointer (some ⟨b, 1, none⟩), .slice a l.length cap, .int .i64 keep] w (PutRPost g p b sv qs (tearG G l keep) w) := by
  have HPut := hid (roll_Put g p b G a cap l w hl hv hok hG h)
  have HST := hid hst
  have hlen := hok.2.2.1
  have hn40 := hok.2.1
  have htl0 : G.bytes.length = (encAll G.l).length + G.torn.length := by simp [Lg.bytes]
  have htl : G.torn.length ≤ 3000 := by omega
  clear htl0
  clear hv h hst hG
  go_enter Tryz.func81, Tryz.ntmps81
  go_wp2_with fail
  (with_reducible refine HPut.out.mono ?_)
  rintro e w2 ⟨rfl, g2, hG2, hE2⟩
  have HE2 := hid hE2
  have HG2 := hid hG2
  clear hG2 hE2 HPut
  by_cases hc : (putG G l).1 = 0
  · have hp : ckPs (-1) l = 0 ∧ (putG G l).2 = ⟨G.l ++ [l], G.torn⟩ := by
      unfold putG at hc ⊢
      split at hc
      · rename_i h; exact absurd hc h
      · rename_i h1
        split at hc
        · simp at hc
        · rename_i h2; rw [if_neg h1, if_neg h2]; exact ⟨by simpa using h1, rfl⟩
    obtain ⟨hck, hp2⟩ := hp
    obtain ⟨e1, e2⟩ := encL_bound hck
    have htear : tearG G l keep = if ((encL l).length : Int) ≤ keep then (0, ⟨G.l ++ [l], G.torn⟩) else (0, ⟨G.l, G.torn ++ (encL l).take keep.toNat⟩) := by unfold tearG; rw [if_neg (by simpa using hc)]
    rw [hc]
    rw [hp2] at HG2
    have HT := hid htear
    have HBO := hid (ref_BytesOf a cap l w2 hck (HST.out _ _ HE2.out))
    clear hc hck hp2 htear
    go_wp2_with fail
    (with_reducible refine HBO.out.mono ?_)
    rintro e w3 ⟨v3, n3, rfl, ho3, hb⟩
    have hn3 : n3 = (encL l).length := by have := ho3.1; rw [byteCells_length] at this; omega
    subst hn3
    obtain ⟨a3, c3, rfl, hx3, hx4, hx5⟩ := BytesIn.of_row ho3
    have hE3 := Evo.of_below (lo := 0) (hi := 0) g2 p hb
    have G3 := hid (HG2.out.fresh hE3)
    have E3 := hid (HE2.out.trans (hE3.none (by omega)))
    have hbs : ∀ ad, a3 = some ad → w2.heap.size ≤ ad.block := fun ad e => (hx5 ad e).1
    have hb2 : b < w2.heap.size := by obtain ⟨_, _, _, _, h1, -⟩ := HG2.out; exact h1.1.lt
    have X3 := hid hx3
    have hc3 := hx3.1
    have NB := hid (fun ad (e : a3 = some ad) => (show ad.block ≠ b by have := hbs ad e; omega))
    generalize extc g2 w2 p = g3 at *
    clear ho3 hb hE3 hx3 hx4 hx5 hbs hb2 HBO HG2 HE2 HST
    generalize hel : encL l = el at *
    have HEL := hid hel
    clear hel
    by_cases hk : (el.length : Int) ≤ keep
    · go_wp2
      go_ret
      rw [HT.out, if_pos hk]
      exact ⟨rfl, g3, G3.out, E3.out⟩
    · obtain ⟨la, lc, ta, tc, hlc, L, R, E⟩ := G3.out.less
      obtain ⟨q0, q1, q0f, q1f⟩ := L.1.three
      have hnl : ((G.l.length + 1 : Nat) : Int) ≤ (lc : Int) := by omega
      have hw1 : IntKind.i64.wrap (((G.l.length + 1 : Nat) : Int) - 1) = (G.l.length : Int) := by rw [show ((G.l.length + 1 : Nat) : Int) - 1 = (G.l.length : Int) by omega]; exact IntWalk.i64_in _ ⟨by omega, by omega⟩
      have hlc2 : (G.l.length : Int) ≤ (lc : Int) := by omega
      have hk' : keep < (el.length : Int) := by omega
      have HR := hid R
      have HE := hid E
      have HL := hid L
      clear R E L
      by_cases hk0 : keep ≤ 0
      · have hk0' : ¬ (0 : Int) < keep := by omega
        go_wp2_with fail
        go_region
        go_wp2
        go_ret
        rw [HT.out, if_neg (by omega), show keep.toNat = 0 by omega]
        simp only [List.take_zero, List.append_nil]
        exact ⟨rfl, g3, HR.out.below (Below.refl _ _).drew, (E3.out.trans HE.out).trans (Evo.drew _ _ _ _)⟩
      · obtain ⟨K, rfl⟩ : ∃ K : Nat, keep = (K : Int) := ⟨keep.toNat, by omega⟩
        have hKp : (0 : Int) < (K : Int) := by omega
        have hKe : K < el.length := by omega
        have hKc : (K : Int) ≤ (c3 : Int) := by omega
        have hKe2 : (K : Int) ≤ (el.length : Int) := by omega
        go_wp2_with fail
        go_region
        go_wp2_with fail
        have R4 := hid (HR.out.below (Below.refl _ _).drew)
        have E4 := hid ((E3.out.trans HE.out).trans (Evo.drew _ _ _ _))
        have X4 : Hid (SliceAt (w3.setCell ⟨b, 1, none⟩ (.slice la G.l.length lc)).drew a3 (Lib.byteCells el)) := hid (X3.out.2.lift (fun ad e => Below.heap_setCell _ _ _ _ (NB.out ad e)))
        generalize (w3.setCell ⟨b, 1, none⟩ (.slice la G.l.length lc)).drew = w4 at *
        clear q0 q1 q0f q1f HR HE HL hw1 X3
        obtain ⟨vl5, ta5, tc5, L5, RB5, T5⟩ := R4.out.tear
        have r1 := L5.1.three.2.1
        have htk : (el.take K).length = K := by rw [List.length_take]; omega
        have hne : el.take K ≠ [] := by intro h; rw [h] at htk; simp at htk; omega
        have hsl : SliceAt w4.drew a3 (Lib.byteCells (el.take K)) := by rw [Lib.byteCells, List.map_take]; exact (sliceAt_below X4.out (Below.refl _ _).drew).take K
        have HSL := hid hsl
        have HRB := hid RB5
        have HT5 := hid T5
        have HTK := hid htk
        clear hsl RB5 T5 L5 htk
        go_region_law (first
          | (refine step_row rfl (.tmp 41) (.tmp 44) rfl g3 (p + 3) ta5 tc5 G.torn a3 c3 (el.take K) rfl (by rw [HTK.out]; rfl) (by omega) (by rw [HTK.out]; omega) hne (HRB.out.below (Below.refl _ _).drew) HSL.out ?_; intro a6 c6 w6 hR6 hE6; obtain ⟨k1, k2, k3, k4⟩ := HT5.out w6 _ a6 c6 _ ((Evo.drew _ _ _ _).trans hE6) hR6; have HK1 := hid k1; have HK2 := hid k2; clear k1 k2 hR6 hE6))
        all_goals
          go_wp2
          go_ret
          rw [HT.out, if_neg (by omega), Int.toNat_natCast]
          have K1 := HK1.out
          have K2 := HK2.out
          rw [List.length_take] at K1 K2
          exact ⟨rfl, _, K1, E4.out.trans K2⟩
  · have hput : (putG G l).2 = G := by
      unfold putG at hc ⊢
      split
      · rfl
      · rename_i h1
        split
        · rfl
        · rename_i h2; rw [if_neg h1, if_neg h2] at hc; exact absurd rfl hc
    have htear : tearG G l keep = ((putG G l).1, G) := by unfold tearG; rw [if_pos hc]
    have hc' : ((putG G l).1 != 0) = true := by simpa using hc
    rw [hput] at HG2
    have HT := hid htear
    clear hc htear hput
    generalize (putG G l).1 = code at *
    go_wp2
    go_ret
    rw [HT.out]
    exact ⟨rfl, g2, HG2.out, HE2.out⟩

end Go.Proofs.YtoiobhcgpajogaaGreatDoor
