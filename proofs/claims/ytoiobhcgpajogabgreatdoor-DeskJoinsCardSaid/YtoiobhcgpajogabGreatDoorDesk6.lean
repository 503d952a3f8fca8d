/- A desk: what a step comes to; the walk of begin. -/
import Derived.Test.YtoiobhcgpajogabGreatDoorDesk5
namespace Go.Proofs.YtoiobhcgpajogabGreatDoor
open Go.RowKit

/-- What a step tells, and the hall behind it; no step: nothing. -/
def effD (H : Ht) (o : Option St) : List UInt8 × Ht :=
  match o with
  | none => ([], H)
  | some x => (tellD x (doH H x).1 ++ [10], (doH H x).2)

/-- As DkAt, but the row of the colour p + 20 may have turned too. -/
structure DkWide (w0 : World) (g0 : Nat → Nat) (p d h : Nat) (t : List UInt8) (H : Ht) (g : Nat → Nat) (w : World) : Prop where
  desk : DeskB w g p d h t
  hall : HallAt w g (p + 2) h H
  glob : GlobC w g
  evo : Evo p (p + 21) g0 g w0 w

theorem DkAt.wide {w0 w : World} {g0 g : Nat → Nat} {p d h : Nat} {t : List UInt8} {H : Ht} (k : DkAt w0 g0 p d h t H g w) : DkWide w0 g0 p d h t H g w := ⟨k.desk, k.hall, k.glob, k.evo.wide (by omega) (by omega)⟩
theorem DkWide.self {w0 w : World} {g0 g : Nat → Nat} {p d h : Nat} {t : List UInt8} {H : Ht} (k : DkWide w0 g0 p d h t H g w) : DkAt w g p d h t H g w := ⟨k.desk, k.hall, k.glob, Evo.refl _ _ _ _⟩
theorem DkWide.did {w0 w w' : World} {g0 g g' : Nat → Nat} {p d h : Nat} {t t' : List UInt8} {H H' : Ht} (k : DkWide w0 g0 p d h t H g w) (e : DkAt w g p d h t' H' g' w') : DkWide w0 g0 p d h t' H' g' w' := ⟨e.desk, e.hall, e.glob, k.evo.trans (e.evo.wide (by omega) (by omega))⟩
theorem DkAt.far {w0 w w' : World} {g0 g g' : Nat → Nat} {p d h : Nat} {t : List UInt8} {H : Ht} (k : DkAt w0 g0 p d h t H g w) (e : Evo (p + 20) (p + 20 + 1) g g' w w') : DkWide w0 g0 p d h t H g' w' :=
  ⟨k.desk.frame e (by omega), k.hall.frame e (by omega), k.glob.frame e (by omega), (k.evo.wide (by omega) (by omega)).trans (e.wide (by omega) (by omega))⟩
theorem DkWide.fresh {w0 w w' : World} {g0 g g' : Nat → Nat} {p d h : Nat} {t : List UInt8} {H : Ht} (k : DkWide w0 g0 p d h t H g w) (e : Evo 0 0 g g' w w') : DkWide w0 g0 p d h t H g' w' :=
  ⟨k.desk.frame e (by omega), k.hall.frame e (by omega), k.glob.frame e (by omega), k.evo.trans (e.none (by omega))⟩
theorem DkWide.below {w0 w w' : World} {g0 g : Nat → Nat} {p d h : Nat} {t : List UInt8} {H : Ht} (k : DkWide w0 g0 p d h t H g w) (e : Below w.heap.size w w') : DkWide w0 g0 p d h t H g w' :=
  ⟨k.desk.below e, k.hall.below e, k.glob.below e, k.evo.trans (Evo.of_same e)⟩
theorem DkWide.put1 {w0 w : World} {g0 g : Nat → Nat} {p d h : Nat} {t : List UInt8} {H : Ht} (k : DkWide w0 g0 p d h t H g w) {b i : Nat} (hg : g b = p + 20) (v : Value) : DkWide w0 g0 p d h t H g (w.setCell ⟨b, i, none⟩ v) := by
  have e : Evo (p + 20) (p + 20 + 1) g g w (w.setCell ⟨b, i, none⟩ v) := evo_store v hg
  exact ⟨k.desk.frame e (by omega), k.hall.frame e (by omega), k.glob.frame e (by omega), k.evo.trans (e.wide (by omega) (by omega))⟩

def EffAt (w0 : World) (g0 : Nat → Nat) (p d h : Nat) (t : List UInt8) (H : Ht) (o : Option St) (w' : World) : Prop :=
  ∃ g', DkWide w0 g0 p d h (t ++ (effD H o).1) (effD H o).2 g' w'

def EffPost (w0 : World) (g0 : Nat → Nat) (p d h : Nat) (t : List UInt8) (H : Ht) (o : Option St) (e : Ending) (w' : World) : Prop :=
  e = .returned (.bool o.isSome) ∧ EffAt w0 g0 p d h t H o w'

theorem DkAt.self {w0 w : World} {g0 g : Nat → Nat} {p d h : Nat} {t : List UInt8} {H : Ht} (k : DkAt w0 g0 p d h t H g w) : DkAt w g p d h t H g w := ⟨k.desk, k.hall, k.glob, Evo.refl _ _ _ _⟩

theorem DkAt.none {w0 w : World} {g0 g : Nat → Nat} {p d h : Nat} {t : List UInt8} {H : Ht} (k : DkAt w0 g0 p d h t H g w) : EffAt w0 g0 p d h t H Option.none w := ⟨g, by show DkWide w0 g0 p d h (t ++ []) H g w; rw [List.append_nil]; exact k.wide⟩

def DidPost (w0 : World) (g0 : Nat → Nat) (p d h : Nat) (t : List UInt8) (H : Ht) (x : St) (g : Nat → Nat) (w : World) (e : Ending) (w' : World) : Prop :=
  e = .returned (.tuple #[]) ∧ ∃ g', DkAt w0 g0 p d h (t ++ (effD H (some x)).1) (effD H (some x)).2 g' w' ∧ Evo p (p + 19) g g' w w'

theorem desk_did_ok (w0 : World) (g0 g : Nat → Nat) (p d h : Nat) (t : List UInt8) (H : Ht) (x : St) (w : World) (hp : 1 ≤ p) (k : DkAt w0 g0 p d h t H g w) (hx : x.bytes.size ≤ maxLen) (hO : ∀ x, EvOk (doH H x).1) (ht : t.length ≤ 800000000) (hk : ∀ ev : Evt, ev.code = 0 → tellD x ev = b_ok) :
    Calls Tryz.prog 35 #[.pointer (some ⟨d, 0, none⟩), .agg #[.int .i64 x.kind, .int .i64 x.s, .int .i64 x.mode, .int .i64 x.at_, .int .i64 x.key, .int .i64 x.to_, .int .i64 x.keep, .string x.bytes], .func (.func 36) #[] #[]] w (DidPost w0 g0 p d h t H x g w) :=
  (desk_do_ok g p d h t H x w hp k.self hx (hO x) ht hk).mono fun _ _ ⟨he, g', hD, hH, hE⟩ => ⟨he, g', ⟨hD, hH, k.glob.frame hE (by omega), k.evo.trans hE⟩, hE⟩

theorem desk_did_has (w0 : World) (g0 g : Nat → Nat) (p d h : Nat) (t : List UInt8) (H : Ht) (x : St) (w : World) (hp : 1 ≤ p) (k : DkAt w0 g0 p d h t H g w) (hx : x.bytes.size ≤ maxLen) (hO : ∀ x, EvOk (doH H x).1) (ht : t.length ≤ 800000000) (hk : ∀ ev : Evt, ev.code = 0 → tellD x ev = (b_has ++ 32 :: valL ev.v)) :
    Calls Tryz.prog 35 #[.pointer (some ⟨d, 0, none⟩), .agg #[.int .i64 x.kind, .int .i64 x.s, .int .i64 x.mode, .int .i64 x.at_, .int .i64 x.key, .int .i64 x.to_, .int .i64 x.keep, .string x.bytes], .func (.func 39) #[] #[]] w (DidPost w0 g0 p d h t H x g w) :=
  (desk_do_has g p d h t H x w hp k.self hx (hO x) ht hk).mono fun _ _ ⟨he, g', hD, hH, hE⟩ => ⟨he, g', ⟨hD, hH, k.glob.frame hE (by omega), k.evo.trans hE⟩, hE⟩

theorem desk_did_all (w0 : World) (g0 g : Nat → Nat) (p d h : Nat) (t : List UInt8) (H : Ht) (x : St) (w : World) (hp : 1 ≤ p) (k : DkAt w0 g0 p d h t H g w) (hx : x.bytes.size ≤ maxLen) (hO : ∀ x, EvOk (doH H x).1) (ht : t.length ≤ 800000000) (hk : ∀ ev : Evt, ev.code = 0 → tellD x ev = (b_all ++ pairsD ev.l)) :
    Calls Tryz.prog 35 #[.pointer (some ⟨d, 0, none⟩), .agg #[.int .i64 x.kind, .int .i64 x.s, .int .i64 x.mode, .int .i64 x.at_, .int .i64 x.key, .int .i64 x.to_, .int .i64 x.keep, .string x.bytes], .func (.func 41) #[] #[]] w (DidPost w0 g0 p d h t H x g w) :=
  (desk_do_all g p d h t H x w hp k.self hx (hO x) ht hk).mono fun _ _ ⟨he, g', hD, hH, hE⟩ => ⟨he, g', ⟨hD, hH, k.glob.frame hE (by omega), k.evo.trans hE⟩, hE⟩

theorem desk_did_n3 (w0 : World) (g0 g : Nat → Nat) (p d h : Nat) (t : List UInt8) (H : Ht) (x : St) (w : World) (hp : 1 ≤ p) (k : DkAt w0 g0 p d h t H g w) (hx : x.bytes.size ≤ maxLen) (hO : ∀ x, EvOk (doH H x).1) (ht : t.length ≤ 800000000) (hk : ∀ ev : Evt, ev.code = 0 → tellD x ev = (b_ok ++ 32 :: Lib.itoa ev.n)) :
    Calls Tryz.prog 35 #[.pointer (some ⟨d, 0, none⟩), .agg #[.int .i64 x.kind, .int .i64 x.s, .int .i64 x.mode, .int .i64 x.at_, .int .i64 x.key, .int .i64 x.to_, .int .i64 x.keep, .string x.bytes], .func (.func 43) #[] #[]] w (DidPost w0 g0 p d h t H x g w) :=
  (desk_do_n3 g p d h t H x w hp k.self hx (hO x) ht hk).mono fun _ _ ⟨he, g', hD, hH, hE⟩ => ⟨he, g', ⟨hD, hH, k.glob.frame hE (by omega), k.evo.trans hE⟩, hE⟩

theorem desk_did_n4 (w0 : World) (g0 g : Nat → Nat) (p d h : Nat) (t : List UInt8) (H : Ht) (x : St) (w : World) (hp : 1 ≤ p) (k : DkAt w0 g0 p d h t H g w) (hx : x.bytes.size ≤ maxLen) (hO : ∀ x, EvOk (doH H x).1) (ht : t.length ≤ 800000000) (hk : ∀ ev : Evt, ev.code = 0 → tellD x ev = (b_ok ++ 32 :: Lib.itoa ev.n)) :
    Calls Tryz.prog 35 #[.pointer (some ⟨d, 0, none⟩), .agg #[.int .i64 x.kind, .int .i64 x.s, .int .i64 x.mode, .int .i64 x.at_, .int .i64 x.key, .int .i64 x.to_, .int .i64 x.keep, .string x.bytes], .func (.func 44) #[] #[]] w (DidPost w0 g0 p d h t H x g w) :=
  (desk_do_n4 g p d h t H x w hp k.self hx (hO x) ht hk).mono fun _ _ ⟨he, g', hD, hH, hE⟩ => ⟨he, g', ⟨hD, hH, k.glob.frame hE (by omega), k.evo.trans hE⟩, hE⟩

/-- Numbers in memory. -/
theorem ints_facts {w : World} {a : Option Addr} {vs : List Int} (h : SliceAt w a (vs.map (Value.int .i64))) (h0 : 0 < vs.length) :
    ∃ b off, a = some ⟨b, off, none⟩ ∧ b < w.heap.size ∧ ∀ i (hi : i < vs.length), w.cell? ⟨b, off + i, none⟩ = some (.int .i64 vs[i]) := by
  obtain ⟨b, off, rfl, hb⟩ := h.lt (by intro e; have := congrArg List.length e; simp at this; subst this; simp at h0)
  rcases h with h1 | ⟨b', off', e, hc⟩
  · have := congrArg List.length h1; simp at this; subst this; simp at h0
  · cases e
    exact ⟨b, off, rfl, hb, fun i hi => hc i _ (by rw [List.getElem?_map, List.getElem?_eq_getElem hi]; rfl)⟩

theorem sliceAt_get {w : World} {b off : Nat} {cells : List Value} (h : SliceAt w (some ⟨b, off, none⟩) cells) {j : Nat} {u : Value} (hj : cells[j]? = some u) : w.cell? ⟨b, off + j, none⟩ = some u := by
  rcases h with h | ⟨b', off', e, hc⟩
  · subst h; simp at hj
  · cases e; exact hc j u hj

theorem RowC.sliceAt {w : World} {g : Nat → Nat} {q e n cap : Nat} {a : Option Addr} {cells : List Value} (h : RowC w g q e 1 (.slice a n cap) n cells) : SliceAt w a cells := by
  obtain ⟨a', c', e', hs, -⟩ := ownsRow.sliceAt h.1
  cases e'
  exact hs

theorem modeD_idx (s : ByteArray) : Lib.idxOfS (([⟨#[]⟩, ⟨#[115, 104, 111, 116]⟩, ⟨#[115, 117, 114, 101]⟩, ⟨#[108, 111, 111, 107]⟩] : List ByteArray).take 4) s = modeD s.data.toList := by
  have e0 : ((⟨#[]⟩ : ByteArray) = s) = (s.data.toList = []) := propext ((ba_eq_iff [] s).trans eq_comm)
  have e1 : ((⟨#[115, 104, 111, 116]⟩ : ByteArray) = s) = (s.data.toList = b_shot) := propext ((ba_eq_iff b_shot s).trans eq_comm)
  have e2 : ((⟨#[115, 117, 114, 101]⟩ : ByteArray) = s) = (s.data.toList = b_sure) := propext ((ba_eq_iff b_sure s).trans eq_comm)
  have e3 : ((⟨#[108, 111, 111, 107]⟩ : ByteArray) = s) = (s.data.toList = b_look) := propext ((ba_eq_iff b_look s).trans eq_comm)
  show Lib.idxFromS [⟨#[]⟩, ⟨#[115, 104, 111, 116]⟩, ⟨#[115, 117, 114, 101]⟩, ⟨#[108, 111, 111, 107]⟩] s 0 = _
  unfold modeD
  by_cases h0 : s.data.toList = []
  · rw [if_pos h0]; rw [← e0] at h0; simp [Lib.idxFromS, h0]
  · rw [if_neg h0]; rw [← e0] at h0
    by_cases h1 : s.data.toList = b_shot
    · rw [if_pos h1]; rw [← e1] at h1; simp [Lib.idxFromS, h0, h1]
    · rw [if_neg h1]; rw [← e1] at h1
      by_cases h2 : s.data.toList = b_sure
      · rw [if_pos h2]; rw [← e2] at h2; simp [Lib.idxFromS, h0, h1, h2]
      · rw [if_neg h2]; rw [← e2] at h2
        by_cases h3 : s.data.toList = b_look
        · rw [if_pos h3]; rw [← e3] at h3; simp [Lib.idxFromS, h0, h1, h2, h3]
        · rw [if_neg h3]; rw [← e3] at h3; simp [Lib.idxFromS, h0, h1, h2, h3]

theorem modeD_range (l : List UInt8) : -1 ≤ modeD l ∧ modeD l ≤ 3 := by
  unfold modeD
  repeat' split
  all_goals exact ⟨by decide, by decide⟩

set_option maxHeartbeats 4000000 in
set_option maxRecDepth 100000 in
theorem desk_begin (w0 : World) (g0 g : Nat → Nat) (p d h : Nat) (t : List UInt8) (H : Ht) (w : World) (hp : 1 ≤ p) (k : DkAt w0 g0 p d h t H g w) (hO : ∀ x, EvOk (doH H x).1) (ht : t.length ≤ 800000000)
    (s : ByteArray) (vs : List Int) (a : Option Addr) (cap : Nat) (hR : RowC w g (p + 20) 3 1 (.slice a vs.length cap) vs.length (vs.map (Value.int .i64))) (hn : vs.length ≤ 10000) :
    Calls Tryz.prog 21 #[.pointer (some ⟨d, 0, none⟩), .string s, .slice a vs.length cap] w (EffPost w0 g0 p d h t H (beginD s.data.toList vs)) := by
  have OK := hid hO
  have HM := hid (modeD_idx s)
  have HB := hid (show beginD s.data.toList vs = if modeD s.data.toList = 3 ∧ vs.length = 2 then some ⟨1, vs.getD 0 0, 3, vs.getD 1 0, 0, 0, 0, ByteArray.empty⟩ else if 0 < modeD s.data.toList ∧ modeD s.data.toList ≠ 3 ∧ vs.length = 1 then some ⟨1, vs.getD 0 0, modeD s.data.toList, 0, 0, 0, 0, ByteArray.empty⟩ else Option.none from rfl)
  have hm := modeD_range s.data.toList
  have hA := Evo.alloc g 0 w (.cells #[.string ⟨#[]⟩, .string ⟨#[115, 104, 111, 116]⟩, .string ⟨#[115, 117, 114, 101]⟩, .string ⟨#[108, 111, 111, 107]⟩] 9)
  have K1 := hid (k.fresh hA)
  have R1 := hid (hR.frame hA (by omega))
  have CI := hid (Tryz.slices_Index_string w.heap.size 0 4 4 [⟨#[]⟩, ⟨#[115, 104, 111, 116]⟩, ⟨#[115, 117, 114, 101]⟩, ⟨#[108, 111, 111, 107]⟩] s (w.alloc (.cells #[.string ⟨#[]⟩, .string ⟨#[115, 104, 111, 116]⟩, .string ⟨#[115, 117, 114, 101]⟩, .string ⟨#[108, 111, 111, 107]⟩] 9)) (by simp) (by omega) (fun j hj => by
    have := cells_strs w [⟨#[]⟩, ⟨#[115, 104, 111, 116]⟩, ⟨#[115, 117, 114, 101]⟩, ⟨#[108, 111, 111, 107]⟩] 9 j _ (List.getElem?_eq_getElem hj)
    rw [show ([⟨#[]⟩, ⟨#[115, 104, 111, 116]⟩, ⟨#[115, 117, 114, 101]⟩, ⟨#[108, 111, 111, 107]⟩] : List ByteArray).getD j ByteArray.empty = ([⟨#[]⟩, ⟨#[115, 104, 111, 116]⟩, ⟨#[115, 117, 114, 101]⟩, ⟨#[108, 111, 111, 107]⟩] : List ByteArray)[j] from by simp only [List.getD, List.getElem?_eq_getElem hj, Option.getD_some]]
    exact this))
  clear hO k hR hA
  go_enter Tryz.func21, Tryz.ntmps21
  go_wp2_with fail
  refine CI.out.mono ?_
  rintro e w1 ⟨rfl, hw1⟩
  rw [HM.out]
  rw [← hw1] at K1 R1
  clear hw1 CI
  generalize extc g w 0 = g1 at *
  generalize modeD s.data.toList = m at *
  obtain ⟨hm1, hm2⟩ := hm
  by_cases hq : m = 3 ∧ vs.length = 2
  · have HE := hid (HB.out.trans (if_pos hq))
    clear HB
    obtain ⟨rfl, hv⟩ := hq
    match vs, hv with
    | [n0, n1], _ =>
      obtain ⟨b, off, rfl, hb, -⟩ := ints_facts R1.out.sliceAt (by simp)
      have hS0 : w1.drew.cell? ⟨b, off, none⟩ = some (.int .i64 n0) ∧ w1.drew.cell? ⟨b, off + 1, none⟩ = some (.int .i64 n1) := ⟨sliceAt_get R1.out.sliceAt (j := 0) rfl, sliceAt_get R1.out.sliceAt (j := 1) rfl⟩
      go_wp2_with fail
      -- REGION 4
      refine wp_region_noPanic ?_
      refine wp_region_held_drew (S := (fun W : World => W.cell? ⟨b, off, none⟩ = some (.int .i64 n0) ∧ W.cell? ⟨b, off + 1, none⟩ = some (.int .i64 n1))) (by kernel_rfl) ?_ (fun hH0 => ?_)
      · (try dsimp only); (first | assumption | exact hS0)
      refine wpAnyH_take (i := 0) (v := ?_) (by simp only [List.getElem?_toArray, List.getElem?_cons_zero]; rfl) (by kernel_rfl) (by kernel_rfl) (by kernel_rfl) (fun _ _ _ h => h) (Or.inl ⟨by rfl, ?_⟩) (by assumption) ?_
      rotate_left
      · intro w hSw; (try dsimp only at hSw); go_simp; (try with_reducible rfl)
      try simp only [Act.put, List.setIfInBounds_toArray, List.set_cons_zero, List.set_cons_succ]
      refine wpAnyH_take (i := 1) (v := ?_) (by simp only [List.getElem?_toArray, List.getElem?_cons_zero, List.getElem?_cons_succ]; rfl) (by kernel_rfl) (by kernel_rfl) (by kernel_rfl) (fun _ _ _ h => h) (Or.inl ⟨by rfl, ?_⟩) (by assumption) ?_
      rotate_left
      · intro w hSw; (try dsimp only at hSw); go_simp; (try with_reducible rfl)
      try simp only [Act.put, List.setIfInBounds_toArray, List.set_cons_zero, List.set_cons_succ]
      refine wpAnyH_take (i := 2) (v := ?_) (by simp only [List.getElem?_toArray, List.getElem?_cons_zero, List.getElem?_cons_succ]; rfl) (by kernel_rfl) (by kernel_rfl) (by kernel_rfl) (fun _ _ _ h => h) (Or.inl ⟨by rfl, ?_⟩) (by assumption) ?_
      rotate_left
      · intro w hSw; (try dsimp only at hSw); go_simp; (try with_reducible rfl)
      try simp only [Act.put, List.setIfInBounds_toArray, List.set_cons_zero, List.set_cons_succ]
      refine wpAnyH_take (i := 3) (v := ?_) (by simp only [List.getElem?_toArray, List.getElem?_cons_zero, List.getElem?_cons_succ]; rfl) (by kernel_rfl) (by kernel_rfl) (by kernel_rfl) (fun _ _ _ h => h) (Or.inl ⟨by rfl, ?_⟩) (by assumption) ?_
      rotate_left
      · intro w hSw; (try dsimp only at hSw); go_simp; (try with_reducible rfl)
      try simp only [Act.put, List.setIfInBounds_toArray, List.set_cons_zero, List.set_cons_succ]
      refine wpAnyH_take (i := 4) (v := ?_) (by simp only [List.getElem?_toArray, List.getElem?_cons_zero, List.getElem?_cons_succ]; rfl) (by kernel_rfl) (by kernel_rfl) (by kernel_rfl) (fun _ _ _ h => h) (Or.inl ⟨by rfl, ?_⟩) (by assumption) ?_
      rotate_left
      · intro w hSw; (try dsimp only at hSw); go_simp; (try with_reducible rfl)
      try simp only [Act.put, List.setIfInBounds_toArray, List.set_cons_zero, List.set_cons_succ]
      refine wpAnyH_take (i := 5) (v := ?_) (by simp only [List.getElem?_toArray, List.getElem?_cons_zero, List.getElem?_cons_succ]; rfl) (by kernel_rfl) (by kernel_rfl) (by kernel_rfl) (fun _ _ _ h => h) (Or.inl ⟨by rfl, ?_⟩) (by assumption) ?_
      rotate_left
      · intro w hSw; (try dsimp only at hSw); go_simp; (try with_reducible rfl)
      try simp only [Act.put, List.setIfInBounds_toArray, List.set_cons_zero, List.set_cons_succ]
      refine wpAnyH_take (i := 6) (v := ?_) (by simp only [List.getElem?_toArray, List.getElem?_cons_zero, List.getElem?_cons_succ]; rfl) (by kernel_rfl) (by kernel_rfl) (by kernel_rfl) (fun _ _ _ h => h) (Or.inl ⟨by rfl, ?_⟩) (by assumption) ?_
      rotate_left
      · intro w hSw; (try dsimp only at hSw); go_simp; (try with_reducible rfl)
      try simp only [Act.put, List.setIfInBounds_toArray, List.set_cons_zero, List.set_cons_succ]
      refine wpAnyH_take (i := 7) (v := ?_) (by simp only [List.getElem?_toArray, List.getElem?_cons_zero, List.getElem?_cons_succ]; rfl) (by kernel_rfl) (by kernel_rfl) (by kernel_rfl) (fun _ _ _ h => h) (Or.inl ⟨by rfl, ?_⟩) (by assumption) ?_
      rotate_left
      · intro w hSw; (try dsimp only at hSw); go_simp; (try with_reducible rfl)
      try simp only [Act.put, List.setIfInBounds_toArray, List.set_cons_zero, List.set_cons_succ]
      refine wpAnyH_take (i := 8) (v := ?_) (by simp only [List.getElem?_toArray, List.getElem?_cons_zero, List.getElem?_cons_succ]; rfl) (by kernel_rfl) (by kernel_rfl) (by kernel_rfl) (fun _ _ _ h => h) (Or.inl ⟨by rfl, ?_⟩) (by assumption) ?_
      rotate_left
      · intro w hSw; (try dsimp only at hSw); go_simp; (try with_reducible rfl)
      try simp only [Act.put, List.setIfInBounds_toArray, List.set_cons_zero, List.set_cons_succ]
      refine wpAnyH_ready (rs := [9]) (by kernel_rfl) (by simp) ?_
      refine AllReadyH.cons (by simp only [List.getElem?_toArray, List.getElem?_cons_zero, List.getElem?_cons_succ]; rfl) (fun K hK => ?_) AllReadyH.nil
      go_simp
      go_at_call 35
      refine (desk_did_ok w0 g0 g1 p d h t H ⟨1, n0, 3, n1, 0, 0, 0, ByteArray.empty⟩ w1.drew hp (K1.out.below (Below.refl _ _).drew) (by show 0 ≤ maxLen; exact Nat.zero_le _) OK.out ht (fun ev h => by simp [tellD, h])).mono ?_
      rintro e w2 ⟨rfl, g2, hk2, hE2⟩
      have R2 := R1.out.frame ((Evo.drew p (p + 19) g1 w1).trans hE2) (by omega)
      have hS' : w2.cell? ⟨b, off, none⟩ = some (.int .i64 n0) ∧ w2.cell? ⟨b, off + 1, none⟩ = some (.int .i64 n1) := ⟨sliceAt_get R2.sliceAt (j := 0) rfl, sliceAt_get R2.sliceAt (j := 1) rfl⟩
      have HK2 := hid hk2
      clear hk2 hE2 R2
      try go_wp2_with fail
      refine hK.out _ _ ?_ (fun hH1 => ?_)
      · (try dsimp only); (first | assumption | exact hS0)
      clear hK K hH0
      try simp only [Act.put, List.setIfInBounds_toArray, List.set_cons_zero, List.set_cons_succ]
      refine wpAnyH_done (by kernel_rfl) ?_ _
      refine NoPanic.normal ?_
      have HP := hid (show EffPost w0 g0 p d h t H (beginD s.data.toList [n0, n1]) (.returned (.bool true)) w2 from by rw [HE.out]; exact ⟨rfl, g2, HK2.out.wide⟩)
      clear hS' HK2
      go_wp2
      go_ret
      exact HP.out
      -- END 4
  · by_cases hr : 0 < m ∧ m ≠ 3 ∧ vs.length = 1
    · have HE := hid ((HB.out.trans (if_neg hq)).trans (if_pos hr))
      clear HB
      obtain ⟨h0, h3, hv⟩ := hr
      match vs, hv with
      | [n0], _ =>
        obtain ⟨b, off, rfl, hb, -⟩ := ints_facts R1.out.sliceAt (by simp)
        have c0 : w1.cell? ⟨b, off, none⟩ = some (.int .i64 n0) := sliceAt_get R1.out.sliceAt (j := 0) rfl
        have q3 : (m == 3) = false := by simpa using h3
        have q4 : (m != 3) = true := by simpa using h3
        clear hq
        go_wp2_with fail
        refine (desk_did_ok w0 g0 g1 p d h t H ⟨1, n0, m, 0, 0, 0, 0, ByteArray.empty⟩ _ hp K1.out (by show 0 ≤ maxLen; exact Nat.zero_le _) OK.out ht (fun ev h => by simp [tellD, h])).mono ?_
        rintro e w2 ⟨rfl, g2, hk2, -⟩
        have HP := hid (show EffPost w0 g0 p d h t H (beginD s.data.toList [n0]) (.returned (.bool true)) w2 from by rw [HE.out]; exact ⟨rfl, g2, hk2.wide⟩)
        clear hk2 q3 q4
        go_wp2
        go_ret
        exact HP.out
    · have HE := hid ((HB.out.trans (if_neg hq)).trans (if_neg hr))
      have HP := hid (show EffPost w0 g0 p d h t H (beginD s.data.toList vs) (.returned (.bool false)) w1 from by rw [HE.out]; exact ⟨rfl, K1.out.none⟩)
      have hnl : (vs.length : Int) ≤ 10000 := by omega
      clear HB HE
      by_cases h3 : m = 3
      · subst h3
        have q2 : ((vs.length : Int) == 2) = false := by rw [beq_eq_false_iff_ne]; exact fun e => hq ⟨rfl, by omega⟩
        clear hq hr
        go_wp2
        go_ret
        exact HP.out
      · have q3 : (m == 3) = false := by simpa using h3
        have q4 : (m != 3) = true := by simpa using h3
        by_cases h0 : 0 < m
        · have q1 : ((vs.length : Int) == 1) = false := by rw [beq_eq_false_iff_ne]; exact fun e => hr ⟨h0, h3, by omega⟩
          clear hq hr h3
          go_wp2
          go_ret
          exact HP.out
        · clear hq hr h3
          go_wp2
          go_ret
          exact HP.out

end Go.Proofs.YtoiobhcgpajogabGreatDoor
