/- Steps of a table, as they come in; greatTable. -/
import Derived.Test.YtoiobhcgpajogabTab7
import Derived.Test.YtoiobhcgpajogabCodec4
import Derived.Test.YtoiobhcgpajogabPairs
namespace Go.Proofs.Ytoiobhcgpajogab
open Go.RowKit

theorem flat_get {α : Type} (en : α → List Value) (st : Nat) (hst : ∀ x, (en x).length = st) : ∀ (l : List α) (i j : Nat) (hi : i < l.length), j < st → (l.flatMap en)[i * st + j]? = (en l[i])[j]? := by
  intro l
  induction l with
  | nil => intro i j hi; cases hi
  | cons x l ih =>
    intro i j hi hj
    rw [List.flatMap_cons]
    cases i with
    | zero =>
      rw [List.getElem?_append_left (by rw [hst]; omega)]
      simp
    | succ i =>
      rw [List.getElem?_append_right (by rw [hst, Nat.succ_mul]; omega), hst, show (i + 1) * st + j - st = i * st + j by rw [Nat.succ_mul]; omega, ih i j (by simpa using hi) hj]
      simp

theorem PairsAt.sz {w : World} {a : Option Addr} {l : List Ent} (h : PairsAt w a l) : ∀ x ∈ l, x.v.bytes.size ≤ maxLen := And.right h

structure TStep where
  do_ : Int
  least : Int
  a : Option Addr
  cap : Nat
  w : List Ent

def encT (x : TStep) : List Value := [.int .i64 x.do_, .int .i64 x.least, .slice x.a x.w.length x.cap]
def encTs (l : List TStep) : List Value := l.flatMap encT
def TStepsAt (w : World) (a : Option Addr) (l : List TStep) : Prop := SliceAt w a (encTs l) ∧ ∀ x ∈ l, PairsAt w x.a x.w ∧ x.w.length ≤ maxLen

theorem TStepsAt.below {w w' : World} {a : Option Addr} {l : List TStep} (h : TStepsAt w a l) (k : Below w.heap.size w w') : TStepsAt w' a l := ⟨sliceAt_below h.1 k, fun x hx => ⟨(h.2 x hx).1.below k, (h.2 x hx).2⟩⟩

theorem TStepsAt.facts {w : World} {a : Option Addr} {l : List TStep} (h : TStepsAt w a l) (h0 : 0 < l.length) :
    ∃ b off, a = some ⟨b, off, none⟩ ∧ b < w.heap.size ∧ ∀ i (hi : i < l.length), w.cell? ⟨b, off + i * 3, none⟩ = some (.int .i64 l[i].do_) ∧ w.cell? ⟨b, off + i * 3 + 1, none⟩ = some (.int .i64 l[i].least) ∧
      w.cell? ⟨b, off + i * 3 + 2, none⟩ = some (.slice l[i].a l[i].w.length l[i].cap) ∧ PairsAt w l[i].a l[i].w ∧ l[i].w.length ≤ maxLen := by
  have hne : encTs l ≠ [] := by
    cases l with
    | nil => cases h0
    | cons x l => simp [encTs, encT]
  obtain ⟨b, off, rfl, hb⟩ := h.1.lt hne
  rcases h.1 with h1 | ⟨b', off', e, hc⟩
  · exact absurd h1 hne
  · cases e
    refine ⟨b, off, rfl, hb, fun i hi => ?_⟩
    have q := fun j hj => flat_get encT 3 (fun _ => rfl) l i j hi hj
    have p0 := hc (i * 3 + 0) _ (q 0 (by omega))
    have p1 := hc (i * 3 + 1) _ (q 1 (by omega))
    have p2 := hc (i * 3 + 2) _ (q 2 (by omega))
    exact ⟨p0, p1, p2, h.2 _ (List.getElem_mem _)⟩

def greatT (l : List TStep) : Bool := (l.take 100).any (fun x => greatP x.w) || decide (80 < l.length)

theorem greatT_false {l : List TStep} (h : greatT l = false) : l.length ≤ 80 ∧ ∀ x ∈ l, x.w.length ≤ 50 := by
  unfold greatT at h
  simp only [Bool.or_eq_false_iff, decide_eq_false_iff_not, List.any_eq_false] at h
  refine ⟨by omega, fun x hx => ?_⟩
  rw [List.take_of_length_le (by omega)] at h
  exact (greatP_false (by simpa using h.1 x hx)).1

set_option maxHeartbeats 1000000 in
set_option maxRecDepth 100000 in
theorem law_greatTable (a : Option Addr) (cap : Nat) (l : List TStep) (w : World) (hn : l.length ≤ 9223372036854775807) (hA : TStepsAt w a l) :
    Calls Try.prog 15 #[.slice a l.length cap] w (BoolPost (greatT l) w) := by
  have fin : ∀ b, greatT l = b → ∀ w', Below w.heap.size w w' → BoolPost (greatT l) w (.returned (.bool b)) w' := fun b h w' hb => ⟨by rw [h], hb⟩
  have F := hid fin
  have HA := hid hA
  clear fin hA
  go_enter Try.func15, Try.ntmps15
  go_wp2
  go_loopw [3] (fun i wr => ∃ k : Nat, k ≤ l.length ∧ k ≤ 100 ∧ i = .int .i64 k ∧ Hid ((l.take k).any (fun x => greatP x.w) = false) ∧ Below w.heap.size w wr) (fun i _ => 100 - (intOf i).toNat)
  case atStart => exact ⟨0, Nat.zero_le _, by omega, rfl, hid (by simp), Below.refl _ _⟩
  case round =>
    obtain ⟨k, hk, hk2, rfl, HH, hb⟩ := hrel
    by_cases hlt : k < l.length
    · by_cases hk3 : k < 100
      · obtain ⟨b, off, rfl, hbb, hv⟩ := (HA.out.below hb).facts (by omega)
        obtain ⟨-, -, g3, g4, g5⟩ := hv k hlt
        have hst : (l.take (k + 1)).any (fun x => greatP x.w) = (false || greatP l[k].w) := by
          rw [List.take_succ_eq_append_getElem hlt, List.any_append, HH.out]; simp
        have hmono : (l.take (k + 1)).any (fun x => greatP x.w) = true → (l.take 100).any (fun x => greatP x.w) = true := by
          intro h
          rw [List.any_eq_true] at h ⊢
          obtain ⟨x, hx, h⟩ := h
          exact ⟨x, (List.take_subset_take_left l (by omega)) hx, h⟩
        have HG := hid (law_greatPairs l[k].a l[k].cap l[k].w wr (by unfold maxLen at g5; omega) g4.sl)
        have HB := hid hb
        have HST := hid hst
        have HM := hid hmono
        have hki : (k : Int) < (l.length : Int) := by omega
        have hk0 : (0 : Int) ≤ (k : Int) := by omega
        have hk1 : (k : Int) < 100 := by omega
        clear hv hst hmono g4 g5 hb
        generalize l[k] = x at *
        generalize hgp : greatP x.w = gp at *
        have HGP := hid hgp
        clear hgp
        go_wp2_with fail
        (with_reducible refine HG.out.mono ?_)
        rintro e w1 ⟨rfl, hb⟩
        have HB1 := hid (HB.out.trans (hb.mono HB.out.size))
        clear hb HG
        cases gp with
        | true =>
          go_wp2
          go_ret
          exact F.out _ (by unfold greatT; rw [HM.out (by rw [HST.out]; rfl)]; rfl) _ HB1.out
        | false =>
          go_wp2
          go_roundw
          case rel => exact ⟨k + 1, by omega, by omega, by go_num, HST, HB1.out⟩
          case measure => simp [intOf]; omega
      · obtain rfl : k = 100 := by omega
        have G := hid (show greatT l = true by unfold greatT; simp; right; omega)
        have HB := hid hb
        have hki : (100 : Int) < (l.length : Int) := by omega
        clear hb
        go_wp2
        go_ret
        exact F.out _ (by rw [G.out]; simp; omega) _ HB.out
    · obtain rfl : k = l.length := by omega
      have G := hid (show greatT l = decide (80 < l.length) by unfold greatT; rw [List.take_of_length_le hk2, ← List.take_length (l := l), HH.out]; simp)
      have HB := hid hb
      clear hb
      go_wp2
      go_ret
      exact F.out (decide ((80 : Int) < (l.length : Int))) (by rw [G.out]; exact decide_eq_decide.2 (by omega)) _ HB.out

end Go.Proofs.Ytoiobhcgpajogab
