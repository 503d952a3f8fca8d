/- Steps of a table, as they come in; greatTable. -/
import Derived.Test.YtoiobhcgpajogacTab6
import Derived.Test.YtoiobhcgpajogacCodec1
namespace Go.Proofs.Ytoiobhcgpajogac
open Go.RowKit

theorem flat_get {α : Type} (en : α → List Value) (st : Nat) (hst : ∀ x, (en x).length = st) : ∀ (l : List α) (i j : Nat) (hi : i < l.length), j < st → (l.flatMap en)[i * st + j]? = (en l[i])[j]? := by
  intro l
  induction l with
  | nil => intro i j hi; cases hi
  | cons x l ih =>
    intro i j hi hj
    rw [List.flatMap_cons]
    cases i with
    | zero =>
      rw [List.getElem?_append_left (by rw [hst]; omega)]
      simp
    | succ i =>
      rw [List.getElem?_append_right (by rw [hst, Nat.succ_mul]; omega), hst, show (i + 1) * st + j - st = i * st + j by rw [Nat.succ_mul]; omega, ih i j (by simpa using hi) hj]
      simp

theorem PairsAt.sz {w : World} {a : Option Addr} {l : List Ent} (h : PairsAt w a l) : ∀ x ∈ l, x.v.bytes.size ≤ maxLen := And.right h

structure TStep where
  do_ : Int
  least : Int
  a : Option Addr
  cap : Nat
  w : List Ent

def encT (x : TStep) : List Value := [.int .i64 x.do_, .int .i64 x.least, .slice x.a x.w.length x.cap]
def encTs (l : List TStep) : List Value := l.flatMap encT
def TStepsAt (w : World) (a : Option Addr) (l : List TStep) : Prop := SliceAt w a (encTs l) ∧ ∀ x ∈ l, PairsAt w x.a x.w ∧ x.w.length ≤ maxLen

theorem TStepsAt.below {w w' : World} {a : Option Addr} {l : List TStep} (h : TStepsAt w a l) (k : Below w.heap.size w w') : TStepsAt w' a l := ⟨sliceAt_below h.1 k, fun x hx => ⟨(h.2 x hx).1.below k, (h.2 x hx).2⟩⟩

theorem TStepsAt.facts {w : World} {a : Option Addr} {l : List TStep} (h : TStepsAt w a l) (h0 : 0 < l.length) :
    ∃ b off, a = some ⟨b, off, none⟩ ∧ b < w.heap.size ∧ ∀ i (hi : i < l.length), w.cell? ⟨b, off + i * 3, none⟩ = some (.int .i64 l[i].do_) ∧ w.cell? ⟨b, off + i * 3 + 1, none⟩ = some (.int .i64 l[i].least) ∧
      w.cell? ⟨b, off + i * 3 + 2, none⟩ = some (.slice l[i].a l[i].w.length l[i].cap) ∧ PairsAt w l[i].a l[i].w ∧ l[i].w.length ≤ maxLen := by
  have hne : encTs l ≠ [] := by
    cases l with
    | nil => cases h0
    | cons x l => simp [encTs, encT]
  obtain ⟨b, off, rfl, hb⟩ := h.1.lt hne
  rcases h.1 with h1 | ⟨b', off', e, hc⟩
  · exact absurd h1 hne
  · cases e
    refine ⟨b, off, rfl, hb, fun i hi => ?_⟩
    have q := fun j hj => flat_get encT 3 (fun _ => rfl) l i j hi hj
    have p0 := hc (i * 3 + 0) _ (q 0 (by omega))
    have p1 := hc (i * 3 + 1) _ (q 1 (by omega))
    have p2 := hc (i * 3 + 2) _ (q 2 (by omega))
    exact ⟨p0, p1, p2, h.2 _ (List.getElem_mem _)⟩

def greatT (l : List TStep) : Bool := (l.take 100).any (fun x => greatP x.w) || decide (80 < l.length)

theorem greatT_false {l : List TStep} (h : greatT l = false) : l.length ≤ 80 ∧ ∀ x ∈ l, x.w.length ≤ 50 := by
  unfold greatT at h
  simp only [Bool.or_eq_false_iff, decide_eq_false_iff_not, List.any_eq_false] at h
  refine ⟨by omega, fun x hx => ?_⟩
  rw [List.take_of_length_le (by omega)] at h
  exact (greatP_false (by simpa using h.1 x hx)).1

set_option maxHeartbeats 1000000 in
set_option maxRecDepth 100000 in
theorem law_greatTable (a : Option Addr) (cap : Nat) (l : List TStep) (w : World) (hn : l.length ≤ 9223372036854775807) (hA : TStepsAt w a l) :
    Calls Try.prog 16 #[.slice a l.length cap] w (BoolPost (greatT l) w) := by
  have fin : ∀ b, greatT l = b → ∀ w', Below w.heap.size w w' → BoolPost (greatT l) w (.returned (.bool b)) w' := fun b h w' hb => ⟨by rw [h], hb⟩
  have F := hid fin
  have HA := hid hA
  clear fin hA
  go_enter Try.func16, Try.ntmps16
  go_wp2
  go_loopw [3] (fun i wr => ∃ k : Nat, k ≤ l.length ∧ k ≤ 100 ∧ i = .int .i64 k ∧ Hid ((l.take k).any (fun x => greatP x.w) = false) ∧ Below w.heap.size w wr) (fun i _ => 100 - (intOf i).toNat)
  case atStart => exact ⟨0, Nat.zero_le _, by omega, rfl, hid (by simp), Below.refl _ _⟩
  case round =>
    obtain ⟨k, hk, hk2, rfl, HH, hb⟩ := hrel
    by_cases hlt : k < l.length
    · by_cases hk3 : k < 100
      · obtain ⟨b, off, rfl, hbb, hv⟩ := (HA.out.below hb).facts (by omega)
        obtain ⟨-, -, g3, g4, g5⟩ := hv k hlt
        have hst : (l.take (k + 1)).any (fun x => greatP x.w) = (false || greatP l[k].w) := by
          rw [List.take_succ_eq_append_getElem hlt, List.any_append, HH.out]; simp
        have hmono : (l.take (k + 1)).any (fun x => greatP x.w) = true → (l.take 100).any (fun x => greatP x.w) = true := by
          intro h
          rw [List.any_eq_true] at h ⊢
          obtain ⟨x, hx, h⟩ := h
          exact ⟨x, (List.take_subset_take_left l (by omega)) hx, h⟩
        have HG := hid (law_greatPairs l[k].a l[k].cap l[k].w wr (by unfold maxLen at g5; omega) g4.sl)
        have HB := hid hb
        have HST := hid hst
        have HM := hid hmono
        have hki : (k : Int) < (l.length : Int) := by omega
        have hk0 : (0 : Int) ≤ (k : Int) := by omega
        have hk1 : (k : Int) < 100 := by omega
        clear hv hst hmono g4 g5 hb
        generalize l[k] = x at *
        generalize hgp : greatP x.w = gp at *
        have HGP := hid hgp
        clear hgp
        go_wp2_with fail
        (with_reducible refine HG.out.mono ?_)
        rintro e w1 ⟨rfl, hb⟩
        have HB1 := hid (HB.out.trans (hb.mono HB.out.size))
        clear hb HG
        cases gp with
        | true =>
          go_wp2
          go_ret
          exact F.out _ (by unfold greatT; rw [HM.out (by rw [HST.out]; rfl)]; rfl) _ HB1.out
        | false =>
          go_wp2
          go_roundw
          case rel => exact ⟨k + 1, by omega, by omega, by go_num, HST, HB1.out⟩
          case measure => simp [intOf]; omega
      · obtain rfl : k = 100 := by omega
        have G := hid (show greatT l = true by unfold greatT; simp; right; omega)
        have HB := hid hb
        have hki : (100 : Int) < (l.length : Int) := by omega
        clear hb
        go_wp2
        go_ret
        exact F.out _ (by rw [G.out]; simp; omega) _ HB.out
    · obtain rfl : k = l.length := by omega
      have G := hid (show greatT l = decide (80 < l.length) by unfold greatT; rw [List.take_of_length_le hk2, ← List.take_length (l := l), HH.out]; simp)
      have HB := hid hb
      clear hb
      go_wp2
      go_ret
      exact F.out (decide ((80 : Int) < (l.length : Int))) (by rw [G.out]; exact decide_eq_decide.2 (by omega)) _ HB.out

end Go.Proofs.Ytoiobhcgpajogac
/- Steps of a log, as they come in; greatLog. -/
namespace Go.Proofs.Ytoiobhcgpajogac
open Go.RowKit
end Go.Proofs.Ytoiobhcgpajogac
/- Steps of a deed, as they come in; greatDeeds. -/
namespace Go.Proofs.Ytoiobhcgpajogac
open Go.RowKit

structure DStep where
  do_ : Int
  k : Int
  to_ : Int
  v : Val
  a : Option Addr
  cap : Nat
  w : List Ent

def encD (x : DStep) : List Value := [.int .i64 x.do_, .int .i64 x.k, .int .i64 x.to_, .bool x.v.there, .string x.v.bytes, .slice x.a x.w.length x.cap]
def encDs (l : List DStep) : List Value := l.flatMap encD
def DStepsAt (w : World) (a : Option Addr) (l : List DStep) : Prop := SliceAt w a (encDs l) ∧ ∀ x ∈ l, PairsAt w x.a x.w ∧ x.w.length ≤ maxLen ∧ x.v.bytes.size ≤ maxLen

theorem DStepsAt.below {w w' : World} {a : Option Addr} {l : List DStep} (h : DStepsAt w a l) (k : Below w.heap.size w w') : DStepsAt w' a l := ⟨sliceAt_below h.1 k, fun x hx => ⟨(h.2 x hx).1.below k, (h.2 x hx).2⟩⟩

theorem DStepsAt.facts {w : World} {a : Option Addr} {l : List DStep} (h : DStepsAt w a l) (h0 : 0 < l.length) :
    ∃ b off, a = some ⟨b, off, none⟩ ∧ b < w.heap.size ∧ ∀ i (hi : i < l.length), w.cell? ⟨b, off + i * 6, none⟩ = some (.int .i64 l[i].do_) ∧ w.cell? ⟨b, off + i * 6 + 1, none⟩ = some (.int .i64 l[i].k) ∧ w.cell? ⟨b, off + i * 6 + 2, none⟩ = some (.int .i64 l[i].to_) ∧
      w.cell? ⟨b, off + i * 6 + 3, none⟩ = some (.bool l[i].v.there) ∧ w.cell? ⟨b, off + i * 6 + 4, none⟩ = some (.string l[i].v.bytes) ∧ w.cell? ⟨b, off + i * 6 + 5, none⟩ = some (.slice l[i].a l[i].w.length l[i].cap) ∧ PairsAt w l[i].a l[i].w ∧ l[i].w.length ≤ maxLen ∧ l[i].v.bytes.size ≤ maxLen := by
  have hne : encDs l ≠ [] := by
    cases l with
    | nil => cases h0
    | cons x l => simp [encDs, encD]
  obtain ⟨b, off, rfl, hb⟩ := h.1.lt hne
  rcases h.1 with h1 | ⟨b', off', e, hc⟩
  · exact absurd h1 hne
  · cases e
    refine ⟨b, off, rfl, hb, fun i hi => ?_⟩
    have q := fun j hj => flat_get encD 6 (fun _ => rfl) l i j hi hj
    have p0 := hc (i * 6 + 0) _ (q 0 (by omega))
    have p1 := hc (i * 6 + 1) _ (q 1 (by omega))
    have p2 := hc (i * 6 + 2) _ (q 2 (by omega))
    have p3 := hc (i * 6 + 3) _ (q 3 (by omega))
    have p4 := hc (i * 6 + 4) _ (q 4 (by omega))
    have p5 := hc (i * 6 + 5) _ (q 5 (by omega))
    exact ⟨p0, p1, p2, p3, p4, p5, h.2 _ (List.getElem_mem _)⟩

def greatE (x : DStep) : Bool := greatP x.w || decide (100 < x.v.bytes.size)
def greatDs (l : List DStep) : Bool := (l.take 100).any (fun x => greatE x) || decide (60 < l.length)

theorem greatDs_false {l : List DStep} (h : greatDs l = false) : l.length ≤ 60 ∧ ∀ x ∈ l, x.w.length ≤ 50 ∧ x.v.bytes.size ≤ 100 := by
  unfold greatDs at h
  simp only [Bool.or_eq_false_iff, decide_eq_false_iff_not, List.any_eq_false] at h
  refine ⟨by omega, fun x hx => ?_⟩
  rw [List.take_of_length_le (by omega)] at h
  have := h.1 x hx
  unfold greatE at this
  simp only [Bool.or_eq_true, not_or, decide_eq_true_eq] at this
  exact ⟨(greatP_false (by simpa using this.1)).1, by omega⟩

set_option maxHeartbeats 1000000 in
set_option maxRecDepth 100000 in
theorem law_greatDeeds (a : Option Addr) (cap : Nat) (l : List DStep) (w : World) (hn : l.length ≤ 9223372036854775807) (hA : DStepsAt w a l) :
    Calls Try.prog 17 #[.slice a l.length cap] w (BoolPost (greatDs l) w) := by
  have fin : ∀ b, greatDs l = b → ∀ w', Below w.heap.size w w' → BoolPost (greatDs l) w (.returned (.bool b)) w' := fun b h w' hb => ⟨by rw [h], hb⟩
  have F := hid fin
  have HA := hid hA
  clear fin hA
  go_enter Try.func17, Try.ntmps17
  go_wp2
  go_loopw [3] (fun i wr => ∃ k : Nat, k ≤ l.length ∧ k ≤ 100 ∧ i = .int .i64 k ∧ Hid ((l.take k).any (fun x => greatE x) = false) ∧ Below w.heap.size w wr) (fun i _ => 100 - (intOf i).toNat)
  case atStart => exact ⟨0, Nat.zero_le _, by omega, rfl, hid (by simp), Below.refl _ _⟩
  case round =>
    obtain ⟨k, hk, hk2, rfl, HH, hb⟩ := hrel
    by_cases hlt : k < l.length
    · by_cases hk3 : k < 100
      · obtain ⟨b, off, rfl, hbb, hv⟩ := (HA.out.below hb).facts (by omega)
        obtain ⟨-, -, -, -, g2, g3, g4, g5, g6⟩ := hv k hlt
        have hst : (l.take (k + 1)).any (fun x => greatE x) = (greatP l[k].w || decide ((100 : Int) < (l[k].v.bytes.size : Int))) := by
          rw [List.take_succ_eq_append_getElem hlt, List.any_append, HH.out]; simp only [List.any_cons, List.any_nil, Bool.or_false, Bool.false_or]; unfold greatE; congr 1; exact decide_eq_decide.2 (by omega)
        have hmono : (l.take (k + 1)).any (fun x => greatE x) = true → (l.take 100).any (fun x => greatE x) = true := by
          intro h
          rw [List.any_eq_true] at h ⊢
          obtain ⟨x, hx, h⟩ := h
          exact ⟨x, (List.take_subset_take_left l (by omega)) hx, h⟩
        have HG := hid (law_greatPairs l[k].a l[k].cap l[k].w wr (by unfold maxLen at g5; omega) g4.sl)
        have HB := hid hb
        have HST := hid hst
        have HM := hid hmono
        have hki : (k : Int) < (l.length : Int) := by omega
        have hk0 : (0 : Int) ≤ (k : Int) := by omega
        have hk1 : (k : Int) < 100 := by omega
        clear hv hst hmono g4 g5 hb
        generalize l[k] = x at *
        generalize hgp : greatP x.w = gp at *
        have HGP := hid hgp
        have g6' : x.v.bytes.size ≤ 9223372036854775807 := by unfold maxLen at g6; omega
        clear hgp g6
        go_wp2_with fail
        (with_reducible refine HG.out.mono ?_)
        rintro e w1 ⟨rfl, hb⟩
        have HB1 := hid (HB.out.trans (hb.mono HB.out.size))
        have g2' := below_cell hb (World.block_lt_of_cell? _ _ g2) |>.trans g2
        clear hb HG g2 g3
        cases gp with
        | true =>
          go_wp2
          go_ret
          exact F.out _ (by unfold greatDs; rw [HM.out (by rw [HST.out]; rfl)]; rfl) _ HB1.out
        | false =>
          by_cases hz : (100 : Int) < (x.v.bytes.size : Int)
          · have HZ := hid hz
            go_wp2
            go_ret
            exact F.out _ (by unfold greatDs; rw [HM.out (by rw [HST.out, decide_eq_true HZ.out]; rfl)]; rfl) _ HB1.out
          · have HZ := hid hz
            go_wp2
            go_roundw
            case rel => exact ⟨k + 1, by omega, by omega, by go_num, hid (by rw [HST.out, decide_eq_false (by have := HZ.out; omega)]; rfl), HB1.out⟩
            case measure => simp [intOf]; omega
      · obtain rfl : k = 100 := by omega
        have G := hid (show greatDs l = true by unfold greatDs; simp; right; omega)
        have HB := hid hb
        have hki : (100 : Int) < (l.length : Int) := by omega
        clear hb
        go_wp2
        go_ret
        exact F.out _ (by rw [G.out]; simp; omega) _ HB.out
    · obtain rfl : k = l.length := by omega
      have G := hid (show greatDs l = decide (60 < l.length) by unfold greatDs; rw [List.take_of_length_le hk2, ← List.take_length (l := l), HH.out]; simp)
      have HB := hid hb
      clear hb
      go_wp2
      go_ret
      exact F.out (decide ((60 : Int) < (l.length : Int))) (by rw [G.out]; exact decide_eq_decide.2 (by omega)) _ HB.out

end Go.Proofs.Ytoiobhcgpajogac
