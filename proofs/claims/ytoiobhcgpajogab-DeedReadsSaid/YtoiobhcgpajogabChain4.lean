/- The walk of Clear of a chain. -/
import Derived.Test.YtoiobhcgpajogabChain
namespace Go.Proofs.Ytoiobhcgpajogab
open Go.RowKit

/-- How many versions go: as long as the second one is not above least. -/
def clearK (least : Int) : List Ent → Nat
  | [] => 0
  | [_] => 0
  | _ :: e :: l => if e.n ≤ least then clearK least (e :: l) + 1 else 0

theorem clearK_lt (least : Int) : ∀ l : List Ent, l ≠ [] → clearK least l < l.length
  | [], h => absurd rfl h
  | [_], _ => by simp [clearK]
  | a :: e :: l, _ => by
    have := clearK_lt least (e :: l) (by simp)
    simp only [clearK]
    split
    · simp only [List.length_cons] at *; omega
    · simp

theorem clearK_step (least : Int) : ∀ (l : List Ent) (k : Nat), k ≤ clearK least l →
    (k < clearK least l ↔ ∃ h : k + 1 < l.length, l[k + 1].n ≤ least)
  | [], k, h => by simp [clearK] at *
  | [_], k, h => by simp [clearK] at *
  | a :: e :: l, k, h => by
    have ih := clearK_step least (e :: l)
    simp only [clearK] at *
    split at h <;> rename_i he
    · simp only [he, if_true]
      cases k with
      | zero => simp [he]
      | succ k =>
        have := ih k (by omega)
        simp only [List.length_cons, List.getElem_cons_succ] at *
        constructor
        · intro hk
          obtain ⟨h1, h2⟩ := this.1 (by omega)
          exact ⟨by omega, h2⟩
        · rintro ⟨h1, h2⟩
          have := this.2 ⟨by omega, h2⟩
          omega
    · obtain rfl : k = 0 := by omega
      simp [he]

/-- The row r has, first, these cells. -/
def DelPost (r cap : Nat) (l : List Ent) (n : Nat) (w : World) (en : Ending) (w' : World) : Prop :=
  en = .returned (.slice (some ⟨r, 0, none⟩) (l.length - n) cap) ∧ w'.ownsRow 0 126 3 (.slice (some ⟨r, 0, none⟩) (l.length - n) cap) (l.length - n) (encEnts (l.drop n)) ∧
    w.heap.size = w'.heap.size ∧ w.grownBy w' (some r)

set_option maxHeartbeats 1000000 in
set_option maxRecDepth 100000 in
theorem delete_Version (r cap n : Nat) (l : List Ent) (w : World) (hn : l.length ≤ 1000000) (hlt : n < l.length) (hr : w.ownsRow 0 126 3 (.slice (some ⟨r, 0, none⟩) l.length cap) l.length (encEnts l)) :
    Calls Try.prog 81 #[.slice (some ⟨r, 0, none⟩) l.length cap, .int .i64 0, .int .i64 n] w (DelPost r cap l n w) := by
  obtain ⟨i0, hi, hz0, hz1, hz2⟩ := info_parts Try.infoVer
  by_cases h0 : n = 0
  · subst h0
    have HR := hid hr
    clear hr
    have hcap : l.length ≤ cap := by
      rcases HR.out.2 with ⟨h, _⟩ | ⟨g', cap', cur, h, _, hg, hn, _⟩
      · cases h
      · cases h; exact hn
    go_enter Try.func81, Try.ntmps81
    go_wp2
    go_ret
    exact ⟨rfl, HR.out, rfl, World.grownBy.refl _ _⟩
  · obtain ⟨cur, hcur, hnc, hcm, hcs, htk⟩ : ∃ cur : Array Value, w.heap[r]? = some (.cells cur 126 (0, 0)) ∧ l.length ≤ cap ∧ cap ≤ maxLen ∧ cur.size = cap * 3 ∧ cur.toList.take (l.length * 3) = encEnts l := by
      rcases hr.2 with ⟨h, _⟩ | ⟨g', cap', cur, h, _, hg, hn, hm, hs, ht⟩
      · cases h
      · cases h; exact ⟨cur, hg, hn, hm, hs, ht⟩
    have hnz : ((0 : Int) == (n : Int)) = false := by simp; omega
    have hne : ¬ cap = n := by omega
    have HC := hid hcur
    have HT := hid htk
    have HS := hid hcs
    have HR := hid hr
    have hd0 : (encEnts (l.drop n)).length = (l.length - n) * 3 := by rw [encEnts_length, List.length_drop]
    have hnews : ∀ j u, (encEnts (l.drop n))[j]? = some u → w.cell? ((⟨r, n * 3, none⟩ : Addr).add j) = some u := by
      intro j u hu
      have e : (⟨r, n * 3, none⟩ : Addr).add j = ⟨r, n * 3 + j, none⟩ := by unfold Addr.add; split <;> simp_all
      rw [← encEnts_drop, List.getElem?_drop] at hu
      have hj := (List.getElem?_eq_some_iff.1 hu).1
      rw [encEnts_length] at hj
      rw [e, hr.cellAt _ hj]
      exact hu
    have hle : n ≤ l.length := by omega
    have hne2 : ¬ cap = l.length - n := by omega
    have hpos : 0 < l.length - (l.length - n) := by omega
    have hle2 : l.length - n + n * 3 ≤ l.length * 3 := by omega
    have hfit : 0 * 3 + (encEnts (l.drop n)).length ≤ cur.size := by rw [hd0, hcs]; omega
    have hfit2 : (l.length - n) * 3 + (l.length - (l.length - n)) * 3 ≤ (encEnts (l.drop n) ++ cur.toList.drop (encEnts (l.drop n)).length).toArray.size := by
      simp only [List.size_toArray, List.length_append, List.length_drop, Array.length_toList, hd0, hcs]; omega
    have hroom : 0 + (l.length - n) ≤ cap := by omega
    have HD := hid hd0
    have HN := hid hnews
    have HF := hid hfit
    have HF2 := hid hfit2
    clear hr hcur htk hcs h0 hd0 hnews hfit hfit2
    have z1 : ∀ u ∈ (Value.agg #[.int .i64 0, .bool false, .string ByteArray.empty]).cells, u.oneCell' = true := by
      intro u hu; simp [Value.cells] at hu; rcases hu with rfl | rfl | rfl <;> rfl
    have Z1 := hid z1
    clear z1
    go_enter Try.func81, Try.ntmps81
    go_wp2
    go_region_law ((refine step_append_at rfl (.tmp 22) (.tmp 25) 89 rfl 126 i0 3 Try.underlying89 hi hz1 r 0 cap cur rfl HC.out ⟨r, n * 3, none⟩ (l.length - n) (cap - n) (encEnts (l.drop n)) rfl HD.out HN.out (encEnts_one _) hroom HF.out ?_))
    go_wp2_with (refine wpList_clear_at rfl (.tmp 31) 89 rfl 126 i0 _ 3 Try.underlying89 hi hz0 rfl Z1.out (by decide) r ((l.length - n) * 3) (l.length - (l.length - n)) (cap - (l.length - n)) _ rfl hpos (setRow_heap _ _ _ _ _ _ HC.out) HF2.out ?_; intro cur' e1 e2)
    go_ret
    refine ⟨rfl, ⟨HD.out, .inr ⟨r, cap, cur', rfl, Nat.zero_le _, setRow_heap _ _ _ _ _ _ (setRow_heap _ _ _ _ _ _ HC.out), by omega, hcm, ?_, ?_⟩⟩, by simp, ⟨rfl, rfl, rfl, by simp, ?_⟩⟩
    · rw [e1]
      simp only [List.size_toArray, List.length_append, List.length_drop, Array.length_toList, HD.out, HS.out]
      omega
    · rw [e2]
      rw [← HD.out]
      exact List.take_left
    · intro k hk hne
      have hkr : k ≠ r := fun e => hne (by rw [e])
      rw [setRow_other _ _ _ _ hkr, setRow_other _ _ _ _ hkr]
      rfl

end Go.Proofs.Ytoiobhcgpajogab
