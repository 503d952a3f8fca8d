/- The walks of New, Read, Clear and List of a chain. -/
import Derived.Test.YtoiobhcgpajogabChain
namespace Go.Proofs.Ytoiobhcgpajogab
open Go.RowKit

def NewPost (g : Nat → Nat) (p : Nat) (w : World) (e : Ending) (w' : World) : Prop :=
  ∃ c, e = .returned (.pointer (some ⟨c, 0, none⟩)) ∧ Below w.heap.size w w' ∧ w.heap.size ≤ c ∧ c < w'.heap.size ∧ ChainAt w' (extc g w p) p c [⟨0, Val.zero⟩]

theorem chain_New (g : Nat → Nat) (p : Nat) (w : World) : Calls Try.prog 60 #[] w (NewPost g p w) := by
  go_enter Try.func60, Try.ntmps60
  go_wp2
  go_ret
  refine ⟨w.heap.size + 1, rfl, (((Below.refl _ _).alloc (Nat.le_refl _) _).alloc (by simp) _), by simp, by simp, w.heap.size, 1, ?_, ?_, ?_, ?_, by simp⟩
  · rw [heap_alloc2_new]; rfl
  · exact (World.ownsRow_lit (size := 3) w _ 1 (Nat.zero_le _) (by simp [maxLen]) rfl).alloc _
  · exact extc_new (by simp)
  · exact extc_new (by simp)

def ReadPost (x : Val × Int) (w : World) (e : Ending) (w' : World) : Prop :=
  e = .returned (.tuple #[.agg #[.bool x.1.there, .string x.1.bytes], .int .i64 x.2]) ∧ Below w.heap.size w w'

theorem lastLe_snoc (l : List Ent) (e : Ent) (a : Int) : lastLe (l ++ [e]) a = if e.n ≤ a then e.v else lastLe l a := by
  simp [lastLe]

set_option maxHeartbeats 1000000 in
set_option maxRecDepth 100000 in
theorem chain_Read (g : Nat → Nat) (p c : Nat) (l : List Ent) (w : World) (a : Int) (hn : l.length ≤ 1000000) (hC : ChainAt w g p c l) :
    Calls Try.prog 74 #[.pointer (some ⟨c, 0, none⟩), .int .i64 a] w (ReadPost (readC l a) w) := by
  by_cases h0 : a < 0
  · have e1 : readC l a = (Val.zero, 1) := by simp [readC, h0]
    rw [e1]
    go_enter Try.func74, Try.ntmps74
    go_wp2
    refine bodyPost_ret (v := .tuple #[.agg #[.bool false, .string ByteArray.empty], .int .i64 1]) (by simp [results, Try.results74, go_sem]; rfl) rfl ⟨rfl, ?_⟩
    exact (Below.refl _ _).alloc (Nat.le_refl _) _
  · by_cases h1 : a < firstN l
    · have e1 : readC l a = (Val.zero, 12) := by simp [readC, h0, h1]
      rw [e1]
      go_enter Try.func74, Try.ntmps74
      go_wp2_with fail
      refine (chain_First g p c l _ (hC.alloc _)).mono ?_
      rintro e w1 ⟨rfl, rfl⟩
      go_wp2_with fail
      refine bodyPost_ret (v := .tuple #[.agg #[.bool false, .string ByteArray.empty], .int .i64 12]) (by simp [results, Try.results74, go_sem]; rfl) rfl ⟨rfl, ?_⟩
      exact (Below.refl _ _).alloc (Nat.le_refl _) _
    · have e1 : readC l a = (lastLe l a, 0) := by simp [readC, h0, h1]
      rw [e1]
      clear e1
      have h1' : firstN l ≤ a := by omega
      obtain ⟨r, cap, f1, f2, f3, f4, f5, f6, f7, f8, -, -, -, -⟩ := hC.facts
      have F8 := hid f8
      clear f8
      go_enter Try.func74, Try.ntmps74
      go_wp2_with fail
      refine (chain_First g p c l _ (hC.alloc _)).mono ?_
      rintro e w1 ⟨rfl, rfl⟩
      clear hC
      go_wp2_with fail
      go_loopw [23] (fun i wr => ∃ k : Nat, k ≤ l.length ∧ i = .int .i64 k ∧ Loc wr w.heap.size 32 [.bool false, .string ByteArray.empty] ∧
          Loc wr (w.heap.size + 1) 32 [.bool (lastLe (l.take k) a).there, .string (lastLe (l.take k) a).bytes] ∧ Below w.heap.size w wr) (fun i _ => l.length - (intOf i).toNat)
      case atStart =>
        refine ⟨0, Nat.zero_le _, rfl, (Loc.new w _ [.bool false, .string ByteArray.empty]).alloc _, ?_, (((Below.refl _ _).alloc (Nat.le_refl _) _).alloc (by simp) _)⟩
        exact Loc.at (w.alloc (.cells #[.bool false, .string ByteArray.empty] 32)) 32 [.bool false, .string ByteArray.empty] (by simp)
      case round =>
        obtain ⟨k, hk, rfl, L0, L1, hb⟩ := hrel
        have q9 := L0.lt
        have q10 := L1.lt
        by_cases hlt : k < l.length
        · have g1 := (hb.cell (p := ⟨r, k * 3, none⟩) f4).trans (F8.out k hlt).1
          have g2 := (hb.cell (p := ⟨r, k * 3 + 1, none⟩) f4).trans (F8.out k hlt).2.1
          have g3 := (hb.cell (p := ⟨r, k * 3 + 2, none⟩) f4).trans (F8.out k hlt).2.2
          have hst : lastLe (l.take (k + 1)) a = if l[k].n ≤ a then l[k].v else lastLe (l.take k) a := by
            rw [List.take_succ_eq_append_getElem hlt, lastLe_snoc]
          obtain ⟨q5, q6, q7, q8⟩ := L1.two
          have H0 := hid L0
          have H1 := hid L1
          have HB := hid hb
          have HS := hid hst
          clear hb hst L0 L1
          by_cases hle : l[k].n ≤ a
          · rw [if_pos hle] at HS
            generalize l[k] = e at *
            go_wp2
            go_roundw
            case rel =>
              refine ⟨k + 1, by omega, by go_num, ((H0.out.other (by simp) _).other (by simp) _).alloc _, ?_, ((HB.out.setCell (by simp) _).setCell (by simp) _).alloc (by simp; omega) _⟩
              rw [HS.out]
              exact ((H1.out.set 0 _).set 1 _).alloc _
            case measure => simp [intOf]; omega
          · rw [if_neg hle] at HS
            generalize l[k] = e at *
            go_wp2
            go_roundw
            case rel =>
              refine ⟨k + 1, by omega, by go_num, H0.out.alloc _, ?_, HB.out.alloc (by omega) _⟩
              rw [HS.out]
              exact H1.out.alloc _
            case measure => simp [intOf]; omega
        · obtain rfl : k = l.length := by omega
          rw [List.take_length] at L1
          obtain ⟨q1, q2, q3, q4⟩ := L0.two
          obtain ⟨q5, q6, q7, q8⟩ := L1.two
          have HB := hid hb
          clear L0 L1 hb
          go_wp2
          refine bodyPost_ret (v := .tuple #[.agg #[.bool (lastLe l a).there, .string (lastLe l a).bytes], .int .i64 0]) (by simp [results, Try.results74, go_sem, q1, q2]) rfl ⟨rfl, ?_⟩
          exact (HB.out.setCell (by simp) _).setCell (by simp) _

/-! ### List -/

def RowPost (e : TypeId) (n : Nat) (cells : List Value) (w : World) (en : Ending) (w' : World) : Prop :=
  ∃ v, en = .returned v ∧ Below w.heap.size w w' ∧ w'.ownsRow 0 e 3 v n cells ∧ ∀ r, v.ownBlock = some r → w.heap.size ≤ r



end Go.Proofs.Ytoiobhcgpajogab
