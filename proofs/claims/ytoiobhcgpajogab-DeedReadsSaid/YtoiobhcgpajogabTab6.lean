/- The walks of the document's sheet that only read: Read, Since, First, List. -/
import Derived.Test.YtoiobhcgpajogabTab5
import Derived.Test.YtoiobhcgpajogabLine3
namespace Go.Proofs.Ytoiobhcgpajogab
open Go.RowKit

/-- A sheet, and its lines. -/
def SheetC (w : World) (g : Nat → Nat) (p s : Nat) (T : Tab) (v : Nat → Value) : Prop :=
  T.Ok ∧ LocC w g p s 93 ((List.range 8).map v ++ [.int .i64 T.last]) ∧ ∀ k, k < 8 → LineAt w g (p + 1) (v k) (T.l k)

theorem SheetAt.c {w : World} {g : Nat → Nat} {p s : Nat} {T : Tab} (h : SheetAt w g p s T) : ∃ v, SheetC w g p s T v := by
  obtain ⟨h0, v, h1, h2⟩ := h
  exact ⟨v, h0, h1, h2⟩

theorem SheetC.at {w : World} {g : Nat → Nat} {p s : Nat} {T : Tab} {v : Nat → Value} (h : SheetC w g p s T v) : SheetAt w g p s T := ⟨h.1, v, h.2.1, h.2.2⟩

theorem SheetC.frame {lo hi : Nat} {g g' : Nat → Nat} {w w' : World} {p s : Nat} {T : Tab} {v : Nat → Value} (h : SheetC w g p s T v) (k : Evo lo hi g g' w w') (hc : p + 2 ≤ lo ∨ hi ≤ p) : SheetC w' g' p s T v :=
  ⟨h.1, h.2.1.frame k (by omega), fun j hj => (h.2.2 j hj).frame k (by omega)⟩

theorem SheetC.fresh {g g' : Nat → Nat} {w w' : World} {p s : Nat} {T : Tab} {v : Nat → Value} (h : SheetC w g p s T v) (k : Evo 0 0 g g' w w') : SheetC w' g' p s T v := h.frame k (by omega)

theorem SheetC.cells {w : World} {g : Nat → Nat} {p s : Nat} {T : Tab} {v : Nat → Value} (h : SheetC w g p s T v) {k : Nat} (hk : k < 8) :
    w.cell? ⟨s, k, none⟩ = some (v k) ∧ w.cell? ⟨s, 8, none⟩ = some (.int .i64 T.last) ∧ LineAt w g (p + 1) (v k) (T.l k) ∧ s < w.heap.size ∧ w.frozen? ⟨s, k, none⟩ = false :=
  ⟨(h.2.1.1.cell k).trans (get8 _ _ k hk), (h.2.1.1.cell 8).trans (get8_last _ _), h.2.2 k hk, h.2.1.1.lt, h.2.1.1.free k⟩

set_option maxHeartbeats 1000000 in
set_option maxRecDepth 100000 in
theorem sheet_Read (g : Nat → Nat) (p s : Nat) (T : Tab) (w : World) (k a : Int) (hS : SheetAt w g p s T) :
    Calls Try.prog 48 #[.pointer (some ⟨s, 0, none⟩), .int .i64 k, .int .i64 a] w (ReadPost (readT T k a) w) := by
  have hlong := hS.1.long
  have hsort := hid (fun k => (hS.1.1 k).1)
  obtain ⟨v, hC⟩ := hS.c
  obtain ⟨-, h8, -, ht, -⟩ := hC.cells (k := 0) (by omega)
  by_cases h0 : k < 0 ∨ 8 ≤ k
  · have e1 : readT T k a = (Val.zero, 1) := by unfold readT; rw [if_pos (by omega)]
    rw [e1]
    have CK := hid (fun w => ref_IsKey_out k w h0)
    clear hC hlong h0 hS
    go_enter Try.func48, Try.ntmps48
    go_wp2_with fail
    refine (CK.out _).mono ?_
    rintro e w1 ⟨rfl, rfl⟩
    go_wp2
    refine bodyPost_ret (v := .tuple #[.agg #[.bool false, .string ByteArray.empty], .int .i64 1]) (by simp [results, Try.results48, go_sem]; rfl) rfl ⟨rfl, ?_⟩
    exact (Below.refl _ _).alloc (Nat.le_refl _) _
  · obtain ⟨n, hn, rfl⟩ := key_nat h0
    have CK := hid (fun w => ref_IsKey_in n w ⟨by omega, by omega⟩)
    obtain ⟨hcn, -, hL, -⟩ := hC.cells hn
    by_cases h1 : (T.last : Int) < a
    · have e1 : readT T n a = (Val.zero, 1) := by unfold readT; rw [if_pos (by omega)]
      rw [e1]
      clear hC hlong h0 hS hL
      go_enter Try.func48, Try.ntmps48
      go_wp2_with fail
      refine (CK.out _).mono ?_
      rintro e w1 ⟨rfl, rfl⟩
      go_wp2
      refine bodyPost_ret (v := .tuple #[.agg #[.bool false, .string ByteArray.empty], .int .i64 1]) (by simp [results, Try.results48, go_sem]; rfl) rfl ⟨rfl, ?_⟩
      exact (Below.refl _ _).alloc (Nat.le_refl _) _
    · have e1 : readT T n a = readR (T.l n) a := by unfold readT; rw [if_neg (by omega), read_same (hsort.out n)]; rfl
      rw [e1]
      have h1' : a ≤ (T.last : Int) := by omega
      have hl := hlong n
      clear hC hlong h0 e1 hS
      generalize hy : readR (T.l n) a = y at *
      have HY := hid hy
      clear hy
      have HL := hid hL
      clear hL
      go_enter Try.func48, Try.ntmps48
      go_wp2_with fail
      refine (CK.out _).mono ?_
      rintro e w1 ⟨rfl, rfl⟩
      go_wp2_with fail
      refine (line_Read g _ _ _ _ a hl (HL.out.alloc _)).mono ?_
      rintro e w2 ⟨rfl, hb⟩
      rw [HY.out]
      have L := (Loc.new w 32 [.bool false, .string ⟨#[]⟩]).keep hb
      have HB := hid hb
      obtain ⟨q1, q2, q3, q4⟩ := L.two
      clear hb
      go_wp2
      refine bodyPost_ret (v := .tuple #[.agg #[.bool y.1.there, .string y.1.bytes], .int .i64 y.2]) (by simp [results, Try.results48, go_sem, q1, q2]) rfl ⟨rfl, ?_⟩
      exact ((((Below.refl _ _).alloc (Nat.le_refl _) _).trans (HB.out.mono (by simp))).setCell (by simp) _).setCell (by simp) _




end Go.Proofs.Ytoiobhcgpajogab
