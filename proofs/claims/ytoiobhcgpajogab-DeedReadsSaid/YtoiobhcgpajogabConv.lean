/- string(b), of bytes that lie in memory; plain laws of bytes of commits. -/
import Derived.Test.YtoiobhcgpajogabCodec8
import Derived.Test.YtoiobhcgpajogabPairs
namespace Go.Proofs.Ytoiobhcgpajogab
open Go.RowKit

theorem conv_sliceAt (w : World) (a : Option Addr) (cap : Nat) (l : List UInt8) (h : SliceAt w a (Lib.byteCells l)) :
    (convert 60 9 (.slice a l.length cap)).run Try.prog w = .ok (.string ⟨l.toArray⟩) w := by
  have vac : ∀ ad : Addr, l = [] → ∀ j (hj : j < l.length), w.cell? (ad.add j) = some (.int .u8 (l[j].toNat : Int)) := by
    intro ad hl j hj
    subst hl
    simp at hj
  cases a with
  | none =>
    have hl : l = [] := by
      rcases h with h | ⟨b, off, h, -⟩
      · simpa [Lib.byteCells] using h
      · cases h
    subst hl
    show (convert 60 9 (.slice none 0 cap)).run Try.prog w = _
    rw [run_convert_bytes_string w 60 9 5 none 0 cap Try.underlying60 Try.underlying5 Try.underlying9]
    simp [Conv.bytesToString, Sem.run_pure]
    rfl
  | some ad =>
    by_cases hl : l = []
    · exact run_convert_bytes_back w 60 9 5 ad cap l Try.underlying60 Try.underlying5 Try.underlying9 (vac ad hl)
    · rcases h with h | ⟨b, off, e, hc⟩
      · exact absurd (by simpa [Lib.byteCells] using h) hl
      · cases e
        refine run_convert_bytes_back w 60 9 5 ⟨b, off, none⟩ cap l Try.underlying60 Try.underlying5 Try.underlying9 ?_
        intro j hj
        have e : (⟨b, off, none⟩ : Addr).add j = ⟨b, off + j, none⟩ := by unfold Addr.add; split <;> simp_all
        rw [e]
        exact hc j _ (by simp [Lib.byteCells, List.getElem?_eq_getElem hj])

theorem conv_row (w : World) (B n : Nat) (v : Value) (l : List UInt8) (h : w.ownsRow B 5 1 v n (Lib.byteCells l)) :
    (convert 60 9 v).run Try.prog w = .ok (.string ⟨l.toArray⟩) w := by
  obtain ⟨a, cap, rfl, hs, -⟩ := ownsRow.sliceAt h
  have hn : n = l.length := by have := h.1; simp [Lib.byteCells] at this; omega
  subst hn
  exact conv_sliceAt w a cap l hs

theorem decL_bad {b : List UInt8} {l : List Ent} {n c : Int} (h : decL b = (l, n, c)) (hc : c ≠ 0) : l = [] ∧ n = 0 := by
  unfold decL at h
  split at h
  · cases h; exact ⟨rfl, rfl⟩
  · split at h
    · cases h; exact ⟨rfl, rfl⟩
    · split at h
      · cases h; exact ⟨rfl, rfl⟩
      · split at h
        · cases h; exact ⟨rfl, rfl⟩
        · split at h
          · cases h; exact ⟨rfl, rfl⟩
          · split at h
            · cases h; exact ⟨rfl, rfl⟩
            · simp only [Prod.mk.injEq] at h
              exact absurd h.2.2.symm hc

theorem decL_cut (l : List Ent) (h : ckPs (-1) l = 0) (k : Nat) (hk : k < (encL l).length) : decL ((encL l).take k) = ([], 0, 6) := by
  obtain ⟨h1, h2, h3⟩ := ok_of h
  have e1 : (UInt8.ofNat (2 + (bodyL l).length)).toNat = 2 + (bodyL l).length := by simp; omega
  rw [encL_length] at hk
  cases k with
  | zero => rfl
  | succ k =>
    have e : (encL l).take (k + 1) = UInt8.ofNat (2 + (bodyL l).length) :: (UInt8.ofNat l.length :: bodyL l).take k := rfl
    rw [e]
    simp only [decL, e1]
    rw [if_pos]
    simp only [List.length_cons, List.length_take]
    omega

theorem encL_inj {l m : List Ent} (h : ckPs (-1) l = 0) (h' : ckPs (-1) m = 0) (e : encL l = encL m) : l = m := by
  have h1 := decL_encL l [] h
  have h2 := decL_encL m [] h'
  rw [e, h2] at h1
  exact (Prod.mk.inj h1).1.symm

theorem encL_bound {l : List Ent} (h : ckPs (-1) l = 0) : 2 ≤ (encL l).length ∧ (encL l).length ≤ 114 := by
  obtain ⟨h1, h2, h3⟩ := ok_of h
  rw [encL_length]
  omega

def sizeL (l : List Ent) : Nat := l.foldl (fun n x => n + 2 + x.v.bytes.size) 0

theorem sizeL_snoc (l : List Ent) (x : Ent) : sizeL (l ++ [x]) = sizeL l + 2 + x.v.bytes.size := by simp [sizeL]

theorem sizeL_body {l : List Ent} (h : ∀ x ∈ l, OkE x) : sizeL l = (bodyL l).length := by
  have hx : ∀ x : Ent, OkE x → (bodyE x).length = 2 + x.v.bytes.size := by
    intro x hx
    unfold bodyE
    cases ht : x.v.there with
    | true => simp; omega
    | false => have := hx.2.2.2 ht; simp [this]
  induction l using snoc_ind with
  | nil => rfl
  | snoc l x ih =>
    rw [sizeL_snoc, bodyL_snoc, List.length_append, ih (fun y hy => h y (List.mem_append_left _ hy)), hx x (h x (by simp))]
    omega

end Go.Proofs.Ytoiobhcgpajogab
