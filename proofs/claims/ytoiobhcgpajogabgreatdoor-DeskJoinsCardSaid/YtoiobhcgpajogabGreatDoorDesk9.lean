/- A desk: the words of a line. -/
import Derived.Test.YtoiobhcgpajogabGreatDoorDesk8
import Derived.Lib.SplitLaws
import Derived.Shelf.SlicesE.DeleteFunc
namespace Go.Proofs.YtoiobhcgpajogabGreatDoor
open Go.RowKit

def wordsB (s : ByteArray) : List ByteArray := (Lib.splitB ⟨#[32]⟩ 0 (Lib.countB s ⟨#[32]⟩) s).filter (fun x => !x.data.toList.isEmpty)

theorem filter_data : ∀ (l : List ByteArray), (l.filter (fun x => !x.data.toList.isEmpty)).map (·.data.toList) = (l.map (·.data.toList)).filter (fun w => decide (w ≠ []))
  | [] => rfl
  | x :: l => by
    rw [List.map_cons, List.filter_cons, List.filter_cons]
    by_cases h : x.data.toList = []
    · rw [if_neg (by simpa using h), if_neg (by simpa using h)]; exact filter_data l
    · rw [if_pos (by simpa using h), if_pos (by simpa using h), List.map_cons, filter_data l]

theorem wordsB_data (s : ByteArray) : (wordsB s).map (·.data.toList) = wordsD s.data.toList := by
  unfold wordsB wordsD
  rw [filter_data, Lib.splitB_data]
  rfl

theorem splitB_le (sep : ByteArray) : ∀ (k : Nat) (s x : ByteArray), x ∈ Lib.splitB sep 0 k s → x.size ≤ s.size
  | 0, s, x, h => by
    rw [Lib.splitB_zero, List.mem_singleton] at h
    subst h; exact Nat.le_refl _
  | k + 1, s, x, h => by
    unfold Lib.splitB at h
    split at h
    · rw [List.mem_singleton] at h; subst h; exact Nat.le_refl _
    · rcases List.mem_cons.1 h with h | h
      · subst h; simp only [ByteArray.size_extract]; omega
      · have := splitB_le sep k _ x h
        simp only [ByteArray.size_extract] at this
        omega

theorem wordsB_le {s x : ByteArray} (h : x ∈ wordsB s) : x.size ≤ s.size := splitB_le _ _ _ _ (List.mem_filter.1 h).1

theorem split_len (s : ByteArray) : (Lib.splitB ⟨#[32]⟩ 0 (Lib.countB s ⟨#[32]⟩) s).length = Lib.countB s ⟨#[32]⟩ + 1 := Lib.splitB_all ⟨#[32]⟩ (by decide) 0 _ s rfl
theorem count_len (s : ByteArray) : Lib.countB s ⟨#[32]⟩ ≤ s.size := Lib.countB_le ⟨#[32]⟩ (by decide) s.size s (Nat.le_refl _)

theorem wordsB_len (s : ByteArray) : (wordsB s).length ≤ Lib.countB s ⟨#[32]⟩ + 1 := by
  rw [← split_len s]
  exact List.length_filter_le _ _

theorem line1_gives (x : ByteArray) (W : World) : FnGives Tryz.prog 17 #[] #[.string x] (.bool x.data.toList.isEmpty) W := by
  show Calls Tryz.prog 17 #[.string x] W _
  go_enter Tryz.func17, Tryz.ntmps17
  go_wp2
  all_goals
    go_ret
    refine ⟨?_, 0, rfl⟩
    simp only [toList_data] at *
    simp_all

def WordsPost (s : ByteArray) (w : World) (e : Ending) (w' : World) : Prop :=
  e = .returned (.slice (some ⟨w.heap.size, 0, none⟩) (wordsB s).length (Lib.countB s ⟨#[32]⟩ + 1)) ∧ Below w.heap.size w w' ∧ StrsAt w' (some ⟨w.heap.size, 0, none⟩) (wordsB s)

set_option maxHeartbeats 4000000 in
set_option maxRecDepth 100000 in
theorem desk_words (s : ByteArray) (w : World) (hs : s.size ≤ 100000) :
    Calls Tryz.prog 15 #[.slice (some ⟨w.heap.size, 0, none⟩) (Lib.countB s ⟨#[32]⟩ + 1) (Lib.countB s ⟨#[32]⟩ + 1), .func (.func 17) #[] #[]] (w.alloc (.cells ((Lib.splitB ⟨#[32]⟩ 0 (Lib.countB s ⟨#[32]⟩) s).map Value.string).toArray 9)) (WordsPost s w) := by
  have eg : ∀ args w, (callFunc 17 args).run Tryz.prog w = .ok (.enter 17 args) w := enters_of Tryz.func17 (by kernel_rfl) rfl
  have hsl := split_len s
  have hcl := count_len s
  have hL := Loc.new w 9 ((Lib.splitB ⟨#[32]⟩ 0 (Lib.countB s ⟨#[32]⟩) s).map Value.string)
  have hdat := wordsB_data s
  unfold WordsPost
  have hwb : wordsB s = (Lib.splitB ⟨#[32]⟩ 0 (Lib.countB s ⟨#[32]⟩) s).filter (fun x => !x.data.toList.isEmpty) := rfl
  rw [hwb]
  generalize Lib.splitB ⟨#[32]⟩ 0 (Lib.countB s ⟨#[32]⟩) s = l at *
  rw [← hsl]
  have hH : Sort.Holds Value.string (w.alloc (.cells (l.map Value.string).toArray 9)) w.heap.size 0 l.toArray := fun j hj => by
    have hj' : j < l.length := by simpa using hj
    refine ⟨?_, hL.free _⟩
    rw [hL.cell, Nat.zero_add, List.getElem?_map, List.getElem?_eq_getElem hj']
    simp [hj']
  have hcon := Tryz.slices_DeleteFunc Value.string (fun _ => rfl) (fun x : ByteArray => x.data.toList.isEmpty) 17 #[] eg ByteArray.empty (fun w => by kernel_rfl) w.heap.size 0 l.length l.toArray (w.alloc (.cells (l.map Value.string).toArray 9)) (fun W x _ => line1_gives x W) (fun n os dk x _ => line1_gives x _) hH (by simp; omega) (by simp)
  simp only [List.size_toArray] at hcon
  refine hcon.mono ?_
  rintro e w' ⟨rfl, q, rfl⟩
  have hfl := List.length_filter_le (fun x : ByteArray => !x.data.toList.isEmpty) l
  have hsz : ((l.filter (fun x => !x.data.toList.isEmpty)) ++ List.replicate (l.length - (l.filter (fun x => !x.data.toList.isEmpty)).length) ByteArray.empty).toArray.size = l.toArray.size := by
    simp only [List.size_toArray, List.length_append, List.length_replicate]
    omega
  refine ⟨rfl, ⟨rfl, rfl, rfl, ?_, fun k hk => ?_⟩, .inr ⟨_, _, rfl, fun j u hj => ?_⟩⟩
  · rw [Sort.size_putRow]
    show w.heap.size ≤ (w.alloc _).heap.size
    rw [World.size_alloc]
    omega
  · unfold Sort.putRow Sort.mapBlock
    rw [Array.getElem?_modify, if_neg (by omega)]
    exact Below.heap_alloc w _ k hk
  · rw [List.getElem?_map] at hj
    obtain ⟨x, hx, rfl⟩ := Option.map_eq_some_iff.1 hj
    have hjl : j < (l.filter (fun x => !x.data.toList.isEmpty)).length := (List.getElem?_eq_some_iff.1 hx).1
    have hc := Sort.cell?_putRow Value.string (Sort.ahead (w.alloc (.cells (l.map Value.string).toArray 9)) q) w.heap.size 0 l.toArray _ (Sort.holds_ahead _ _ q _ _ _ hH) hsz j (by rw [hsz]; simp only [List.size_toArray]; omega)
    refine hc.trans ?_
    congr 2
    rw [getElem!_pos _ j (by rw [hsz]; simp only [List.size_toArray]; omega)]
    simp only [List.getElem_toArray]
    rw [List.getElem_append_left hjl]
    exact (List.getElem?_eq_some_iff.1 hx).2

end Go.Proofs.YtoiobhcgpajogabGreatDoor
