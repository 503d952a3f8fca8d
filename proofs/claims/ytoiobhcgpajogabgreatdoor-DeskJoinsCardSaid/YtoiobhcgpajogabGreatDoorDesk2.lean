/- A desk: what the library's variables hold; the walks of num, of what is told, of say. -/
import Derived.Test.YtoiobhcgpajogabGreatDoorDesk1
import Derived.Lib.ItoaLen
import Derived.Lib.AppendIntMem
import Derived.Deep.RegionHeld3
import Derived.Deep.QuietTactic
import Derived.BigQuiet
namespace Go.Proofs.YtoiobhcgpajogabGreatDoor
open Go.RowKit

/-- What the library's variables hold that a desk's walks read; their blocks have the colour 0. -/
structure GlobC (w : World) (g : Nat → Nat) : Prop where
  tab : Lib.TabIs Tryz.prog w "internal/strconv.uint64pow10" .u64 Lib.pow10Tab
  len : ∃ m, w.cell? ⟨0, 0, none⟩ = some (.int .i64 m)
  syn : ∃ ev, w.cell? ⟨1, 0, none⟩ = some ev ∧ (ev = .nilIface ∨ ∃ te pe, ev = .iface te pe)
  rng : ∃ ev, w.cell? ⟨2, 0, none⟩ = some ev ∧ (ev = .nilIface ∨ ∃ te pe, ev = .iface te pe)
  col : g 5 = 0 ∧ g 0 = 0 ∧ g 1 = 0 ∧ g 2 = 0

theorem Tryz.globTab : Tryz.prog.globalNamed "internal/strconv.uint64pow10" = some 5 := by kernel_rfl

theorem tabIs_same {w w' : World} (h : Lib.TabIs Tryz.prog w "internal/strconv.uint64pow10" .u64 Lib.pow10Tab) (e : 5 < w.heap.size → w'.heap[5]? = w.heap[5]?) :
    Lib.TabIs Tryz.prog w' "internal/strconv.uint64pow10" .u64 Lib.pow10Tab := by
  unfold Lib.TabIs World.var? at *
  rw [Tryz.globTab] at *
  simp only [Option.bind_some] at *
  have hlt : 5 < w.heap.size := by
    rcases Nat.lt_or_ge 5 w.heap.size with h' | h'
    · exact h'
    · rw [Array.getElem?_eq_none h'] at h; cases h
  rw [e hlt]
  exact h

theorem Evo.cell {lo hi : Nat} {g g' : Nat → Nat} {w w' : World} (e : Evo lo hi g g' w w') {a : Addr} {v : Value} (h : w.cell? a = some v) (hc : g a.block < lo ∨ hi ≤ g a.block) : w'.cell? a = some v := by
  have hlt := World.block_lt_of_cell? w _ h
  have hs := e.same a.block hlt (fun ⟨_, _⟩ => by omega)
  rw [← h]
  unfold World.cell?
  rw [hs]

theorem GlobC.frame {lo hi : Nat} {g g' : Nat → Nat} {w w' : World} (h : GlobC w g) (e : Evo lo hi g g' w w') (h1 : 1 ≤ lo ∨ hi ≤ lo) : GlobC w' g' := by
  obtain ⟨c0, c1, c2, c3⟩ := h.col
  obtain ⟨m, hm⟩ := h.len
  obtain ⟨ev, hs, hs'⟩ := h.syn
  obtain ⟨er, hr, hr'⟩ := h.rng
  have hlt : 5 < w.heap.size := by
    have ht := h.tab
    unfold Lib.TabIs World.var? at ht
    rw [Tryz.globTab] at ht
    simp only [Option.bind_some] at ht
    rcases Nat.lt_or_ge 5 w.heap.size with h' | h'
    · exact h'
    · rw [Array.getElem?_eq_none h'] at ht; cases ht
  have b1 := World.block_lt_of_cell? w _ hm
  have b2 := World.block_lt_of_cell? w _ hs
  have b3 := World.block_lt_of_cell? w _ hr
  exact ⟨tabIs_same h.tab (fun hb => e.same _ hb (fun ⟨_, _⟩ => by omega)), ⟨m, e.cell hm (by simp only [c1]; omega)⟩, ⟨ev, e.cell hs (by simp only [c2]; omega), hs'⟩, ⟨er, e.cell hr (by simp only [c3]; omega), hr'⟩,
    (e.col _ hlt).trans c0, (e.col _ b1).trans c1, (e.col _ b2).trans c2, (e.col _ b3).trans c3⟩

theorem GlobC.below {g : Nat → Nat} {w w' : World} (h : GlobC w g) (e : Below w.heap.size w w') : GlobC w' g := by
  have k := h.frame (Evo.of_below (lo := 0) (hi := 0) g 0 e) (by omega)
  obtain ⟨c0, c1, c2, c3⟩ := h.col
  exact ⟨k.tab, k.len, k.syn, k.rng, c0, c1, c2, c3⟩

set_option maxHeartbeats 1000000 in
theorem desk_num (n : Int) (h0 : -9223372036854775808 ≤ n) (h1 : n ≤ 9223372036854775807) (w : World) (hT : Lib.TabIs Tryz.prog w "internal/strconv.uint64pow10" .u64 Lib.pow10Tab) :
    Calls Tryz.prog 23 #[.int .i64 n] w (StrPost (Lib.itoa n) w) := by
  have HT := hid hT
  clear hT
  go_enter Tryz.func23, Tryz.ntmps23
  go_wp2_with fail
  refine (Tryz.strconv_Itoa n h0 h1 w HT.out).mono ?_
  rintro e w1 ⟨rfl, k, os, hw1⟩
  have hb := hid (show Below w.heap.size w w1 from by rw [hw1]; exact Lib.below_grow _ _ (Nat.le_refl _) _ _)
  clear hw1
  go_wp2
  go_ret
  exact ⟨rfl, hb.out⟩

theorem tabIs_below {w w' : World} (h : Lib.TabIs Tryz.prog w "internal/strconv.uint64pow10" .u64 Lib.pow10Tab) (e : Below w.heap.size w w') : Lib.TabIs Tryz.prog w' "internal/strconv.uint64pow10" .u64 Lib.pow10Tab :=
  tabIs_same h (fun hb => e.block _ hb)

set_option maxHeartbeats 1000000 in
theorem desk_ok (c n : Int) (b : Bool) (s : ByteArray) (a : Option Addr) (len cap : Nat) (w : World) :
    Calls Tryz.prog 36 #[.agg #[.int .i64 c, .int .i64 n, .bool b, .string s, .slice a len cap]] w (StrPost b_ok w) := by
  have hb := hid ((Below.refl w.heap.size w).alloc (Nat.le_refl _) (.cells #[.int .i64 c, .int .i64 n, .bool b, .string s, .slice a len cap] 87))
  go_enter Tryz.func36, Tryz.ntmps36
  go_wp2
  go_ret
  exact ⟨rfl, hb.out⟩

set_option maxHeartbeats 2000000 in
theorem desk_tellN (c n : Int) (h0 : -9223372036854775808 ≤ n) (h1 : n ≤ 9223372036854775807) (b : Bool) (s : ByteArray) (a : Option Addr) (len cap : Nat) (w : World) (hT : Lib.TabIs Tryz.prog w "internal/strconv.uint64pow10" .u64 Lib.pow10Tab) :
    Calls Tryz.prog 43 #[.agg #[.int .i64 c, .int .i64 n, .bool b, .string s, .slice a len cap]] w (StrPost (b_ok ++ 32 :: Lib.itoa n) w) := by
  have hb := hid ((Below.refl w.heap.size w).alloc (Nat.le_refl _) (.cells #[.int .i64 c, .int .i64 n, .bool b, .string s, .slice a len cap] 87))
  have L0 := hid (Loc.new w 87 [.int .i64 c, .int .i64 n, .bool b, .string s, .slice a len cap])
  have HT := hid (tabIs_below hT hb.out)
  have hl := Lib.itoa_length_le n h0 h1
  clear hT
  go_enter Tryz.func43, Tryz.ntmps43
  go_upto_region 1 with (fail)
  have k1 := L0.out.cell 1
  have HB1 := hid (show Below w.heap.size w (w.alloc (.cells #[.int .i64 c, .int .i64 n, .bool b, .string s, .slice a len cap] 87)) from hb.out)
  go_wp2_with fail
  refine (desk_num n h0 h1 _ HT.out).mono ?_
  rintro e w1 ⟨rfl, hb1⟩
  have HB2 := hid (hb.out.trans (hb1.mono hb.out.size))
  clear hb1 k1
  go_wp2
  go_ret
  exact ⟨rfl, HB2.out⟩

set_option maxHeartbeats 2000000 in
theorem desk_tellM (c n : Int) (h0 : -9223372036854775808 ≤ n) (h1 : n ≤ 9223372036854775807) (b : Bool) (s : ByteArray) (a : Option Addr) (len cap : Nat) (w : World) (hT : Lib.TabIs Tryz.prog w "internal/strconv.uint64pow10" .u64 Lib.pow10Tab) :
    Calls Tryz.prog 44 #[.agg #[.int .i64 c, .int .i64 n, .bool b, .string s, .slice a len cap]] w (StrPost (b_ok ++ 32 :: Lib.itoa n) w) := by
  have hb := hid ((Below.refl w.heap.size w).alloc (Nat.le_refl _) (.cells #[.int .i64 c, .int .i64 n, .bool b, .string s, .slice a len cap] 87))
  have L0 := hid (Loc.new w 87 [.int .i64 c, .int .i64 n, .bool b, .string s, .slice a len cap])
  have HT := hid (tabIs_below hT hb.out)
  have hl := Lib.itoa_length_le n h0 h1
  clear hT
  go_enter Tryz.func44, Tryz.ntmps44
  go_upto_region 1 with (fail)
  have k1 := L0.out.cell 1
  have HB1 := hid (show Below w.heap.size w (w.alloc (.cells #[.int .i64 c, .int .i64 n, .bool b, .string s, .slice a len cap] 87)) from hb.out)
  go_wp2_with fail
  refine (desk_num n h0 h1 _ HT.out).mono ?_
  rintro e w1 ⟨rfl, hb1⟩
  have HB2 := hid (hb.out.trans (hb1.mono hb.out.size))
  clear hb1 k1
  go_wp2
  go_ret
  exact ⟨rfl, HB2.out⟩

end Go.Proofs.YtoiobhcgpajogabGreatDoor
