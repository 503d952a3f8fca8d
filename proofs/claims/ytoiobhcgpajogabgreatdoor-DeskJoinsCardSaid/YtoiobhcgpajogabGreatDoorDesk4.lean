/- A desk: the walk of do, with each way of telling. -/
import Derived.Test.YtoiobhcgpajogabGreatDoorDesk1
namespace Go.Proofs.YtoiobhcgpajogabGreatDoor
open Go.RowKit

theorem join_one (a : List UInt8) : Lib.join [a] [32] = a := by simp [Lib.join, List.intercalate]
theorem join_two (a b : List UInt8) : Lib.join [a, b] [32] = a ++ 32 :: b := by simp [Lib.join, List.intercalate]
theorem join_four (a b c d : List UInt8) : Lib.join [a, b, c, d] [32] = a ++ 32 :: (b ++ 32 :: (c ++ 32 :: d)) := by simp [Lib.join, List.intercalate]

theorem cells_strs (w : World) (xs : List ByteArray) (T : TypeId) : ∀ (j : Nat) x, xs[j]? = some x → (w.alloc (.cells (xs.map Value.string).toArray T)).cell? ⟨w.heap.size, 0 + j, none⟩ = some (.string x) := by
  intro j x hx
  have h := (Loc.new w T (xs.map Value.string)).cell (0 + j)
  rw [h, Nat.zero_add, List.getElem?_map, hx]
  rfl

theorem slice_ne {w : World} {a : Option Addr} {cells : List Value} (h : SliceAt w a cells) : cells = [] ∨ ∀ ad : Addr, a = some ad → ad.block ≠ w.heap.size := by
  by_cases hz : cells = []
  · exact .inl hz
  · right
    intro ad e
    obtain ⟨b1, o1, e1, hb1⟩ := h.lt hz
    rw [e1] at e
    cases e
    exact Nat.ne_of_lt hb1

def DoPostD (g : Nat → Nat) (p d h : Nat) (t : List UInt8) (H : Ht) (x : St) (w : World) (e : Ending) (w' : World) : Prop :=
  e = .returned (.tuple #[]) ∧ ∃ g', DeskB w' g' p d h (t ++ (tellD x (doH H x).1 ++ [10])) ∧ HallAt w' g' (p + 2) h (doH H x).2 ∧ Evo p (p + 19) g g' w w'

/-- What a Builder and a hall hold, and the library's variables, one step on. -/
structure DkAt (w0 : World) (g0 : Nat → Nat) (p d h : Nat) (t : List UInt8) (H : Ht) (g : Nat → Nat) (w : World) : Prop where
  desk : DeskB w g p d h t
  hall : HallAt w g (p + 2) h H
  glob : GlobC w g
  evo : Evo p (p + 19) g0 g w0 w

section
variable {w0 w w' : World} {g0 g g' : Nat → Nat} {p d h lo hi : Nat} {t t' : List UInt8} {H H' : Ht}
theorem DkAt.below (k : DkAt w0 g0 p d h t H g w) (e : Below w.heap.size w w') : DkAt w0 g0 p d h t H g w' :=
  ⟨k.desk.below e, k.hall.below e, k.glob.below e, k.evo.trans (Evo.of_same e)⟩
theorem DkAt.fresh (k : DkAt w0 g0 p d h t H g w) (e : Evo 0 0 g g' w w') : DkAt w0 g0 p d h t H g' w' :=
  ⟨k.desk.frame e (by omega), k.hall.frame e (by omega), k.glob.frame e (by omega), k.evo.trans (e.none (by omega))⟩
theorem DkAt.step (k : DkAt w0 g0 p d h t H g w) (hp : 1 ≤ p) (e : Evo (p + 2) (p + 2 + 17) g g' w w') (hH : HallAt w' g' (p + 2) h H') : DkAt w0 g0 p d h t H' g' w' :=
  ⟨k.desk.frame e (by omega), hH, k.glob.frame e (by omega), k.evo.trans (e.wide (by omega) (by omega))⟩
theorem DkAt.said (k : DkAt w0 g0 p d h t H g w) (hp : 1 ≤ p) (e : Evo p (p + 2) g g' w w') (hD : DeskB w' g' p d h t') : DkAt w0 g0 p d h t' H g' w' :=
  ⟨hD, k.hall.frame e (by omega), k.glob.frame e (by omega), k.evo.trans (e.wide (by omega) (by omega))⟩
theorem DkAt.put1 (k : DkAt w0 g0 p d h t H g w) {b i : Nat} (hg : g b = p + 19) (hb : w0.heap.size ≤ b) (v : Value) : DkAt w0 g0 p d h t H g (w.setCell ⟨b, i, none⟩ v) := by
  have e : Evo (p + 19) (p + 19 + 1) g g w (w.setCell ⟨b, i, none⟩ v) := evo_store v hg
  exact ⟨k.desk.frame e (by omega), k.hall.frame e (by omega), k.glob.frame e (by omega), evo_storeNew k.evo hb v⟩
end

set_option maxHeartbeats 4000000 in
set_option maxRecDepth 100000 in
theorem desk_do (fn : FuncId) (TF : Evt → List UInt8) (hfn : ∀ args w, (callFunc fn args).run Tryz.prog w = .ok (.enter fn args) w)
    (hF : ∀ (ev : Evt) (a : Option Addr) (cap : Nat) (W : World), EvOk ev → ev.code = 0 → SliceAt W a (encEnts ev.l) → Lib.TabIs Tryz.prog W "internal/strconv.uint64pow10" .u64 Lib.pow10Tab → Calls Tryz.prog fn #[.agg #[.int .i64 0, .int .i64 ev.n, .bool ev.v.there, .string ev.v.bytes, .slice a ev.l.length cap]] W (StrPost (TF ev) W))
    (g : Nat → Nat) (p d h : Nat) (t : List UInt8) (H : Ht) (x : St) (w : World) (hp : 1 ≤ p) (hD : DkAt w g p d h t H g w) (hx : x.bytes.size ≤ maxLen) (hO : EvOk (doH H x).1) (ht : t.length ≤ 800000000) (hk : ∀ ev : Evt, ev.code = 0 → tellD x ev = TF ev) :
    Calls Tryz.prog 35 #[.pointer (some ⟨d, 0, none⟩), .agg #[.int .i64 x.kind, .int .i64 x.s, .int .i64 x.mode, .int .i64 x.at_, .int .i64 x.key, .int .i64 x.to_, .int .i64 x.keep, .string x.bytes], .func (.func fn) #[] #[]] w (DoPostD g p d h t H x w) := by
  have HF := hid hF
  clear hF
  have OK := hid hO
  have TL := hid hk
  have hA1 := Evo.alloc g (p + 19) w (.cells #[.int .i64 x.kind, .int .i64 x.s, .int .i64 x.mode, .int .i64 x.at_, .int .i64 x.key, .int .i64 x.to_, .int .i64 x.keep, .string x.bytes] 75)
  have KA := hid (hD.fresh hA1)
  have XA : Hid (LocC (w.alloc (.cells #[.int .i64 x.kind, .int .i64 x.s, .int .i64 x.mode, .int .i64 x.at_, .int .i64 x.key, .int .i64 x.to_, .int .i64 x.keep, .string x.bytes] 75)) (extc g w (p + 19)) (p + 19) w.heap.size 75 (stL x)) := hid (LocC.new g (p + 19) w 75 (stL x))
  have hnx : w.heap.size ≤ w.heap.size := Nat.le_refl _
  clear hO hk hD hA1
  go_enter Tryz.func35, Tryz.ntmps35
  go_upto_region 1 with (fail)
  have hsz : w.heap.size ≤ (w.alloc (.cells #[.int .i64 x.kind, .int .i64 x.s, .int .i64 x.mode, .int .i64 x.at_, .int .i64 x.key, .int .i64 x.to_, .int .i64 x.keep, .string x.bytes] 75)).heap.size := KA.out.evo.size
  generalize hw1 : w.alloc (.cells #[.int .i64 x.kind, .int .i64 x.s, .int .i64 x.mode, .int .i64 x.at_, .int .i64 x.key, .int .i64 x.to_, .int .i64 x.keep, .string x.bytes] 75) = w1 at *
  generalize extc g w (p + 19) = g1 at *
  clear hw1
  generalize hbx : w.heap.size = bx at *
  have HBX := hid hbx
  clear hbx hnx
  have hS0 : w1.drew.cell? ⟨d, 2, none⟩ = some (.pointer (some ⟨h, 0, none⟩)) ∧ w1.drew.cell? ⟨bx, 0, none⟩ = some (.int .i64 x.kind) ∧ w1.drew.cell? ⟨bx, 1, none⟩ = some (.int .i64 x.s) ∧ w1.drew.cell? ⟨bx, 2, none⟩ = some (.int .i64 x.mode) ∧ w1.drew.cell? ⟨bx, 3, none⟩ = some (.int .i64 x.at_) ∧ w1.drew.cell? ⟨bx, 4, none⟩ = some (.int .i64 x.key) ∧ w1.drew.cell? ⟨bx, 5, none⟩ = some (.int .i64 x.to_) ∧ w1.drew.cell? ⟨bx, 6, none⟩ = some (.int .i64 x.keep) ∧ w1.drew.cell? ⟨bx, 7, none⟩ = some (.string x.bytes) := ⟨KA.out.desk.ptr, XA.out.1.cell 0, XA.out.1.cell 1, XA.out.1.cell 2, XA.out.1.cell 3, XA.out.1.cell 4, XA.out.1.cell 5, XA.out.1.cell 6, XA.out.1.cell 7⟩
  -- REGION any
  refine wp_region_noPanic ?_
  refine wp_region_held_drew (S := (fun W : World => W.cell? ⟨d, 2, none⟩ = some (.pointer (some ⟨h, 0, none⟩)) ∧ W.cell? ⟨bx, 0, none⟩ = some (.int .i64 x.kind) ∧ W.cell? ⟨bx, 1, none⟩ = some (.int .i64 x.s) ∧ W.cell? ⟨bx, 2, none⟩ = some (.int .i64 x.mode) ∧ W.cell? ⟨bx, 3, none⟩ = some (.int .i64 x.at_) ∧ W.cell? ⟨bx, 4, none⟩ = some (.int .i64 x.key) ∧ W.cell? ⟨bx, 5, none⟩ = some (.int .i64 x.to_) ∧ W.cell? ⟨bx, 6, none⟩ = some (.int .i64 x.keep) ∧ W.cell? ⟨bx, 7, none⟩ = some (.string x.bytes))) (by kernel_rfl) ?_ (fun hH0 => ?_)
  · (try dsimp only); (first | assumption | exact hS0)
  refine wpAnyH_take (i := 0) (v := ?_) (by simp only [List.getElem?_toArray, List.getElem?_cons_zero]; rfl) (by kernel_rfl) (by kernel_rfl) (by kernel_rfl) (fun _ _ _ h => h) (Or.inl ⟨by rfl, ?_⟩) (by assumption) ?_
  rotate_left
  · intro w hSw; (try dsimp only at hSw); go_simp; (try with_reducible rfl)
  try simp only [Act.put, List.setIfInBounds_toArray, List.set_cons_zero, List.set_cons_succ]
  refine wpAnyH_take (i := 1) (v := ?_) (by simp only [List.getElem?_toArray, List.getElem?_cons_zero, List.getElem?_cons_succ]; rfl) (by kernel_rfl) (by kernel_rfl) (by kernel_rfl) (fun _ _ _ h => h) (Or.inl ⟨by rfl, ?_⟩) (by assumption) ?_
  rotate_left
  · intro w hSw; (try dsimp only at hSw); go_simp; (try with_reducible rfl)
  try simp only [Act.put, List.setIfInBounds_toArray, List.set_cons_zero, List.set_cons_succ]
  refine wpAnyH_take (i := 2) (v := ?_) (by simp only [List.getElem?_toArray, List.getElem?_cons_zero, List.getElem?_cons_succ]; rfl) (by kernel_rfl) (by kernel_rfl) (by kernel_rfl) (fun _ _ _ h => h) (Or.inl ⟨by rfl, ?_⟩) (by assumption) ?_
  rotate_left
  · intro w hSw; (try dsimp only at hSw); go_simp; (try with_reducible rfl)
  try simp only [Act.put, List.setIfInBounds_toArray, List.set_cons_zero, List.set_cons_succ]
  refine wpAnyH_take (i := 3) (v := ?_) (by simp only [List.getElem?_toArray, List.getElem?_cons_zero, List.getElem?_cons_succ]; rfl) (by kernel_rfl) (by kernel_rfl) (by kernel_rfl) (fun _ _ _ h => h) (Or.inl ⟨by rfl, ?_⟩) (by assumption) ?_
  rotate_left
  · intro w hSw; (try dsimp only at hSw); go_simp; (try with_reducible rfl)
  try simp only [Act.put, List.setIfInBounds_toArray, List.set_cons_zero, List.set_cons_succ]
  refine wpAnyH_take (i := 4) (v := ?_) (by simp only [List.getElem?_toArray, List.getElem?_cons_zero, List.getElem?_cons_succ]; rfl) (by kernel_rfl) (by kernel_rfl) (by kernel_rfl) (fun _ _ _ h => h) (Or.inl ⟨by rfl, ?_⟩) (by assumption) ?_
  rotate_left
  · intro w hSw; (try dsimp only at hSw); go_simp; (try with_reducible rfl)
  try simp only [Act.put, List.setIfInBounds_toArray, List.set_cons_zero, List.set_cons_succ]
  refine wpAnyH_ready (rs := [5, 6]) (by kernel_rfl) (by simp) ?_
  refine AllReadyH.cons (by simp only [List.getElem?_toArray, List.getElem?_cons_zero, List.getElem?_cons_succ]; rfl) (fun K hK => ?_) ?_
  · skip
    go_simp
    go_at_call 63
    first
      | (have PD := hall_Do g3 (p + 2) h H x w3 hx K3.out.hall; refine PD.mono ?_; clear PD; rintro e w4 ⟨a, cap, g4, rfl, hH4, hE4, hS4, hn4⟩; have HNE := hid (show encEnts (doH H x).1.l = [] ∨ ∀ ad : Addr, a = some ad → ad.block ≠ be from .inr (fun ad e => by have := hn4 ad e; have := L3.out.1.lt; omega)); have hblt : bx < be := hxbe.out; have K4 := hid (K3.out.step hp hE4 hH4); have X4 := hid (X3.out.frame hE4 (by omega)); have LZ0 := hid (L3.out.frame hE4 (by omega)); have A4 := hid hS4; have hS' : w4.cell? ⟨d, 2, none⟩ = some (.pointer (some ⟨h, 0, none⟩)) ∧ w4.cell? ⟨bx, 0, none⟩ = some (.int .i64 x.kind) ∧ w4.cell? ⟨bx, 1, none⟩ = some (.int .i64 x.s) ∧ w4.cell? ⟨bx, 2, none⟩ = some (.int .i64 x.mode) ∧ w4.cell? ⟨bx, 3, none⟩ = some (.int .i64 x.at_) ∧ w4.cell? ⟨bx, 4, none⟩ = some (.int .i64 x.key) ∧ w4.cell? ⟨bx, 5, none⟩ = some (.int .i64 x.to_) ∧ w4.cell? ⟨bx, 6, none⟩ = some (.int .i64 x.keep) ∧ w4.cell? ⟨bx, 7, none⟩ = some (.string x.bytes) := ⟨K4.out.desk.ptr, X4.out.1.cell 0, X4.out.1.cell 1, X4.out.1.cell 2, X4.out.1.cell 3, X4.out.1.cell 4, X4.out.1.cell 5, X4.out.1.cell 6, X4.out.1.cell 7⟩; clear hE4 hH4 hS4 hn4; have k0 : w4.cell? ⟨be, 0, none⟩ = some (.int .i64 0) := LZ0.out.1.cell 0; have f0 := LZ0.out.1.free 0; have k1 : w4.cell? ⟨be, 1, none⟩ = some (.int .i64 0) := LZ0.out.1.cell 1; have f1 := LZ0.out.1.free 1; have k2 : w4.cell? ⟨be, 2, none⟩ = some (.bool false) := LZ0.out.1.cell 2; have f2 := LZ0.out.1.free 2; have k3 : w4.cell? ⟨be, 3, none⟩ = some (.string ⟨#[]⟩) := LZ0.out.1.cell 3; have f3 := LZ0.out.1.free 3; have k4 : w4.cell? ⟨be, 4, none⟩ = some (.slice none 0 0) := LZ0.out.1.cell 4; have f4 := LZ0.out.1.free 4)
      | (have KD := hid (KA.out.below (Below.refl _ _).drew); have XD := hid (XA.out.below (Below.refl _ _).drew); have PD := hall_Do g1 (p + 2) h H x w1.drew hx KD.out.hall; refine PD.mono ?_; clear PD; rintro e w2 ⟨a, cap, g2, rfl, hH2, hE2, hS2, -⟩; have K2 := hid (KD.out.step hp hE2 hH2); have X2 := hid (XD.out.frame hE2 (by omega)); have A2 := hid hS2; have hS' : w2.cell? ⟨d, 2, none⟩ = some (.pointer (some ⟨h, 0, none⟩)) ∧ w2.cell? ⟨bx, 0, none⟩ = some (.int .i64 x.kind) ∧ w2.cell? ⟨bx, 1, none⟩ = some (.int .i64 x.s) ∧ w2.cell? ⟨bx, 2, none⟩ = some (.int .i64 x.mode) ∧ w2.cell? ⟨bx, 3, none⟩ = some (.int .i64 x.at_) ∧ w2.cell? ⟨bx, 4, none⟩ = some (.int .i64 x.key) ∧ w2.cell? ⟨bx, 5, none⟩ = some (.int .i64 x.to_) ∧ w2.cell? ⟨bx, 6, none⟩ = some (.int .i64 x.keep) ∧ w2.cell? ⟨bx, 7, none⟩ = some (.string x.bytes) := ⟨K2.out.desk.ptr, X2.out.1.cell 0, X2.out.1.cell 1, X2.out.1.cell 2, X2.out.1.cell 3, X2.out.1.cell 4, X2.out.1.cell 5, X2.out.1.cell 6, X2.out.1.cell 7⟩; clear hE2 hH2 hS2)
    try go_wp2_with fail
    refine hK.out _ _ ?_ (fun hH1 => ?_)
    · (try dsimp only); (first | assumption | exact hS0)
    clear hK K hH0
    try simp only [Act.put, List.setIfInBounds_toArray, List.set_cons_zero, List.set_cons_succ]
    refine wpAnyH_ready (rs := [6]) (by kernel_rfl) (by simp) ?_
    refine AllReadyH.cons (by simp only [List.getElem?_toArray, List.getElem?_cons_zero, List.getElem?_cons_succ]; rfl) (fun K hK => ?_) AllReadyH.nil
    go_simp
    first
      | (have hA := Evo.alloc g2 (p + 19) w2 (.cells #[.int .i64 0, .int .i64 0, .bool false, .string ⟨#[]⟩, .slice none 0 0] 87); have HNE := hid (show encEnts (doH H x).1.l = [] ∨ ∀ ad : Addr, a = some ad → ad.block ≠ w2.heap.size from slice_ne A2.out); have hblt : bx < w2.heap.size := X2.out.1.lt; have K4 := hid (K2.out.fresh hA); have X4 := hid (X2.out.frame hA (by omega)); have LZ0 := hid (LocC.new g2 (p + 19) w2 87 [.int .i64 0, .int .i64 0, .bool false, .string ⟨#[]⟩, .slice none 0 0]); have A4 := hid (sliceAt_below A2.out ((Below.refl w2.heap.size w2).alloc (Nat.le_refl _) (.cells #[.int .i64 0, .int .i64 0, .bool false, .string ⟨#[]⟩, .slice none 0 0] 87))); have hbe : bx ≤ w2.heap.size := (by rw [← HBX.out]; exact K2.out.evo.size); have hS' : (w2.alloc (.cells #[.int .i64 0, .int .i64 0, .bool false, .string ⟨#[]⟩, .slice none 0 0] 87)).cell? ⟨d, 2, none⟩ = some (.pointer (some ⟨h, 0, none⟩)) ∧ (w2.alloc (.cells #[.int .i64 0, .int .i64 0, .bool false, .string ⟨#[]⟩, .slice none 0 0] 87)).cell? ⟨bx, 0, none⟩ = some (.int .i64 x.kind) ∧ (w2.alloc (.cells #[.int .i64 0, .int .i64 0, .bool false, .string ⟨#[]⟩, .slice none 0 0] 87)).cell? ⟨bx, 1, none⟩ = some (.int .i64 x.s) ∧ (w2.alloc (.cells #[.int .i64 0, .int .i64 0, .bool false, .string ⟨#[]⟩, .slice none 0 0] 87)).cell? ⟨bx, 2, none⟩ = some (.int .i64 x.mode) ∧ (w2.alloc (.cells #[.int .i64 0, .int .i64 0, .bool false, .string ⟨#[]⟩, .slice none 0 0] 87)).cell? ⟨bx, 3, none⟩ = some (.int .i64 x.at_) ∧ (w2.alloc (.cells #[.int .i64 0, .int .i64 0, .bool false, .string ⟨#[]⟩, .slice none 0 0] 87)).cell? ⟨bx, 4, none⟩ = some (.int .i64 x.key) ∧ (w2.alloc (.cells #[.int .i64 0, .int .i64 0, .bool false, .string ⟨#[]⟩, .slice none 0 0] 87)).cell? ⟨bx, 5, none⟩ = some (.int .i64 x.to_) ∧ (w2.alloc (.cells #[.int .i64 0, .int .i64 0, .bool false, .string ⟨#[]⟩, .slice none 0 0] 87)).cell? ⟨bx, 6, none⟩ = some (.int .i64 x.keep) ∧ (w2.alloc (.cells #[.int .i64 0, .int .i64 0, .bool false, .string ⟨#[]⟩, .slice none 0 0] 87)).cell? ⟨bx, 7, none⟩ = some (.string x.bytes) := ⟨K4.out.desk.ptr, X4.out.1.cell 0, X4.out.1.cell 1, X4.out.1.cell 2, X4.out.1.cell 3, X4.out.1.cell 4, X4.out.1.cell 5, X4.out.1.cell 6, X4.out.1.cell 7⟩; clear hA; generalize w2.alloc (.cells #[.int .i64 0, .int .i64 0, .bool false, .string ⟨#[]⟩, .slice none 0 0] 87) = w4 at *; generalize extc g2 w2 (p + 19) = g4 at *; generalize w2.heap.size = be at *; have k0 : w4.cell? ⟨be, 0, none⟩ = some (.int .i64 0) := LZ0.out.1.cell 0; have f0 := LZ0.out.1.free 0; have k1 : w4.cell? ⟨be, 1, none⟩ = some (.int .i64 0) := LZ0.out.1.cell 1; have f1 := LZ0.out.1.free 1; have k2 : w4.cell? ⟨be, 2, none⟩ = some (.bool false) := LZ0.out.1.cell 2; have f2 := LZ0.out.1.free 2; have k3 : w4.cell? ⟨be, 3, none⟩ = some (.string ⟨#[]⟩) := LZ0.out.1.cell 3; have f3 := LZ0.out.1.free 3; have k4 : w4.cell? ⟨be, 4, none⟩ = some (.slice none 0 0) := LZ0.out.1.cell 4; have f4 := LZ0.out.1.free 4)
      | (have hA := Evo.alloc g1 (p + 19) w1 (.cells #[.int .i64 0, .int .i64 0, .bool false, .string ⟨#[]⟩, .slice none 0 0] 87); have hB := (Below.refl (w1.alloc (.cells #[.int .i64 0, .int .i64 0, .bool false, .string ⟨#[]⟩, .slice none 0 0] 87)).heap.size (w1.alloc (.cells #[.int .i64 0, .int .i64 0, .bool false, .string ⟨#[]⟩, .slice none 0 0] 87))).drew; have K3 := hid ((KA.out.fresh hA).below hB); have X3 := hid ((XA.out.frame hA (by omega)).below hB); have L3 := hid ((LocC.new g1 (p + 19) w1 87 [.int .i64 0, .int .i64 0, .bool false, .string ⟨#[]⟩, .slice none 0 0]).below hB); have hbe : bx ≤ w1.heap.size := hsz; have hxbe := hid (show bx < w1.heap.size from XA.out.1.lt); have hS' : (w1.alloc (.cells #[.int .i64 0, .int .i64 0, .bool false, .string ⟨#[]⟩, .slice none 0 0] 87)).drew.cell? ⟨d, 2, none⟩ = some (.pointer (some ⟨h, 0, none⟩)) ∧ (w1.alloc (.cells #[.int .i64 0, .int .i64 0, .bool false, .string ⟨#[]⟩, .slice none 0 0] 87)).drew.cell? ⟨bx, 0, none⟩ = some (.int .i64 x.kind) ∧ (w1.alloc (.cells #[.int .i64 0, .int .i64 0, .bool false, .string ⟨#[]⟩, .slice none 0 0] 87)).drew.cell? ⟨bx, 1, none⟩ = some (.int .i64 x.s) ∧ (w1.alloc (.cells #[.int .i64 0, .int .i64 0, .bool false, .string ⟨#[]⟩, .slice none 0 0] 87)).drew.cell? ⟨bx, 2, none⟩ = some (.int .i64 x.mode) ∧ (w1.alloc (.cells #[.int .i64 0, .int .i64 0, .bool false, .string ⟨#[]⟩, .slice none 0 0] 87)).drew.cell? ⟨bx, 3, none⟩ = some (.int .i64 x.at_) ∧ (w1.alloc (.cells #[.int .i64 0, .int .i64 0, .bool false, .string ⟨#[]⟩, .slice none 0 0] 87)).drew.cell? ⟨bx, 4, none⟩ = some (.int .i64 x.key) ∧ (w1.alloc (.cells #[.int .i64 0, .int .i64 0, .bool false, .string ⟨#[]⟩, .slice none 0 0] 87)).drew.cell? ⟨bx, 5, none⟩ = some (.int .i64 x.to_) ∧ (w1.alloc (.cells #[.int .i64 0, .int .i64 0, .bool false, .string ⟨#[]⟩, .slice none 0 0] 87)).drew.cell? ⟨bx, 6, none⟩ = some (.int .i64 x.keep) ∧ (w1.alloc (.cells #[.int .i64 0, .int .i64 0, .bool false, .string ⟨#[]⟩, .slice none 0 0] 87)).drew.cell? ⟨bx, 7, none⟩ = some (.string x.bytes) := ⟨K3.out.desk.ptr, X3.out.1.cell 0, X3.out.1.cell 1, X3.out.1.cell 2, X3.out.1.cell 3, X3.out.1.cell 4, X3.out.1.cell 5, X3.out.1.cell 6, X3.out.1.cell 7⟩; clear hA hB; generalize (w1.alloc (.cells #[.int .i64 0, .int .i64 0, .bool false, .string ⟨#[]⟩, .slice none 0 0] 87)).drew = w3 at *; generalize extc g1 w1 (p + 19) = g3 at *; generalize w1.heap.size = be at *)
    try go_wp2_with fail
    refine hK.out _ _ ?_ (fun hH2 => ?_)
    · (try dsimp only); (first | assumption | exact hS0)
    clear hK K hH1
    try simp only [Act.put, List.setIfInBounds_toArray, List.set_cons_zero, List.set_cons_succ]
    refine wpAnyH_ready (rs := [7]) (by kernel_rfl) (by simp) ?_
    refine AllReadyH.cons (by simp only [List.getElem?_toArray, List.getElem?_cons_zero, List.getElem?_cons_succ]; rfl) (fun K hK => ?_) AllReadyH.nil
    go_simp
    have KZ := hid (show DkAt w g p d h t (doH H x).2 g4 (((((w4.setCell ⟨be, 0, none⟩ (.int .i64 ((doH H x).1.code))).setCell ⟨be, 1, none⟩ (.int .i64 ((doH H x).1.n))).setCell ⟨be, 2, none⟩ (.bool ((doH H x).1.v.there))).setCell ⟨be, 3, none⟩ (.string ((doH H x).1.v.bytes))).setCell ⟨be, 4, none⟩ (.slice a ((doH H x).1.l.length) cap)) from (((((K4.out.put1 LZ0.out.2 (by rw [HBX.out]; exact hbe) (.int .i64 ((doH H x).1.code))).put1 LZ0.out.2 (by rw [HBX.out]; exact hbe) (.int .i64 ((doH H x).1.n))).put1 LZ0.out.2 (by rw [HBX.out]; exact hbe) (.bool ((doH H x).1.v.there))).put1 LZ0.out.2 (by rw [HBX.out]; exact hbe) (.string ((doH H x).1.v.bytes))).put1 LZ0.out.2 (by rw [HBX.out]; exact hbe) (.slice a ((doH H x).1.l.length) cap)))
    have LZ := hid (show Loc (((((w4.setCell ⟨be, 0, none⟩ (.int .i64 ((doH H x).1.code))).setCell ⟨be, 1, none⟩ (.int .i64 ((doH H x).1.n))).setCell ⟨be, 2, none⟩ (.bool ((doH H x).1.v.there))).setCell ⟨be, 3, none⟩ (.string ((doH H x).1.v.bytes))).setCell ⟨be, 4, none⟩ (.slice a ((doH H x).1.l.length) cap)) be 87 [.int .i64 ((doH H x).1.code), .int .i64 ((doH H x).1.n), .bool ((doH H x).1.v.there), .string ((doH H x).1.v.bytes), .slice a ((doH H x).1.l.length) cap] from (((((LZ0.out.1.set 0 (.int .i64 ((doH H x).1.code))).set 1 (.int .i64 ((doH H x).1.n))).set 2 (.bool ((doH H x).1.v.there))).set 3 (.string ((doH H x).1.v.bytes))).set 4 (.slice a ((doH H x).1.l.length) cap)))
    have AZ := hid (show SliceAt (((((w4.setCell ⟨be, 0, none⟩ (.int .i64 ((doH H x).1.code))).setCell ⟨be, 1, none⟩ (.int .i64 ((doH H x).1.n))).setCell ⟨be, 2, none⟩ (.bool ((doH H x).1.v.there))).setCell ⟨be, 3, none⟩ (.string ((doH H x).1.v.bytes))).setCell ⟨be, 4, none⟩ (.slice a ((doH H x).1.l.length) cap)) a (encEnts (doH H x).1.l) from by
      rcases HNE.out with hz | hz
      · exact .inl hz
      · exact A4.out.lift (fun ad e => heap_five _ _ _ _ _ _ _ _ (hz ad e)))
    have XZ := hid (show Loc (((((w4.setCell ⟨be, 0, none⟩ (.int .i64 ((doH H x).1.code))).setCell ⟨be, 1, none⟩ (.int .i64 ((doH H x).1.n))).setCell ⟨be, 2, none⟩ (.bool ((doH H x).1.v.there))).setCell ⟨be, 3, none⟩ (.string ((doH H x).1.v.bytes))).setCell ⟨be, 4, none⟩ (.slice a ((doH H x).1.l.length) cap)) bx 75 (stL x) from (((((X4.out.1.other (Nat.ne_of_lt hblt) (.int .i64 ((doH H x).1.code))).other (Nat.ne_of_lt hblt) (.int .i64 ((doH H x).1.n))).other (Nat.ne_of_lt hblt) (.bool ((doH H x).1.v.there))).other (Nat.ne_of_lt hblt) (.string ((doH H x).1.v.bytes))).other (Nat.ne_of_lt hblt) (.slice a ((doH H x).1.l.length) cap)))
    have hS' : (((((w4.setCell ⟨be, 0, none⟩ (.int .i64 ((doH H x).1.code))).setCell ⟨be, 1, none⟩ (.int .i64 ((doH H x).1.n))).setCell ⟨be, 2, none⟩ (.bool ((doH H x).1.v.there))).setCell ⟨be, 3, none⟩ (.string ((doH H x).1.v.bytes))).setCell ⟨be, 4, none⟩ (.slice a ((doH H x).1.l.length) cap)).cell? ⟨d, 2, none⟩ = some (.pointer (some ⟨h, 0, none⟩)) ∧ (((((w4.setCell ⟨be, 0, none⟩ (.int .i64 ((doH H x).1.code))).setCell ⟨be, 1, none⟩ (.int .i64 ((doH H x).1.n))).setCell ⟨be, 2, none⟩ (.bool ((doH H x).1.v.there))).setCell ⟨be, 3, none⟩ (.string ((doH H x).1.v.bytes))).setCell ⟨be, 4, none⟩ (.slice a ((doH H x).1.l.length) cap)).cell? ⟨bx, 0, none⟩ = some (.int .i64 x.kind) ∧ (((((w4.setCell ⟨be, 0, none⟩ (.int .i64 ((doH H x).1.code))).setCell ⟨be, 1, none⟩ (.int .i64 ((doH H x).1.n))).setCell ⟨be, 2, none⟩ (.bool ((doH H x).1.v.there))).setCell ⟨be, 3, none⟩ (.string ((doH H x).1.v.bytes))).setCell ⟨be, 4, none⟩ (.slice a ((doH H x).1.l.length) cap)).cell? ⟨bx, 1, none⟩ = some (.int .i64 x.s) ∧ (((((w4.setCell ⟨be, 0, none⟩ (.int .i64 ((doH H x).1.code))).setCell ⟨be, 1, none⟩ (.int .i64 ((doH H x).1.n))).setCell ⟨be, 2, none⟩ (.bool ((doH H x).1.v.there))).setCell ⟨be, 3, none⟩ (.string ((doH H x).1.v.bytes))).setCell ⟨be, 4, none⟩ (.slice a ((doH H x).1.l.length) cap)).cell? ⟨bx, 2, none⟩ = some (.int .i64 x.mode) ∧ (((((w4.setCell ⟨be, 0, none⟩ (.int .i64 ((doH H x).1.code))).setCell ⟨be, 1, none⟩ (.int .i64 ((doH H x).1.n))).setCell ⟨be, 2, none⟩ (.bool ((doH H x).1.v.there))).setCell ⟨be, 3, none⟩ (.string ((doH H x).1.v.bytes))).setCell ⟨be, 4, none⟩ (.slice a ((doH H x).1.l.length) cap)).cell? ⟨bx, 3, none⟩ = some (.int .i64 x.at_) ∧ (((((w4.setCell ⟨be, 0, none⟩ (.int .i64 ((doH H x).1.code))).setCell ⟨be, 1, none⟩ (.int .i64 ((doH H x).1.n))).setCell ⟨be, 2, none⟩ (.bool ((doH H x).1.v.there))).setCell ⟨be, 3, none⟩ (.string ((doH H x).1.v.bytes))).setCell ⟨be, 4, none⟩ (.slice a ((doH H x).1.l.length) cap)).cell? ⟨bx, 4, none⟩ = some (.int .i64 x.key) ∧ (((((w4.setCell ⟨be, 0, none⟩ (.int .i64 ((doH H x).1.code))).setCell ⟨be, 1, none⟩ (.int .i64 ((doH H x).1.n))).setCell ⟨be, 2, none⟩ (.bool ((doH H x).1.v.there))).setCell ⟨be, 3, none⟩ (.string ((doH H x).1.v.bytes))).setCell ⟨be, 4, none⟩ (.slice a ((doH H x).1.l.length) cap)).cell? ⟨bx, 5, none⟩ = some (.int .i64 x.to_) ∧ (((((w4.setCell ⟨be, 0, none⟩ (.int .i64 ((doH H x).1.code))).setCell ⟨be, 1, none⟩ (.int .i64 ((doH H x).1.n))).setCell ⟨be, 2, none⟩ (.bool ((doH H x).1.v.there))).setCell ⟨be, 3, none⟩ (.string ((doH H x).1.v.bytes))).setCell ⟨be, 4, none⟩ (.slice a ((doH H x).1.l.length) cap)).cell? ⟨bx, 6, none⟩ = some (.int .i64 x.keep) ∧ (((((w4.setCell ⟨be, 0, none⟩ (.int .i64 ((doH H x).1.code))).setCell ⟨be, 1, none⟩ (.int .i64 ((doH H x).1.n))).setCell ⟨be, 2, none⟩ (.bool ((doH H x).1.v.there))).setCell ⟨be, 3, none⟩ (.string ((doH H x).1.v.bytes))).setCell ⟨be, 4, none⟩ (.slice a ((doH H x).1.l.length) cap)).cell? ⟨bx, 7, none⟩ = some (.string x.bytes) := ⟨KZ.out.desk.ptr, XZ.out.cell 0, XZ.out.cell 1, XZ.out.cell 2, XZ.out.cell 3, XZ.out.cell 4, XZ.out.cell 5, XZ.out.cell 6, XZ.out.cell 7⟩
    clear HNE A4 K4 X4 LZ0 k0 k1 k2 k3 k4 f0 f1 f2 f3 f4
    generalize (((((w4.setCell ⟨be, 0, none⟩ (.int .i64 ((doH H x).1.code))).setCell ⟨be, 1, none⟩ (.int .i64 ((doH H x).1.n))).setCell ⟨be, 2, none⟩ (.bool ((doH H x).1.v.there))).setCell ⟨be, 3, none⟩ (.string ((doH H x).1.v.bytes))).setCell ⟨be, 4, none⟩ (.slice a ((doH H x).1.l.length) cap)) = wz at *
    try go_wp2_with fail
    refine hK.out _ _ ?_ (fun hH3 => ?_)
    · (try dsimp only); (first | assumption | exact hS0)
    clear hK K hH2
    try simp only [Act.put, List.setIfInBounds_toArray, List.set_cons_zero, List.set_cons_succ]
    refine wpAnyH_done (by kernel_rfl) ?_ _
    refine NoPanic.normal ?_
    clear hS' hS0
    generalize hEV : doH H x = y at *
    have HEV := hid hEV
    clear hEV
    have e1 : wz.cell? ⟨be, 1, none⟩ = some (.int .i64 y.1.n) := LZ.out.cell 1
    have e2 : wz.cell? ⟨be, 2, none⟩ = some (.bool y.1.v.there) := LZ.out.cell 2
    have e3 : wz.cell? ⟨be, 3, none⟩ = some (.string y.1.v.bytes) := LZ.out.cell 3
    have e4 : wz.cell? ⟨be, 4, none⟩ = some (.slice a y.1.l.length cap) := LZ.out.cell 4
    by_cases hc : y.1.code = 0
    · have TX := hid (TL.out y.1 hc)
      have hl := tellD_le OK.out x
      rw [TX.out] at hl
      have e0 : wz.cell? ⟨be, 0, none⟩ = some (.int .i64 0) := by rw [← hc]; exact LZ.out.cell 0
      have CT := hid (HF.out y.1 a cap wz OK.out hc AZ.out KZ.out.glob.tab)
      clear hc
      go_wp2_with fail
      refine CT.out.mono ?_
      rintro e w5 ⟨rfl, hb5⟩
      have K5 := hid (KZ.out.below hb5)
      clear hb5 CT e0 e1 e2 e3 e4
      generalize TF y.1 = T at *
      go_wp2_with fail
      have K6 := hid (K5.out.fresh (Evo.alloc g4 0 w5 (.cells #[.string ⟨T.toArray⟩] 9)))
      refine (desk_say (extc g4 w5 0) p d h t _ w5.heap.size 1 [⟨T.toArray⟩] (cells_strs w5 [⟨T.toArray⟩] 9) (by simp) (by simp) (by simp) ?_ (by omega) K6.out.desk).mono ?_
      · rw [show Lib.join (([⟨T.toArray⟩] : List ByteArray).map (·.data.toList)) [32] = T from join_one T]; omega
      rintro e w7 ⟨rfl, g7, hD7, hE7⟩
      rw [show Lib.join (([⟨T.toArray⟩] : List ByteArray).map (·.data.toList)) [32] = T from join_one T] at hD7
      have HP := hid (show DoPostD g p d h t H x w (.returned (.tuple #[])) w7 from by
        have k := K6.out.said hp hE7 hD7
        exact ⟨rfl, g7, by rw [HEV.out, TX.out]; exact k.desk, by rw [HEV.out]; exact k.hall, k.evo⟩)
      clear hD7 hE7 K6 K5
      go_wp2
      go_end0
      exact HP.out
    · have hc' : (y.1.code != 0) = true := by simpa using hc
      have hl := tellD_le OK.out x
      have TX := hid (show tellD x y.1 = b_no ++ 32 :: Lib.itoa y.1.code from by unfold tellD; rw [if_pos hc])
      rw [TX.out] at hl
      have e0 : wz.cell? ⟨be, 0, none⟩ = some (.int .i64 y.1.code) := LZ.out.cell 0
      have CT := hid (desk_num y.1.code (by have := OK.out.c0; omega) (by have := OK.out.c1; omega) wz KZ.out.glob.tab)
      go_wp2_with fail
      refine CT.out.mono ?_
      rintro e w5 ⟨rfl, hb5⟩
      have K5 := hid (KZ.out.below hb5)
      clear hb5 CT e0 e1 e2 e3 e4 hc hc'
      generalize Lib.itoa y.1.code = T at *
      go_wp2_with fail
      have K6 := hid (K5.out.fresh (Evo.alloc g4 0 w5 (.cells #[.string ⟨#[110, 111]⟩, .string ⟨T.toArray⟩] 9)))
      refine (desk_say (extc g4 w5 0) p d h t _ w5.heap.size 2 [⟨#[110, 111]⟩, ⟨T.toArray⟩] (cells_strs w5 [⟨#[110, 111]⟩, ⟨T.toArray⟩] 9) (by simp) (by simp) (by simp) ?_ (by omega) K6.out.desk).mono ?_
      · rw [show Lib.join (([⟨#[110, 111]⟩, ⟨T.toArray⟩] : List ByteArray).map (·.data.toList)) [32] = b_no ++ 32 :: T from join_two b_no T]; omega
      rintro e w7 ⟨rfl, g7, hD7, hE7⟩
      rw [show Lib.join (([⟨#[110, 111]⟩, ⟨T.toArray⟩] : List ByteArray).map (·.data.toList)) [32] = b_no ++ 32 :: T from join_two b_no T] at hD7
      have HP := hid (show DoPostD g p d h t H x w (.returned (.tuple #[])) w7 from by
        have k := K6.out.said hp hE7 hD7
        exact ⟨rfl, g7, by rw [HEV.out, TX.out]; exact k.desk, by rw [HEV.out]; exact k.hall, k.evo⟩)
      clear hD7 hE7 K6 K5
      go_wp2
      go_end0
      exact HP.out
  refine AllReadyH.cons (by simp only [List.getElem?_toArray, List.getElem?_cons_zero, List.getElem?_cons_succ]; rfl) (fun K hK => ?_) AllReadyH.nil
  go_simp
  first
    | (have hA := Evo.alloc g2 (p + 19) w2 (.cells #[.int .i64 0, .int .i64 0, .bool false, .string ⟨#[]⟩, .slice none 0 0] 87); have HNE := hid (show encEnts (doH H x).1.l = [] ∨ ∀ ad : Addr, a = some ad → ad.block ≠ w2.heap.size from slice_ne A2.out); have hblt : bx < w2.heap.size := X2.out.1.lt; have K4 := hid (K2.out.fresh hA); have X4 := hid (X2.out.frame hA (by omega)); have LZ0 := hid (LocC.new g2 (p + 19) w2 87 [.int .i64 0, .int .i64 0, .bool false, .string ⟨#[]⟩, .slice none 0 0]); have A4 := hid (sliceAt_below A2.out ((Below.refl w2.heap.size w2).alloc (Nat.le_refl _) (.cells #[.int .i64 0, .int .i64 0, .bool false, .string ⟨#[]⟩, .slice none 0 0] 87))); have hbe : bx ≤ w2.heap.size := (by rw [← HBX.out]; exact K2.out.evo.size); have hS' : (w2.alloc (.cells #[.int .i64 0, .int .i64 0, .bool false, .string ⟨#[]⟩, .slice none 0 0] 87)).cell? ⟨d, 2, none⟩ = some (.pointer (some ⟨h, 0, none⟩)) ∧ (w2.alloc (.cells #[.int .i64 0, .int .i64 0, .bool false, .string ⟨#[]⟩, .slice none 0 0] 87)).cell? ⟨bx, 0, none⟩ = some (.int .i64 x.kind) ∧ (w2.alloc (.cells #[.int .i64 0, .int .i64 0, .bool false, .string ⟨#[]⟩, .slice none 0 0] 87)).cell? ⟨bx, 1, none⟩ = some (.int .i64 x.s) ∧ (w2.alloc (.cells #[.int .i64 0, .int .i64 0, .bool false, .string ⟨#[]⟩, .slice none 0 0] 87)).cell? ⟨bx, 2, none⟩ = some (.int .i64 x.mode) ∧ (w2.alloc (.cells #[.int .i64 0, .int .i64 0, .bool false, .string ⟨#[]⟩, .slice none 0 0] 87)).cell? ⟨bx, 3, none⟩ = some (.int .i64 x.at_) ∧ (w2.alloc (.cells #[.int .i64 0, .int .i64 0, .bool false, .string ⟨#[]⟩, .slice none 0 0] 87)).cell? ⟨bx, 4, none⟩ = some (.int .i64 x.key) ∧ (w2.alloc (.cells #[.int .i64 0, .int .i64 0, .bool false, .string ⟨#[]⟩, .slice none 0 0] 87)).cell? ⟨bx, 5, none⟩ = some (.int .i64 x.to_) ∧ (w2.alloc (.cells #[.int .i64 0, .int .i64 0, .bool false, .string ⟨#[]⟩, .slice none 0 0] 87)).cell? ⟨bx, 6, none⟩ = some (.int .i64 x.keep) ∧ (w2.alloc (.cells #[.int .i64 0, .int .i64 0, .bool false, .string ⟨#[]⟩, .slice none 0 0] 87)).cell? ⟨bx, 7, none⟩ = some (.string x.bytes) := ⟨K4.out.desk.ptr, X4.out.1.cell 0, X4.out.1.cell 1, X4.out.1.cell 2, X4.out.1.cell 3, X4.out.1.cell 4, X4.out.1.cell 5, X4.out.1.cell 6, X4.out.1.cell 7⟩; clear hA; generalize w2.alloc (.cells #[.int .i64 0, .int .i64 0, .bool false, .string ⟨#[]⟩, .slice none 0 0] 87) = w4 at *; generalize extc g2 w2 (p + 19) = g4 at *; generalize w2.heap.size = be at *; have k0 : w4.cell? ⟨be, 0, none⟩ = some (.int .i64 0) := LZ0.out.1.cell 0; have f0 := LZ0.out.1.free 0; have k1 : w4.cell? ⟨be, 1, none⟩ = some (.int .i64 0) := LZ0.out.1.cell 1; have f1 := LZ0.out.1.free 1; have k2 : w4.cell? ⟨be, 2, none⟩ = some (.bool false) := LZ0.out.1.cell 2; have f2 := LZ0.out.1.free 2; have k3 : w4.cell? ⟨be, 3, none⟩ = some (.string ⟨#[]⟩) := LZ0.out.1.cell 3; have f3 := LZ0.out.1.free 3; have k4 : w4.cell? ⟨be, 4, none⟩ = some (.slice none 0 0) := LZ0.out.1.cell 4; have f4 := LZ0.out.1.free 4)
    | (have hA := Evo.alloc g1 (p + 19) w1 (.cells #[.int .i64 0, .int .i64 0, .bool false, .string ⟨#[]⟩, .slice none 0 0] 87); have hB := (Below.refl (w1.alloc (.cells #[.int .i64 0, .int .i64 0, .bool false, .string ⟨#[]⟩, .slice none 0 0] 87)).heap.size (w1.alloc (.cells #[.int .i64 0, .int .i64 0, .bool false, .string ⟨#[]⟩, .slice none 0 0] 87))).drew; have K3 := hid ((KA.out.fresh hA).below hB); have X3 := hid ((XA.out.frame hA (by omega)).below hB); have L3 := hid ((LocC.new g1 (p + 19) w1 87 [.int .i64 0, .int .i64 0, .bool false, .string ⟨#[]⟩, .slice none 0 0]).below hB); have hbe : bx ≤ w1.heap.size := hsz; have hxbe := hid (show bx < w1.heap.size from XA.out.1.lt); have hS' : (w1.alloc (.cells #[.int .i64 0, .int .i64 0, .bool false, .string ⟨#[]⟩, .slice none 0 0] 87)).drew.cell? ⟨d, 2, none⟩ = some (.pointer (some ⟨h, 0, none⟩)) ∧ (w1.alloc (.cells #[.int .i64 0, .int .i64 0, .bool false, .string ⟨#[]⟩, .slice none 0 0] 87)).drew.cell? ⟨bx, 0, none⟩ = some (.int .i64 x.kind) ∧ (w1.alloc (.cells #[.int .i64 0, .int .i64 0, .bool false, .string ⟨#[]⟩, .slice none 0 0] 87)).drew.cell? ⟨bx, 1, none⟩ = some (.int .i64 x.s) ∧ (w1.alloc (.cells #[.int .i64 0, .int .i64 0, .bool false, .string ⟨#[]⟩, .slice none 0 0] 87)).drew.cell? ⟨bx, 2, none⟩ = some (.int .i64 x.mode) ∧ (w1.alloc (.cells #[.int .i64 0, .int .i64 0, .bool false, .string ⟨#[]⟩, .slice none 0 0] 87)).drew.cell? ⟨bx, 3, none⟩ = some (.int .i64 x.at_) ∧ (w1.alloc (.cells #[.int .i64 0, .int .i64 0, .bool false, .string ⟨#[]⟩, .slice none 0 0] 87)).drew.cell? ⟨bx, 4, none⟩ = some (.int .i64 x.key) ∧ (w1.alloc (.cells #[.int .i64 0, .int .i64 0, .bool false, .string ⟨#[]⟩, .slice none 0 0] 87)).drew.cell? ⟨bx, 5, none⟩ = some (.int .i64 x.to_) ∧ (w1.alloc (.cells #[.int .i64 0, .int .i64 0, .bool false, .string ⟨#[]⟩, .slice none 0 0] 87)).drew.cell? ⟨bx, 6, none⟩ = some (.int .i64 x.keep) ∧ (w1.alloc (.cells #[.int .i64 0, .int .i64 0, .bool false, .string ⟨#[]⟩, .slice none 0 0] 87)).drew.cell? ⟨bx, 7, none⟩ = some (.string x.bytes) := ⟨K3.out.desk.ptr, X3.out.1.cell 0, X3.out.1.cell 1, X3.out.1.cell 2, X3.out.1.cell 3, X3.out.1.cell 4, X3.out.1.cell 5, X3.out.1.cell 6, X3.out.1.cell 7⟩; clear hA hB; generalize (w1.alloc (.cells #[.int .i64 0, .int .i64 0, .bool false, .string ⟨#[]⟩, .slice none 0 0] 87)).drew = w3 at *; generalize extc g1 w1 (p + 19) = g3 at *; generalize w1.heap.size = be at *)
  try go_wp2_with fail
  refine hK.out _ _ ?_ (fun hH4 => ?_)
  · (try dsimp only); (first | assumption | exact hS0)
  clear hK K hH0
  try simp only [Act.put, List.setIfInBounds_toArray, List.set_cons_zero, List.set_cons_succ]
  refine wpAnyH_ready (rs := [5]) (by kernel_rfl) (by simp) ?_
  refine AllReadyH.cons (by simp only [List.getElem?_toArray, List.getElem?_cons_zero, List.getElem?_cons_succ]; rfl) (fun K hK => ?_) AllReadyH.nil
  go_simp
  go_at_call 63
  first
    | (have PD := hall_Do g3 (p + 2) h H x w3 hx K3.out.hall; refine PD.mono ?_; clear PD; rintro e w4 ⟨a, cap, g4, rfl, hH4, hE4, hS4, hn4⟩; have HNE := hid (show encEnts (doH H x).1.l = [] ∨ ∀ ad : Addr, a = some ad → ad.block ≠ be from .inr (fun ad e => by have := hn4 ad e; have := L3.out.1.lt; omega)); have hblt : bx < be := hxbe.out; have K4 := hid (K3.out.step hp hE4 hH4); have X4 := hid (X3.out.frame hE4 (by omega)); have LZ0 := hid (L3.out.frame hE4 (by omega)); have A4 := hid hS4; have hS' : w4.cell? ⟨d, 2, none⟩ = some (.pointer (some ⟨h, 0, none⟩)) ∧ w4.cell? ⟨bx, 0, none⟩ = some (.int .i64 x.kind) ∧ w4.cell? ⟨bx, 1, none⟩ = some (.int .i64 x.s) ∧ w4.cell? ⟨bx, 2, none⟩ = some (.int .i64 x.mode) ∧ w4.cell? ⟨bx, 3, none⟩ = some (.int .i64 x.at_) ∧ w4.cell? ⟨bx, 4, none⟩ = some (.int .i64 x.key) ∧ w4.cell? ⟨bx, 5, none⟩ = some (.int .i64 x.to_) ∧ w4.cell? ⟨bx, 6, none⟩ = some (.int .i64 x.keep) ∧ w4.cell? ⟨bx, 7, none⟩ = some (.string x.bytes) := ⟨K4.out.desk.ptr, X4.out.1.cell 0, X4.out.1.cell 1, X4.out.1.cell 2, X4.out.1.cell 3, X4.out.1.cell 4, X4.out.1.cell 5, X4.out.1.cell 6, X4.out.1.cell 7⟩; clear hE4 hH4 hS4 hn4; have k0 : w4.cell? ⟨be, 0, none⟩ = some (.int .i64 0) := LZ0.out.1.cell 0; have f0 := LZ0.out.1.free 0; have k1 : w4.cell? ⟨be, 1, none⟩ = some (.int .i64 0) := LZ0.out.1.cell 1; have f1 := LZ0.out.1.free 1; have k2 : w4.cell? ⟨be, 2, none⟩ = some (.bool false) := LZ0.out.1.cell 2; have f2 := LZ0.out.1.free 2; have k3 : w4.cell? ⟨be, 3, none⟩ = some (.string ⟨#[]⟩) := LZ0.out.1.cell 3; have f3 := LZ0.out.1.free 3; have k4 : w4.cell? ⟨be, 4, none⟩ = some (.slice none 0 0) := LZ0.out.1.cell 4; have f4 := LZ0.out.1.free 4)
    | (have KD := hid (KA.out.below (Below.refl _ _).drew); have XD := hid (XA.out.below (Below.refl _ _).drew); have PD := hall_Do g1 (p + 2) h H x w1.drew hx KD.out.hall; refine PD.mono ?_; clear PD; rintro e w2 ⟨a, cap, g2, rfl, hH2, hE2, hS2, -⟩; have K2 := hid (KD.out.step hp hE2 hH2); have X2 := hid (XD.out.frame hE2 (by omega)); have A2 := hid hS2; have hS' : w2.cell? ⟨d, 2, none⟩ = some (.pointer (some ⟨h, 0, none⟩)) ∧ w2.cell? ⟨bx, 0, none⟩ = some (.int .i64 x.kind) ∧ w2.cell? ⟨bx, 1, none⟩ = some (.int .i64 x.s) ∧ w2.cell? ⟨bx, 2, none⟩ = some (.int .i64 x.mode) ∧ w2.cell? ⟨bx, 3, none⟩ = some (.int .i64 x.at_) ∧ w2.cell? ⟨bx, 4, none⟩ = some (.int .i64 x.key) ∧ w2.cell? ⟨bx, 5, none⟩ = some (.int .i64 x.to_) ∧ w2.cell? ⟨bx, 6, none⟩ = some (.int .i64 x.keep) ∧ w2.cell? ⟨bx, 7, none⟩ = some (.string x.bytes) := ⟨K2.out.desk.ptr, X2.out.1.cell 0, X2.out.1.cell 1, X2.out.1.cell 2, X2.out.1.cell 3, X2.out.1.cell 4, X2.out.1.cell 5, X2.out.1.cell 6, X2.out.1.cell 7⟩; clear hE2 hH2 hS2)
  try go_wp2_with fail
  refine hK.out _ _ ?_ (fun hH5 => ?_)
  · (try dsimp only); (first | assumption | exact hS0)
  clear hK K hH4
  try simp only [Act.put, List.setIfInBounds_toArray, List.set_cons_zero, List.set_cons_succ]
  refine wpAnyH_ready (rs := [7]) (by kernel_rfl) (by simp) ?_
  refine AllReadyH.cons (by simp only [List.getElem?_toArray, List.getElem?_cons_zero, List.getElem?_cons_succ]; rfl) (fun K hK => ?_) AllReadyH.nil
  go_simp
  have KZ := hid (show DkAt w g p d h t (doH H x).2 g4 (((((w4.setCell ⟨be, 0, none⟩ (.int .i64 ((doH H x).1.code))).setCell ⟨be, 1, none⟩ (.int .i64 ((doH H x).1.n))).setCell ⟨be, 2, none⟩ (.bool ((doH H x).1.v.there))).setCell ⟨be, 3, none⟩ (.string ((doH H x).1.v.bytes))).setCell ⟨be, 4, none⟩ (.slice a ((doH H x).1.l.length) cap)) from (((((K4.out.put1 LZ0.out.2 (by rw [HBX.out]; exact hbe) (.int .i64 ((doH H x).1.code))).put1 LZ0.out.2 (by rw [HBX.out]; exact hbe) (.int .i64 ((doH H x).1.n))).put1 LZ0.out.2 (by rw [HBX.out]; exact hbe) (.bool ((doH H x).1.v.there))).put1 LZ0.out.2 (by rw [HBX.out]; exact hbe) (.string ((doH H x).1.v.bytes))).put1 LZ0.out.2 (by rw [HBX.out]; exact hbe) (.slice a ((doH H x).1.l.length) cap)))
  have LZ := hid (show Loc (((((w4.setCell ⟨be, 0, none⟩ (.int .i64 ((doH H x).1.code))).setCell ⟨be, 1, none⟩ (.int .i64 ((doH H x).1.n))).setCell ⟨be, 2, none⟩ (.bool ((doH H x).1.v.there))).setCell ⟨be, 3, none⟩ (.string ((doH H x).1.v.bytes))).setCell ⟨be, 4, none⟩ (.slice a ((doH H x).1.l.length) cap)) be 87 [.int .i64 ((doH H x).1.code), .int .i64 ((doH H x).1.n), .bool ((doH H x).1.v.there), .string ((doH H x).1.v.bytes), .slice a ((doH H x).1.l.length) cap] from (((((LZ0.out.1.set 0 (.int .i64 ((doH H x).1.code))).set 1 (.int .i64 ((doH H x).1.n))).set 2 (.bool ((doH H x).1.v.there))).set 3 (.string ((doH H x).1.v.bytes))).set 4 (.slice a ((doH H x).1.l.length) cap)))
  have AZ := hid (show SliceAt (((((w4.setCell ⟨be, 0, none⟩ (.int .i64 ((doH H x).1.code))).setCell ⟨be, 1, none⟩ (.int .i64 ((doH H x).1.n))).setCell ⟨be, 2, none⟩ (.bool ((doH H x).1.v.there))).setCell ⟨be, 3, none⟩ (.string ((doH H x).1.v.bytes))).setCell ⟨be, 4, none⟩ (.slice a ((doH H x).1.l.length) cap)) a (encEnts (doH H x).1.l) from by
    rcases HNE.out with hz | hz
    · exact .inl hz
    · exact A4.out.lift (fun ad e => heap_five _ _ _ _ _ _ _ _ (hz ad e)))
  have XZ := hid (show Loc (((((w4.setCell ⟨be, 0, none⟩ (.int .i64 ((doH H x).1.code))).setCell ⟨be, 1, none⟩ (.int .i64 ((doH H x).1.n))).setCell ⟨be, 2, none⟩ (.bool ((doH H x).1.v.there))).setCell ⟨be, 3, none⟩ (.string ((doH H x).1.v.bytes))).setCell ⟨be, 4, none⟩ (.slice a ((doH H x).1.l.length) cap)) bx 75 (stL x) from (((((X4.out.1.other (Nat.ne_of_lt hblt) (.int .i64 ((doH H x).1.code))).other (Nat.ne_of_lt hblt) (.int .i64 ((doH H x).1.n))).other (Nat.ne_of_lt hblt) (.bool ((doH H x).1.v.there))).other (Nat.ne_of_lt hblt) (.string ((doH H x).1.v.bytes))).other (Nat.ne_of_lt hblt) (.slice a ((doH H x).1.l.length) cap)))
  have hS' : (((((w4.setCell ⟨be, 0, none⟩ (.int .i64 ((doH H x).1.code))).setCell ⟨be, 1, none⟩ (.int .i64 ((doH H x).1.n))).setCell ⟨be, 2, none⟩ (.bool ((doH H x).1.v.there))).setCell ⟨be, 3, none⟩ (.string ((doH H x).1.v.bytes))).setCell ⟨be, 4, none⟩ (.slice a ((doH H x).1.l.length) cap)).cell? ⟨d, 2, none⟩ = some (.pointer (some ⟨h, 0, none⟩)) ∧ (((((w4.setCell ⟨be, 0, none⟩ (.int .i64 ((doH H x).1.code))).setCell ⟨be, 1, none⟩ (.int .i64 ((doH H x).1.n))).setCell ⟨be, 2, none⟩ (.bool ((doH H x).1.v.there))).setCell ⟨be, 3, none⟩ (.string ((doH H x).1.v.bytes))).setCell ⟨be, 4, none⟩ (.slice a ((doH H x).1.l.length) cap)).cell? ⟨bx, 0, none⟩ = some (.int .i64 x.kind) ∧ (((((w4.setCell ⟨be, 0, none⟩ (.int .i64 ((doH H x).1.code))).setCell ⟨be, 1, none⟩ (.int .i64 ((doH H x).1.n))).setCell ⟨be, 2, none⟩ (.bool ((doH H x).1.v.there))).setCell ⟨be, 3, none⟩ (.string ((doH H x).1.v.bytes))).setCell ⟨be, 4, none⟩ (.slice a ((doH H x).1.l.length) cap)).cell? ⟨bx, 1, none⟩ = some (.int .i64 x.s) ∧ (((((w4.setCell ⟨be, 0, none⟩ (.int .i64 ((doH H x).1.code))).setCell ⟨be, 1, none⟩ (.int .i64 ((doH H x).1.n))).setCell ⟨be, 2, none⟩ (.bool ((doH H x).1.v.there))).setCell ⟨be, 3, none⟩ (.string ((doH H x).1.v.bytes))).setCell ⟨be, 4, none⟩ (.slice a ((doH H x).1.l.length) cap)).cell? ⟨bx, 2, none⟩ = some (.int .i64 x.mode) ∧ (((((w4.setCell ⟨be, 0, none⟩ (.int .i64 ((doH H x).1.code))).setCell ⟨be, 1, none⟩ (.int .i64 ((doH H x).1.n))).setCell ⟨be, 2, none⟩ (.bool ((doH H x).1.v.there))).setCell ⟨be, 3, none⟩ (.string ((doH H x).1.v.bytes))).setCell ⟨be, 4, none⟩ (.slice a ((doH H x).1.l.length) cap)).cell? ⟨bx, 3, none⟩ = some (.int .i64 x.at_) ∧ (((((w4.setCell ⟨be, 0, none⟩ (.int .i64 ((doH H x).1.code))).setCell ⟨be, 1, none⟩ (.int .i64 ((doH H x).1.n))).setCell ⟨be, 2, none⟩ (.bool ((doH H x).1.v.there))).setCell ⟨be, 3, none⟩ (.string ((doH H x).1.v.bytes))).setCell ⟨be, 4, none⟩ (.slice a ((doH H x).1.l.length) cap)).cell? ⟨bx, 4, none⟩ = some (.int .i64 x.key) ∧ (((((w4.setCell ⟨be, 0, none⟩ (.int .i64 ((doH H x).1.code))).setCell ⟨be, 1, none⟩ (.int .i64 ((doH H x).1.n))).setCell ⟨be, 2, none⟩ (.bool ((doH H x).1.v.there))).setCell ⟨be, 3, none⟩ (.string ((doH H x).1.v.bytes))).setCell ⟨be, 4, none⟩ (.slice a ((doH H x).1.l.length) cap)).cell? ⟨bx, 5, none⟩ = some (.int .i64 x.to_) ∧ (((((w4.setCell ⟨be, 0, none⟩ (.int .i64 ((doH H x).1.code))).setCell ⟨be, 1, none⟩ (.int .i64 ((doH H x).1.n))).setCell ⟨be, 2, none⟩ (.bool ((doH H x).1.v.there))).setCell ⟨be, 3, none⟩ (.string ((doH H x).1.v.bytes))).setCell ⟨be, 4, none⟩ (.slice a ((doH H x).1.l.length) cap)).cell? ⟨bx, 6, none⟩ = some (.int .i64 x.keep) ∧ (((((w4.setCell ⟨be, 0, none⟩ (.int .i64 ((doH H x).1.code))).setCell ⟨be, 1, none⟩ (.int .i64 ((doH H x).1.n))).setCell ⟨be, 2, none⟩ (.bool ((doH H x).1.v.there))).setCell ⟨be, 3, none⟩ (.string ((doH H x).1.v.bytes))).setCell ⟨be, 4, none⟩ (.slice a ((doH H x).1.l.length) cap)).cell? ⟨bx, 7, none⟩ = some (.string x.bytes) := ⟨KZ.out.desk.ptr, XZ.out.cell 0, XZ.out.cell 1, XZ.out.cell 2, XZ.out.cell 3, XZ.out.cell 4, XZ.out.cell 5, XZ.out.cell 6, XZ.out.cell 7⟩
  clear HNE A4 K4 X4 LZ0 k0 k1 k2 k3 k4 f0 f1 f2 f3 f4
  generalize (((((w4.setCell ⟨be, 0, none⟩ (.int .i64 ((doH H x).1.code))).setCell ⟨be, 1, none⟩ (.int .i64 ((doH H x).1.n))).setCell ⟨be, 2, none⟩ (.bool ((doH H x).1.v.there))).setCell ⟨be, 3, none⟩ (.string ((doH H x).1.v.bytes))).setCell ⟨be, 4, none⟩ (.slice a ((doH H x).1.l.length) cap)) = wz at *
  try go_wp2_with fail
  refine hK.out _ _ ?_ (fun hH6 => ?_)
  · (try dsimp only); (first | assumption | exact hS0)
  clear hK K hH5
  try simp only [Act.put, List.setIfInBounds_toArray, List.set_cons_zero, List.set_cons_succ]
  refine wpAnyH_done (by kernel_rfl) ?_ _
  refine NoPanic.normal ?_
  clear hS' hS0
  generalize hEV : doH H x = y at *
  have HEV := hid hEV
  clear hEV
  have e1 : wz.cell? ⟨be, 1, none⟩ = some (.int .i64 y.1.n) := LZ.out.cell 1
  have e2 : wz.cell? ⟨be, 2, none⟩ = some (.bool y.1.v.there) := LZ.out.cell 2
  have e3 : wz.cell? ⟨be, 3, none⟩ = some (.string y.1.v.bytes) := LZ.out.cell 3
  have e4 : wz.cell? ⟨be, 4, none⟩ = some (.slice a y.1.l.length cap) := LZ.out.cell 4
  by_cases hc : y.1.code = 0
  · have TX := hid (TL.out y.1 hc)
    have hl := tellD_le OK.out x
    rw [TX.out] at hl
    have e0 : wz.cell? ⟨be, 0, none⟩ = some (.int .i64 0) := by rw [← hc]; exact LZ.out.cell 0
    have CT := hid (HF.out y.1 a cap wz OK.out hc AZ.out KZ.out.glob.tab)
    clear hc
    go_wp2_with fail
    refine CT.out.mono ?_
    rintro e w5 ⟨rfl, hb5⟩
    have K5 := hid (KZ.out.below hb5)
    clear hb5 CT e0 e1 e2 e3 e4
    generalize TF y.1 = T at *
    go_wp2_with fail
    have K6 := hid (K5.out.fresh (Evo.alloc g4 0 w5 (.cells #[.string ⟨T.toArray⟩] 9)))
    refine (desk_say (extc g4 w5 0) p d h t _ w5.heap.size 1 [⟨T.toArray⟩] (cells_strs w5 [⟨T.toArray⟩] 9) (by simp) (by simp) (by simp) ?_ (by omega) K6.out.desk).mono ?_
    · rw [show Lib.join (([⟨T.toArray⟩] : List ByteArray).map (·.data.toList)) [32] = T from join_one T]; omega
    rintro e w7 ⟨rfl, g7, hD7, hE7⟩
    rw [show Lib.join (([⟨T.toArray⟩] : List ByteArray).map (·.data.toList)) [32] = T from join_one T] at hD7
    have HP := hid (show DoPostD g p d h t H x w (.returned (.tuple #[])) w7 from by
      have k := K6.out.said hp hE7 hD7
      exact ⟨rfl, g7, by rw [HEV.out, TX.out]; exact k.desk, by rw [HEV.out]; exact k.hall, k.evo⟩)
    clear hD7 hE7 K6 K5
    go_wp2
    go_end0
    exact HP.out
  · have hc' : (y.1.code != 0) = true := by simpa using hc
    have hl := tellD_le OK.out x
    have TX := hid (show tellD x y.1 = b_no ++ 32 :: Lib.itoa y.1.code from by unfold tellD; rw [if_pos hc])
    rw [TX.out] at hl
    have e0 : wz.cell? ⟨be, 0, none⟩ = some (.int .i64 y.1.code) := LZ.out.cell 0
    have CT := hid (desk_num y.1.code (by have := OK.out.c0; omega) (by have := OK.out.c1; omega) wz KZ.out.glob.tab)
    go_wp2_with fail
    refine CT.out.mono ?_
    rintro e w5 ⟨rfl, hb5⟩
    have K5 := hid (KZ.out.below hb5)
    clear hb5 CT e0 e1 e2 e3 e4 hc hc'
    generalize Lib.itoa y.1.code = T at *
    go_wp2_with fail
    have K6 := hid (K5.out.fresh (Evo.alloc g4 0 w5 (.cells #[.string ⟨#[110, 111]⟩, .string ⟨T.toArray⟩] 9)))
    refine (desk_say (extc g4 w5 0) p d h t _ w5.heap.size 2 [⟨#[110, 111]⟩, ⟨T.toArray⟩] (cells_strs w5 [⟨#[110, 111]⟩, ⟨T.toArray⟩] 9) (by simp) (by simp) (by simp) ?_ (by omega) K6.out.desk).mono ?_
    · rw [show Lib.join (([⟨#[110, 111]⟩, ⟨T.toArray⟩] : List ByteArray).map (·.data.toList)) [32] = b_no ++ 32 :: T from join_two b_no T]; omega
    rintro e w7 ⟨rfl, g7, hD7, hE7⟩
    rw [show Lib.join (([⟨#[110, 111]⟩, ⟨T.toArray⟩] : List ByteArray).map (·.data.toList)) [32] = b_no ++ 32 :: T from join_two b_no T] at hD7
    have HP := hid (show DoPostD g p d h t H x w (.returned (.tuple #[])) w7 from by
      have k := K6.out.said hp hE7 hD7
      exact ⟨rfl, g7, by rw [HEV.out, TX.out]; exact k.desk, by rw [HEV.out]; exact k.hall, k.evo⟩)
    clear hD7 hE7 K6 K5
    go_wp2
    go_end0
    exact HP.out
  -- END any

theorem desk_do_ok (g : Nat → Nat) (p d h : Nat) (t : List UInt8) (H : Ht) (x : St) (w : World) (hp : 1 ≤ p) (hD : DkAt w g p d h t H g w) (hx : x.bytes.size ≤ maxLen) (hO : EvOk (doH H x).1) (ht : t.length ≤ 800000000) (hk : ∀ ev : Evt, ev.code = 0 → tellD x ev = b_ok) :
    Calls Tryz.prog 35 #[.pointer (some ⟨d, 0, none⟩), .agg #[.int .i64 x.kind, .int .i64 x.s, .int .i64 x.mode, .int .i64 x.at_, .int .i64 x.key, .int .i64 x.to_, .int .i64 x.keep, .string x.bytes], .func (.func 36) #[] #[]] w (DoPostD g p d h t H x w) :=
  desk_do 36 (fun ev => b_ok) (enters_of Tryz.func36 (by kernel_rfl) rfl) (fun ev a cap W ok hc hA hT => by rw [← hc]; exact desk_ok ev.code ev.n ev.v.there ev.v.bytes a ev.l.length cap W) g p d h t H x w hp hD hx hO ht hk

theorem desk_do_has (g : Nat → Nat) (p d h : Nat) (t : List UInt8) (H : Ht) (x : St) (w : World) (hp : 1 ≤ p) (hD : DkAt w g p d h t H g w) (hx : x.bytes.size ≤ maxLen) (hO : EvOk (doH H x).1) (ht : t.length ≤ 800000000) (hk : ∀ ev : Evt, ev.code = 0 → tellD x ev = (b_has ++ 32 :: valL ev.v)) :
    Calls Tryz.prog 35 #[.pointer (some ⟨d, 0, none⟩), .agg #[.int .i64 x.kind, .int .i64 x.s, .int .i64 x.mode, .int .i64 x.at_, .int .i64 x.key, .int .i64 x.to_, .int .i64 x.keep, .string x.bytes], .func (.func 39) #[] #[]] w (DoPostD g p d h t H x w) :=
  desk_do 39 (fun ev => (b_has ++ 32 :: valL ev.v)) (enters_of Tryz.func39 (by kernel_rfl) rfl) (fun ev a cap W ok hc hA hT => by rw [← hc]; exact desk_tellV ev.code ev.n ev.v.there ev.v.bytes (by have := size12 ok.v; omega) a ev.l.length cap W) g p d h t H x w hp hD hx hO ht hk

theorem desk_do_all (g : Nat → Nat) (p d h : Nat) (t : List UInt8) (H : Ht) (x : St) (w : World) (hp : 1 ≤ p) (hD : DkAt w g p d h t H g w) (hx : x.bytes.size ≤ maxLen) (hO : EvOk (doH H x).1) (ht : t.length ≤ 800000000) (hk : ∀ ev : Evt, ev.code = 0 → tellD x ev = (b_all ++ pairsD ev.l)) :
    Calls Tryz.prog 35 #[.pointer (some ⟨d, 0, none⟩), .agg #[.int .i64 x.kind, .int .i64 x.s, .int .i64 x.mode, .int .i64 x.at_, .int .i64 x.key, .int .i64 x.to_, .int .i64 x.keep, .string x.bytes], .func (.func 41) #[] #[]] w (DoPostD g p d h t H x w) :=
  desk_do 41 (fun ev => (b_all ++ pairsD ev.l)) (enters_of Tryz.func41 (by kernel_rfl) rfl) (fun ev a cap W ok hc hA hT => by rw [← hc]; exact desk_tellL ev.code ev.n ev.v.there ev.v.bytes a ev.l cap W ok.l8 ok.l hA hT) g p d h t H x w hp hD hx hO ht hk

theorem desk_do_n3 (g : Nat → Nat) (p d h : Nat) (t : List UInt8) (H : Ht) (x : St) (w : World) (hp : 1 ≤ p) (hD : DkAt w g p d h t H g w) (hx : x.bytes.size ≤ maxLen) (hO : EvOk (doH H x).1) (ht : t.length ≤ 800000000) (hk : ∀ ev : Evt, ev.code = 0 → tellD x ev = (b_ok ++ 32 :: Lib.itoa ev.n)) :
    Calls Tryz.prog 35 #[.pointer (some ⟨d, 0, none⟩), .agg #[.int .i64 x.kind, .int .i64 x.s, .int .i64 x.mode, .int .i64 x.at_, .int .i64 x.key, .int .i64 x.to_, .int .i64 x.keep, .string x.bytes], .func (.func 43) #[] #[]] w (DoPostD g p d h t H x w) :=
  desk_do 43 (fun ev => (b_ok ++ 32 :: Lib.itoa ev.n)) (enters_of Tryz.func43 (by kernel_rfl) rfl) (fun ev a cap W ok hc hA hT => by rw [← hc]; exact desk_tellN ev.code ev.n (by have := ok.n0; omega) (by have := ok.n1; omega) ev.v.there ev.v.bytes a ev.l.length cap W hT) g p d h t H x w hp hD hx hO ht hk

theorem desk_do_n4 (g : Nat → Nat) (p d h : Nat) (t : List UInt8) (H : Ht) (x : St) (w : World) (hp : 1 ≤ p) (hD : DkAt w g p d h t H g w) (hx : x.bytes.size ≤ maxLen) (hO : EvOk (doH H x).1) (ht : t.length ≤ 800000000) (hk : ∀ ev : Evt, ev.code = 0 → tellD x ev = (b_ok ++ 32 :: Lib.itoa ev.n)) :
    Calls Tryz.prog 35 #[.pointer (some ⟨d, 0, none⟩), .agg #[.int .i64 x.kind, .int .i64 x.s, .int .i64 x.mode, .int .i64 x.at_, .int .i64 x.key, .int .i64 x.to_, .int .i64 x.keep, .string x.bytes], .func (.func 44) #[] #[]] w (DoPostD g p d h t H x w) :=
  desk_do 44 (fun ev => (b_ok ++ 32 :: Lib.itoa ev.n)) (enters_of Tryz.func44 (by kernel_rfl) rfl) (fun ev a cap W ok hc hA hT => by rw [← hc]; exact desk_tellM ev.code ev.n (by have := ok.n0; omega) (by have := ok.n1; omega) ev.v.there ev.v.bytes a ev.l.length cap W hT) g p d h t H x w hp hD hx hO ht hk
end Go.Proofs.YtoiobhcgpajogabGreatDoor
