/- The acts of the walk of the document's Deeds. -/
import Derived.Test.YtoiobhcgpajogadGreatDks1
import Derived.Test.YtoiobhcgpajogadGreatSer6
import Derived.Test.YtoiobhcgpajogadGreatCourt4
namespace Go.Proofs.YtoiobhcgpajogadGreat
open Go.RowKit

def loopOf : Code → Option Code
  | .loop c => some c
  | .seq a b => match loopOf a with
    | some c => some c
    | none => loopOf b
  | .block _ c => loopOf c
  | .scope c => loopOf c
  | .cond _ a b => match loopOf a with
    | some c => some c
    | none => loopOf b
  | _ => none

/-- The cells of a step. -/
def StCells (w : World) (b o : Nat) (x : St) : Prop :=
  w.cell? ⟨b, o, none⟩ = some (.int .i64 x.kind) ∧ w.cell? ⟨b, o + 1, none⟩ = some (.int .i64 x.s) ∧ w.cell? ⟨b, o + 2, none⟩ = some (.int .i64 x.mode) ∧ w.cell? ⟨b, o + 3, none⟩ = some (.int .i64 x.at_) ∧ w.cell? ⟨b, o + 4, none⟩ = some (.int .i64 x.key) ∧ w.cell? ⟨b, o + 5, none⟩ = some (.int .i64 x.to_) ∧ w.cell? ⟨b, o + 6, none⟩ = some (.int .i64 x.keep) ∧ w.cell? ⟨b, o + 7, none⟩ = some (.string x.bytes)

def regOf (n : Nat) : Code → Option Code
  | .region k ops b => if k = n then some (.region k ops b) else none
  | .seq a b => match regOf n a with
    | some c => some c
    | none => regOf n b
  | .cond _ a b => match regOf n a with
    | some c => some c
    | none => regOf n b
  | .block _ c => regOf n c
  | .loop c => regOf n c
  | .scope c => regOf n c
  | _ => none

set_option maxHeartbeats 4000000 in
set_option maxRecDepth 100000 in
theorem deeds_act23 (w : World) (g6 : Nat → Nat) (w6 : World) (c N : Nat) (H : Ht) (b nx k : Nat) (B : Bk) (v : Value) (L : List Dnx) (f : Nat → Od) (be bx : Nat) (x : St) (yc yn : Int) (yv : Val) (yl : List Ent) (a5 : Option Addr) (c5 : Nat) (n : Nat) (hn : n < 5) (d : Dn) (hd : B.seats n = some d)
    (HC6 : Hid (CourtAt w6 g6 1 c N H)) (HD6 : Hid (DeedsC w6 g6 24 23 b nx k B v L f)) (HB6 : Hid (Base w.heap.size w g6 w6)) (HX6 : Hid (LocC w6 g6 0 bx 55 (stL x))) (HV6 : Hid (LocC w6 g6 0 be 74 [.int .i64 yc, .int .i64 yn, .bool yv.there, .string yv.bytes, .slice a5 yl.length c5])) (HL6 : Hid (FixC w6 g6 23 a5 (encEnts yl))) (_h8 : yl.length ≤ 8) (hk : k ≤ 100000) (hkd : x.kind = 2)
    (C : Code) (hcode : Tryz.f9.body.bind (regOf 23) = some C) (Q : Exit → Act → World → Prop) (u0 u1 u2 u3 u4 u5 u6 u8 u9 u12 u13 u14 u15 u16 u17 u18 u19 u20 u21 u22 u23 u24 u25 u26 u27 u28 u29 u30 u31 u32 u33 u34 u35 u36 u37 u38 u39 u40 u41 u42 u43 u44 u45 u46 u47 u48 u49 u50 u51 u52 u53 u54 u55 u56 u57 u58 u59 u60 u61 u62 u63 u64 u65 u66 u67 u68 u69 u70 u71 u72 u73 u74 u75 u76 u77 u78 u79 u80 u81 u82 u83 u84 u85 u86 u87 u88 u89 u90 u91 u92 u93 u94 u95 u96 u97 u98 u99 u100 u101 u102 u103 u104 u105 u106 u107 u108 u109 u110 u111 u112 u113 u114 u115 u116 u117 u118 u119 u120 u121 u122 u123 u124 u125 u126 u127 u128 u129 u130 u131 u132 u133 u134 u135 u136 u137 u138 u139 u140 u141 u142 u143 u144 u145 u146 u147 u148 u149 u150 u151 u152 u153 u154 u155 u156 u157 u158 u159 u160 u161 u162 u163 u164 u165 u166 u167 u168 u169 u170 u171 u172 u173 u174 u175 u176 u177 u178 u179 u180 u181 u182 : Value)
    (hK : ∀ (x111 x112 x113 x114 x115 x116 x117 x118 x119 x120 x121 x122 x123 x124 x125 x126 : Value) (g9 : Nat → Nat) (w9 : World) (F : Nat → Od), Hid (CourtAt w9 g9 1 c N H) → Hid (DeedsC w9 g9 24 23 b nx (k + 1) ⟨upd B.seats n (some ⟨d.n, d.at_, d.mode, d.acts ++ [(⟨⟨2, x.key, 0, yv, []⟩, none, 0⟩ : Acx).a]⟩), B.l⟩ v L F) → Hid (Base w.heap.size w g9 w9) → Q .normal ⟨List.toArray (u0 :: u1 :: u2 :: u3 :: u4 :: u5 :: u6 :: .pointer (some ⟨bx, 0, none⟩) :: u8 :: u9 :: .pointer (some ⟨be, 0, none⟩) :: .pointer (some ⟨b, n * 4, none⟩) :: u12 :: u13 :: u14 :: u15 :: u16 :: u17 :: u18 :: u19 :: u20 :: u21 :: u22 :: u23 :: u24 :: u25 :: u26 :: u27 :: u28 :: u29 :: u30 :: u31 :: u32 :: u33 :: u34 :: u35 :: u36 :: u37 :: u38 :: u39 :: u40 :: u41 :: u42 :: u43 :: u44 :: u45 :: u46 :: u47 :: u48 :: u49 :: u50 :: u51 :: u52 :: u53 :: u54 :: u55 :: u56 :: u57 :: u58 :: u59 :: u60 :: u61 :: u62 :: u63 :: u64 :: u65 :: u66 :: u67 :: u68 :: u69 :: u70 :: u71 :: u72 :: u73 :: u74 :: u75 :: u76 :: u77 :: u78 :: u79 :: u80 :: u81 :: u82 :: u83 :: u84 :: u85 :: u86 :: u87 :: u88 :: u89 :: u90 :: u91 :: u92 :: u93 :: u94 :: u95 :: u96 :: u97 :: u98 :: u99 :: u100 :: u101 :: u102 :: u103 :: u104 :: u105 :: u106 :: u107 :: u108 :: u109 :: u110 :: x111 :: x112 :: x113 :: x114 :: x115 :: x116 :: x117 :: x118 :: x119 :: x120 :: x121 :: x122 :: x123 :: x124 :: x125 :: x126 :: u127 :: u128 :: u129 :: u130 :: u131 :: u132 :: u133 :: u134 :: u135 :: u136 :: u137 :: u138 :: u139 :: u140 :: u141 :: u142 :: u143 :: u144 :: u145 :: u146 :: u147 :: u148 :: u149 :: u150 :: u151 :: u152 :: u153 :: u154 :: u155 :: u156 :: u157 :: u158 :: u159 :: u160 :: u161 :: u162 :: u163 :: u164 :: u165 :: u166 :: u167 :: u168 :: u169 :: u170 :: u171 :: u172 :: u173 :: u174 :: u175 :: u176 :: u177 :: u178 :: u179 :: u180 :: u181 :: u182 :: []), []⟩ w9) :
    Code.wp Tryz.prog C Q ⟨List.toArray (u0 :: u1 :: u2 :: u3 :: u4 :: u5 :: u6 :: .pointer (some ⟨bx, 0, none⟩) :: u8 :: u9 :: .pointer (some ⟨be, 0, none⟩) :: .pointer (some ⟨b, n * 4, none⟩) :: u12 :: u13 :: u14 :: u15 :: u16 :: u17 :: u18 :: u19 :: u20 :: u21 :: u22 :: u23 :: u24 :: u25 :: u26 :: u27 :: u28 :: u29 :: u30 :: u31 :: u32 :: u33 :: u34 :: u35 :: u36 :: u37 :: u38 :: u39 :: u40 :: u41 :: u42 :: u43 :: u44 :: u45 :: u46 :: u47 :: u48 :: u49 :: u50 :: u51 :: u52 :: u53 :: u54 :: u55 :: u56 :: u57 :: u58 :: u59 :: u60 :: u61 :: u62 :: u63 :: u64 :: u65 :: u66 :: u67 :: u68 :: u69 :: u70 :: u71 :: u72 :: u73 :: u74 :: u75 :: u76 :: u77 :: u78 :: u79 :: u80 :: u81 :: u82 :: u83 :: u84 :: u85 :: u86 :: u87 :: u88 :: u89 :: u90 :: u91 :: u92 :: u93 :: u94 :: u95 :: u96 :: u97 :: u98 :: u99 :: u100 :: u101 :: u102 :: u103 :: u104 :: u105 :: u106 :: u107 :: u108 :: u109 :: u110 :: u111 :: u112 :: u113 :: u114 :: u115 :: u116 :: u117 :: u118 :: u119 :: u120 :: u121 :: u122 :: u123 :: u124 :: u125 :: u126 :: u127 :: u128 :: u129 :: u130 :: u131 :: u132 :: u133 :: u134 :: u135 :: u136 :: u137 :: u138 :: u139 :: u140 :: u141 :: u142 :: u143 :: u144 :: u145 :: u146 :: u147 :: u148 :: u149 :: u150 :: u151 :: u152 :: u153 :: u154 :: u155 :: u156 :: u157 :: u158 :: u159 :: u160 :: u161 :: u162 :: u163 :: u164 :: u165 :: u166 :: u167 :: u168 :: u169 :: u170 :: u171 :: u172 :: u173 :: u174 :: u175 :: u176 :: u177 :: u178 :: u179 :: u180 :: u181 :: u182 :: []), []⟩ w6 := by
  have HQ := hid hK
  have KK := hid (show some (Value.int .i64 x.kind) = some (Value.int .i64 2) from by rw [hkd])
  have HBd := hid hd
  obtain rfl : (Tryz.f9.body.bind (regOf 23)).getD .skip = C := by rw [hcode]; rfl
  obtain ⟨i0, hi, hz0, hz1, hz2⟩ := info_parts Tryz.infoRAct
  have hkn := HD6.out.live n hn d HBd.out
  have m1 : (f n).acts.length + 1 ≤ maxLen := by have := hkn.len; unfold maxLen; omega
  have m2 : ((f n).acts.length + 1) * 72 ≤ 140737488355328 := by have := hkn.len; omega
  obtain ⟨-, -, -, o3⟩ := openL_get f hn
  have HDd := hid (HD6.out.quiet (Evo.drew 0 0 g6 w6))
  have HXd := hid (HX6.out.below (Below.refl w6.heap.size w6).drew)
  have HVd := hid (HV6.out.below (Below.refl w6.heap.size w6).drew)
  have HCd := hid (HC6.out.below (Below.refl w6.heap.size w6).drew)
  have HBd2 := hid (HB6.out.below' (Below.refl w6.heap.size w6).drew)
  have HLd := hid (HL6.out.below (Below.refl w6.heap.size w6).drew)
  have hS0 : w6.drew.cell? ⟨bx, 0, none⟩ = some (.int .i64 2) ∧ w6.drew.cell? ⟨bx, 4, none⟩ = some (.int .i64 x.key) ∧ w6.drew.cell? ⟨be, 2, none⟩ = some (.bool yv.there) ∧ w6.drew.cell? ⟨be, 3, none⟩ = some (.string yv.bytes) := ⟨(HXd.out.1.cell 0).trans KK.out, HXd.out.1.cell 4, HVd.out.1.cell 2, HVd.out.1.cell 3⟩
  have d3d := (HDd.out.loc.1.cell (n * 4 + 3)).trans o3
  clear HD6 HX6 HV6 HC6 HB6 HL6 hkn hkd hK hd hcode
  conv => arg 2; whnf
  -- REGION 23
  refine wp_region_noPanic ?_
  refine wp_region_held_drew (S := (fun W : World => W.cell? ⟨bx, 0, none⟩ = some (.int .i64 2) ∧ W.cell? ⟨bx, 4, none⟩ = some (.int .i64 x.key) ∧ W.cell? ⟨be, 2, none⟩ = some (.bool yv.there) ∧ W.cell? ⟨be, 3, none⟩ = some (.string yv.bytes))) (by kernel_rfl) ?_ (fun hH0 => ?_)
  · (try dsimp only); (first | assumption | exact hS0)
  refine wpAnyH_take (i := 0) (v := ?_) (by simp only [List.getElem?_toArray, List.getElem?_cons_zero]; rfl) (by kernel_rfl) (by kernel_rfl) (by kernel_rfl) (fun _ _ _ h => h) (Or.inl ⟨by rfl, ?_⟩) (by assumption) ?_
  rotate_left
  · intro w hSw; (try dsimp only at hSw); go_simp; (try with_reducible rfl)
  try simp only [Act.put, List.setIfInBounds_toArray, List.set_cons_zero, List.set_cons_succ]
  refine wpAnyH_take (i := 1) (v := ?_) (by simp only [List.getElem?_toArray, List.getElem?_cons_zero, List.getElem?_cons_succ]; rfl) (by kernel_rfl) (by kernel_rfl) (by kernel_rfl) (fun _ _ _ h => h) (Or.inl ⟨by rfl, ?_⟩) (by assumption) ?_
  rotate_left
  · intro w hSw; (try dsimp only at hSw); go_simp; (try with_reducible rfl)
  try simp only [Act.put, List.setIfInBounds_toArray, List.set_cons_zero, List.set_cons_succ]
  refine wpAnyH_take (i := 2) (v := ?_) (by simp only [List.getElem?_toArray, List.getElem?_cons_zero, List.getElem?_cons_succ]; rfl) (by kernel_rfl) (by kernel_rfl) (by kernel_rfl) (fun _ _ _ h => h) (Or.inl ⟨by rfl, ?_⟩) (by assumption) ?_
  rotate_left
  · intro w hSw; (try dsimp only at hSw); go_simp; (try with_reducible rfl)
  try simp only [Act.put, List.setIfInBounds_toArray, List.set_cons_zero, List.set_cons_succ]
  refine wpAnyH_take (i := 3) (v := ?_) (by simp only [List.getElem?_toArray, List.getElem?_cons_zero, List.getElem?_cons_succ]; rfl) (by kernel_rfl) (by kernel_rfl) (by kernel_rfl) (fun _ _ _ h => h) (Or.inl ⟨by rfl, ?_⟩) (by assumption) ?_
  rotate_left
  · intro w hSw; (try dsimp only at hSw); go_simp; (try with_reducible rfl)
  try simp only [Act.put, List.setIfInBounds_toArray, List.set_cons_zero, List.set_cons_succ]
  refine wpAnyH_take (i := 5) (v := ?_) (by simp only [List.getElem?_toArray, List.getElem?_cons_zero, List.getElem?_cons_succ]; rfl) (by kernel_rfl) (by kernel_rfl) (by kernel_rfl) (fun _ _ _ h => h) (Or.inl ⟨by rfl, ?_⟩) (by assumption) ?_
  rotate_left
  · intro w hSw; (try dsimp only at hSw); go_simp; (try with_reducible rfl)
  try simp only [Act.put, List.setIfInBounds_toArray, List.set_cons_zero, List.set_cons_succ]
  refine wpAnyH_take (i := 6) (v := ?_) (by simp only [List.getElem?_toArray, List.getElem?_cons_zero, List.getElem?_cons_succ]; rfl) (by kernel_rfl) (by kernel_rfl) (by kernel_rfl) (fun _ _ _ h => h) (Or.inl ⟨by rfl, ?_⟩) (by assumption) ?_
  rotate_left
  · intro w hSw; (try dsimp only at hSw); go_simp; (try with_reducible rfl)
  try simp only [Act.put, List.setIfInBounds_toArray, List.set_cons_zero, List.set_cons_succ]
  refine wpAnyH_take (i := 7) (v := ?_) (by simp only [List.getElem?_toArray, List.getElem?_cons_zero, List.getElem?_cons_succ]; rfl) (by kernel_rfl) (by kernel_rfl) (by kernel_rfl) (fun _ _ _ h => h) (Or.inl ⟨by rfl, ?_⟩) (by assumption) ?_
  rotate_left
  · intro w hSw; (try dsimp only at hSw); go_simp; (try with_reducible rfl)
  try simp only [Act.put, List.setIfInBounds_toArray, List.set_cons_zero, List.set_cons_succ]
  refine wpAnyH_take (i := 8) (v := ?_) (by simp only [List.getElem?_toArray, List.getElem?_cons_zero, List.getElem?_cons_succ]; rfl) (by kernel_rfl) (by kernel_rfl) (by kernel_rfl) (fun _ _ _ h => h) (Or.inl ⟨by rfl, ?_⟩) (by assumption) ?_
  rotate_left
  · intro w hSw; (try dsimp only at hSw); go_simp; (try with_reducible rfl)
  try simp only [Act.put, List.setIfInBounds_toArray, List.set_cons_zero, List.set_cons_succ]
  refine wpAnyH_take (i := 9) (v := ?_) (by simp only [List.getElem?_toArray, List.getElem?_cons_zero, List.getElem?_cons_succ]; rfl) (by kernel_rfl) (by kernel_rfl) (by kernel_rfl) (fun _ _ _ h => h) (Or.inl ⟨by rfl, ?_⟩) (by assumption) ?_
  rotate_left
  · intro w hSw; (try dsimp only at hSw); go_simp; (try with_reducible rfl)
  try simp only [Act.put, List.setIfInBounds_toArray, List.set_cons_zero, List.set_cons_succ]
  refine wpAnyH_take (i := 10) (v := ?_) (by simp only [List.getElem?_toArray, List.getElem?_cons_zero, List.getElem?_cons_succ]; rfl) (by kernel_rfl) (by kernel_rfl) (by kernel_rfl) (fun _ _ _ h => h) (Or.inl ⟨by rfl, ?_⟩) (by assumption) ?_
  rotate_left
  · intro w hSw; (try dsimp only at hSw); go_simp; (try with_reducible rfl)
  try simp only [Act.put, List.setIfInBounds_toArray, List.set_cons_zero, List.set_cons_succ]
  refine wpAnyH_take (i := 11) (v := ?_) (by simp only [List.getElem?_toArray, List.getElem?_cons_zero, List.getElem?_cons_succ]; rfl) (by kernel_rfl) (by kernel_rfl) (by kernel_rfl) (fun _ _ _ h => h) (Or.inl ⟨by rfl, ?_⟩) (by assumption) ?_
  rotate_left
  · intro w hSw; (try dsimp only at hSw); go_simp; (try with_reducible rfl)
  try simp only [Act.put, List.setIfInBounds_toArray, List.set_cons_zero, List.set_cons_succ]
  refine wpAnyH_ready (rs := [4, 12]) (by kernel_rfl) (by simp) ?_
  refine AllReadyH.cons (by simp only [List.getElem?_toArray, List.getElem?_cons_zero, List.getElem?_cons_succ]; rfl) (fun K hK => ?_) ?_
  go_simp
  skip
  try go_wp2_with fail
  refine hK.out _ _ ?_ (fun hH1 => ?_)
  · (try dsimp only); (first | assumption | exact hS0)
  clear hK K hH0
  try simp only [Act.put, List.setIfInBounds_toArray, List.set_cons_zero, List.set_cons_succ]
  refine wpAnyH_ready (rs := [12]) (by kernel_rfl) (by simp) ?_
  refine AllReadyH.cons (by simp only [List.getElem?_toArray, List.getElem?_cons_zero, List.getElem?_cons_succ]; rfl) (fun K hK => ?_) AllReadyH.nil
  go_simp
  have hA := Evo.alloc g6 0 w6.drew (.cells #[.int .i64 2, .int .i64 x.key, .int .i64 0, .bool yv.there, .string yv.bytes, .slice none 0 0] 44)
  have D8 := hid (HDd.out.quiet hA)
  have X8 := hid (HXd.out.frame hA (by omega))
  have V8 := hid (HVd.out.frame hA (by omega))
  have C8 := hid (HCd.out.frame hA (by omega))
  have B8 := hid (HBd2.out.step hA (by omega))
  have L8 := hid (HLd.out.frame hA (by omega))
  have cn := hid (cells_new w6.drew (encAcx (⟨⟨2, x.key, 0, yv, []⟩, none, 0⟩ : Acx)) 44)
  have hS' : (w6.drew.alloc (.cells #[.int .i64 2, .int .i64 x.key, .int .i64 0, .bool yv.there, .string yv.bytes, .slice none 0 0] 44)).cell? ⟨bx, 0, none⟩ = some (.int .i64 2) ∧ (w6.drew.alloc (.cells #[.int .i64 2, .int .i64 x.key, .int .i64 0, .bool yv.there, .string yv.bytes, .slice none 0 0] 44)).cell? ⟨bx, 4, none⟩ = some (.int .i64 x.key) ∧ (w6.drew.alloc (.cells #[.int .i64 2, .int .i64 x.key, .int .i64 0, .bool yv.there, .string yv.bytes, .slice none 0 0] 44)).cell? ⟨be, 2, none⟩ = some (.bool yv.there) ∧ (w6.drew.alloc (.cells #[.int .i64 2, .int .i64 x.key, .int .i64 0, .bool yv.there, .string yv.bytes, .slice none 0 0] 44)).cell? ⟨be, 3, none⟩ = some (.string yv.bytes) := ⟨(X8.out.1.cell 0).trans KK.out, X8.out.1.cell 4, V8.out.1.cell 2, V8.out.1.cell 3⟩
  have d3a : (w6.alloc (.cells #[.int .i64 2, .int .i64 x.key, .int .i64 0, .bool yv.there, .string yv.bytes, .slice none 0 0] 44)).cell? ⟨b, n * 4 + 3, none⟩ = some (f n).v := (D8.out.loc.1.cell (n * 4 + 3)).trans o3
  clear hA
  try go_wp2_with fail
  refine hK.out _ _ ?_ (fun hH2 => ?_)
  · (try dsimp only); (first | assumption | exact hS0)
  clear hK K hH1
  try simp only [Act.put, List.setIfInBounds_toArray, List.set_cons_zero, List.set_cons_succ]
  refine wpAnyH_ready (rs := [13]) (by kernel_rfl) (by simp) ?_
  refine AllReadyH.cons (by simp only [List.getElem?_toArray, List.getElem?_cons_zero, List.getElem?_cons_succ]; rfl) (fun K hK => ?_) AllReadyH.nil
  have k8 := D8.out.live n hn d HBd.out
  refine wp_append2 (.tmp 115) (.tmp 123) 37 rfl 44 i0 (.agg #[.int .i64 0, .int .i64 0, .int .i64 0, .bool false, .string ByteArray.empty, .slice none 0 0]) 6 72 Tryz.underlying37 hi hz0 hz1 hz2 rfl (by decide) (f n).v (f n).acts.length (encActs (f n).acts) rfl k8.row.1 ⟨w6.drew.heap.size, 0, none⟩ 1 1 (encAcx (⟨⟨2, x.key, 0, yv, []⟩, none, 0⟩ : Acx)) rfl rfl cn.out (encAcx_one _) m1 m2 ?_
  intro v9 w9 ho hg hf
  obtain ⟨av, cv, rfl, -, -⟩ := ownsRow.sliceAt ho
  obtain ⟨g9, hR, hE9⟩ : ∃ g9, RowC w9 g9 (f n).q 44 6 (.slice av ((f n).acts.length + 1) cv) ((f n).acts.length + 1) (encActs (f n).acts ++ encAcx (⟨⟨2, x.key, 0, yv, []⟩, none, 0⟩ : Acx)) ∧ Evo (f n).q ((f n).q + 1) (extc g6 w6.drew 0) g9 _ w9 := ⟨_, k8.row.grown ho hg hf⟩
  have hq9 := k8.col
  have HR9 := hid hR
  have HE9 := hid hE9
  have X9 := hid (X8.out.frame hE9 (by omega))
  have V9 := hid (V8.out.frame hE9 (by omega))
  have C9 := hid (C8.out.frame hE9 (by omega))
  have B9 := hid (B8.out.step hE9 (by omega))
  have l9 := D8.out.loc.frame hE9 (by omega)
  have d3n := (l9.1.cell (n * 4 + 3)).trans o3
  have z3n := l9.1.free (n * 4 + 3)
  have hS' : w9.cell? ⟨bx, 0, none⟩ = some (.int .i64 2) ∧ w9.cell? ⟨bx, 4, none⟩ = some (.int .i64 x.key) ∧ w9.cell? ⟨be, 2, none⟩ = some (.bool yv.there) ∧ w9.cell? ⟨be, 3, none⟩ = some (.string yv.bytes) := ⟨(X9.out.1.cell 0).trans KK.out, X9.out.1.cell 4, V9.out.1.cell 2, V9.out.1.cell 3⟩
  clear ho hg hf hR hE9 k8
  refine hK.out _ _ ?_ (fun hH3 => ?_)
  · (try dsimp only); (first | assumption | exact hS0)
  clear hK K hH2
  try simp only [Act.put]
  refine wpAnyH_take (i := 14) (v := ?_) (by simp only [List.getElem?_toArray, List.getElem?_cons_zero, List.getElem?_cons_succ]; rfl) (by kernel_rfl) (by kernel_rfl) (by kernel_rfl) (fun _ _ _ h => h) (Or.inl ⟨by rfl, ?_⟩) (by assumption) ?_
  rotate_left
  · intro w hSw; (try dsimp only at hSw); go_simp; (try with_reducible rfl)
  try simp only [Act.put, List.setIfInBounds_toArray, List.set_cons_zero, List.set_cons_succ]
  refine wpAnyH_take (i := 15) (v := ?_) (by simp only [List.getElem?_toArray, List.getElem?_cons_zero, List.getElem?_cons_succ]; rfl) (by kernel_rfl) (by kernel_rfl) (by kernel_rfl) (fun _ _ _ h => h) (Or.inl ⟨by rfl, ?_⟩) (by assumption) ?_
  rotate_left
  · intro w hSw; (try dsimp only at hSw); go_simp; (try with_reducible rfl)
  try simp only [Act.put, List.setIfInBounds_toArray, List.set_cons_zero, List.set_cons_succ]
  refine wpAnyH_ready (rs := [16]) (by kernel_rfl) (by simp) ?_
  refine AllReadyH.cons (by simp only [List.getElem?_toArray, List.getElem?_cons_zero, List.getElem?_cons_succ]; rfl) (fun K hK => ?_) AllReadyH.nil
  go_simp
  have E10 := hid (evo_store (g := g9) (w := w9) (b := b) (i := n * 4 + 3) (.slice av ((f n).acts.length + 1) cv) l9.2)
  have l10 := l9.1.set (n * 4 + 3) (.slice av ((f n).acts.length + 1) cv)
  have X10 := hid (X9.out.frame E10.out (by omega))
  have V10 := hid (V9.out.frame E10.out (by omega))
  have C10 := hid (C9.out.frame E10.out (by omega))
  have B10 := hid (B9.out.step E10.out (by omega))
  have hS' : (w9.setCell ⟨b, n * 4 + 3, none⟩ (.slice av ((f n).acts.length + 1) cv)).cell? ⟨bx, 0, none⟩ = some (.int .i64 2) ∧ (w9.setCell ⟨b, n * 4 + 3, none⟩ (.slice av ((f n).acts.length + 1) cv)).cell? ⟨bx, 4, none⟩ = some (.int .i64 x.key) ∧ (w9.setCell ⟨b, n * 4 + 3, none⟩ (.slice av ((f n).acts.length + 1) cv)).cell? ⟨be, 2, none⟩ = some (.bool yv.there) ∧ (w9.setCell ⟨b, n * 4 + 3, none⟩ (.slice av ((f n).acts.length + 1) cv)).cell? ⟨be, 3, none⟩ = some (.string yv.bytes) := ⟨(X10.out.1.cell 0).trans KK.out, X10.out.1.cell 4, V10.out.1.cell 2, V10.out.1.cell 3⟩
  try go_wp2_with fail
  refine hK.out _ _ ?_ (fun hH4 => ?_)
  · (try dsimp only); (first | assumption | exact hS0)
  clear hK K hH3
  try simp only [Act.put, List.setIfInBounds_toArray, List.set_cons_zero, List.set_cons_succ]
  refine wpAnyH_done (by kernel_rfl) ?_ _
  refine NoPanic.normal ?_
  rotate_left
  refine AllReadyH.cons (by simp only [List.getElem?_toArray, List.getElem?_cons_zero, List.getElem?_cons_succ]; rfl) (fun K hK => ?_) AllReadyH.nil
  go_simp
  have hA := Evo.alloc g6 0 w6.drew (.cells #[.int .i64 2, .int .i64 x.key, .int .i64 0, .bool yv.there, .string yv.bytes, .slice none 0 0] 44)
  have D8 := hid (HDd.out.quiet hA)
  have X8 := hid (HXd.out.frame hA (by omega))
  have V8 := hid (HVd.out.frame hA (by omega))
  have C8 := hid (HCd.out.frame hA (by omega))
  have B8 := hid (HBd2.out.step hA (by omega))
  have L8 := hid (HLd.out.frame hA (by omega))
  have cn := hid (cells_new w6.drew (encAcx (⟨⟨2, x.key, 0, yv, []⟩, none, 0⟩ : Acx)) 44)
  have hS' : (w6.drew.alloc (.cells #[.int .i64 2, .int .i64 x.key, .int .i64 0, .bool yv.there, .string yv.bytes, .slice none 0 0] 44)).cell? ⟨bx, 0, none⟩ = some (.int .i64 2) ∧ (w6.drew.alloc (.cells #[.int .i64 2, .int .i64 x.key, .int .i64 0, .bool yv.there, .string yv.bytes, .slice none 0 0] 44)).cell? ⟨bx, 4, none⟩ = some (.int .i64 x.key) ∧ (w6.drew.alloc (.cells #[.int .i64 2, .int .i64 x.key, .int .i64 0, .bool yv.there, .string yv.bytes, .slice none 0 0] 44)).cell? ⟨be, 2, none⟩ = some (.bool yv.there) ∧ (w6.drew.alloc (.cells #[.int .i64 2, .int .i64 x.key, .int .i64 0, .bool yv.there, .string yv.bytes, .slice none 0 0] 44)).cell? ⟨be, 3, none⟩ = some (.string yv.bytes) := ⟨(X8.out.1.cell 0).trans KK.out, X8.out.1.cell 4, V8.out.1.cell 2, V8.out.1.cell 3⟩
  have d3a : (w6.alloc (.cells #[.int .i64 2, .int .i64 x.key, .int .i64 0, .bool yv.there, .string yv.bytes, .slice none 0 0] 44)).cell? ⟨b, n * 4 + 3, none⟩ = some (f n).v := (D8.out.loc.1.cell (n * 4 + 3)).trans o3
  clear hA
  try go_wp2_with fail
  refine hK.out _ _ ?_ (fun hH5 => ?_)
  · (try dsimp only); (first | assumption | exact hS0)
  clear hK K hH0
  try simp only [Act.put, List.setIfInBounds_toArray, List.set_cons_zero, List.set_cons_succ]
  refine wpAnyH_ready (rs := [4]) (by kernel_rfl) (by simp) ?_
  refine AllReadyH.cons (by simp only [List.getElem?_toArray, List.getElem?_cons_zero, List.getElem?_cons_succ]; rfl) (fun K hK => ?_) AllReadyH.nil
  go_simp
  skip
  try go_wp2_with fail
  refine hK.out _ _ ?_ (fun hH6 => ?_)
  · (try dsimp only); (first | assumption | exact hS0)
  clear hK K hH5
  try simp only [Act.put, List.setIfInBounds_toArray, List.set_cons_zero, List.set_cons_succ]
  refine wpAnyH_ready (rs := [13]) (by kernel_rfl) (by simp) ?_
  refine AllReadyH.cons (by simp only [List.getElem?_toArray, List.getElem?_cons_zero, List.getElem?_cons_succ]; rfl) (fun K hK => ?_) AllReadyH.nil
  have k8 := D8.out.live n hn d HBd.out
  refine wp_append2 (.tmp 115) (.tmp 123) 37 rfl 44 i0 (.agg #[.int .i64 0, .int .i64 0, .int .i64 0, .bool false, .string ByteArray.empty, .slice none 0 0]) 6 72 Tryz.underlying37 hi hz0 hz1 hz2 rfl (by decide) (f n).v (f n).acts.length (encActs (f n).acts) rfl k8.row.1 ⟨w6.drew.heap.size, 0, none⟩ 1 1 (encAcx (⟨⟨2, x.key, 0, yv, []⟩, none, 0⟩ : Acx)) rfl rfl cn.out (encAcx_one _) m1 m2 ?_
  intro v9 w9 ho hg hf
  obtain ⟨av, cv, rfl, -, -⟩ := ownsRow.sliceAt ho
  obtain ⟨g9, hR, hE9⟩ : ∃ g9, RowC w9 g9 (f n).q 44 6 (.slice av ((f n).acts.length + 1) cv) ((f n).acts.length + 1) (encActs (f n).acts ++ encAcx (⟨⟨2, x.key, 0, yv, []⟩, none, 0⟩ : Acx)) ∧ Evo (f n).q ((f n).q + 1) (extc g6 w6.drew 0) g9 _ w9 := ⟨_, k8.row.grown ho hg hf⟩
  have hq9 := k8.col
  have HR9 := hid hR
  have HE9 := hid hE9
  have X9 := hid (X8.out.frame hE9 (by omega))
  have V9 := hid (V8.out.frame hE9 (by omega))
  have C9 := hid (C8.out.frame hE9 (by omega))
  have B9 := hid (B8.out.step hE9 (by omega))
  have l9 := D8.out.loc.frame hE9 (by omega)
  have d3n := (l9.1.cell (n * 4 + 3)).trans o3
  have z3n := l9.1.free (n * 4 + 3)
  have hS' : w9.cell? ⟨bx, 0, none⟩ = some (.int .i64 2) ∧ w9.cell? ⟨bx, 4, none⟩ = some (.int .i64 x.key) ∧ w9.cell? ⟨be, 2, none⟩ = some (.bool yv.there) ∧ w9.cell? ⟨be, 3, none⟩ = some (.string yv.bytes) := ⟨(X9.out.1.cell 0).trans KK.out, X9.out.1.cell 4, V9.out.1.cell 2, V9.out.1.cell 3⟩
  clear ho hg hf hR hE9 k8
  refine hK.out _ _ ?_ (fun hH7 => ?_)
  · (try dsimp only); (first | assumption | exact hS0)
  clear hK K hH6
  try simp only [Act.put]
  refine wpAnyH_take (i := 14) (v := ?_) (by simp only [List.getElem?_toArray, List.getElem?_cons_zero, List.getElem?_cons_succ]; rfl) (by kernel_rfl) (by kernel_rfl) (by kernel_rfl) (fun _ _ _ h => h) (Or.inl ⟨by rfl, ?_⟩) (by assumption) ?_
  rotate_left
  · intro w hSw; (try dsimp only at hSw); go_simp; (try with_reducible rfl)
  try simp only [Act.put, List.setIfInBounds_toArray, List.set_cons_zero, List.set_cons_succ]
  refine wpAnyH_take (i := 15) (v := ?_) (by simp only [List.getElem?_toArray, List.getElem?_cons_zero, List.getElem?_cons_succ]; rfl) (by kernel_rfl) (by kernel_rfl) (by kernel_rfl) (fun _ _ _ h => h) (Or.inl ⟨by rfl, ?_⟩) (by assumption) ?_
  rotate_left
  · intro w hSw; (try dsimp only at hSw); go_simp; (try with_reducible rfl)
  try simp only [Act.put, List.setIfInBounds_toArray, List.set_cons_zero, List.set_cons_succ]
  refine wpAnyH_ready (rs := [16]) (by kernel_rfl) (by simp) ?_
  refine AllReadyH.cons (by simp only [List.getElem?_toArray, List.getElem?_cons_zero, List.getElem?_cons_succ]; rfl) (fun K hK => ?_) AllReadyH.nil
  go_simp
  have E10 := hid (evo_store (g := g9) (w := w9) (b := b) (i := n * 4 + 3) (.slice av ((f n).acts.length + 1) cv) l9.2)
  have l10 := l9.1.set (n * 4 + 3) (.slice av ((f n).acts.length + 1) cv)
  have X10 := hid (X9.out.frame E10.out (by omega))
  have V10 := hid (V9.out.frame E10.out (by omega))
  have C10 := hid (C9.out.frame E10.out (by omega))
  have B10 := hid (B9.out.step E10.out (by omega))
  have hS' : (w9.setCell ⟨b, n * 4 + 3, none⟩ (.slice av ((f n).acts.length + 1) cv)).cell? ⟨bx, 0, none⟩ = some (.int .i64 2) ∧ (w9.setCell ⟨b, n * 4 + 3, none⟩ (.slice av ((f n).acts.length + 1) cv)).cell? ⟨bx, 4, none⟩ = some (.int .i64 x.key) ∧ (w9.setCell ⟨b, n * 4 + 3, none⟩ (.slice av ((f n).acts.length + 1) cv)).cell? ⟨be, 2, none⟩ = some (.bool yv.there) ∧ (w9.setCell ⟨b, n * 4 + 3, none⟩ (.slice av ((f n).acts.length + 1) cv)).cell? ⟨be, 3, none⟩ = some (.string yv.bytes) := ⟨(X10.out.1.cell 0).trans KK.out, X10.out.1.cell 4, V10.out.1.cell 2, V10.out.1.cell 3⟩
  try go_wp2_with fail
  refine hK.out _ _ ?_ (fun hH8 => ?_)
  · (try dsimp only); (first | assumption | exact hS0)
  clear hK K hH7
  try simp only [Act.put, List.setIfInBounds_toArray, List.set_cons_zero, List.set_cons_succ]
  refine wpAnyH_done (by kernel_rfl) ?_ _
  refine NoPanic.normal ?_
  rotate_left
  -- END 23
  all_goals
    have HD10 := hid (D8.out.acted hn HBd.out (z := (⟨⟨2, x.key, 0, yv, []⟩, none, 0⟩ : Acx)) (by omega) (FixL.none _ _ _ _ rfl) HE9.out HR9.out ⟨av, _, cv, rfl⟩ E10.out ⟨by
      have h := l10
      rw [openL_acts f hn _ ((f n).acts ++ [(⟨⟨2, x.key, 0, yv, []⟩, none, 0⟩ : Acx)]) (f n).q] at h
      exact h, l9.2⟩)
    exact HQ.out _ _ _ _ _ _ _ _ _ _ _ _ _ _ _ _ _ _ _ C10 HD10 B10

set_option maxHeartbeats 4000000 in
set_option maxRecDepth 100000 in
theorem deeds_act25 (w : World) (g6 : Nat → Nat) (w6 : World) (c N : Nat) (H : Ht) (b nx k : Nat) (B : Bk) (v : Value) (L : List Dnx) (f : Nat → Od) (be bx : Nat) (x : St) (yc yn : Int) (yv : Val) (yl : List Ent) (a5 : Option Addr) (c5 : Nat) (n : Nat) (hn : n < 5) (d : Dn) (hd : B.seats n = some d)
    (HC6 : Hid (CourtAt w6 g6 1 c N H)) (HD6 : Hid (DeedsC w6 g6 24 23 b nx k B v L f)) (HB6 : Hid (Base w.heap.size w g6 w6)) (HX6 : Hid (LocC w6 g6 0 bx 55 (stL x))) (HV6 : Hid (LocC w6 g6 0 be 74 [.int .i64 yc, .int .i64 yn, .bool yv.there, .string yv.bytes, .slice a5 yl.length c5])) (HL6 : Hid (FixC w6 g6 23 a5 (encEnts yl))) (_h8 : yl.length ≤ 8) (hk : k ≤ 100000) (hkd : x.kind = 3)
    (C : Code) (hcode : Tryz.f9.body.bind (regOf 25) = some C) (Q : Exit → Act → World → Prop) (u0 u1 u2 u3 u4 u5 u6 u8 u9 u12 u13 u14 u15 u16 u17 u18 u19 u20 u21 u22 u23 u24 u25 u26 u27 u28 u29 u30 u31 u32 u33 u34 u35 u36 u37 u38 u39 u40 u41 u42 u43 u44 u45 u46 u47 u48 u49 u50 u51 u52 u53 u54 u55 u56 u57 u58 u59 u60 u61 u62 u63 u64 u65 u66 u67 u68 u69 u70 u71 u72 u73 u74 u75 u76 u77 u78 u79 u80 u81 u82 u83 u84 u85 u86 u87 u88 u89 u90 u91 u92 u93 u94 u95 u96 u97 u98 u99 u100 u101 u102 u103 u104 u105 u106 u107 u108 u109 u110 u111 u112 u113 u114 u115 u116 u117 u118 u119 u120 u121 u122 u123 u124 u125 u126 u127 u128 u129 u130 u131 u132 u133 u134 u135 u136 u137 u138 u139 u140 u141 u142 u143 u144 u145 u146 u147 u148 u149 u150 u151 u152 u153 u154 u155 u156 u157 u158 u159 u160 u161 u162 u163 u164 u165 u166 u167 u168 u169 u170 u171 u172 u173 u174 u175 u176 u177 u178 u179 u180 u181 u182 : Value)
    (hK : ∀ (x129 x130 x131 x132 x133 x134 x135 x136 x137 x138 x139 x140 x141 x142 x143 x144 x145 : Value) (g9 : Nat → Nat) (w9 : World) (F : Nat → Od), Hid (CourtAt w9 g9 1 c N H) → Hid (DeedsC w9 g9 24 23 b nx (k + 1) ⟨upd B.seats n (some ⟨d.n, d.at_, d.mode, d.acts ++ [(⟨⟨3, x.key, 0, ⟨true, x.bytes⟩, []⟩, none, 0⟩ : Acx).a]⟩), B.l⟩ v L F) → Hid (Base w.heap.size w g9 w9) → Q .normal ⟨List.toArray (u0 :: u1 :: u2 :: u3 :: u4 :: u5 :: u6 :: .pointer (some ⟨bx, 0, none⟩) :: u8 :: u9 :: .pointer (some ⟨be, 0, none⟩) :: .pointer (some ⟨b, n * 4, none⟩) :: u12 :: u13 :: u14 :: u15 :: u16 :: u17 :: u18 :: u19 :: u20 :: u21 :: u22 :: u23 :: u24 :: u25 :: u26 :: u27 :: u28 :: u29 :: u30 :: u31 :: u32 :: u33 :: u34 :: u35 :: u36 :: u37 :: u38 :: u39 :: u40 :: u41 :: u42 :: u43 :: u44 :: u45 :: u46 :: u47 :: u48 :: u49 :: u50 :: u51 :: u52 :: u53 :: u54 :: u55 :: u56 :: u57 :: u58 :: u59 :: u60 :: u61 :: u62 :: u63 :: u64 :: u65 :: u66 :: u67 :: u68 :: u69 :: u70 :: u71 :: u72 :: u73 :: u74 :: u75 :: u76 :: u77 :: u78 :: u79 :: u80 :: u81 :: u82 :: u83 :: u84 :: u85 :: u86 :: u87 :: u88 :: u89 :: u90 :: u91 :: u92 :: u93 :: u94 :: u95 :: u96 :: u97 :: u98 :: u99 :: u100 :: u101 :: u102 :: u103 :: u104 :: u105 :: u106 :: u107 :: u108 :: u109 :: u110 :: u111 :: u112 :: u113 :: u114 :: u115 :: u116 :: u117 :: u118 :: u119 :: u120 :: u121 :: u122 :: u123 :: u124 :: u125 :: u126 :: u127 :: u128 :: x129 :: x130 :: x131 :: x132 :: x133 :: x134 :: x135 :: x136 :: x137 :: x138 :: x139 :: x140 :: x141 :: x142 :: x143 :: x144 :: x145 :: u146 :: u147 :: u148 :: u149 :: u150 :: u151 :: u152 :: u153 :: u154 :: u155 :: u156 :: u157 :: u158 :: u159 :: u160 :: u161 :: u162 :: u163 :: u164 :: u165 :: u166 :: u167 :: u168 :: u169 :: u170 :: u171 :: u172 :: u173 :: u174 :: u175 :: u176 :: u177 :: u178 :: u179 :: u180 :: u181 :: u182 :: []), []⟩ w9) :
    Code.wp Tryz.prog C Q ⟨List.toArray (u0 :: u1 :: u2 :: u3 :: u4 :: u5 :: u6 :: .pointer (some ⟨bx, 0, none⟩) :: u8 :: u9 :: .pointer (some ⟨be, 0, none⟩) :: .pointer (some ⟨b, n * 4, none⟩) :: u12 :: u13 :: u14 :: u15 :: u16 :: u17 :: u18 :: u19 :: u20 :: u21 :: u22 :: u23 :: u24 :: u25 :: u26 :: u27 :: u28 :: u29 :: u30 :: u31 :: u32 :: u33 :: u34 :: u35 :: u36 :: u37 :: u38 :: u39 :: u40 :: u41 :: u42 :: u43 :: u44 :: u45 :: u46 :: u47 :: u48 :: u49 :: u50 :: u51 :: u52 :: u53 :: u54 :: u55 :: u56 :: u57 :: u58 :: u59 :: u60 :: u61 :: u62 :: u63 :: u64 :: u65 :: u66 :: u67 :: u68 :: u69 :: u70 :: u71 :: u72 :: u73 :: u74 :: u75 :: u76 :: u77 :: u78 :: u79 :: u80 :: u81 :: u82 :: u83 :: u84 :: u85 :: u86 :: u87 :: u88 :: u89 :: u90 :: u91 :: u92 :: u93 :: u94 :: u95 :: u96 :: u97 :: u98 :: u99 :: u100 :: u101 :: u102 :: u103 :: u104 :: u105 :: u106 :: u107 :: u108 :: u109 :: u110 :: u111 :: u112 :: u113 :: u114 :: u115 :: u116 :: u117 :: u118 :: u119 :: u120 :: u121 :: u122 :: u123 :: u124 :: u125 :: u126 :: u127 :: u128 :: u129 :: u130 :: u131 :: u132 :: u133 :: u134 :: u135 :: u136 :: u137 :: u138 :: u139 :: u140 :: u141 :: u142 :: u143 :: u144 :: u145 :: u146 :: u147 :: u148 :: u149 :: u150 :: u151 :: u152 :: u153 :: u154 :: u155 :: u156 :: u157 :: u158 :: u159 :: u160 :: u161 :: u162 :: u163 :: u164 :: u165 :: u166 :: u167 :: u168 :: u169 :: u170 :: u171 :: u172 :: u173 :: u174 :: u175 :: u176 :: u177 :: u178 :: u179 :: u180 :: u181 :: u182 :: []), []⟩ w6 := by
  have HQ := hid hK
  have KK := hid (show some (Value.int .i64 x.kind) = some (Value.int .i64 3) from by rw [hkd])
  have HBd := hid hd
  obtain rfl : (Tryz.f9.body.bind (regOf 25)).getD .skip = C := by rw [hcode]; rfl
  obtain ⟨i0, hi, hz0, hz1, hz2⟩ := info_parts Tryz.infoRAct
  have hkn := HD6.out.live n hn d HBd.out
  have m1 : (f n).acts.length + 1 ≤ maxLen := by have := hkn.len; unfold maxLen; omega
  have m2 : ((f n).acts.length + 1) * 72 ≤ 140737488355328 := by have := hkn.len; omega
  obtain ⟨-, -, -, o3⟩ := openL_get f hn
  have HDd := hid (HD6.out.quiet (Evo.drew 0 0 g6 w6))
  have HXd := hid (HX6.out.below (Below.refl w6.heap.size w6).drew)
  have HVd := hid (HV6.out.below (Below.refl w6.heap.size w6).drew)
  have HCd := hid (HC6.out.below (Below.refl w6.heap.size w6).drew)
  have HBd2 := hid (HB6.out.below' (Below.refl w6.heap.size w6).drew)
  have HLd := hid (HL6.out.below (Below.refl w6.heap.size w6).drew)
  have hS0 : w6.drew.cell? ⟨bx, 0, none⟩ = some (.int .i64 3) ∧ w6.drew.cell? ⟨bx, 4, none⟩ = some (.int .i64 x.key) ∧ w6.drew.cell? ⟨bx, 7, none⟩ = some (.string x.bytes) := ⟨(HXd.out.1.cell 0).trans KK.out, HXd.out.1.cell 4, HXd.out.1.cell 7⟩
  have d3d := (HDd.out.loc.1.cell (n * 4 + 3)).trans o3
  clear HD6 HX6 HV6 HC6 HB6 HL6 hkn hkd hK hd hcode
  conv => arg 2; whnf
  -- REGION 25
  refine wp_region_noPanic ?_
  refine wp_region_held_drew (S := (fun W : World => W.cell? ⟨bx, 0, none⟩ = some (.int .i64 3) ∧ W.cell? ⟨bx, 4, none⟩ = some (.int .i64 x.key) ∧ W.cell? ⟨bx, 7, none⟩ = some (.string x.bytes))) (by kernel_rfl) ?_ (fun hH0 => ?_)
  · (try dsimp only); (first | assumption | exact hS0)
  refine wpAnyH_take (i := 0) (v := ?_) (by simp only [List.getElem?_toArray, List.getElem?_cons_zero]; rfl) (by kernel_rfl) (by kernel_rfl) (by kernel_rfl) (fun _ _ _ h => h) (Or.inl ⟨by rfl, ?_⟩) (by assumption) ?_
  rotate_left
  · intro w hSw; (try dsimp only at hSw); go_simp; (try with_reducible rfl)
  try simp only [Act.put, List.setIfInBounds_toArray, List.set_cons_zero, List.set_cons_succ]
  refine wpAnyH_take (i := 1) (v := ?_) (by simp only [List.getElem?_toArray, List.getElem?_cons_zero, List.getElem?_cons_succ]; rfl) (by kernel_rfl) (by kernel_rfl) (by kernel_rfl) (fun _ _ _ h => h) (Or.inl ⟨by rfl, ?_⟩) (by assumption) ?_
  rotate_left
  · intro w hSw; (try dsimp only at hSw); go_simp; (try with_reducible rfl)
  try simp only [Act.put, List.setIfInBounds_toArray, List.set_cons_zero, List.set_cons_succ]
  refine wpAnyH_take (i := 2) (v := ?_) (by simp only [List.getElem?_toArray, List.getElem?_cons_zero, List.getElem?_cons_succ]; rfl) (by kernel_rfl) (by kernel_rfl) (by kernel_rfl) (fun _ _ _ h => h) (Or.inl ⟨by rfl, ?_⟩) (by assumption) ?_
  rotate_left
  · intro w hSw; (try dsimp only at hSw); go_simp; (try with_reducible rfl)
  try simp only [Act.put, List.setIfInBounds_toArray, List.set_cons_zero, List.set_cons_succ]
  refine wpAnyH_take (i := 3) (v := ?_) (by simp only [List.getElem?_toArray, List.getElem?_cons_zero, List.getElem?_cons_succ]; rfl) (by kernel_rfl) (by kernel_rfl) (by kernel_rfl) (fun _ _ _ h => h) (Or.inl ⟨by rfl, ?_⟩) (by assumption) ?_
  rotate_left
  · intro w hSw; (try dsimp only at hSw); go_simp; (try with_reducible rfl)
  try simp only [Act.put, List.setIfInBounds_toArray, List.set_cons_zero, List.set_cons_succ]
  refine wpAnyH_take (i := 5) (v := ?_) (by simp only [List.getElem?_toArray, List.getElem?_cons_zero, List.getElem?_cons_succ]; rfl) (by kernel_rfl) (by kernel_rfl) (by kernel_rfl) (fun _ _ _ h => h) (Or.inl ⟨by rfl, ?_⟩) (by assumption) ?_
  rotate_left
  · intro w hSw; (try dsimp only at hSw); go_simp; (try with_reducible rfl)
  try simp only [Act.put, List.setIfInBounds_toArray, List.set_cons_zero, List.set_cons_succ]
  refine wpAnyH_take (i := 6) (v := ?_) (by simp only [List.getElem?_toArray, List.getElem?_cons_zero, List.getElem?_cons_succ]; rfl) (by kernel_rfl) (by kernel_rfl) (by kernel_rfl) (fun _ _ _ h => h) (Or.inl ⟨by rfl, ?_⟩) (by assumption) ?_
  rotate_left
  · intro w hSw; (try dsimp only at hSw); go_simp; (try with_reducible rfl)
  try simp only [Act.put, List.setIfInBounds_toArray, List.set_cons_zero, List.set_cons_succ]
  refine wpAnyH_take (i := 7) (v := ?_) (by simp only [List.getElem?_toArray, List.getElem?_cons_zero, List.getElem?_cons_succ]; rfl) (by kernel_rfl) (by kernel_rfl) (by kernel_rfl) (fun _ _ _ h => h) (Or.inl ⟨by rfl, ?_⟩) (by assumption) ?_
  rotate_left
  · intro w hSw; (try dsimp only at hSw); go_simp; (try with_reducible rfl)
  try simp only [Act.put, List.setIfInBounds_toArray, List.set_cons_zero, List.set_cons_succ]
  refine wpAnyH_take (i := 8) (v := ?_) (by simp only [List.getElem?_toArray, List.getElem?_cons_zero, List.getElem?_cons_succ]; rfl) (by kernel_rfl) (by kernel_rfl) (by kernel_rfl) (fun _ _ _ h => h) (Or.inl ⟨by rfl, ?_⟩) (by assumption) ?_
  rotate_left
  · intro w hSw; (try dsimp only at hSw); go_simp; (try with_reducible rfl)
  try simp only [Act.put, List.setIfInBounds_toArray, List.set_cons_zero, List.set_cons_succ]
  refine wpAnyH_take (i := 9) (v := ?_) (by simp only [List.getElem?_toArray, List.getElem?_cons_zero, List.getElem?_cons_succ]; rfl) (by kernel_rfl) (by kernel_rfl) (by kernel_rfl) (fun _ _ _ h => h) (Or.inl ⟨by rfl, ?_⟩) (by assumption) ?_
  rotate_left
  · intro w hSw; (try dsimp only at hSw); go_simp; (try with_reducible rfl)
  try simp only [Act.put, List.setIfInBounds_toArray, List.set_cons_zero, List.set_cons_succ]
  refine wpAnyH_take (i := 10) (v := ?_) (by simp only [List.getElem?_toArray, List.getElem?_cons_zero, List.getElem?_cons_succ]; rfl) (by kernel_rfl) (by kernel_rfl) (by kernel_rfl) (fun _ _ _ h => h) (Or.inl ⟨by rfl, ?_⟩) (by assumption) ?_
  rotate_left
  · intro w hSw; (try dsimp only at hSw); go_simp; (try with_reducible rfl)
  try simp only [Act.put, List.setIfInBounds_toArray, List.set_cons_zero, List.set_cons_succ]
  refine wpAnyH_take (i := 11) (v := ?_) (by simp only [List.getElem?_toArray, List.getElem?_cons_zero, List.getElem?_cons_succ]; rfl) (by kernel_rfl) (by kernel_rfl) (by kernel_rfl) (fun _ _ _ h => h) (Or.inl ⟨by rfl, ?_⟩) (by assumption) ?_
  rotate_left
  · intro w hSw; (try dsimp only at hSw); go_simp; (try with_reducible rfl)
  try simp only [Act.put, List.setIfInBounds_toArray, List.set_cons_zero, List.set_cons_succ]
  refine wpAnyH_take (i := 12) (v := ?_) (by simp only [List.getElem?_toArray, List.getElem?_cons_zero, List.getElem?_cons_succ]; rfl) (by kernel_rfl) (by kernel_rfl) (by kernel_rfl) (fun _ _ _ h => h) (Or.inl ⟨by rfl, ?_⟩) (by assumption) ?_
  rotate_left
  · intro w hSw; (try dsimp only at hSw); go_simp; (try with_reducible rfl)
  try simp only [Act.put, List.setIfInBounds_toArray, List.set_cons_zero, List.set_cons_succ]
  refine wpAnyH_ready (rs := [4, 13]) (by kernel_rfl) (by simp) ?_
  refine AllReadyH.cons (by simp only [List.getElem?_toArray, List.getElem?_cons_zero, List.getElem?_cons_succ]; rfl) (fun K hK => ?_) ?_
  go_simp
  skip
  try go_wp2_with fail
  refine hK.out _ _ ?_ (fun hH1 => ?_)
  · (try dsimp only); (first | assumption | exact hS0)
  clear hK K hH0
  try simp only [Act.put, List.setIfInBounds_toArray, List.set_cons_zero, List.set_cons_succ]
  refine wpAnyH_ready (rs := [13]) (by kernel_rfl) (by simp) ?_
  refine AllReadyH.cons (by simp only [List.getElem?_toArray, List.getElem?_cons_zero, List.getElem?_cons_succ]; rfl) (fun K hK => ?_) AllReadyH.nil
  go_simp
  have hA := Evo.alloc g6 0 w6.drew (.cells #[.int .i64 3, .int .i64 x.key, .int .i64 0, .bool true, .string x.bytes, .slice none 0 0] 44)
  have D8 := hid (HDd.out.quiet hA)
  have X8 := hid (HXd.out.frame hA (by omega))
  have V8 := hid (HVd.out.frame hA (by omega))
  have C8 := hid (HCd.out.frame hA (by omega))
  have B8 := hid (HBd2.out.step hA (by omega))
  have L8 := hid (HLd.out.frame hA (by omega))
  have cn := hid (cells_new w6.drew (encAcx (⟨⟨3, x.key, 0, ⟨true, x.bytes⟩, []⟩, none, 0⟩ : Acx)) 44)
  have hS' : (w6.drew.alloc (.cells #[.int .i64 3, .int .i64 x.key, .int .i64 0, .bool true, .string x.bytes, .slice none 0 0] 44)).cell? ⟨bx, 0, none⟩ = some (.int .i64 3) ∧ (w6.drew.alloc (.cells #[.int .i64 3, .int .i64 x.key, .int .i64 0, .bool true, .string x.bytes, .slice none 0 0] 44)).cell? ⟨bx, 4, none⟩ = some (.int .i64 x.key) ∧ (w6.drew.alloc (.cells #[.int .i64 3, .int .i64 x.key, .int .i64 0, .bool true, .string x.bytes, .slice none 0 0] 44)).cell? ⟨bx, 7, none⟩ = some (.string x.bytes) := ⟨(X8.out.1.cell 0).trans KK.out, X8.out.1.cell 4, X8.out.1.cell 7⟩
  have d3a : (w6.alloc (.cells #[.int .i64 3, .int .i64 x.key, .int .i64 0, .bool true, .string x.bytes, .slice none 0 0] 44)).cell? ⟨b, n * 4 + 3, none⟩ = some (f n).v := (D8.out.loc.1.cell (n * 4 + 3)).trans o3
  clear hA
  try go_wp2_with fail
  refine hK.out _ _ ?_ (fun hH2 => ?_)
  · (try dsimp only); (first | assumption | exact hS0)
  clear hK K hH1
  try simp only [Act.put, List.setIfInBounds_toArray, List.set_cons_zero, List.set_cons_succ]
  refine wpAnyH_ready (rs := [14]) (by kernel_rfl) (by simp) ?_
  refine AllReadyH.cons (by simp only [List.getElem?_toArray, List.getElem?_cons_zero, List.getElem?_cons_succ]; rfl) (fun K hK => ?_) AllReadyH.nil
  have k8 := D8.out.live n hn d HBd.out
  refine wp_append2 (.tmp 133) (.tmp 142) 37 rfl 44 i0 (.agg #[.int .i64 0, .int .i64 0, .int .i64 0, .bool false, .string ByteArray.empty, .slice none 0 0]) 6 72 Tryz.underlying37 hi hz0 hz1 hz2 rfl (by decide) (f n).v (f n).acts.length (encActs (f n).acts) rfl k8.row.1 ⟨w6.drew.heap.size, 0, none⟩ 1 1 (encAcx (⟨⟨3, x.key, 0, ⟨true, x.bytes⟩, []⟩, none, 0⟩ : Acx)) rfl rfl cn.out (encAcx_one _) m1 m2 ?_
  intro v9 w9 ho hg hf
  obtain ⟨av, cv, rfl, -, -⟩ := ownsRow.sliceAt ho
  obtain ⟨g9, hR, hE9⟩ : ∃ g9, RowC w9 g9 (f n).q 44 6 (.slice av ((f n).acts.length + 1) cv) ((f n).acts.length + 1) (encActs (f n).acts ++ encAcx (⟨⟨3, x.key, 0, ⟨true, x.bytes⟩, []⟩, none, 0⟩ : Acx)) ∧ Evo (f n).q ((f n).q + 1) (extc g6 w6.drew 0) g9 _ w9 := ⟨_, k8.row.grown ho hg hf⟩
  have hq9 := k8.col
  have HR9 := hid hR
  have HE9 := hid hE9
  have X9 := hid (X8.out.frame hE9 (by omega))
  have V9 := hid (V8.out.frame hE9 (by omega))
  have C9 := hid (C8.out.frame hE9 (by omega))
  have B9 := hid (B8.out.step hE9 (by omega))
  have l9 := D8.out.loc.frame hE9 (by omega)
  have d3n := (l9.1.cell (n * 4 + 3)).trans o3
  have z3n := l9.1.free (n * 4 + 3)
  have hS' : w9.cell? ⟨bx, 0, none⟩ = some (.int .i64 3) ∧ w9.cell? ⟨bx, 4, none⟩ = some (.int .i64 x.key) ∧ w9.cell? ⟨bx, 7, none⟩ = some (.string x.bytes) := ⟨(X9.out.1.cell 0).trans KK.out, X9.out.1.cell 4, X9.out.1.cell 7⟩
  clear ho hg hf hR hE9 k8
  refine hK.out _ _ ?_ (fun hH3 => ?_)
  · (try dsimp only); (first | assumption | exact hS0)
  clear hK K hH2
  try simp only [Act.put]
  refine wpAnyH_take (i := 15) (v := ?_) (by simp only [List.getElem?_toArray, List.getElem?_cons_zero, List.getElem?_cons_succ]; rfl) (by kernel_rfl) (by kernel_rfl) (by kernel_rfl) (fun _ _ _ h => h) (Or.inl ⟨by rfl, ?_⟩) (by assumption) ?_
  rotate_left
  · intro w hSw; (try dsimp only at hSw); go_simp; (try with_reducible rfl)
  try simp only [Act.put, List.setIfInBounds_toArray, List.set_cons_zero, List.set_cons_succ]
  refine wpAnyH_take (i := 16) (v := ?_) (by simp only [List.getElem?_toArray, List.getElem?_cons_zero, List.getElem?_cons_succ]; rfl) (by kernel_rfl) (by kernel_rfl) (by kernel_rfl) (fun _ _ _ h => h) (Or.inl ⟨by rfl, ?_⟩) (by assumption) ?_
  rotate_left
  · intro w hSw; (try dsimp only at hSw); go_simp; (try with_reducible rfl)
  try simp only [Act.put, List.setIfInBounds_toArray, List.set_cons_zero, List.set_cons_succ]
  refine wpAnyH_ready (rs := [17]) (by kernel_rfl) (by simp) ?_
  refine AllReadyH.cons (by simp only [List.getElem?_toArray, List.getElem?_cons_zero, List.getElem?_cons_succ]; rfl) (fun K hK => ?_) AllReadyH.nil
  go_simp
  have E10 := hid (evo_store (g := g9) (w := w9) (b := b) (i := n * 4 + 3) (.slice av ((f n).acts.length + 1) cv) l9.2)
  have l10 := l9.1.set (n * 4 + 3) (.slice av ((f n).acts.length + 1) cv)
  have X10 := hid (X9.out.frame E10.out (by omega))
  have V10 := hid (V9.out.frame E10.out (by omega))
  have C10 := hid (C9.out.frame E10.out (by omega))
  have B10 := hid (B9.out.step E10.out (by omega))
  have hS' : (w9.setCell ⟨b, n * 4 + 3, none⟩ (.slice av ((f n).acts.length + 1) cv)).cell? ⟨bx, 0, none⟩ = some (.int .i64 3) ∧ (w9.setCell ⟨b, n * 4 + 3, none⟩ (.slice av ((f n).acts.length + 1) cv)).cell? ⟨bx, 4, none⟩ = some (.int .i64 x.key) ∧ (w9.setCell ⟨b, n * 4 + 3, none⟩ (.slice av ((f n).acts.length + 1) cv)).cell? ⟨bx, 7, none⟩ = some (.string x.bytes) := ⟨(X10.out.1.cell 0).trans KK.out, X10.out.1.cell 4, X10.out.1.cell 7⟩
  try go_wp2_with fail
  refine hK.out _ _ ?_ (fun hH4 => ?_)
  · (try dsimp only); (first | assumption | exact hS0)
  clear hK K hH3
  try simp only [Act.put, List.setIfInBounds_toArray, List.set_cons_zero, List.set_cons_succ]
  refine wpAnyH_done (by kernel_rfl) ?_ _
  refine NoPanic.normal ?_
  rotate_left
  refine AllReadyH.cons (by simp only [List.getElem?_toArray, List.getElem?_cons_zero, List.getElem?_cons_succ]; rfl) (fun K hK => ?_) AllReadyH.nil
  go_simp
  have hA := Evo.alloc g6 0 w6.drew (.cells #[.int .i64 3, .int .i64 x.key, .int .i64 0, .bool true, .string x.bytes, .slice none 0 0] 44)
  have D8 := hid (HDd.out.quiet hA)
  have X8 := hid (HXd.out.frame hA (by omega))
  have V8 := hid (HVd.out.frame hA (by omega))
  have C8 := hid (HCd.out.frame hA (by omega))
  have B8 := hid (HBd2.out.step hA (by omega))
  have L8 := hid (HLd.out.frame hA (by omega))
  have cn := hid (cells_new w6.drew (encAcx (⟨⟨3, x.key, 0, ⟨true, x.bytes⟩, []⟩, none, 0⟩ : Acx)) 44)
  have hS' : (w6.drew.alloc (.cells #[.int .i64 3, .int .i64 x.key, .int .i64 0, .bool true, .string x.bytes, .slice none 0 0] 44)).cell? ⟨bx, 0, none⟩ = some (.int .i64 3) ∧ (w6.drew.alloc (.cells #[.int .i64 3, .int .i64 x.key, .int .i64 0, .bool true, .string x.bytes, .slice none 0 0] 44)).cell? ⟨bx, 4, none⟩ = some (.int .i64 x.key) ∧ (w6.drew.alloc (.cells #[.int .i64 3, .int .i64 x.key, .int .i64 0, .bool true, .string x.bytes, .slice none 0 0] 44)).cell? ⟨bx, 7, none⟩ = some (.string x.bytes) := ⟨(X8.out.1.cell 0).trans KK.out, X8.out.1.cell 4, X8.out.1.cell 7⟩
  have d3a : (w6.alloc (.cells #[.int .i64 3, .int .i64 x.key, .int .i64 0, .bool true, .string x.bytes, .slice none 0 0] 44)).cell? ⟨b, n * 4 + 3, none⟩ = some (f n).v := (D8.out.loc.1.cell (n * 4 + 3)).trans o3
  clear hA
  try go_wp2_with fail
  refine hK.out _ _ ?_ (fun hH5 => ?_)
  · (try dsimp only); (first | assumption | exact hS0)
  clear hK K hH0
  try simp only [Act.put, List.setIfInBounds_toArray, List.set_cons_zero, List.set_cons_succ]
  refine wpAnyH_ready (rs := [4]) (by kernel_rfl) (by simp) ?_
  refine AllReadyH.cons (by simp only [List.getElem?_toArray, List.getElem?_cons_zero, List.getElem?_cons_succ]; rfl) (fun K hK => ?_) AllReadyH.nil
  go_simp
  skip
  try go_wp2_with fail
  refine hK.out _ _ ?_ (fun hH6 => ?_)
  · (try dsimp only); (first | assumption | exact hS0)
  clear hK K hH5
  try simp only [Act.put, List.setIfInBounds_toArray, List.set_cons_zero, List.set_cons_succ]
  refine wpAnyH_ready (rs := [14]) (by kernel_rfl) (by simp) ?_
  refine AllReadyH.cons (by simp only [List.getElem?_toArray, List.getElem?_cons_zero, List.getElem?_cons_succ]; rfl) (fun K hK => ?_) AllReadyH.nil
  have k8 := D8.out.live n hn d HBd.out
  refine wp_append2 (.tmp 133) (.tmp 142) 37 rfl 44 i0 (.agg #[.int .i64 0, .int .i64 0, .int .i64 0, .bool false, .string ByteArray.empty, .slice none 0 0]) 6 72 Tryz.underlying37 hi hz0 hz1 hz2 rfl (by decide) (f n).v (f n).acts.length (encActs (f n).acts) rfl k8.row.1 ⟨w6.drew.heap.size, 0, none⟩ 1 1 (encAcx (⟨⟨3, x.key, 0, ⟨true, x.bytes⟩, []⟩, none, 0⟩ : Acx)) rfl rfl cn.out (encAcx_one _) m1 m2 ?_
  intro v9 w9 ho hg hf
  obtain ⟨av, cv, rfl, -, -⟩ := ownsRow.sliceAt ho
  obtain ⟨g9, hR, hE9⟩ : ∃ g9, RowC w9 g9 (f n).q 44 6 (.slice av ((f n).acts.length + 1) cv) ((f n).acts.length + 1) (encActs (f n).acts ++ encAcx (⟨⟨3, x.key, 0, ⟨true, x.bytes⟩, []⟩, none, 0⟩ : Acx)) ∧ Evo (f n).q ((f n).q + 1) (extc g6 w6.drew 0) g9 _ w9 := ⟨_, k8.row.grown ho hg hf⟩
  have hq9 := k8.col
  have HR9 := hid hR
  have HE9 := hid hE9
  have X9 := hid (X8.out.frame hE9 (by omega))
  have V9 := hid (V8.out.frame hE9 (by omega))
  have C9 := hid (C8.out.frame hE9 (by omega))
  have B9 := hid (B8.out.step hE9 (by omega))
  have l9 := D8.out.loc.frame hE9 (by omega)
  have d3n := (l9.1.cell (n * 4 + 3)).trans o3
  have z3n := l9.1.free (n * 4 + 3)
  have hS' : w9.cell? ⟨bx, 0, none⟩ = some (.int .i64 3) ∧ w9.cell? ⟨bx, 4, none⟩ = some (.int .i64 x.key) ∧ w9.cell? ⟨bx, 7, none⟩ = some (.string x.bytes) := ⟨(X9.out.1.cell 0).trans KK.out, X9.out.1.cell 4, X9.out.1.cell 7⟩
  clear ho hg hf hR hE9 k8
  refine hK.out _ _ ?_ (fun hH7 => ?_)
  · (try dsimp only); (first | assumption | exact hS0)
  clear hK K hH6
  try simp only [Act.put]
  refine wpAnyH_take (i := 15) (v := ?_) (by simp only [List.getElem?_toArray, List.getElem?_cons_zero, List.getElem?_cons_succ]; rfl) (by kernel_rfl) (by kernel_rfl) (by kernel_rfl) (fun _ _ _ h => h) (Or.inl ⟨by rfl, ?_⟩) (by assumption) ?_
  rotate_left
  · intro w hSw; (try dsimp only at hSw); go_simp; (try with_reducible rfl)
  try simp only [Act.put, List.setIfInBounds_toArray, List.set_cons_zero, List.set_cons_succ]
  refine wpAnyH_take (i := 16) (v := ?_) (by simp only [List.getElem?_toArray, List.getElem?_cons_zero, List.getElem?_cons_succ]; rfl) (by kernel_rfl) (by kernel_rfl) (by kernel_rfl) (fun _ _ _ h => h) (Or.inl ⟨by rfl, ?_⟩) (by assumption) ?_
  rotate_left
  · intro w hSw; (try dsimp only at hSw); go_simp; (try with_reducible rfl)
  try simp only [Act.put, List.setIfInBounds_toArray, List.set_cons_zero, List.set_cons_succ]
  refine wpAnyH_ready (rs := [17]) (by kernel_rfl) (by simp) ?_
  refine AllReadyH.cons (by simp only [List.getElem?_toArray, List.getElem?_cons_zero, List.getElem?_cons_succ]; rfl) (fun K hK => ?_) AllReadyH.nil
  go_simp
  have E10 := hid (evo_store (g := g9) (w := w9) (b := b) (i := n * 4 + 3) (.slice av ((f n).acts.length + 1) cv) l9.2)
  have l10 := l9.1.set (n * 4 + 3) (.slice av ((f n).acts.length + 1) cv)
  have X10 := hid (X9.out.frame E10.out (by omega))
  have V10 := hid (V9.out.frame E10.out (by omega))
  have C10 := hid (C9.out.frame E10.out (by omega))
  have B10 := hid (B9.out.step E10.out (by omega))
  have hS' : (w9.setCell ⟨b, n * 4 + 3, none⟩ (.slice av ((f n).acts.length + 1) cv)).cell? ⟨bx, 0, none⟩ = some (.int .i64 3) ∧ (w9.setCell ⟨b, n * 4 + 3, none⟩ (.slice av ((f n).acts.length + 1) cv)).cell? ⟨bx, 4, none⟩ = some (.int .i64 x.key) ∧ (w9.setCell ⟨b, n * 4 + 3, none⟩ (.slice av ((f n).acts.length + 1) cv)).cell? ⟨bx, 7, none⟩ = some (.string x.bytes) := ⟨(X10.out.1.cell 0).trans KK.out, X10.out.1.cell 4, X10.out.1.cell 7⟩
  try go_wp2_with fail
  refine hK.out _ _ ?_ (fun hH8 => ?_)
  · (try dsimp only); (first | assumption | exact hS0)
  clear hK K hH7
  try simp only [Act.put, List.setIfInBounds_toArray, List.set_cons_zero, List.set_cons_succ]
  refine wpAnyH_done (by kernel_rfl) ?_ _
  refine NoPanic.normal ?_
  rotate_left
  -- END 25
  all_goals
    have HD10 := hid (D8.out.acted hn HBd.out (z := (⟨⟨3, x.key, 0, ⟨true, x.bytes⟩, []⟩, none, 0⟩ : Acx)) (by omega) (FixL.none _ _ _ _ rfl) HE9.out HR9.out ⟨av, _, cv, rfl⟩ E10.out ⟨by
      have h := l10
      rw [openL_acts f hn _ ((f n).acts ++ [(⟨⟨3, x.key, 0, ⟨true, x.bytes⟩, []⟩, none, 0⟩ : Acx)]) (f n).q] at h
      exact h, l9.2⟩)
    exact HQ.out _ _ _ _ _ _ _ _ _ _ _ _ _ _ _ _ _ _ _ _ C10 HD10 B10

set_option maxHeartbeats 4000000 in
set_option maxRecDepth 100000 in
theorem deeds_act27 (w : World) (g6 : Nat → Nat) (w6 : World) (c N : Nat) (H : Ht) (b nx k : Nat) (B : Bk) (v : Value) (L : List Dnx) (f : Nat → Od) (be bx : Nat) (x : St) (yc yn : Int) (yv : Val) (yl : List Ent) (a5 : Option Addr) (c5 : Nat) (n : Nat) (hn : n < 5) (d : Dn) (hd : B.seats n = some d)
    (HC6 : Hid (CourtAt w6 g6 1 c N H)) (HD6 : Hid (DeedsC w6 g6 24 23 b nx k B v L f)) (HB6 : Hid (Base w.heap.size w g6 w6)) (HX6 : Hid (LocC w6 g6 0 bx 55 (stL x))) (HV6 : Hid (LocC w6 g6 0 be 74 [.int .i64 yc, .int .i64 yn, .bool yv.there, .string yv.bytes, .slice a5 yl.length c5])) (HL6 : Hid (FixC w6 g6 23 a5 (encEnts yl))) (_h8 : yl.length ≤ 8) (hk : k ≤ 100000) (hkd : x.kind = 4)
    (C : Code) (hcode : Tryz.f9.body.bind (regOf 27) = some C) (Q : Exit → Act → World → Prop) (u0 u1 u2 u3 u4 u5 u6 u8 u9 u12 u13 u14 u15 u16 u17 u18 u19 u20 u21 u22 u23 u24 u25 u26 u27 u28 u29 u30 u31 u32 u33 u34 u35 u36 u37 u38 u39 u40 u41 u42 u43 u44 u45 u46 u47 u48 u49 u50 u51 u52 u53 u54 u55 u56 u57 u58 u59 u60 u61 u62 u63 u64 u65 u66 u67 u68 u69 u70 u71 u72 u73 u74 u75 u76 u77 u78 u79 u80 u81 u82 u83 u84 u85 u86 u87 u88 u89 u90 u91 u92 u93 u94 u95 u96 u97 u98 u99 u100 u101 u102 u103 u104 u105 u106 u107 u108 u109 u110 u111 u112 u113 u114 u115 u116 u117 u118 u119 u120 u121 u122 u123 u124 u125 u126 u127 u128 u129 u130 u131 u132 u133 u134 u135 u136 u137 u138 u139 u140 u141 u142 u143 u144 u145 u146 u147 u148 u149 u150 u151 u152 u153 u154 u155 u156 u157 u158 u159 u160 u161 u162 u163 u164 u165 u166 u167 u168 u169 u170 u171 u172 u173 u174 u175 u176 u177 u178 u179 u180 u181 u182 : Value)
    (hK : ∀ (x148 x149 x150 x151 x152 x153 x154 x155 x156 x157 x158 x159 x160 x161 : Value) (g9 : Nat → Nat) (w9 : World) (F : Nat → Od), Hid (CourtAt w9 g9 1 c N H) → Hid (DeedsC w9 g9 24 23 b nx (k + 1) ⟨upd B.seats n (some ⟨d.n, d.at_, d.mode, d.acts ++ [(⟨⟨4, x.key, 0, Val.zero, []⟩, none, 0⟩ : Acx).a]⟩), B.l⟩ v L F) → Hid (Base w.heap.size w g9 w9) → Q .normal ⟨List.toArray (u0 :: u1 :: u2 :: u3 :: u4 :: u5 :: u6 :: .pointer (some ⟨bx, 0, none⟩) :: u8 :: u9 :: .pointer (some ⟨be, 0, none⟩) :: .pointer (some ⟨b, n * 4, none⟩) :: u12 :: u13 :: u14 :: u15 :: u16 :: u17 :: u18 :: u19 :: u20 :: u21 :: u22 :: u23 :: u24 :: u25 :: u26 :: u27 :: u28 :: u29 :: u30 :: u31 :: u32 :: u33 :: u34 :: u35 :: u36 :: u37 :: u38 :: u39 :: u40 :: u41 :: u42 :: u43 :: u44 :: u45 :: u46 :: u47 :: u48 :: u49 :: u50 :: u51 :: u52 :: u53 :: u54 :: u55 :: u56 :: u57 :: u58 :: u59 :: u60 :: u61 :: u62 :: u63 :: u64 :: u65 :: u66 :: u67 :: u68 :: u69 :: u70 :: u71 :: u72 :: u73 :: u74 :: u75 :: u76 :: u77 :: u78 :: u79 :: u80 :: u81 :: u82 :: u83 :: u84 :: u85 :: u86 :: u87 :: u88 :: u89 :: u90 :: u91 :: u92 :: u93 :: u94 :: u95 :: u96 :: u97 :: u98 :: u99 :: u100 :: u101 :: u102 :: u103 :: u104 :: u105 :: u106 :: u107 :: u108 :: u109 :: u110 :: u111 :: u112 :: u113 :: u114 :: u115 :: u116 :: u117 :: u118 :: u119 :: u120 :: u121 :: u122 :: u123 :: u124 :: u125 :: u126 :: u127 :: u128 :: u129 :: u130 :: u131 :: u132 :: u133 :: u134 :: u135 :: u136 :: u137 :: u138 :: u139 :: u140 :: u141 :: u142 :: u143 :: u144 :: u145 :: u146 :: u147 :: x148 :: x149 :: x150 :: x151 :: x152 :: x153 :: x154 :: x155 :: x156 :: x157 :: x158 :: x159 :: x160 :: x161 :: u162 :: u163 :: u164 :: u165 :: u166 :: u167 :: u168 :: u169 :: u170 :: u171 :: u172 :: u173 :: u174 :: u175 :: u176 :: u177 :: u178 :: u179 :: u180 :: u181 :: u182 :: []), []⟩ w9) :
    Code.wp Tryz.prog C Q ⟨List.toArray (u0 :: u1 :: u2 :: u3 :: u4 :: u5 :: u6 :: .pointer (some ⟨bx, 0, none⟩) :: u8 :: u9 :: .pointer (some ⟨be, 0, none⟩) :: .pointer (some ⟨b, n * 4, none⟩) :: u12 :: u13 :: u14 :: u15 :: u16 :: u17 :: u18 :: u19 :: u20 :: u21 :: u22 :: u23 :: u24 :: u25 :: u26 :: u27 :: u28 :: u29 :: u30 :: u31 :: u32 :: u33 :: u34 :: u35 :: u36 :: u37 :: u38 :: u39 :: u40 :: u41 :: u42 :: u43 :: u44 :: u45 :: u46 :: u47 :: u48 :: u49 :: u50 :: u51 :: u52 :: u53 :: u54 :: u55 :: u56 :: u57 :: u58 :: u59 :: u60 :: u61 :: u62 :: u63 :: u64 :: u65 :: u66 :: u67 :: u68 :: u69 :: u70 :: u71 :: u72 :: u73 :: u74 :: u75 :: u76 :: u77 :: u78 :: u79 :: u80 :: u81 :: u82 :: u83 :: u84 :: u85 :: u86 :: u87 :: u88 :: u89 :: u90 :: u91 :: u92 :: u93 :: u94 :: u95 :: u96 :: u97 :: u98 :: u99 :: u100 :: u101 :: u102 :: u103 :: u104 :: u105 :: u106 :: u107 :: u108 :: u109 :: u110 :: u111 :: u112 :: u113 :: u114 :: u115 :: u116 :: u117 :: u118 :: u119 :: u120 :: u121 :: u122 :: u123 :: u124 :: u125 :: u126 :: u127 :: u128 :: u129 :: u130 :: u131 :: u132 :: u133 :: u134 :: u135 :: u136 :: u137 :: u138 :: u139 :: u140 :: u141 :: u142 :: u143 :: u144 :: u145 :: u146 :: u147 :: u148 :: u149 :: u150 :: u151 :: u152 :: u153 :: u154 :: u155 :: u156 :: u157 :: u158 :: u159 :: u160 :: u161 :: u162 :: u163 :: u164 :: u165 :: u166 :: u167 :: u168 :: u169 :: u170 :: u171 :: u172 :: u173 :: u174 :: u175 :: u176 :: u177 :: u178 :: u179 :: u180 :: u181 :: u182 :: []), []⟩ w6 := by
  have HQ := hid hK
  have KK := hid (show some (Value.int .i64 x.kind) = some (Value.int .i64 4) from by rw [hkd])
  have HBd := hid hd
  obtain rfl : (Tryz.f9.body.bind (regOf 27)).getD .skip = C := by rw [hcode]; rfl
  obtain ⟨i0, hi, hz0, hz1, hz2⟩ := info_parts Tryz.infoRAct
  have hkn := HD6.out.live n hn d HBd.out
  have m1 : (f n).acts.length + 1 ≤ maxLen := by have := hkn.len; unfold maxLen; omega
  have m2 : ((f n).acts.length + 1) * 72 ≤ 140737488355328 := by have := hkn.len; omega
  obtain ⟨-, -, -, o3⟩ := openL_get f hn
  have HDd := hid (HD6.out.quiet (Evo.drew 0 0 g6 w6))
  have HXd := hid (HX6.out.below (Below.refl w6.heap.size w6).drew)
  have HVd := hid (HV6.out.below (Below.refl w6.heap.size w6).drew)
  have HCd := hid (HC6.out.below (Below.refl w6.heap.size w6).drew)
  have HBd2 := hid (HB6.out.below' (Below.refl w6.heap.size w6).drew)
  have HLd := hid (HL6.out.below (Below.refl w6.heap.size w6).drew)
  have hS0 : w6.drew.cell? ⟨bx, 0, none⟩ = some (.int .i64 4) ∧ w6.drew.cell? ⟨bx, 4, none⟩ = some (.int .i64 x.key) := ⟨(HXd.out.1.cell 0).trans KK.out, HXd.out.1.cell 4⟩
  have d3d := (HDd.out.loc.1.cell (n * 4 + 3)).trans o3
  clear HD6 HX6 HV6 HC6 HB6 HL6 hkn hkd hK hd hcode
  conv => arg 2; whnf
  -- REGION 27
  refine wp_region_noPanic ?_
  refine wp_region_held_drew (S := (fun W : World => W.cell? ⟨bx, 0, none⟩ = some (.int .i64 4) ∧ W.cell? ⟨bx, 4, none⟩ = some (.int .i64 x.key))) (by kernel_rfl) ?_ (fun hH0 => ?_)
  · (try dsimp only); (first | assumption | exact hS0)
  refine wpAnyH_take (i := 0) (v := ?_) (by simp only [List.getElem?_toArray, List.getElem?_cons_zero]; rfl) (by kernel_rfl) (by kernel_rfl) (by kernel_rfl) (fun _ _ _ h => h) (Or.inl ⟨by rfl, ?_⟩) (by assumption) ?_
  rotate_left
  · intro w hSw; (try dsimp only at hSw); go_simp; (try with_reducible rfl)
  try simp only [Act.put, List.setIfInBounds_toArray, List.set_cons_zero, List.set_cons_succ]
  refine wpAnyH_take (i := 1) (v := ?_) (by simp only [List.getElem?_toArray, List.getElem?_cons_zero, List.getElem?_cons_succ]; rfl) (by kernel_rfl) (by kernel_rfl) (by kernel_rfl) (fun _ _ _ h => h) (Or.inl ⟨by rfl, ?_⟩) (by assumption) ?_
  rotate_left
  · intro w hSw; (try dsimp only at hSw); go_simp; (try with_reducible rfl)
  try simp only [Act.put, List.setIfInBounds_toArray, List.set_cons_zero, List.set_cons_succ]
  refine wpAnyH_take (i := 2) (v := ?_) (by simp only [List.getElem?_toArray, List.getElem?_cons_zero, List.getElem?_cons_succ]; rfl) (by kernel_rfl) (by kernel_rfl) (by kernel_rfl) (fun _ _ _ h => h) (Or.inl ⟨by rfl, ?_⟩) (by assumption) ?_
  rotate_left
  · intro w hSw; (try dsimp only at hSw); go_simp; (try with_reducible rfl)
  try simp only [Act.put, List.setIfInBounds_toArray, List.set_cons_zero, List.set_cons_succ]
  refine wpAnyH_take (i := 3) (v := ?_) (by simp only [List.getElem?_toArray, List.getElem?_cons_zero, List.getElem?_cons_succ]; rfl) (by kernel_rfl) (by kernel_rfl) (by kernel_rfl) (fun _ _ _ h => h) (Or.inl ⟨by rfl, ?_⟩) (by assumption) ?_
  rotate_left
  · intro w hSw; (try dsimp only at hSw); go_simp; (try with_reducible rfl)
  try simp only [Act.put, List.setIfInBounds_toArray, List.set_cons_zero, List.set_cons_succ]
  refine wpAnyH_take (i := 5) (v := ?_) (by simp only [List.getElem?_toArray, List.getElem?_cons_zero, List.getElem?_cons_succ]; rfl) (by kernel_rfl) (by kernel_rfl) (by kernel_rfl) (fun _ _ _ h => h) (Or.inl ⟨by rfl, ?_⟩) (by assumption) ?_
  rotate_left
  · intro w hSw; (try dsimp only at hSw); go_simp; (try with_reducible rfl)
  try simp only [Act.put, List.setIfInBounds_toArray, List.set_cons_zero, List.set_cons_succ]
  refine wpAnyH_take (i := 6) (v := ?_) (by simp only [List.getElem?_toArray, List.getElem?_cons_zero, List.getElem?_cons_succ]; rfl) (by kernel_rfl) (by kernel_rfl) (by kernel_rfl) (fun _ _ _ h => h) (Or.inl ⟨by rfl, ?_⟩) (by assumption) ?_
  rotate_left
  · intro w hSw; (try dsimp only at hSw); go_simp; (try with_reducible rfl)
  try simp only [Act.put, List.setIfInBounds_toArray, List.set_cons_zero, List.set_cons_succ]
  refine wpAnyH_take (i := 7) (v := ?_) (by simp only [List.getElem?_toArray, List.getElem?_cons_zero, List.getElem?_cons_succ]; rfl) (by kernel_rfl) (by kernel_rfl) (by kernel_rfl) (fun _ _ _ h => h) (Or.inl ⟨by rfl, ?_⟩) (by assumption) ?_
  rotate_left
  · intro w hSw; (try dsimp only at hSw); go_simp; (try with_reducible rfl)
  try simp only [Act.put, List.setIfInBounds_toArray, List.set_cons_zero, List.set_cons_succ]
  refine wpAnyH_take (i := 8) (v := ?_) (by simp only [List.getElem?_toArray, List.getElem?_cons_zero, List.getElem?_cons_succ]; rfl) (by kernel_rfl) (by kernel_rfl) (by kernel_rfl) (fun _ _ _ h => h) (Or.inl ⟨by rfl, ?_⟩) (by assumption) ?_
  rotate_left
  · intro w hSw; (try dsimp only at hSw); go_simp; (try with_reducible rfl)
  try simp only [Act.put, List.setIfInBounds_toArray, List.set_cons_zero, List.set_cons_succ]
  refine wpAnyH_take (i := 9) (v := ?_) (by simp only [List.getElem?_toArray, List.getElem?_cons_zero, List.getElem?_cons_succ]; rfl) (by kernel_rfl) (by kernel_rfl) (by kernel_rfl) (fun _ _ _ h => h) (Or.inl ⟨by rfl, ?_⟩) (by assumption) ?_
  rotate_left
  · intro w hSw; (try dsimp only at hSw); go_simp; (try with_reducible rfl)
  try simp only [Act.put, List.setIfInBounds_toArray, List.set_cons_zero, List.set_cons_succ]
  refine wpAnyH_ready (rs := [4, 10]) (by kernel_rfl) (by simp) ?_
  refine AllReadyH.cons (by simp only [List.getElem?_toArray, List.getElem?_cons_zero, List.getElem?_cons_succ]; rfl) (fun K hK => ?_) ?_
  go_simp
  skip
  try go_wp2_with fail
  refine hK.out _ _ ?_ (fun hH1 => ?_)
  · (try dsimp only); (first | assumption | exact hS0)
  clear hK K hH0
  try simp only [Act.put, List.setIfInBounds_toArray, List.set_cons_zero, List.set_cons_succ]
  refine wpAnyH_ready (rs := [10]) (by kernel_rfl) (by simp) ?_
  refine AllReadyH.cons (by simp only [List.getElem?_toArray, List.getElem?_cons_zero, List.getElem?_cons_succ]; rfl) (fun K hK => ?_) AllReadyH.nil
  go_simp
  have hA := Evo.alloc g6 0 w6.drew (.cells #[.int .i64 4, .int .i64 x.key, .int .i64 0, .bool false, .string ⟨#[]⟩, .slice none 0 0] 44)
  have D8 := hid (HDd.out.quiet hA)
  have X8 := hid (HXd.out.frame hA (by omega))
  have V8 := hid (HVd.out.frame hA (by omega))
  have C8 := hid (HCd.out.frame hA (by omega))
  have B8 := hid (HBd2.out.step hA (by omega))
  have L8 := hid (HLd.out.frame hA (by omega))
  have cn := hid (cells_new w6.drew (encAcx (⟨⟨4, x.key, 0, Val.zero, []⟩, none, 0⟩ : Acx)) 44)
  have hS' : (w6.drew.alloc (.cells #[.int .i64 4, .int .i64 x.key, .int .i64 0, .bool false, .string ⟨#[]⟩, .slice none 0 0] 44)).cell? ⟨bx, 0, none⟩ = some (.int .i64 4) ∧ (w6.drew.alloc (.cells #[.int .i64 4, .int .i64 x.key, .int .i64 0, .bool false, .string ⟨#[]⟩, .slice none 0 0] 44)).cell? ⟨bx, 4, none⟩ = some (.int .i64 x.key) := ⟨(X8.out.1.cell 0).trans KK.out, X8.out.1.cell 4⟩
  have d3a : (w6.alloc (.cells #[.int .i64 4, .int .i64 x.key, .int .i64 0, .bool false, .string ⟨#[]⟩, .slice none 0 0] 44)).cell? ⟨b, n * 4 + 3, none⟩ = some (f n).v := (D8.out.loc.1.cell (n * 4 + 3)).trans o3
  clear hA
  try go_wp2_with fail
  refine hK.out _ _ ?_ (fun hH2 => ?_)
  · (try dsimp only); (first | assumption | exact hS0)
  clear hK K hH1
  try simp only [Act.put, List.setIfInBounds_toArray, List.set_cons_zero, List.set_cons_succ]
  refine wpAnyH_ready (rs := [11]) (by kernel_rfl) (by simp) ?_
  refine AllReadyH.cons (by simp only [List.getElem?_toArray, List.getElem?_cons_zero, List.getElem?_cons_succ]; rfl) (fun K hK => ?_) AllReadyH.nil
  have k8 := D8.out.live n hn d HBd.out
  refine wp_append2 (.tmp 152) (.tmp 158) 37 rfl 44 i0 (.agg #[.int .i64 0, .int .i64 0, .int .i64 0, .bool false, .string ByteArray.empty, .slice none 0 0]) 6 72 Tryz.underlying37 hi hz0 hz1 hz2 rfl (by decide) (f n).v (f n).acts.length (encActs (f n).acts) rfl k8.row.1 ⟨w6.drew.heap.size, 0, none⟩ 1 1 (encAcx (⟨⟨4, x.key, 0, Val.zero, []⟩, none, 0⟩ : Acx)) rfl rfl cn.out (encAcx_one _) m1 m2 ?_
  intro v9 w9 ho hg hf
  obtain ⟨av, cv, rfl, -, -⟩ := ownsRow.sliceAt ho
  obtain ⟨g9, hR, hE9⟩ : ∃ g9, RowC w9 g9 (f n).q 44 6 (.slice av ((f n).acts.length + 1) cv) ((f n).acts.length + 1) (encActs (f n).acts ++ encAcx (⟨⟨4, x.key, 0, Val.zero, []⟩, none, 0⟩ : Acx)) ∧ Evo (f n).q ((f n).q + 1) (extc g6 w6.drew 0) g9 _ w9 := ⟨_, k8.row.grown ho hg hf⟩
  have hq9 := k8.col
  have HR9 := hid hR
  have HE9 := hid hE9
  have X9 := hid (X8.out.frame hE9 (by omega))
  have V9 := hid (V8.out.frame hE9 (by omega))
  have C9 := hid (C8.out.frame hE9 (by omega))
  have B9 := hid (B8.out.step hE9 (by omega))
  have l9 := D8.out.loc.frame hE9 (by omega)
  have d3n := (l9.1.cell (n * 4 + 3)).trans o3
  have z3n := l9.1.free (n * 4 + 3)
  have hS' : w9.cell? ⟨bx, 0, none⟩ = some (.int .i64 4) ∧ w9.cell? ⟨bx, 4, none⟩ = some (.int .i64 x.key) := ⟨(X9.out.1.cell 0).trans KK.out, X9.out.1.cell 4⟩
  clear ho hg hf hR hE9 k8
  refine hK.out _ _ ?_ (fun hH3 => ?_)
  · (try dsimp only); (first | assumption | exact hS0)
  clear hK K hH2
  try simp only [Act.put]
  refine wpAnyH_take (i := 12) (v := ?_) (by simp only [List.getElem?_toArray, List.getElem?_cons_zero, List.getElem?_cons_succ]; rfl) (by kernel_rfl) (by kernel_rfl) (by kernel_rfl) (fun _ _ _ h => h) (Or.inl ⟨by rfl, ?_⟩) (by assumption) ?_
  rotate_left
  · intro w hSw; (try dsimp only at hSw); go_simp; (try with_reducible rfl)
  try simp only [Act.put, List.setIfInBounds_toArray, List.set_cons_zero, List.set_cons_succ]
  refine wpAnyH_take (i := 13) (v := ?_) (by simp only [List.getElem?_toArray, List.getElem?_cons_zero, List.getElem?_cons_succ]; rfl) (by kernel_rfl) (by kernel_rfl) (by kernel_rfl) (fun _ _ _ h => h) (Or.inl ⟨by rfl, ?_⟩) (by assumption) ?_
  rotate_left
  · intro w hSw; (try dsimp only at hSw); go_simp; (try with_reducible rfl)
  try simp only [Act.put, List.setIfInBounds_toArray, List.set_cons_zero, List.set_cons_succ]
  refine wpAnyH_ready (rs := [14]) (by kernel_rfl) (by simp) ?_
  refine AllReadyH.cons (by simp only [List.getElem?_toArray, List.getElem?_cons_zero, List.getElem?_cons_succ]; rfl) (fun K hK => ?_) AllReadyH.nil
  go_simp
  have E10 := hid (evo_store (g := g9) (w := w9) (b := b) (i := n * 4 + 3) (.slice av ((f n).acts.length + 1) cv) l9.2)
  have l10 := l9.1.set (n * 4 + 3) (.slice av ((f n).acts.length + 1) cv)
  have X10 := hid (X9.out.frame E10.out (by omega))
  have V10 := hid (V9.out.frame E10.out (by omega))
  have C10 := hid (C9.out.frame E10.out (by omega))
  have B10 := hid (B9.out.step E10.out (by omega))
  have hS' : (w9.setCell ⟨b, n * 4 + 3, none⟩ (.slice av ((f n).acts.length + 1) cv)).cell? ⟨bx, 0, none⟩ = some (.int .i64 4) ∧ (w9.setCell ⟨b, n * 4 + 3, none⟩ (.slice av ((f n).acts.length + 1) cv)).cell? ⟨bx, 4, none⟩ = some (.int .i64 x.key) := ⟨(X10.out.1.cell 0).trans KK.out, X10.out.1.cell 4⟩
  try go_wp2_with fail
  refine hK.out _ _ ?_ (fun hH4 => ?_)
  · (try dsimp only); (first | assumption | exact hS0)
  clear hK K hH3
  try simp only [Act.put, List.setIfInBounds_toArray, List.set_cons_zero, List.set_cons_succ]
  refine wpAnyH_done (by kernel_rfl) ?_ _
  refine NoPanic.normal ?_
  rotate_left
  refine AllReadyH.cons (by simp only [List.getElem?_toArray, List.getElem?_cons_zero, List.getElem?_cons_succ]; rfl) (fun K hK => ?_) AllReadyH.nil
  go_simp
  have hA := Evo.alloc g6 0 w6.drew (.cells #[.int .i64 4, .int .i64 x.key, .int .i64 0, .bool false, .string ⟨#[]⟩, .slice none 0 0] 44)
  have D8 := hid (HDd.out.quiet hA)
  have X8 := hid (HXd.out.frame hA (by omega))
  have V8 := hid (HVd.out.frame hA (by omega))
  have C8 := hid (HCd.out.frame hA (by omega))
  have B8 := hid (HBd2.out.step hA (by omega))
  have L8 := hid (HLd.out.frame hA (by omega))
  have cn := hid (cells_new w6.drew (encAcx (⟨⟨4, x.key, 0, Val.zero, []⟩, none, 0⟩ : Acx)) 44)
  have hS' : (w6.drew.alloc (.cells #[.int .i64 4, .int .i64 x.key, .int .i64 0, .bool false, .string ⟨#[]⟩, .slice none 0 0] 44)).cell? ⟨bx, 0, none⟩ = some (.int .i64 4) ∧ (w6.drew.alloc (.cells #[.int .i64 4, .int .i64 x.key, .int .i64 0, .bool false, .string ⟨#[]⟩, .slice none 0 0] 44)).cell? ⟨bx, 4, none⟩ = some (.int .i64 x.key) := ⟨(X8.out.1.cell 0).trans KK.out, X8.out.1.cell 4⟩
  have d3a : (w6.alloc (.cells #[.int .i64 4, .int .i64 x.key, .int .i64 0, .bool false, .string ⟨#[]⟩, .slice none 0 0] 44)).cell? ⟨b, n * 4 + 3, none⟩ = some (f n).v := (D8.out.loc.1.cell (n * 4 + 3)).trans o3
  clear hA
  try go_wp2_with fail
  refine hK.out _ _ ?_ (fun hH5 => ?_)
  · (try dsimp only); (first | assumption | exact hS0)
  clear hK K hH0
  try simp only [Act.put, List.setIfInBounds_toArray, List.set_cons_zero, List.set_cons_succ]
  refine wpAnyH_ready (rs := [4]) (by kernel_rfl) (by simp) ?_
  refine AllReadyH.cons (by simp only [List.getElem?_toArray, List.getElem?_cons_zero, List.getElem?_cons_succ]; rfl) (fun K hK => ?_) AllReadyH.nil
  go_simp
  skip
  try go_wp2_with fail
  refine hK.out _ _ ?_ (fun hH6 => ?_)
  · (try dsimp only); (first | assumption | exact hS0)
  clear hK K hH5
  try simp only [Act.put, List.setIfInBounds_toArray, List.set_cons_zero, List.set_cons_succ]
  refine wpAnyH_ready (rs := [11]) (by kernel_rfl) (by simp) ?_
  refine AllReadyH.cons (by simp only [List.getElem?_toArray, List.getElem?_cons_zero, List.getElem?_cons_succ]; rfl) (fun K hK => ?_) AllReadyH.nil
  have k8 := D8.out.live n hn d HBd.out
  refine wp_append2 (.tmp 152) (.tmp 158) 37 rfl 44 i0 (.agg #[.int .i64 0, .int .i64 0, .int .i64 0, .bool false, .string ByteArray.empty, .slice none 0 0]) 6 72 Tryz.underlying37 hi hz0 hz1 hz2 rfl (by decide) (f n).v (f n).acts.length (encActs (f n).acts) rfl k8.row.1 ⟨w6.drew.heap.size, 0, none⟩ 1 1 (encAcx (⟨⟨4, x.key, 0, Val.zero, []⟩, none, 0⟩ : Acx)) rfl rfl cn.out (encAcx_one _) m1 m2 ?_
  intro v9 w9 ho hg hf
  obtain ⟨av, cv, rfl, -, -⟩ := ownsRow.sliceAt ho
  obtain ⟨g9, hR, hE9⟩ : ∃ g9, RowC w9 g9 (f n).q 44 6 (.slice av ((f n).acts.length + 1) cv) ((f n).acts.length + 1) (encActs (f n).acts ++ encAcx (⟨⟨4, x.key, 0, Val.zero, []⟩, none, 0⟩ : Acx)) ∧ Evo (f n).q ((f n).q + 1) (extc g6 w6.drew 0) g9 _ w9 := ⟨_, k8.row.grown ho hg hf⟩
  have hq9 := k8.col
  have HR9 := hid hR
  have HE9 := hid hE9
  have X9 := hid (X8.out.frame hE9 (by omega))
  have V9 := hid (V8.out.frame hE9 (by omega))
  have C9 := hid (C8.out.frame hE9 (by omega))
  have B9 := hid (B8.out.step hE9 (by omega))
  have l9 := D8.out.loc.frame hE9 (by omega)
  have d3n := (l9.1.cell (n * 4 + 3)).trans o3
  have z3n := l9.1.free (n * 4 + 3)
  have hS' : w9.cell? ⟨bx, 0, none⟩ = some (.int .i64 4) ∧ w9.cell? ⟨bx, 4, none⟩ = some (.int .i64 x.key) := ⟨(X9.out.1.cell 0).trans KK.out, X9.out.1.cell 4⟩
  clear ho hg hf hR hE9 k8
  refine hK.out _ _ ?_ (fun hH7 => ?_)
  · (try dsimp only); (first | assumption | exact hS0)
  clear hK K hH6
  try simp only [Act.put]
  refine wpAnyH_take (i := 12) (v := ?_) (by simp only [List.getElem?_toArray, List.getElem?_cons_zero, List.getElem?_cons_succ]; rfl) (by kernel_rfl) (by kernel_rfl) (by kernel_rfl) (fun _ _ _ h => h) (Or.inl ⟨by rfl, ?_⟩) (by assumption) ?_
  rotate_left
  · intro w hSw; (try dsimp only at hSw); go_simp; (try with_reducible rfl)
  try simp only [Act.put, List.setIfInBounds_toArray, List.set_cons_zero, List.set_cons_succ]
  refine wpAnyH_take (i := 13) (v := ?_) (by simp only [List.getElem?_toArray, List.getElem?_cons_zero, List.getElem?_cons_succ]; rfl) (by kernel_rfl) (by kernel_rfl) (by kernel_rfl) (fun _ _ _ h => h) (Or.inl ⟨by rfl, ?_⟩) (by assumption) ?_
  rotate_left
  · intro w hSw; (try dsimp only at hSw); go_simp; (try with_reducible rfl)
  try simp only [Act.put, List.setIfInBounds_toArray, List.set_cons_zero, List.set_cons_succ]
  refine wpAnyH_ready (rs := [14]) (by kernel_rfl) (by simp) ?_
  refine AllReadyH.cons (by simp only [List.getElem?_toArray, List.getElem?_cons_zero, List.getElem?_cons_succ]; rfl) (fun K hK => ?_) AllReadyH.nil
  go_simp
  have E10 := hid (evo_store (g := g9) (w := w9) (b := b) (i := n * 4 + 3) (.slice av ((f n).acts.length + 1) cv) l9.2)
  have l10 := l9.1.set (n * 4 + 3) (.slice av ((f n).acts.length + 1) cv)
  have X10 := hid (X9.out.frame E10.out (by omega))
  have V10 := hid (V9.out.frame E10.out (by omega))
  have C10 := hid (C9.out.frame E10.out (by omega))
  have B10 := hid (B9.out.step E10.out (by omega))
  have hS' : (w9.setCell ⟨b, n * 4 + 3, none⟩ (.slice av ((f n).acts.length + 1) cv)).cell? ⟨bx, 0, none⟩ = some (.int .i64 4) ∧ (w9.setCell ⟨b, n * 4 + 3, none⟩ (.slice av ((f n).acts.length + 1) cv)).cell? ⟨bx, 4, none⟩ = some (.int .i64 x.key) := ⟨(X10.out.1.cell 0).trans KK.out, X10.out.1.cell 4⟩
  try go_wp2_with fail
  refine hK.out _ _ ?_ (fun hH8 => ?_)
  · (try dsimp only); (first | assumption | exact hS0)
  clear hK K hH7
  try simp only [Act.put, List.setIfInBounds_toArray, List.set_cons_zero, List.set_cons_succ]
  refine wpAnyH_done (by kernel_rfl) ?_ _
  refine NoPanic.normal ?_
  rotate_left
  -- END 27
  all_goals
    have HD10 := hid (D8.out.acted hn HBd.out (z := (⟨⟨4, x.key, 0, Val.zero, []⟩, none, 0⟩ : Acx)) (by omega) (FixL.none _ _ _ _ rfl) HE9.out HR9.out ⟨av, _, cv, rfl⟩ E10.out ⟨by
      have h := l10
      rw [openL_acts f hn _ ((f n).acts ++ [(⟨⟨4, x.key, 0, Val.zero, []⟩, none, 0⟩ : Acx)]) (f n).q] at h
      exact h, l9.2⟩)
    exact HQ.out _ _ _ _ _ _ _ _ _ _ _ _ _ _ _ _ _ C10 HD10 B10

set_option maxHeartbeats 4000000 in
set_option maxRecDepth 100000 in
theorem deeds_act29 (w : World) (g6 : Nat → Nat) (w6 : World) (c N : Nat) (H : Ht) (b nx k : Nat) (B : Bk) (v : Value) (L : List Dnx) (f : Nat → Od) (be bx : Nat) (x : St) (yc yn : Int) (yv : Val) (yl : List Ent) (a5 : Option Addr) (c5 : Nat) (n : Nat) (hn : n < 5) (d : Dn) (hd : B.seats n = some d)
    (HC6 : Hid (CourtAt w6 g6 1 c N H)) (HD6 : Hid (DeedsC w6 g6 24 23 b nx k B v L f)) (HB6 : Hid (Base w.heap.size w g6 w6)) (HX6 : Hid (LocC w6 g6 0 bx 55 (stL x))) (HV6 : Hid (LocC w6 g6 0 be 74 [.int .i64 yc, .int .i64 yn, .bool yv.there, .string yv.bytes, .slice a5 yl.length c5])) (HL6 : Hid (FixC w6 g6 23 a5 (encEnts yl))) (h8 : yl.length ≤ 8) (hk : k ≤ 100000) (hkd : x.kind = 5)
    (C : Code) (hcode : Tryz.f9.body.bind (regOf 29) = some C) (Q : Exit → Act → World → Prop) (u0 u1 u2 u3 u4 u5 u6 u8 u9 u12 u13 u14 u15 u16 u17 u18 u19 u20 u21 u22 u23 u24 u25 u26 u27 u28 u29 u30 u31 u32 u33 u34 u35 u36 u37 u38 u39 u40 u41 u42 u43 u44 u45 u46 u47 u48 u49 u50 u51 u52 u53 u54 u55 u56 u57 u58 u59 u60 u61 u62 u63 u64 u65 u66 u67 u68 u69 u70 u71 u72 u73 u74 u75 u76 u77 u78 u79 u80 u81 u82 u83 u84 u85 u86 u87 u88 u89 u90 u91 u92 u93 u94 u95 u96 u97 u98 u99 u100 u101 u102 u103 u104 u105 u106 u107 u108 u109 u110 u111 u112 u113 u114 u115 u116 u117 u118 u119 u120 u121 u122 u123 u124 u125 u126 u127 u128 u129 u130 u131 u132 u133 u134 u135 u136 u137 u138 u139 u140 u141 u142 u143 u144 u145 u146 u147 u148 u149 u150 u151 u152 u153 u154 u155 u156 u157 u158 u159 u160 u161 u162 u163 u164 u165 u166 u167 u168 u169 u170 u171 u172 u173 u174 u175 u176 u177 u178 u179 u180 u181 u182 : Value)
    (hK : ∀ (x164 x165 x166 x167 x168 x169 x170 x171 x172 x173 x174 x175 x176 x177 x178 x179 x180 x181 : Value) (g9 : Nat → Nat) (w9 : World) (F : Nat → Od), Hid (CourtAt w9 g9 1 c N H) → Hid (DeedsC w9 g9 24 23 b nx (k + 1) ⟨upd B.seats n (some ⟨d.n, d.at_, d.mode, d.acts ++ [(⟨⟨5, x.key, x.to_, Val.zero, yl⟩, a5, c5⟩ : Acx).a]⟩), B.l⟩ v L F) → Hid (Base w.heap.size w g9 w9) → Q .normal ⟨List.toArray (u0 :: u1 :: u2 :: u3 :: u4 :: u5 :: u6 :: .pointer (some ⟨bx, 0, none⟩) :: u8 :: u9 :: .pointer (some ⟨be, 0, none⟩) :: .pointer (some ⟨b, n * 4, none⟩) :: u12 :: u13 :: u14 :: u15 :: u16 :: u17 :: u18 :: u19 :: u20 :: u21 :: u22 :: u23 :: u24 :: u25 :: u26 :: u27 :: u28 :: u29 :: u30 :: u31 :: u32 :: u33 :: u34 :: u35 :: u36 :: u37 :: u38 :: u39 :: u40 :: u41 :: u42 :: u43 :: u44 :: u45 :: u46 :: u47 :: u48 :: u49 :: u50 :: u51 :: u52 :: u53 :: u54 :: u55 :: u56 :: u57 :: u58 :: u59 :: u60 :: u61 :: u62 :: u63 :: u64 :: u65 :: u66 :: u67 :: u68 :: u69 :: u70 :: u71 :: u72 :: u73 :: u74 :: u75 :: u76 :: u77 :: u78 :: u79 :: u80 :: u81 :: u82 :: u83 :: u84 :: u85 :: u86 :: u87 :: u88 :: u89 :: u90 :: u91 :: u92 :: u93 :: u94 :: u95 :: u96 :: u97 :: u98 :: u99 :: u100 :: u101 :: u102 :: u103 :: u104 :: u105 :: u106 :: u107 :: u108 :: u109 :: u110 :: u111 :: u112 :: u113 :: u114 :: u115 :: u116 :: u117 :: u118 :: u119 :: u120 :: u121 :: u122 :: u123 :: u124 :: u125 :: u126 :: u127 :: u128 :: u129 :: u130 :: u131 :: u132 :: u133 :: u134 :: u135 :: u136 :: u137 :: u138 :: u139 :: u140 :: u141 :: u142 :: u143 :: u144 :: u145 :: u146 :: u147 :: u148 :: u149 :: u150 :: u151 :: u152 :: u153 :: u154 :: u155 :: u156 :: u157 :: u158 :: u159 :: u160 :: u161 :: u162 :: u163 :: x164 :: x165 :: x166 :: x167 :: x168 :: x169 :: x170 :: x171 :: x172 :: x173 :: x174 :: x175 :: x176 :: x177 :: x178 :: x179 :: x180 :: x181 :: u182 :: []), []⟩ w9) :
    Code.wp Tryz.prog C Q ⟨List.toArray (u0 :: u1 :: u2 :: u3 :: u4 :: u5 :: u6 :: .pointer (some ⟨bx, 0, none⟩) :: u8 :: u9 :: .pointer (some ⟨be, 0, none⟩) :: .pointer (some ⟨b, n * 4, none⟩) :: u12 :: u13 :: u14 :: u15 :: u16 :: u17 :: u18 :: u19 :: u20 :: u21 :: u22 :: u23 :: u24 :: u25 :: u26 :: u27 :: u28 :: u29 :: u30 :: u31 :: u32 :: u33 :: u34 :: u35 :: u36 :: u37 :: u38 :: u39 :: u40 :: u41 :: u42 :: u43 :: u44 :: u45 :: u46 :: u47 :: u48 :: u49 :: u50 :: u51 :: u52 :: u53 :: u54 :: u55 :: u56 :: u57 :: u58 :: u59 :: u60 :: u61 :: u62 :: u63 :: u64 :: u65 :: u66 :: u67 :: u68 :: u69 :: u70 :: u71 :: u72 :: u73 :: u74 :: u75 :: u76 :: u77 :: u78 :: u79 :: u80 :: u81 :: u82 :: u83 :: u84 :: u85 :: u86 :: u87 :: u88 :: u89 :: u90 :: u91 :: u92 :: u93 :: u94 :: u95 :: u96 :: u97 :: u98 :: u99 :: u100 :: u101 :: u102 :: u103 :: u104 :: u105 :: u106 :: u107 :: u108 :: u109 :: u110 :: u111 :: u112 :: u113 :: u114 :: u115 :: u116 :: u117 :: u118 :: u119 :: u120 :: u121 :: u122 :: u123 :: u124 :: u125 :: u126 :: u127 :: u128 :: u129 :: u130 :: u131 :: u132 :: u133 :: u134 :: u135 :: u136 :: u137 :: u138 :: u139 :: u140 :: u141 :: u142 :: u143 :: u144 :: u145 :: u146 :: u147 :: u148 :: u149 :: u150 :: u151 :: u152 :: u153 :: u154 :: u155 :: u156 :: u157 :: u158 :: u159 :: u160 :: u161 :: u162 :: u163 :: u164 :: u165 :: u166 :: u167 :: u168 :: u169 :: u170 :: u171 :: u172 :: u173 :: u174 :: u175 :: u176 :: u177 :: u178 :: u179 :: u180 :: u181 :: u182 :: []), []⟩ w6 := by
  have HQ := hid hK
  have KK := hid (show some (Value.int .i64 x.kind) = some (Value.int .i64 5) from by rw [hkd])
  have HBd := hid hd
  obtain rfl : (Tryz.f9.body.bind (regOf 29)).getD .skip = C := by rw [hcode]; rfl
  obtain ⟨i0, hi, hz0, hz1, hz2⟩ := info_parts Tryz.infoRAct
  have hkn := HD6.out.live n hn d HBd.out
  have m1 : (f n).acts.length + 1 ≤ maxLen := by have := hkn.len; unfold maxLen; omega
  have m2 : ((f n).acts.length + 1) * 72 ≤ 140737488355328 := by have := hkn.len; omega
  obtain ⟨-, -, -, o3⟩ := openL_get f hn
  have HDd := hid (HD6.out.quiet (Evo.drew 0 0 g6 w6))
  have HXd := hid (HX6.out.below (Below.refl w6.heap.size w6).drew)
  have HVd := hid (HV6.out.below (Below.refl w6.heap.size w6).drew)
  have HCd := hid (HC6.out.below (Below.refl w6.heap.size w6).drew)
  have HBd2 := hid (HB6.out.below' (Below.refl w6.heap.size w6).drew)
  have HLd := hid (HL6.out.below (Below.refl w6.heap.size w6).drew)
  have hS0 : w6.drew.cell? ⟨bx, 0, none⟩ = some (.int .i64 5) ∧ w6.drew.cell? ⟨bx, 4, none⟩ = some (.int .i64 x.key) ∧ w6.drew.cell? ⟨bx, 5, none⟩ = some (.int .i64 x.to_) ∧ w6.drew.cell? ⟨be, 4, none⟩ = some (.slice a5 yl.length c5) := ⟨(HXd.out.1.cell 0).trans KK.out, HXd.out.1.cell 4, HXd.out.1.cell 5, HVd.out.1.cell 4⟩
  have d3d := (HDd.out.loc.1.cell (n * 4 + 3)).trans o3
  clear HD6 HX6 HV6 HC6 HB6 HL6 hkn hkd hK hd hcode
  conv => arg 2; whnf
  -- REGION 29
  refine wp_region_noPanic ?_
  refine wp_region_held_drew (S := (fun W : World => W.cell? ⟨bx, 0, none⟩ = some (.int .i64 5) ∧ W.cell? ⟨bx, 4, none⟩ = some (.int .i64 x.key) ∧ W.cell? ⟨bx, 5, none⟩ = some (.int .i64 x.to_) ∧ W.cell? ⟨be, 4, none⟩ = some (.slice a5 yl.length c5))) (by kernel_rfl) ?_ (fun hH0 => ?_)
  · (try dsimp only); (first | assumption | exact hS0)
  refine wpAnyH_take (i := 0) (v := ?_) (by simp only [List.getElem?_toArray, List.getElem?_cons_zero]; rfl) (by kernel_rfl) (by kernel_rfl) (by kernel_rfl) (fun _ _ _ h => h) (Or.inl ⟨by rfl, ?_⟩) (by assumption) ?_
  rotate_left
  · intro w hSw; (try dsimp only at hSw); go_simp; (try with_reducible rfl)
  try simp only [Act.put, List.setIfInBounds_toArray, List.set_cons_zero, List.set_cons_succ]
  refine wpAnyH_take (i := 1) (v := ?_) (by simp only [List.getElem?_toArray, List.getElem?_cons_zero, List.getElem?_cons_succ]; rfl) (by kernel_rfl) (by kernel_rfl) (by kernel_rfl) (fun _ _ _ h => h) (Or.inl ⟨by rfl, ?_⟩) (by assumption) ?_
  rotate_left
  · intro w hSw; (try dsimp only at hSw); go_simp; (try with_reducible rfl)
  try simp only [Act.put, List.setIfInBounds_toArray, List.set_cons_zero, List.set_cons_succ]
  refine wpAnyH_take (i := 2) (v := ?_) (by simp only [List.getElem?_toArray, List.getElem?_cons_zero, List.getElem?_cons_succ]; rfl) (by kernel_rfl) (by kernel_rfl) (by kernel_rfl) (fun _ _ _ h => h) (Or.inl ⟨by rfl, ?_⟩) (by assumption) ?_
  rotate_left
  · intro w hSw; (try dsimp only at hSw); go_simp; (try with_reducible rfl)
  try simp only [Act.put, List.setIfInBounds_toArray, List.set_cons_zero, List.set_cons_succ]
  refine wpAnyH_take (i := 3) (v := ?_) (by simp only [List.getElem?_toArray, List.getElem?_cons_zero, List.getElem?_cons_succ]; rfl) (by kernel_rfl) (by kernel_rfl) (by kernel_rfl) (fun _ _ _ h => h) (Or.inl ⟨by rfl, ?_⟩) (by assumption) ?_
  rotate_left
  · intro w hSw; (try dsimp only at hSw); go_simp; (try with_reducible rfl)
  try simp only [Act.put, List.setIfInBounds_toArray, List.set_cons_zero, List.set_cons_succ]
  refine wpAnyH_take (i := 5) (v := ?_) (by simp only [List.getElem?_toArray, List.getElem?_cons_zero, List.getElem?_cons_succ]; rfl) (by kernel_rfl) (by kernel_rfl) (by kernel_rfl) (fun _ _ _ h => h) (Or.inl ⟨by rfl, ?_⟩) (by assumption) ?_
  rotate_left
  · intro w hSw; (try dsimp only at hSw); go_simp; (try with_reducible rfl)
  try simp only [Act.put, List.setIfInBounds_toArray, List.set_cons_zero, List.set_cons_succ]
  refine wpAnyH_take (i := 6) (v := ?_) (by simp only [List.getElem?_toArray, List.getElem?_cons_zero, List.getElem?_cons_succ]; rfl) (by kernel_rfl) (by kernel_rfl) (by kernel_rfl) (fun _ _ _ h => h) (Or.inl ⟨by rfl, ?_⟩) (by assumption) ?_
  rotate_left
  · intro w hSw; (try dsimp only at hSw); go_simp; (try with_reducible rfl)
  try simp only [Act.put, List.setIfInBounds_toArray, List.set_cons_zero, List.set_cons_succ]
  refine wpAnyH_take (i := 7) (v := ?_) (by simp only [List.getElem?_toArray, List.getElem?_cons_zero, List.getElem?_cons_succ]; rfl) (by kernel_rfl) (by kernel_rfl) (by kernel_rfl) (fun _ _ _ h => h) (Or.inl ⟨by rfl, ?_⟩) (by assumption) ?_
  rotate_left
  · intro w hSw; (try dsimp only at hSw); go_simp; (try with_reducible rfl)
  try simp only [Act.put, List.setIfInBounds_toArray, List.set_cons_zero, List.set_cons_succ]
  refine wpAnyH_take (i := 8) (v := ?_) (by simp only [List.getElem?_toArray, List.getElem?_cons_zero, List.getElem?_cons_succ]; rfl) (by kernel_rfl) (by kernel_rfl) (by kernel_rfl) (fun _ _ _ h => h) (Or.inl ⟨by rfl, ?_⟩) (by assumption) ?_
  rotate_left
  · intro w hSw; (try dsimp only at hSw); go_simp; (try with_reducible rfl)
  try simp only [Act.put, List.setIfInBounds_toArray, List.set_cons_zero, List.set_cons_succ]
  refine wpAnyH_take (i := 9) (v := ?_) (by simp only [List.getElem?_toArray, List.getElem?_cons_zero, List.getElem?_cons_succ]; rfl) (by kernel_rfl) (by kernel_rfl) (by kernel_rfl) (fun _ _ _ h => h) (Or.inl ⟨by rfl, ?_⟩) (by assumption) ?_
  rotate_left
  · intro w hSw; (try dsimp only at hSw); go_simp; (try with_reducible rfl)
  try simp only [Act.put, List.setIfInBounds_toArray, List.set_cons_zero, List.set_cons_succ]
  refine wpAnyH_take (i := 10) (v := ?_) (by simp only [List.getElem?_toArray, List.getElem?_cons_zero, List.getElem?_cons_succ]; rfl) (by kernel_rfl) (by kernel_rfl) (by kernel_rfl) (fun _ _ _ h => h) (Or.inl ⟨by rfl, ?_⟩) (by assumption) ?_
  rotate_left
  · intro w hSw; (try dsimp only at hSw); go_simp; (try with_reducible rfl)
  try simp only [Act.put, List.setIfInBounds_toArray, List.set_cons_zero, List.set_cons_succ]
  refine wpAnyH_take (i := 11) (v := ?_) (by simp only [List.getElem?_toArray, List.getElem?_cons_zero, List.getElem?_cons_succ]; rfl) (by kernel_rfl) (by kernel_rfl) (by kernel_rfl) (fun _ _ _ h => h) (Or.inl ⟨by rfl, ?_⟩) (by assumption) ?_
  rotate_left
  · intro w hSw; (try dsimp only at hSw); go_simp; (try with_reducible rfl)
  try simp only [Act.put, List.setIfInBounds_toArray, List.set_cons_zero, List.set_cons_succ]
  refine wpAnyH_take (i := 12) (v := ?_) (by simp only [List.getElem?_toArray, List.getElem?_cons_zero, List.getElem?_cons_succ]; rfl) (by kernel_rfl) (by kernel_rfl) (by kernel_rfl) (fun _ _ _ h => h) (Or.inl ⟨by rfl, ?_⟩) (by assumption) ?_
  rotate_left
  · intro w hSw; (try dsimp only at hSw); go_simp; (try with_reducible rfl)
  try simp only [Act.put, List.setIfInBounds_toArray, List.set_cons_zero, List.set_cons_succ]
  refine wpAnyH_take (i := 13) (v := ?_) (by simp only [List.getElem?_toArray, List.getElem?_cons_zero, List.getElem?_cons_succ]; rfl) (by kernel_rfl) (by kernel_rfl) (by kernel_rfl) (fun _ _ _ h => h) (Or.inl ⟨by rfl, ?_⟩) (by assumption) ?_
  rotate_left
  · intro w hSw; (try dsimp only at hSw); go_simp; (try with_reducible rfl)
  try simp only [Act.put, List.setIfInBounds_toArray, List.set_cons_zero, List.set_cons_succ]
  refine wpAnyH_ready (rs := [4, 14]) (by kernel_rfl) (by simp) ?_
  refine AllReadyH.cons (by simp only [List.getElem?_toArray, List.getElem?_cons_zero, List.getElem?_cons_succ]; rfl) (fun K hK => ?_) ?_
  go_simp
  skip
  try go_wp2_with fail
  refine hK.out _ _ ?_ (fun hH1 => ?_)
  · (try dsimp only); (first | assumption | exact hS0)
  clear hK K hH0
  try simp only [Act.put, List.setIfInBounds_toArray, List.set_cons_zero, List.set_cons_succ]
  refine wpAnyH_ready (rs := [14]) (by kernel_rfl) (by simp) ?_
  refine AllReadyH.cons (by simp only [List.getElem?_toArray, List.getElem?_cons_zero, List.getElem?_cons_succ]; rfl) (fun K hK => ?_) AllReadyH.nil
  go_simp
  have hA := Evo.alloc g6 0 w6.drew (.cells #[.int .i64 5, .int .i64 x.key, .int .i64 x.to_, .bool false, .string ⟨#[]⟩, .slice a5 yl.length c5] 44)
  have D8 := hid (HDd.out.quiet hA)
  have X8 := hid (HXd.out.frame hA (by omega))
  have V8 := hid (HVd.out.frame hA (by omega))
  have C8 := hid (HCd.out.frame hA (by omega))
  have B8 := hid (HBd2.out.step hA (by omega))
  have L8 := hid (HLd.out.frame hA (by omega))
  have cn := hid (cells_new w6.drew (encAcx (⟨⟨5, x.key, x.to_, Val.zero, yl⟩, a5, c5⟩ : Acx)) 44)
  have hS' : (w6.drew.alloc (.cells #[.int .i64 5, .int .i64 x.key, .int .i64 x.to_, .bool false, .string ⟨#[]⟩, .slice a5 yl.length c5] 44)).cell? ⟨bx, 0, none⟩ = some (.int .i64 5) ∧ (w6.drew.alloc (.cells #[.int .i64 5, .int .i64 x.key, .int .i64 x.to_, .bool false, .string ⟨#[]⟩, .slice a5 yl.length c5] 44)).cell? ⟨bx, 4, none⟩ = some (.int .i64 x.key) ∧ (w6.drew.alloc (.cells #[.int .i64 5, .int .i64 x.key, .int .i64 x.to_, .bool false, .string ⟨#[]⟩, .slice a5 yl.length c5] 44)).cell? ⟨bx, 5, none⟩ = some (.int .i64 x.to_) ∧ (w6.drew.alloc (.cells #[.int .i64 5, .int .i64 x.key, .int .i64 x.to_, .bool false, .string ⟨#[]⟩, .slice a5 yl.length c5] 44)).cell? ⟨be, 4, none⟩ = some (.slice a5 yl.length c5) := ⟨(X8.out.1.cell 0).trans KK.out, X8.out.1.cell 4, X8.out.1.cell 5, V8.out.1.cell 4⟩
  have d3a : (w6.alloc (.cells #[.int .i64 5, .int .i64 x.key, .int .i64 x.to_, .bool false, .string ⟨#[]⟩, .slice a5 yl.length c5] 44)).cell? ⟨b, n * 4 + 3, none⟩ = some (f n).v := (D8.out.loc.1.cell (n * 4 + 3)).trans o3
  clear hA
  try go_wp2_with fail
  refine hK.out _ _ ?_ (fun hH2 => ?_)
  · (try dsimp only); (first | assumption | exact hS0)
  clear hK K hH1
  try simp only [Act.put, List.setIfInBounds_toArray, List.set_cons_zero, List.set_cons_succ]
  refine wpAnyH_ready (rs := [15]) (by kernel_rfl) (by simp) ?_
  refine AllReadyH.cons (by simp only [List.getElem?_toArray, List.getElem?_cons_zero, List.getElem?_cons_succ]; rfl) (fun K hK => ?_) AllReadyH.nil
  have k8 := D8.out.live n hn d HBd.out
  refine wp_append2 (.tmp 168) (.tmp 178) 37 rfl 44 i0 (.agg #[.int .i64 0, .int .i64 0, .int .i64 0, .bool false, .string ByteArray.empty, .slice none 0 0]) 6 72 Tryz.underlying37 hi hz0 hz1 hz2 rfl (by decide) (f n).v (f n).acts.length (encActs (f n).acts) rfl k8.row.1 ⟨w6.drew.heap.size, 0, none⟩ 1 1 (encAcx (⟨⟨5, x.key, x.to_, Val.zero, yl⟩, a5, c5⟩ : Acx)) rfl rfl cn.out (encAcx_one _) m1 m2 ?_
  intro v9 w9 ho hg hf
  obtain ⟨av, cv, rfl, -, -⟩ := ownsRow.sliceAt ho
  obtain ⟨g9, hR, hE9⟩ : ∃ g9, RowC w9 g9 (f n).q 44 6 (.slice av ((f n).acts.length + 1) cv) ((f n).acts.length + 1) (encActs (f n).acts ++ encAcx (⟨⟨5, x.key, x.to_, Val.zero, yl⟩, a5, c5⟩ : Acx)) ∧ Evo (f n).q ((f n).q + 1) (extc g6 w6.drew 0) g9 _ w9 := ⟨_, k8.row.grown ho hg hf⟩
  have hq9 := k8.col
  have HR9 := hid hR
  have HE9 := hid hE9
  have X9 := hid (X8.out.frame hE9 (by omega))
  have V9 := hid (V8.out.frame hE9 (by omega))
  have C9 := hid (C8.out.frame hE9 (by omega))
  have B9 := hid (B8.out.step hE9 (by omega))
  have l9 := D8.out.loc.frame hE9 (by omega)
  have d3n := (l9.1.cell (n * 4 + 3)).trans o3
  have z3n := l9.1.free (n * 4 + 3)
  have hS' : w9.cell? ⟨bx, 0, none⟩ = some (.int .i64 5) ∧ w9.cell? ⟨bx, 4, none⟩ = some (.int .i64 x.key) ∧ w9.cell? ⟨bx, 5, none⟩ = some (.int .i64 x.to_) ∧ w9.cell? ⟨be, 4, none⟩ = some (.slice a5 yl.length c5) := ⟨(X9.out.1.cell 0).trans KK.out, X9.out.1.cell 4, X9.out.1.cell 5, V9.out.1.cell 4⟩
  clear ho hg hf hR hE9 k8
  refine hK.out _ _ ?_ (fun hH3 => ?_)
  · (try dsimp only); (first | assumption | exact hS0)
  clear hK K hH2
  try simp only [Act.put]
  refine wpAnyH_take (i := 16) (v := ?_) (by simp only [List.getElem?_toArray, List.getElem?_cons_zero, List.getElem?_cons_succ]; rfl) (by kernel_rfl) (by kernel_rfl) (by kernel_rfl) (fun _ _ _ h => h) (Or.inl ⟨by rfl, ?_⟩) (by assumption) ?_
  rotate_left
  · intro w hSw; (try dsimp only at hSw); go_simp; (try with_reducible rfl)
  try simp only [Act.put, List.setIfInBounds_toArray, List.set_cons_zero, List.set_cons_succ]
  refine wpAnyH_take (i := 17) (v := ?_) (by simp only [List.getElem?_toArray, List.getElem?_cons_zero, List.getElem?_cons_succ]; rfl) (by kernel_rfl) (by kernel_rfl) (by kernel_rfl) (fun _ _ _ h => h) (Or.inl ⟨by rfl, ?_⟩) (by assumption) ?_
  rotate_left
  · intro w hSw; (try dsimp only at hSw); go_simp; (try with_reducible rfl)
  try simp only [Act.put, List.setIfInBounds_toArray, List.set_cons_zero, List.set_cons_succ]
  refine wpAnyH_ready (rs := [18]) (by kernel_rfl) (by simp) ?_
  refine AllReadyH.cons (by simp only [List.getElem?_toArray, List.getElem?_cons_zero, List.getElem?_cons_succ]; rfl) (fun K hK => ?_) AllReadyH.nil
  go_simp
  have E10 := hid (evo_store (g := g9) (w := w9) (b := b) (i := n * 4 + 3) (.slice av ((f n).acts.length + 1) cv) l9.2)
  have l10 := l9.1.set (n * 4 + 3) (.slice av ((f n).acts.length + 1) cv)
  have X10 := hid (X9.out.frame E10.out (by omega))
  have V10 := hid (V9.out.frame E10.out (by omega))
  have C10 := hid (C9.out.frame E10.out (by omega))
  have B10 := hid (B9.out.step E10.out (by omega))
  have hS' : (w9.setCell ⟨b, n * 4 + 3, none⟩ (.slice av ((f n).acts.length + 1) cv)).cell? ⟨bx, 0, none⟩ = some (.int .i64 5) ∧ (w9.setCell ⟨b, n * 4 + 3, none⟩ (.slice av ((f n).acts.length + 1) cv)).cell? ⟨bx, 4, none⟩ = some (.int .i64 x.key) ∧ (w9.setCell ⟨b, n * 4 + 3, none⟩ (.slice av ((f n).acts.length + 1) cv)).cell? ⟨bx, 5, none⟩ = some (.int .i64 x.to_) ∧ (w9.setCell ⟨b, n * 4 + 3, none⟩ (.slice av ((f n).acts.length + 1) cv)).cell? ⟨be, 4, none⟩ = some (.slice a5 yl.length c5) := ⟨(X10.out.1.cell 0).trans KK.out, X10.out.1.cell 4, X10.out.1.cell 5, V10.out.1.cell 4⟩
  try go_wp2_with fail
  refine hK.out _ _ ?_ (fun hH4 => ?_)
  · (try dsimp only); (first | assumption | exact hS0)
  clear hK K hH3
  try simp only [Act.put, List.setIfInBounds_toArray, List.set_cons_zero, List.set_cons_succ]
  refine wpAnyH_done (by kernel_rfl) ?_ _
  refine NoPanic.normal ?_
  rotate_left
  refine AllReadyH.cons (by simp only [List.getElem?_toArray, List.getElem?_cons_zero, List.getElem?_cons_succ]; rfl) (fun K hK => ?_) AllReadyH.nil
  go_simp
  have hA := Evo.alloc g6 0 w6.drew (.cells #[.int .i64 5, .int .i64 x.key, .int .i64 x.to_, .bool false, .string ⟨#[]⟩, .slice a5 yl.length c5] 44)
  have D8 := hid (HDd.out.quiet hA)
  have X8 := hid (HXd.out.frame hA (by omega))
  have V8 := hid (HVd.out.frame hA (by omega))
  have C8 := hid (HCd.out.frame hA (by omega))
  have B8 := hid (HBd2.out.step hA (by omega))
  have L8 := hid (HLd.out.frame hA (by omega))
  have cn := hid (cells_new w6.drew (encAcx (⟨⟨5, x.key, x.to_, Val.zero, yl⟩, a5, c5⟩ : Acx)) 44)
  have hS' : (w6.drew.alloc (.cells #[.int .i64 5, .int .i64 x.key, .int .i64 x.to_, .bool false, .string ⟨#[]⟩, .slice a5 yl.length c5] 44)).cell? ⟨bx, 0, none⟩ = some (.int .i64 5) ∧ (w6.drew.alloc (.cells #[.int .i64 5, .int .i64 x.key, .int .i64 x.to_, .bool false, .string ⟨#[]⟩, .slice a5 yl.length c5] 44)).cell? ⟨bx, 4, none⟩ = some (.int .i64 x.key) ∧ (w6.drew.alloc (.cells #[.int .i64 5, .int .i64 x.key, .int .i64 x.to_, .bool false, .string ⟨#[]⟩, .slice a5 yl.length c5] 44)).cell? ⟨bx, 5, none⟩ = some (.int .i64 x.to_) ∧ (w6.drew.alloc (.cells #[.int .i64 5, .int .i64 x.key, .int .i64 x.to_, .bool false, .string ⟨#[]⟩, .slice a5 yl.length c5] 44)).cell? ⟨be, 4, none⟩ = some (.slice a5 yl.length c5) := ⟨(X8.out.1.cell 0).trans KK.out, X8.out.1.cell 4, X8.out.1.cell 5, V8.out.1.cell 4⟩
  have d3a : (w6.alloc (.cells #[.int .i64 5, .int .i64 x.key, .int .i64 x.to_, .bool false, .string ⟨#[]⟩, .slice a5 yl.length c5] 44)).cell? ⟨b, n * 4 + 3, none⟩ = some (f n).v := (D8.out.loc.1.cell (n * 4 + 3)).trans o3
  clear hA
  try go_wp2_with fail
  refine hK.out _ _ ?_ (fun hH5 => ?_)
  · (try dsimp only); (first | assumption | exact hS0)
  clear hK K hH0
  try simp only [Act.put, List.setIfInBounds_toArray, List.set_cons_zero, List.set_cons_succ]
  refine wpAnyH_ready (rs := [4]) (by kernel_rfl) (by simp) ?_
  refine AllReadyH.cons (by simp only [List.getElem?_toArray, List.getElem?_cons_zero, List.getElem?_cons_succ]; rfl) (fun K hK => ?_) AllReadyH.nil
  go_simp
  skip
  try go_wp2_with fail
  refine hK.out _ _ ?_ (fun hH6 => ?_)
  · (try dsimp only); (first | assumption | exact hS0)
  clear hK K hH5
  try simp only [Act.put, List.setIfInBounds_toArray, List.set_cons_zero, List.set_cons_succ]
  refine wpAnyH_ready (rs := [15]) (by kernel_rfl) (by simp) ?_
  refine AllReadyH.cons (by simp only [List.getElem?_toArray, List.getElem?_cons_zero, List.getElem?_cons_succ]; rfl) (fun K hK => ?_) AllReadyH.nil
  have k8 := D8.out.live n hn d HBd.out
  refine wp_append2 (.tmp 168) (.tmp 178) 37 rfl 44 i0 (.agg #[.int .i64 0, .int .i64 0, .int .i64 0, .bool false, .string ByteArray.empty, .slice none 0 0]) 6 72 Tryz.underlying37 hi hz0 hz1 hz2 rfl (by decide) (f n).v (f n).acts.length (encActs (f n).acts) rfl k8.row.1 ⟨w6.drew.heap.size, 0, none⟩ 1 1 (encAcx (⟨⟨5, x.key, x.to_, Val.zero, yl⟩, a5, c5⟩ : Acx)) rfl rfl cn.out (encAcx_one _) m1 m2 ?_
  intro v9 w9 ho hg hf
  obtain ⟨av, cv, rfl, -, -⟩ := ownsRow.sliceAt ho
  obtain ⟨g9, hR, hE9⟩ : ∃ g9, RowC w9 g9 (f n).q 44 6 (.slice av ((f n).acts.length + 1) cv) ((f n).acts.length + 1) (encActs (f n).acts ++ encAcx (⟨⟨5, x.key, x.to_, Val.zero, yl⟩, a5, c5⟩ : Acx)) ∧ Evo (f n).q ((f n).q + 1) (extc g6 w6.drew 0) g9 _ w9 := ⟨_, k8.row.grown ho hg hf⟩
  have hq9 := k8.col
  have HR9 := hid hR
  have HE9 := hid hE9
  have X9 := hid (X8.out.frame hE9 (by omega))
  have V9 := hid (V8.out.frame hE9 (by omega))
  have C9 := hid (C8.out.frame hE9 (by omega))
  have B9 := hid (B8.out.step hE9 (by omega))
  have l9 := D8.out.loc.frame hE9 (by omega)
  have d3n := (l9.1.cell (n * 4 + 3)).trans o3
  have z3n := l9.1.free (n * 4 + 3)
  have hS' : w9.cell? ⟨bx, 0, none⟩ = some (.int .i64 5) ∧ w9.cell? ⟨bx, 4, none⟩ = some (.int .i64 x.key) ∧ w9.cell? ⟨bx, 5, none⟩ = some (.int .i64 x.to_) ∧ w9.cell? ⟨be, 4, none⟩ = some (.slice a5 yl.length c5) := ⟨(X9.out.1.cell 0).trans KK.out, X9.out.1.cell 4, X9.out.1.cell 5, V9.out.1.cell 4⟩
  clear ho hg hf hR hE9 k8
  refine hK.out _ _ ?_ (fun hH7 => ?_)
  · (try dsimp only); (first | assumption | exact hS0)
  clear hK K hH6
  try simp only [Act.put]
  refine wpAnyH_take (i := 16) (v := ?_) (by simp only [List.getElem?_toArray, List.getElem?_cons_zero, List.getElem?_cons_succ]; rfl) (by kernel_rfl) (by kernel_rfl) (by kernel_rfl) (fun _ _ _ h => h) (Or.inl ⟨by rfl, ?_⟩) (by assumption) ?_
  rotate_left
  · intro w hSw; (try dsimp only at hSw); go_simp; (try with_reducible rfl)
  try simp only [Act.put, List.setIfInBounds_toArray, List.set_cons_zero, List.set_cons_succ]
  refine wpAnyH_take (i := 17) (v := ?_) (by simp only [List.getElem?_toArray, List.getElem?_cons_zero, List.getElem?_cons_succ]; rfl) (by kernel_rfl) (by kernel_rfl) (by kernel_rfl) (fun _ _ _ h => h) (Or.inl ⟨by rfl, ?_⟩) (by assumption) ?_
  rotate_left
  · intro w hSw; (try dsimp only at hSw); go_simp; (try with_reducible rfl)
  try simp only [Act.put, List.setIfInBounds_toArray, List.set_cons_zero, List.set_cons_succ]
  refine wpAnyH_ready (rs := [18]) (by kernel_rfl) (by simp) ?_
  refine AllReadyH.cons (by simp only [List.getElem?_toArray, List.getElem?_cons_zero, List.getElem?_cons_succ]; rfl) (fun K hK => ?_) AllReadyH.nil
  go_simp
  have E10 := hid (evo_store (g := g9) (w := w9) (b := b) (i := n * 4 + 3) (.slice av ((f n).acts.length + 1) cv) l9.2)
  have l10 := l9.1.set (n * 4 + 3) (.slice av ((f n).acts.length + 1) cv)
  have X10 := hid (X9.out.frame E10.out (by omega))
  have V10 := hid (V9.out.frame E10.out (by omega))
  have C10 := hid (C9.out.frame E10.out (by omega))
  have B10 := hid (B9.out.step E10.out (by omega))
  have hS' : (w9.setCell ⟨b, n * 4 + 3, none⟩ (.slice av ((f n).acts.length + 1) cv)).cell? ⟨bx, 0, none⟩ = some (.int .i64 5) ∧ (w9.setCell ⟨b, n * 4 + 3, none⟩ (.slice av ((f n).acts.length + 1) cv)).cell? ⟨bx, 4, none⟩ = some (.int .i64 x.key) ∧ (w9.setCell ⟨b, n * 4 + 3, none⟩ (.slice av ((f n).acts.length + 1) cv)).cell? ⟨bx, 5, none⟩ = some (.int .i64 x.to_) ∧ (w9.setCell ⟨b, n * 4 + 3, none⟩ (.slice av ((f n).acts.length + 1) cv)).cell? ⟨be, 4, none⟩ = some (.slice a5 yl.length c5) := ⟨(X10.out.1.cell 0).trans KK.out, X10.out.1.cell 4, X10.out.1.cell 5, V10.out.1.cell 4⟩
  try go_wp2_with fail
  refine hK.out _ _ ?_ (fun hH8 => ?_)
  · (try dsimp only); (first | assumption | exact hS0)
  clear hK K hH7
  try simp only [Act.put, List.setIfInBounds_toArray, List.set_cons_zero, List.set_cons_succ]
  refine wpAnyH_done (by kernel_rfl) ?_ _
  refine NoPanic.normal ?_
  rotate_left
  -- END 29
  all_goals
    have HD10 := hid (D8.out.acted hn HBd.out (z := (⟨⟨5, x.key, x.to_, Val.zero, yl⟩, a5, c5⟩ : Acx)) (by omega) (⟨L8.out, h8⟩) HE9.out HR9.out ⟨av, _, cv, rfl⟩ E10.out ⟨by
      have h := l10
      rw [openL_acts f hn _ ((f n).acts ++ [(⟨⟨5, x.key, x.to_, Val.zero, yl⟩, a5, c5⟩ : Acx)]) (f n).q] at h
      exact h, l9.2⟩)
    exact HQ.out _ _ _ _ _ _ _ _ _ _ _ _ _ _ _ _ _ _ _ _ _ C10 HD10 B10

end Go.Proofs.YtoiobhcgpajogadGreat

/- The ways of a round of the walk of the document's Deeds. -/
namespace Go.Proofs.YtoiobhcgpajogadGreat
open Go.RowKit

set_option maxHeartbeats 4000000 in
set_option maxRecDepth 100000 in
theorem deeds_noseat (w wr : World) (g : Nat → Nat) (c b nx k : Nat) (r : Ht × Bk) (ao : Option Addr) (co : Nat) (L : List Dnx) (f : Nat → Od) (x : St) (b1 o1 n0 cap : Nat) (hk5 : k ≤ 100000) (hki : (k : Int) < (n0 : Int)) (hnx : 27 ≤ nx) (hxm : x.bytes.size ≤ maxLen) (HPX : Hid (StCells wr b1 (o1 + k * 8) x))
    (HC : Hid (CourtAt wr g 1 c (8 * k) r.1)) (HD : Hid (DeedsC wr g 24 23 b nx k r.2 (.slice ao L.length co) L f)) (HB : Hid (Base w.heap.size w g wr)) (HG : Hid (GoodN r)) (hse' : isSeatB x.s = false)
    (C : Code) (hcode : Tryz.f9.body.bind loopOf = some C) (Q : Exit → Act → World → Prop) (u7 u8 u9 u10 u11 u13 u14 u15 u16 u17 u18 u19 u20 u21 u22 u23 u24 u25 u26 u27 u28 u29 u30 u31 u32 u33 u34 u35 u36 u37 u38 u39 u40 u41 u42 u43 u44 u45 u46 u47 u48 u49 u50 u51 u52 u53 u54 u55 u56 u57 u58 u59 u60 u61 u62 u63 u64 u65 u66 u67 u68 u69 u70 u71 u72 u73 u74 u75 u76 u77 u78 u79 u80 u81 u82 u83 u84 u85 u86 u87 u88 u89 u90 u91 u92 u93 u94 u95 u96 u97 u98 u99 u100 u101 u102 u103 u104 u105 u106 u107 u108 u109 u110 u111 u112 u113 u114 u115 u116 u117 u118 u119 u120 u121 u122 u123 u124 u125 u126 u127 u128 u129 u130 u131 u132 u133 u134 u135 u136 u137 u138 u139 u140 u141 u142 u143 u144 u145 u146 u147 u148 u149 u150 u151 u152 u153 u154 u155 u156 u157 u158 u159 u160 u161 u162 u163 u164 u165 u166 u167 u168 u169 u170 u171 u172 u173 u174 u175 u176 u177 u178 u179 u180 u181 u182 : Value)
    (hK : ∀ (x7 x8 x9 x10 x11 x13 x14 x15 x16 x17 x18 x19 x20 x21 x22 x23 x24 x25 x26 x27 x28 x29 x30 x31 x32 x33 x34 x35 x36 x37 x38 x39 x40 x41 x42 x43 x44 x45 x46 x47 x48 x49 x50 x51 x52 x53 x54 x55 x56 x57 x58 x59 x60 x61 x62 x63 x64 x65 x66 x67 x68 x69 x70 x71 x72 x73 x74 x75 x76 x77 x78 x79 x80 x81 x82 x83 x84 x85 x86 x87 x88 x89 x90 x91 x92 x93 x94 x95 x96 x97 x98 x99 x100 x101 x102 x103 x104 x105 x106 x107 x108 x109 x110 x111 x112 x113 x114 x115 x116 x117 x118 x119 x120 x121 x122 x123 x124 x125 x126 x127 x128 x129 x130 x131 x132 x133 x134 x135 x136 x137 x138 x139 x140 x141 x142 x143 x144 x145 x146 x147 x148 x149 x150 x151 x152 x153 x154 x155 x156 x157 x158 x159 x160 x161 x162 x163 x164 x165 x166 x167 x168 x169 x170 x171 x172 x173 x174 x175 x176 x177 x178 x179 x180 x181 : Value) (g' : Nat → Nat) (nx' : Nat) (L' : List Dnx) (F' : Nat → Od) (v' : Value) (w' : World), 27 ≤ nx' → Hid (CourtAt w' g' 1 c (8 * (k + 1)) (stepN r x).1) → Hid (DeedsC w' g' 24 23 b nx' (k + 1) (stepN r x).2 v' L' F') → Hid (Base w.heap.size w g' w') → Q .normal ⟨List.toArray (.slice (some ⟨b1, o1, none⟩) n0 cap :: undef :: .slice none 0 0 :: .pointer (some ⟨c, 0, none⟩) :: .pointer (some ⟨b, 0, none⟩) :: v' :: .int .i64 ((k : Int) + 1) :: x7 :: x8 :: x9 :: x10 :: x11 :: .pointer (some ⟨c, 0, none⟩) :: x13 :: x14 :: x15 :: x16 :: x17 :: x18 :: x19 :: x20 :: x21 :: x22 :: x23 :: x24 :: x25 :: x26 :: x27 :: x28 :: x29 :: x30 :: x31 :: x32 :: x33 :: x34 :: x35 :: x36 :: x37 :: x38 :: x39 :: x40 :: x41 :: x42 :: x43 :: x44 :: x45 :: x46 :: x47 :: x48 :: x49 :: x50 :: x51 :: x52 :: x53 :: x54 :: x55 :: x56 :: x57 :: x58 :: x59 :: x60 :: x61 :: x62 :: x63 :: x64 :: x65 :: x66 :: x67 :: x68 :: x69 :: x70 :: x71 :: x72 :: x73 :: x74 :: x75 :: x76 :: x77 :: x78 :: x79 :: x80 :: x81 :: x82 :: x83 :: x84 :: x85 :: x86 :: x87 :: x88 :: x89 :: x90 :: x91 :: x92 :: x93 :: x94 :: x95 :: x96 :: x97 :: x98 :: x99 :: x100 :: x101 :: x102 :: x103 :: x104 :: x105 :: x106 :: x107 :: x108 :: x109 :: x110 :: x111 :: x112 :: x113 :: x114 :: x115 :: x116 :: x117 :: x118 :: x119 :: x120 :: x121 :: x122 :: x123 :: x124 :: x125 :: x126 :: x127 :: x128 :: x129 :: x130 :: x131 :: x132 :: x133 :: x134 :: x135 :: x136 :: x137 :: x138 :: x139 :: x140 :: x141 :: x142 :: x143 :: x144 :: x145 :: x146 :: x147 :: x148 :: x149 :: x150 :: x151 :: x152 :: x153 :: x154 :: x155 :: x156 :: x157 :: x158 :: x159 :: x160 :: x161 :: x162 :: x163 :: x164 :: x165 :: x166 :: x167 :: x168 :: x169 :: x170 :: x171 :: x172 :: x173 :: x174 :: x175 :: x176 :: x177 :: x178 :: x179 :: x180 :: x181 :: u182 :: []), []⟩ w') :
    Code.wp Tryz.prog C Q ⟨List.toArray (.slice (some ⟨b1, o1, none⟩) n0 cap :: undef :: .slice none 0 0 :: .pointer (some ⟨c, 0, none⟩) :: .pointer (some ⟨b, 0, none⟩) :: .slice ao L.length co :: .int .i64 k :: u7 :: u8 :: u9 :: u10 :: u11 :: .pointer (some ⟨c, 0, none⟩) :: u13 :: u14 :: u15 :: u16 :: u17 :: u18 :: u19 :: u20 :: u21 :: u22 :: u23 :: u24 :: u25 :: u26 :: u27 :: u28 :: u29 :: u30 :: u31 :: u32 :: u33 :: u34 :: u35 :: u36 :: u37 :: u38 :: u39 :: u40 :: u41 :: u42 :: u43 :: u44 :: u45 :: u46 :: u47 :: u48 :: u49 :: u50 :: u51 :: u52 :: u53 :: u54 :: u55 :: u56 :: u57 :: u58 :: u59 :: u60 :: u61 :: u62 :: u63 :: u64 :: u65 :: u66 :: u67 :: u68 :: u69 :: u70 :: u71 :: u72 :: u73 :: u74 :: u75 :: u76 :: u77 :: u78 :: u79 :: u80 :: u81 :: u82 :: u83 :: u84 :: u85 :: u86 :: u87 :: u88 :: u89 :: u90 :: u91 :: u92 :: u93 :: u94 :: u95 :: u96 :: u97 :: u98 :: u99 :: u100 :: u101 :: u102 :: u103 :: u104 :: u105 :: u106 :: u107 :: u108 :: u109 :: u110 :: u111 :: u112 :: u113 :: u114 :: u115 :: u116 :: u117 :: u118 :: u119 :: u120 :: u121 :: u122 :: u123 :: u124 :: u125 :: u126 :: u127 :: u128 :: u129 :: u130 :: u131 :: u132 :: u133 :: u134 :: u135 :: u136 :: u137 :: u138 :: u139 :: u140 :: u141 :: u142 :: u143 :: u144 :: u145 :: u146 :: u147 :: u148 :: u149 :: u150 :: u151 :: u152 :: u153 :: u154 :: u155 :: u156 :: u157 :: u158 :: u159 :: u160 :: u161 :: u162 :: u163 :: u164 :: u165 :: u166 :: u167 :: u168 :: u169 :: u170 :: u171 :: u172 :: u173 :: u174 :: u175 :: u176 :: u177 :: u178 :: u179 :: u180 :: u181 :: u182 :: []), []⟩ wr := by
  have HQ := hid hK
  clear hK
  obtain rfl : (Tryz.f9.body.bind loopOf).getD .skip = C := by rw [hcode]; rfl
  clear hcode
  obtain ⟨P0, P1, P2, P3, P4, P5, P6, P7⟩ := HPX.out
  have hk0 : (0 : Int) ≤ (k : Int) := by omega
  obtain ⟨hvok, s, ds, hCL⟩ := HC.out
  conv => arg 2; whnf
  have HCL := hid hCL
  have HOK := hid (show r.1.v.Ok ∧ r.1.v.tab.Ok ∧ ∀ s, s < 5 → ∀ D, r.1.seats s = some D → D.Ok from ⟨hvok, hCL.sheet.1, fun i hi D hD => by
    obtain ⟨_, _, _, hh⟩ := hCL.work i hi D hD
    exact hh.ok⟩)
  have KP := hid HG.out.kept
  clear hvok hCL HG HC HPX
  go_upto_region 8 with (fail)
  have hA3 := Evo.alloc g 0 wr (.cells #[.int .i64 x.kind, .int .i64 x.s, .int .i64 x.mode, .int .i64 x.at_, .int .i64 x.key, .int .i64 x.to_, .int .i64 x.keep, .string x.bytes] 55)
  have HX3 : Hid (LocC (wr.alloc (.cells #[.int .i64 x.kind, .int .i64 x.s, .int .i64 x.mode, .int .i64 x.at_, .int .i64 x.key, .int .i64 x.to_, .int .i64 x.keep, .string x.bytes] 55)) (extc g wr 0) 0 wr.heap.size 55 (stL x)) := hid (LocC.new g 0 wr 55 (stL x))
  have HC3 := hid (HCL.out.frame hA3 (by omega))
  have HD3 := hid (HD.out.quiet hA3)
  have HB3 := hid (HB.out.step hA3 (by omega))
  clear hA3 HCL HD HB P0 P1 P2 P3 P4 P5 P6 P7
  generalize wr.alloc (.cells #[.int .i64 x.kind, .int .i64 x.s, .int .i64 x.mode, .int .i64 x.at_, .int .i64 x.key, .int .i64 x.to_, .int .i64 x.keep, .string x.bytes] 55) = w3 at *
  generalize extc g wr 0 = g3 at *
  generalize wr.heap.size = bx at *
  have c0 := HC3.out.top.1
  have c8 := HC3.out.sheet.n.1
  have k1 : w3.cell? ⟨bx, 1, none⟩ = some (.int .i64 x.s) := HX3.out.1.cell 1
  go_upto_region 9 with (fail)
  have SN1 := hid (show (stepN r x).1 = (doH r.1 x).2 from rfl)
  have SN2 := hid (show (stepN r x).2 = noteK r.2 x (doH r.1 x).1 r.1.v.tab.last from rfl)
  have SEAT := hid (fun W => ref_Seat x.s W)
  have hbz : busyB r.1 x = false := by unfold busyB; rw [hse']; rfl
  have SQ := hid (fun W => (show Calls Tryz.prog 25 #[.int .i64 x.s] W (fun e w' => e = .returned (.bool false) ∧ w' = W) from by
    have := SEAT.out W
    rw [hse'] at this
    exact this.mono (fun _ _ h => ⟨h.1, h.2.symm⟩)))
  go_wp2_with fail
  go_quiet ((go_at_call 25; exact Calls.quiet_of_same (SQ.out _)))
  have HC4 := hid (HC3.out.below (below_drewN w3 nq))
  have HD4 := hid (HD3.out.quiet (Evo.of_same (below_drewN w3 nq)))
  have HX4 := hid (HX3.out.below (below_drewN w3 nq))
  have HB4 := hid (HB3.out.below' (below_drewN w3 nq))
  clear HC3 HD3 HX3 HB3 c0 c8 k1
  generalize w3.drewN nq = w4 at *
  have k0 : w4.cell? ⟨bx, 0, none⟩ = some (.int .i64 x.kind) := HX4.out.1.cell 0
  have k1 : w4.cell? ⟨bx, 1, none⟩ = some (.int .i64 x.s) := HX4.out.1.cell 1
  have k2 : w4.cell? ⟨bx, 2, none⟩ = some (.int .i64 x.mode) := HX4.out.1.cell 2
  have k3 : w4.cell? ⟨bx, 3, none⟩ = some (.int .i64 x.at_) := HX4.out.1.cell 3
  have k4 : w4.cell? ⟨bx, 4, none⟩ = some (.int .i64 x.key) := HX4.out.1.cell 4
  have k5 : w4.cell? ⟨bx, 5, none⟩ = some (.int .i64 x.to_) := HX4.out.1.cell 5
  have k6 : w4.cell? ⟨bx, 6, none⟩ = some (.int .i64 x.keep) := HX4.out.1.cell 6
  have k7 : w4.cell? ⟨bx, 7, none⟩ = some (.string x.bytes) := HX4.out.1.cell 7
  go_wp2_with fail
  refine (court_Do2 g3 1 c (8 * k) r.1 x w4 (by omega) hxm ⟨HOK.out.1, s, ds, HC4.out⟩).mono ?_
  rintro e w5 ⟨a5, c5, g5, rfl, hC5, hE5, hs5, hn5, hq5⟩
  have HL5 : Hid (FixC w5 g5 23 a5 (encEnts (doH r.1 x).1.l)) := hid ⟨hs5, fun ad e => ⟨(hq5 ad e).2, (hq5 ad e).1⟩⟩
  have HD5 := hid (HD4.out.frame hE5 (.inl (by omega)) (by omega) (by omega))
  have HX5 := hid (HX4.out.frame hE5 (by omega))
  have HB5 := hid (HB4.out.step hE5 (by omega))
  have HC5 := hid hC5
  have T8 := hid (doH_told8 r.1 x)
  clear hC5 hE5 hs5 hn5 hq5 HC4 HD4 HX4 HB4 k0 k1 k2 k3 k4 k5 k6 k7
  have NI := hid (fun h => note_idle (last := r.1.v.tab.last) KP.out h hbz)
  have NO := hid (show ¬ (x.kind = 1 ∧ (doH r.1 x).1.code = 0) from fun h => by
    have := (doH_begun h.1 h.2).1
    rw [hse'] at this
    cases this)
  clear KP SEAT SQ
  generalize doH r.1 x = y at *
  obtain ⟨⟨yc, yn, yv, yl⟩, yH⟩ := y
  go_upto_region 11 with (fail)
  have hA6 := Evo.alloc g5 0 w5 (.cells #[.int .i64 yc, .int .i64 yn, .bool yv.there, .string yv.bytes, .slice a5 yl.length c5] 74)
  have HV6 : Hid (LocC (w5.alloc (.cells #[.int .i64 yc, .int .i64 yn, .bool yv.there, .string yv.bytes, .slice a5 yl.length c5] 74)) (extc g5 w5 0) 0 w5.heap.size 74 [.int .i64 yc, .int .i64 yn, .bool yv.there, .string yv.bytes, .slice a5 yl.length c5]) := hid (LocC.new g5 0 w5 _ _)
  have HC6 := hid (HC5.out.frame hA6 (by omega))
  have HD6 := hid (HD5.out.quiet hA6)
  have HX6 := hid (HX5.out.frame hA6 (by omega))
  have HB6 := hid (HB5.out.step hA6 (by omega))
  have HL6 := hid (HL5.out.frame hA6 (by omega))
  clear hA6 HC5 HD5 HX5 HB5 HL5
  generalize w5.alloc (.cells #[.int .i64 yc, .int .i64 yn, .bool yv.there, .string yv.bytes, .slice a5 yl.length c5] 74) = w6 at *
  generalize extc g5 w5 0 = g6 at *
  generalize w5.heap.size = be at *
  have k0 : w6.cell? ⟨bx, 0, none⟩ = some (.int .i64 x.kind) := HX6.out.1.cell 0
  have k1 : w6.cell? ⟨bx, 1, none⟩ = some (.int .i64 x.s) := HX6.out.1.cell 1
  have k2 : w6.cell? ⟨bx, 2, none⟩ = some (.int .i64 x.mode) := HX6.out.1.cell 2
  have k3 : w6.cell? ⟨bx, 3, none⟩ = some (.int .i64 x.at_) := HX6.out.1.cell 3
  have e0 : w6.cell? ⟨be, 0, none⟩ = some (.int .i64 yc) := HV6.out.1.cell 0
  have e1 : w6.cell? ⟨be, 1, none⟩ = some (.int .i64 yn) := HV6.out.1.cell 1
  have SUB := hid (NI.out NO.out)
  by_cases h1 : x.kind = 1
  · have hyc : (yc == 0) = false := by rw [beq_eq_false_iff_ne]; exact fun e => NO.out ⟨h1, e⟩
    rw [h1] at k0
    clear h1 NI NO
    go_wp2
    exact HQ.out _ _ _ _ _ _ _ _ _ _ _ _ _ _ _ _ _ _ _ _ _ _ _ _ _ _ _ _ _ _ _ _ _ _ _ _ _ _ _ _ _ _ _ _ _ _ _ _ _ _ _ _ _ _ _ _ _ _ _ _ _ _ _ _ _ _ _ _ _ _ _ _ _ _ _ _ _ _ _ _ _ _ _ _ _ _ _ _ _ _ _ _ _ _ _ _ _ _ _ _ _ _ _ _ _ _ _ _ _ _ _ _ _ _ _ _ _ _ _ _ _ _ _ _ _ _ _ _ _ _ _ _ _ _ _ _ _ _ _ _ _ _ _ _ _ _ _ _ _ _ _ _ _ _ _ _ _ _ _ _ _ _ _ _ _ _ _ _ _ _ _ _ _ _ g6 nx L f _ _ (by omega) (hid (by rw [SN1.out]; exact HC6.out)) (hid (by rw [SN2.out]; exact (HD6.out.sub SUB.out).more (by omega))) HB6
  · have q1 : (x.kind == 1) = false := by simpa using h1
    clear h1 NI NO
    go_wp2
    exact HQ.out _ _ _ _ _ _ _ _ _ _ _ _ _ _ _ _ _ _ _ _ _ _ _ _ _ _ _ _ _ _ _ _ _ _ _ _ _ _ _ _ _ _ _ _ _ _ _ _ _ _ _ _ _ _ _ _ _ _ _ _ _ _ _ _ _ _ _ _ _ _ _ _ _ _ _ _ _ _ _ _ _ _ _ _ _ _ _ _ _ _ _ _ _ _ _ _ _ _ _ _ _ _ _ _ _ _ _ _ _ _ _ _ _ _ _ _ _ _ _ _ _ _ _ _ _ _ _ _ _ _ _ _ _ _ _ _ _ _ _ _ _ _ _ _ _ _ _ _ _ _ _ _ _ _ _ _ _ _ _ _ _ _ _ _ _ _ _ _ _ _ _ _ _ _ g6 nx L f _ _ (by omega) (hid (by rw [SN1.out]; exact HC6.out)) (hid (by rw [SN2.out]; exact (HD6.out.sub SUB.out).more (by omega))) HB6

set_option maxHeartbeats 4000000 in
set_option maxRecDepth 100000 in
theorem deeds_idle (w wr : World) (g : Nat → Nat) (c b nx k : Nat) (r : Ht × Bk) (ao : Option Addr) (co : Nat) (L : List Dnx) (f : Nat → Od) (x : St) (b1 o1 n0 cap : Nat) (hk5 : k ≤ 100000) (hki : (k : Int) < (n0 : Int)) (hnx : 27 ≤ nx) (hxm : x.bytes.size ≤ maxLen) (HPX : Hid (StCells wr b1 (o1 + k * 8) x))
    (HC : Hid (CourtAt wr g 1 c (8 * k) r.1)) (HD : Hid (DeedsC wr g 24 23 b nx k r.2 (.slice ao L.length co) L f)) (HB : Hid (Base w.heap.size w g wr)) (HG : Hid (GoodN r)) (hse : isSeatB x.s = true) (hd : r.1.seats x.s.toNat = none)
    (C : Code) (hcode : Tryz.f9.body.bind loopOf = some C) (Q : Exit → Act → World → Prop) (u7 u8 u9 u10 u11 u13 u14 u15 u16 u17 u18 u19 u20 u21 u22 u23 u24 u25 u26 u27 u28 u29 u30 u31 u32 u33 u34 u35 u36 u37 u38 u39 u40 u41 u42 u43 u44 u45 u46 u47 u48 u49 u50 u51 u52 u53 u54 u55 u56 u57 u58 u59 u60 u61 u62 u63 u64 u65 u66 u67 u68 u69 u70 u71 u72 u73 u74 u75 u76 u77 u78 u79 u80 u81 u82 u83 u84 u85 u86 u87 u88 u89 u90 u91 u92 u93 u94 u95 u96 u97 u98 u99 u100 u101 u102 u103 u104 u105 u106 u107 u108 u109 u110 u111 u112 u113 u114 u115 u116 u117 u118 u119 u120 u121 u122 u123 u124 u125 u126 u127 u128 u129 u130 u131 u132 u133 u134 u135 u136 u137 u138 u139 u140 u141 u142 u143 u144 u145 u146 u147 u148 u149 u150 u151 u152 u153 u154 u155 u156 u157 u158 u159 u160 u161 u162 u163 u164 u165 u166 u167 u168 u169 u170 u171 u172 u173 u174 u175 u176 u177 u178 u179 u180 u181 u182 : Value)
    (hK : ∀ (x7 x8 x9 x10 x11 x13 x14 x15 x16 x17 x18 x19 x20 x21 x22 x23 x24 x25 x26 x27 x28 x29 x30 x31 x32 x33 x34 x35 x36 x37 x38 x39 x40 x41 x42 x43 x44 x45 x46 x47 x48 x49 x50 x51 x52 x53 x54 x55 x56 x57 x58 x59 x60 x61 x62 x63 x64 x65 x66 x67 x68 x69 x70 x71 x72 x73 x74 x75 x76 x77 x78 x79 x80 x81 x82 x83 x84 x85 x86 x87 x88 x89 x90 x91 x92 x93 x94 x95 x96 x97 x98 x99 x100 x101 x102 x103 x104 x105 x106 x107 x108 x109 x110 x111 x112 x113 x114 x115 x116 x117 x118 x119 x120 x121 x122 x123 x124 x125 x126 x127 x128 x129 x130 x131 x132 x133 x134 x135 x136 x137 x138 x139 x140 x141 x142 x143 x144 x145 x146 x147 x148 x149 x150 x151 x152 x153 x154 x155 x156 x157 x158 x159 x160 x161 x162 x163 x164 x165 x166 x167 x168 x169 x170 x171 x172 x173 x174 x175 x176 x177 x178 x179 x180 x181 : Value) (g' : Nat → Nat) (nx' : Nat) (L' : List Dnx) (F' : Nat → Od) (v' : Value) (w' : World), 27 ≤ nx' → Hid (CourtAt w' g' 1 c (8 * (k + 1)) (stepN r x).1) → Hid (DeedsC w' g' 24 23 b nx' (k + 1) (stepN r x).2 v' L' F') → Hid (Base w.heap.size w g' w') → Q .normal ⟨List.toArray (.slice (some ⟨b1, o1, none⟩) n0 cap :: undef :: .slice none 0 0 :: .pointer (some ⟨c, 0, none⟩) :: .pointer (some ⟨b, 0, none⟩) :: v' :: .int .i64 ((k : Int) + 1) :: x7 :: x8 :: x9 :: x10 :: x11 :: .pointer (some ⟨c, 0, none⟩) :: x13 :: x14 :: x15 :: x16 :: x17 :: x18 :: x19 :: x20 :: x21 :: x22 :: x23 :: x24 :: x25 :: x26 :: x27 :: x28 :: x29 :: x30 :: x31 :: x32 :: x33 :: x34 :: x35 :: x36 :: x37 :: x38 :: x39 :: x40 :: x41 :: x42 :: x43 :: x44 :: x45 :: x46 :: x47 :: x48 :: x49 :: x50 :: x51 :: x52 :: x53 :: x54 :: x55 :: x56 :: x57 :: x58 :: x59 :: x60 :: x61 :: x62 :: x63 :: x64 :: x65 :: x66 :: x67 :: x68 :: x69 :: x70 :: x71 :: x72 :: x73 :: x74 :: x75 :: x76 :: x77 :: x78 :: x79 :: x80 :: x81 :: x82 :: x83 :: x84 :: x85 :: x86 :: x87 :: x88 :: x89 :: x90 :: x91 :: x92 :: x93 :: x94 :: x95 :: x96 :: x97 :: x98 :: x99 :: x100 :: x101 :: x102 :: x103 :: x104 :: x105 :: x106 :: x107 :: x108 :: x109 :: x110 :: x111 :: x112 :: x113 :: x114 :: x115 :: x116 :: x117 :: x118 :: x119 :: x120 :: x121 :: x122 :: x123 :: x124 :: x125 :: x126 :: x127 :: x128 :: x129 :: x130 :: x131 :: x132 :: x133 :: x134 :: x135 :: x136 :: x137 :: x138 :: x139 :: x140 :: x141 :: x142 :: x143 :: x144 :: x145 :: x146 :: x147 :: x148 :: x149 :: x150 :: x151 :: x152 :: x153 :: x154 :: x155 :: x156 :: x157 :: x158 :: x159 :: x160 :: x161 :: x162 :: x163 :: x164 :: x165 :: x166 :: x167 :: x168 :: x169 :: x170 :: x171 :: x172 :: x173 :: x174 :: x175 :: x176 :: x177 :: x178 :: x179 :: x180 :: x181 :: u182 :: []), []⟩ w') :
    Code.wp Tryz.prog C Q ⟨List.toArray (.slice (some ⟨b1, o1, none⟩) n0 cap :: undef :: .slice none 0 0 :: .pointer (some ⟨c, 0, none⟩) :: .pointer (some ⟨b, 0, none⟩) :: .slice ao L.length co :: .int .i64 k :: u7 :: u8 :: u9 :: u10 :: u11 :: .pointer (some ⟨c, 0, none⟩) :: u13 :: u14 :: u15 :: u16 :: u17 :: u18 :: u19 :: u20 :: u21 :: u22 :: u23 :: u24 :: u25 :: u26 :: u27 :: u28 :: u29 :: u30 :: u31 :: u32 :: u33 :: u34 :: u35 :: u36 :: u37 :: u38 :: u39 :: u40 :: u41 :: u42 :: u43 :: u44 :: u45 :: u46 :: u47 :: u48 :: u49 :: u50 :: u51 :: u52 :: u53 :: u54 :: u55 :: u56 :: u57 :: u58 :: u59 :: u60 :: u61 :: u62 :: u63 :: u64 :: u65 :: u66 :: u67 :: u68 :: u69 :: u70 :: u71 :: u72 :: u73 :: u74 :: u75 :: u76 :: u77 :: u78 :: u79 :: u80 :: u81 :: u82 :: u83 :: u84 :: u85 :: u86 :: u87 :: u88 :: u89 :: u90 :: u91 :: u92 :: u93 :: u94 :: u95 :: u96 :: u97 :: u98 :: u99 :: u100 :: u101 :: u102 :: u103 :: u104 :: u105 :: u106 :: u107 :: u108 :: u109 :: u110 :: u111 :: u112 :: u113 :: u114 :: u115 :: u116 :: u117 :: u118 :: u119 :: u120 :: u121 :: u122 :: u123 :: u124 :: u125 :: u126 :: u127 :: u128 :: u129 :: u130 :: u131 :: u132 :: u133 :: u134 :: u135 :: u136 :: u137 :: u138 :: u139 :: u140 :: u141 :: u142 :: u143 :: u144 :: u145 :: u146 :: u147 :: u148 :: u149 :: u150 :: u151 :: u152 :: u153 :: u154 :: u155 :: u156 :: u157 :: u158 :: u159 :: u160 :: u161 :: u162 :: u163 :: u164 :: u165 :: u166 :: u167 :: u168 :: u169 :: u170 :: u171 :: u172 :: u173 :: u174 :: u175 :: u176 :: u177 :: u178 :: u179 :: u180 :: u181 :: u182 :: []), []⟩ wr := by
  have HQ := hid hK
  clear hK
  obtain rfl : (Tryz.f9.body.bind loopOf).getD .skip = C := by rw [hcode]; rfl
  clear hcode
  obtain ⟨P0, P1, P2, P3, P4, P5, P6, P7⟩ := HPX.out
  have hk0 : (0 : Int) ≤ (k : Int) := by omega
  obtain ⟨hvok, s, ds, hCL⟩ := HC.out
  conv => arg 2; whnf
  have HCL := hid hCL
  have HOK := hid (show r.1.v.Ok ∧ r.1.v.tab.Ok ∧ ∀ s, s < 5 → ∀ D, r.1.seats s = some D → D.Ok from ⟨hvok, hCL.sheet.1, fun i hi D hD => by
    obtain ⟨_, _, _, hh⟩ := hCL.work i hi D hD
    exact hh.ok⟩)
  have KP := hid HG.out.kept
  clear hvok hCL HG HC HPX
  go_upto_region 8 with (fail)
  have hA3 := Evo.alloc g 0 wr (.cells #[.int .i64 x.kind, .int .i64 x.s, .int .i64 x.mode, .int .i64 x.at_, .int .i64 x.key, .int .i64 x.to_, .int .i64 x.keep, .string x.bytes] 55)
  have HX3 : Hid (LocC (wr.alloc (.cells #[.int .i64 x.kind, .int .i64 x.s, .int .i64 x.mode, .int .i64 x.at_, .int .i64 x.key, .int .i64 x.to_, .int .i64 x.keep, .string x.bytes] 55)) (extc g wr 0) 0 wr.heap.size 55 (stL x)) := hid (LocC.new g 0 wr 55 (stL x))
  have HC3 := hid (HCL.out.frame hA3 (by omega))
  have HD3 := hid (HD.out.quiet hA3)
  have HB3 := hid (HB.out.step hA3 (by omega))
  clear hA3 HCL HD HB P0 P1 P2 P3 P4 P5 P6 P7
  generalize wr.alloc (.cells #[.int .i64 x.kind, .int .i64 x.s, .int .i64 x.mode, .int .i64 x.at_, .int .i64 x.key, .int .i64 x.to_, .int .i64 x.keep, .string x.bytes] 55) = w3 at *
  generalize extc g wr 0 = g3 at *
  generalize wr.heap.size = bx at *
  have c0 := HC3.out.top.1
  have c8 := HC3.out.sheet.n.1
  have k1 : w3.cell? ⟨bx, 1, none⟩ = some (.int .i64 x.s) := HX3.out.1.cell 1
  go_upto_region 9 with (fail)
  have SN1 := hid (show (stepN r x).1 = (doH r.1 x).2 from rfl)
  have SN2 := hid (show (stepN r x).2 = noteK r.2 x (doH r.1 x).1 r.1.v.tab.last from rfl)
  have SEAT := hid (fun W => ref_Seat x.s W)
  obtain ⟨n, hn, hxn⟩ := seat_nat hse
  have hxt : x.s.toNat = n := by rw [hxn]; rfl
  rw [hxt] at hd
  have hs1 := (HC3.out.seat hn).1
  have hbz : busyB r.1 x = false := by unfold busyB; rw [hxt, hd]; simp
  have s1 : w3.cell? ⟨c, 3 + n, none⟩ = some (.pointer none) := by rw [hs1]; unfold seatP; rw [hd]
  have SQ := hid (fun W => (show Calls Tryz.prog 25 #[.int .i64 (n : Int)] W (fun e w' => e = .returned (.bool true) ∧ w' = W) from by
    have := SEAT.out W
    rw [hse, hxn] at this
    exact this.mono (fun _ _ h => ⟨h.1, h.2.symm⟩)))
  have k1 : w3.cell? ⟨bx, 1, none⟩ = some (.int .i64 (n : Int)) := by rw [← hxn]; exact k1
  have hn0 : (0 : Int) ≤ (n : Int) := by omega
  have hn5 : (n : Int) < 5 := by omega
  have HXN := hid hxn
  have HXT := hid hxt
  clear hs1 hd hxn hxt
  go_wp2_with fail
  go_region_held3 (fun W : World => W.cell? ⟨bx, 1, none⟩ = some (.int .i64 (n : Int)) ∧ W.cell? ⟨c, 3 + n, none⟩ = some (.pointer none))
    (exact ⟨k1, s1⟩)
    (first
      | (go_at_call 25; refine (SQ.out _).mono ?_; rintro e w9 ⟨rfl, rfl⟩))
  clear s1
  have HC4 := hid (HC3.out.below ((Below.refl w3.heap.size w3).drew))
  have HD4 := hid (HD3.out.quiet (Evo.of_same ((Below.refl w3.heap.size w3).drew)))
  have HX4 := hid (HX3.out.below ((Below.refl w3.heap.size w3).drew))
  have HB4 := hid (HB3.out.below' ((Below.refl w3.heap.size w3).drew))
  clear HC3 HD3 HX3 HB3 c0 c8 k1
  generalize w3.drew = w4 at *
  have k0 : w4.cell? ⟨bx, 0, none⟩ = some (.int .i64 x.kind) := HX4.out.1.cell 0
  have k1 : w4.cell? ⟨bx, 1, none⟩ = some (.int .i64 (n : Int)) := by rw [← HXN.out]; exact HX4.out.1.cell 1
  have k2 : w4.cell? ⟨bx, 2, none⟩ = some (.int .i64 x.mode) := HX4.out.1.cell 2
  have k3 : w4.cell? ⟨bx, 3, none⟩ = some (.int .i64 x.at_) := HX4.out.1.cell 3
  have k4 : w4.cell? ⟨bx, 4, none⟩ = some (.int .i64 x.key) := HX4.out.1.cell 4
  have k5 : w4.cell? ⟨bx, 5, none⟩ = some (.int .i64 x.to_) := HX4.out.1.cell 5
  have k6 : w4.cell? ⟨bx, 6, none⟩ = some (.int .i64 x.keep) := HX4.out.1.cell 6
  have k7 : w4.cell? ⟨bx, 7, none⟩ = some (.string x.bytes) := HX4.out.1.cell 7
  go_wp2_with fail
  have PD := court_Do2 g3 1 c (8 * k) r.1 x w4 (by omega) hxm ⟨HOK.out.1, s, ds, HC4.out⟩
  rw [HXN.out] at PD
  refine PD.mono ?_
  clear PD
  rintro e w5 ⟨a5, c5, g5, rfl, hC5, hE5, hs5, hn5, hq5⟩
  have HL5 : Hid (FixC w5 g5 23 a5 (encEnts (doH r.1 x).1.l)) := hid ⟨hs5, fun ad e => ⟨(hq5 ad e).2, (hq5 ad e).1⟩⟩
  have HD5 := hid (HD4.out.frame hE5 (.inl (by omega)) (by omega) (by omega))
  have HX5 := hid (HX4.out.frame hE5 (by omega))
  have HB5 := hid (HB4.out.step hE5 (by omega))
  have HC5 := hid hC5
  have T8 := hid (doH_told8 r.1 x)
  clear hC5 hE5 hs5 hn5 hq5 HC4 HD4 HX4 HB4 k0 k1 k2 k3 k4 k5 k6 k7
  have NI := hid (fun h => note_idle (last := r.1.v.tab.last) KP.out h hbz)
  have NB := hid (fun (h : x.kind = 1 ∧ (doH r.1 x).1.code = 0) => (note_begun (B := r.2) (last := r.1.v.tab.last) h.1 h.2 hse))
  rw [HXT.out] at NB
  clear KP SEAT SQ
  generalize doH r.1 x = y at *
  obtain ⟨⟨yc, yn, yv, yl⟩, yH⟩ := y
  go_upto_region 11 with (fail)
  have hA6 := Evo.alloc g5 0 w5 (.cells #[.int .i64 yc, .int .i64 yn, .bool yv.there, .string yv.bytes, .slice a5 yl.length c5] 74)
  have HV6 : Hid (LocC (w5.alloc (.cells #[.int .i64 yc, .int .i64 yn, .bool yv.there, .string yv.bytes, .slice a5 yl.length c5] 74)) (extc g5 w5 0) 0 w5.heap.size 74 [.int .i64 yc, .int .i64 yn, .bool yv.there, .string yv.bytes, .slice a5 yl.length c5]) := hid (LocC.new g5 0 w5 _ _)
  have HC6 := hid (HC5.out.frame hA6 (by omega))
  have HD6 := hid (HD5.out.quiet hA6)
  have HX6 := hid (HX5.out.frame hA6 (by omega))
  have HB6 := hid (HB5.out.step hA6 (by omega))
  have HL6 := hid (HL5.out.frame hA6 (by omega))
  clear hA6 HC5 HD5 HX5 HB5 HL5
  generalize w5.alloc (.cells #[.int .i64 yc, .int .i64 yn, .bool yv.there, .string yv.bytes, .slice a5 yl.length c5] 74) = w6 at *
  generalize extc g5 w5 0 = g6 at *
  generalize w5.heap.size = be at *
  have k0 : w6.cell? ⟨bx, 0, none⟩ = some (.int .i64 x.kind) := HX6.out.1.cell 0
  have k1 : w6.cell? ⟨bx, 1, none⟩ = some (.int .i64 (n : Int)) := by rw [← HXN.out]; exact HX6.out.1.cell 1
  have k2 : w6.cell? ⟨bx, 2, none⟩ = some (.int .i64 x.mode) := HX6.out.1.cell 2
  have k3 : w6.cell? ⟨bx, 3, none⟩ = some (.int .i64 x.at_) := HX6.out.1.cell 3
  have e0 : w6.cell? ⟨be, 0, none⟩ = some (.int .i64 yc) := HV6.out.1.cell 0
  have e1 : w6.cell? ⟨be, 1, none⟩ = some (.int .i64 yn) := HV6.out.1.cell 1
  by_cases h1 : x.kind = 1
  · rw [h1] at k0
    by_cases hyc0 : yc = 0
    · have NB2 := hid (NB.out ⟨h1, hyc0⟩)
      rw [hyc0] at e0
      clear h1 hyc0 NI NB
      obtain ⟨o0, o1', o2, o3⟩ := openL_get f hn
      have d0 := (HD6.out.loc.1.cell (n * 4)).trans o0
      have d1 := (HD6.out.loc.1.cell (n * 4 + 1)).trans o1'
      have d2 := (HD6.out.loc.1.cell (n * 4 + 2)).trans o2
      have d3 := (HD6.out.loc.1.cell (n * 4 + 3)).trans o3
      have z0 := HD6.out.loc.1.free (n * 4)
      have z1 := HD6.out.loc.1.free (n * 4 + 1)
      have z2 := HD6.out.loc.1.free (n * 4 + 2)
      have z3 := HD6.out.loc.1.free (n * 4 + 3)
      go_upto_region 13 with (fail)
      have L7 : Hid (LocC ((((w6.setCell ⟨b, n * 4, none⟩ (.int .i64 0)).setCell ⟨b, n * 4 + 1, none⟩ (.int .i64 r.1.v.tab.last)).setCell ⟨b, n * 4 + 2, none⟩ (.int .i64 x.mode)).setCell ⟨b, n * 4 + 3, none⟩ (.slice none 0 0)) g6 24 b 79 (openL (upd f n ⟨0, r.1.v.tab.last, x.mode, .slice none 0 0, [], nx⟩))) := hid ⟨by
        have h := (((HD6.out.loc.1.set (n * 4) (.int .i64 0)).set (n * 4 + 1) (.int .i64 r.1.v.tab.last)).set (n * 4 + 2) (.int .i64 x.mode)).set (n * 4 + 3) (.slice none 0 0)
        rw [openL_n f hn, openL_at _ hn, openL_mode _ hn, openL_acts _ hn _ [] nx] at h
        simp only [upd_same, upd_upd] at h
        exact h, HD6.out.loc.2⟩
      have E7 : Evo 24 25 g6 g6 w6 ((((w6.setCell ⟨b, n * 4, none⟩ (.int .i64 0)).setCell ⟨b, n * 4 + 1, none⟩ (.int .i64 r.1.v.tab.last)).setCell ⟨b, n * 4 + 2, none⟩ (.int .i64 x.mode)).setCell ⟨b, n * 4 + 3, none⟩ (.slice none 0 0)) :=
        (((evo_store _ HD6.out.loc.2).trans (evo_store _ HD6.out.loc.2)).trans (evo_store _ HD6.out.loc.2)).trans (evo_store _ HD6.out.loc.2)
      have E7 := hid E7
      have HX7 := hid (HX6.out.frame E7.out (by omega))
      clear d0 d1 d2 d3 z0 z1 z2 z3 k0 k1 k2 k3 e0 e1
      generalize (((w6.setCell ⟨b, n * 4, none⟩ (.int .i64 0)).setCell ⟨b, n * 4 + 1, none⟩ (.int .i64 r.1.v.tab.last)).setCell ⟨b, n * 4 + 2, none⟩ (.int .i64 x.mode)).setCell ⟨b, n * 4 + 3, none⟩ (.slice none 0 0) = w7 at *
      have k1 : w7.cell? ⟨bx, 1, none⟩ = some (.int .i64 (n : Int)) := by rw [← HXN.out]; exact HX7.out.1.cell 1
      have k2 : w7.cell? ⟨bx, 2, none⟩ = some (.int .i64 x.mode) := HX7.out.1.cell 2
      have k3 : w7.cell? ⟨bx, 3, none⟩ = some (.int .i64 x.at_) := HX7.out.1.cell 3
      obtain ⟨-, o1', -, -⟩ := openL_get (upd f n ⟨0, r.1.v.tab.last, x.mode, .slice none 0 0, [], nx⟩) hn
      have d1 := (L7.out.1.cell (n * 4 + 1)).trans o1'
      have z1 := L7.out.1.free (n * 4 + 1)
      by_cases hm : x.mode = 3
      · rw [hm] at k2
        have DB := hid (fun w8 (E8 : Evo 24 25 g6 g6 w6 w8) (h8 : LocC w8 g6 24 b 79 (openL (upd f n ⟨0, x.at_, x.mode, .slice none 0 0, [], nx⟩))) => HD6.out.begun hn (a := x.at_) (m := x.mode) hnx (by omega) E8 h8)
        have NB3 := hid (show noteK r.2 x ⟨yc, yn, yv, yl⟩ r.1.v.tab.last = ⟨upd r.2.seats n (some ⟨0, x.at_, x.mode, []⟩), r.2.l⟩ from by have := NB2.out; rw [if_pos hm] at this; exact this)
        clear hm NB2
        go_wp2
        have E8 : Evo 24 25 g6 g6 w7 (w7.setCell ⟨b, n * 4 + 1, none⟩ (.int .i64 x.at_)) := evo_store _ L7.out.2
        have L8 : LocC (w7.setCell ⟨b, n * 4 + 1, none⟩ (.int .i64 x.at_)) g6 24 b 79 (openL (upd f n ⟨0, x.at_, x.mode, .slice none 0 0, [], nx⟩)) := ⟨by
          have h := L7.out.1.set (n * 4 + 1) (.int .i64 x.at_)
          rw [openL_at _ hn] at h
          simp only [upd_same, upd_upd] at h
          exact h, L7.out.2⟩
        have HD8 := hid (DB.out _ (E7.out.trans E8) L8)
        have HC8 := hid ((HC6.out.frame E7.out (by omega)).frame E8 (by omega))
        have HB8 := hid ((HB6.out.step E7.out (by omega)).step E8 (by omega))
        exact HQ.out _ _ _ _ _ _ _ _ _ _ _ _ _ _ _ _ _ _ _ _ _ _ _ _ _ _ _ _ _ _ _ _ _ _ _ _ _ _ _ _ _ _ _ _ _ _ _ _ _ _ _ _ _ _ _ _ _ _ _ _ _ _ _ _ _ _ _ _ _ _ _ _ _ _ _ _ _ _ _ _ _ _ _ _ _ _ _ _ _ _ _ _ _ _ _ _ _ _ _ _ _ _ _ _ _ _ _ _ _ _ _ _ _ _ _ _ _ _ _ _ _ _ _ _ _ _ _ _ _ _ _ _ _ _ _ _ _ _ _ _ _ _ _ _ _ _ _ _ _ _ _ _ _ _ _ _ _ _ _ _ _ _ _ _ _ _ _ _ _ _ _ _ _ _ g6 (nx + 1) L _ _ _ (by omega) (hid (by rw [SN1.out]; exact HC8.out)) (hid (by rw [SN2.out, NB3.out]; exact HD8.out.more (by omega))) HB8
      · have q3 : (x.mode == 3) = false := by simpa using hm
        have HD8 := hid (HD6.out.begun hn (a := (r.1.v.tab.last : Int)) (m := x.mode) hnx (by omega) E7.out L7.out)
        have NB3 := hid (show noteK r.2 x ⟨yc, yn, yv, yl⟩ r.1.v.tab.last = ⟨upd r.2.seats n (some ⟨0, r.1.v.tab.last, x.mode, []⟩), r.2.l⟩ from by have := NB2.out; rw [if_neg hm] at this; exact this)
        have HC8 := hid (HC6.out.frame E7.out (by omega))
        have HB8 := hid (HB6.out.step E7.out (by omega))
        clear hm NB2
        go_wp2
        exact HQ.out _ _ _ _ _ _ _ _ _ _ _ _ _ _ _ _ _ _ _ _ _ _ _ _ _ _ _ _ _ _ _ _ _ _ _ _ _ _ _ _ _ _ _ _ _ _ _ _ _ _ _ _ _ _ _ _ _ _ _ _ _ _ _ _ _ _ _ _ _ _ _ _ _ _ _ _ _ _ _ _ _ _ _ _ _ _ _ _ _ _ _ _ _ _ _ _ _ _ _ _ _ _ _ _ _ _ _ _ _ _ _ _ _ _ _ _ _ _ _ _ _ _ _ _ _ _ _ _ _ _ _ _ _ _ _ _ _ _ _ _ _ _ _ _ _ _ _ _ _ _ _ _ _ _ _ _ _ _ _ _ _ _ _ _ _ _ _ _ _ _ _ _ _ _ g6 (nx + 1) L _ _ _ (by omega) (hid (by rw [SN1.out]; exact HC8.out)) (hid (by rw [SN2.out, NB3.out]; exact HD8.out.more (by omega))) HB8
    · have hyc : (yc == 0) = false := by simpa using hyc0
      have SUB := hid (NI.out (fun h => hyc0 h.2))
      clear h1 hyc0 NI NB
      go_wp2
      exact HQ.out _ _ _ _ _ _ _ _ _ _ _ _ _ _ _ _ _ _ _ _ _ _ _ _ _ _ _ _ _ _ _ _ _ _ _ _ _ _ _ _ _ _ _ _ _ _ _ _ _ _ _ _ _ _ _ _ _ _ _ _ _ _ _ _ _ _ _ _ _ _ _ _ _ _ _ _ _ _ _ _ _ _ _ _ _ _ _ _ _ _ _ _ _ _ _ _ _ _ _ _ _ _ _ _ _ _ _ _ _ _ _ _ _ _ _ _ _ _ _ _ _ _ _ _ _ _ _ _ _ _ _ _ _ _ _ _ _ _ _ _ _ _ _ _ _ _ _ _ _ _ _ _ _ _ _ _ _ _ _ _ _ _ _ _ _ _ _ _ _ _ _ _ _ _ g6 nx L f _ _ (by omega) (hid (by rw [SN1.out]; exact HC6.out)) (hid (by rw [SN2.out]; exact (HD6.out.sub SUB.out).more (by omega))) HB6
  · have q1 : (x.kind == 1) = false := by simpa using h1
    have SUB := hid (NI.out (fun h => h1 h.1))
    clear h1 NI NB
    go_wp2
    exact HQ.out _ _ _ _ _ _ _ _ _ _ _ _ _ _ _ _ _ _ _ _ _ _ _ _ _ _ _ _ _ _ _ _ _ _ _ _ _ _ _ _ _ _ _ _ _ _ _ _ _ _ _ _ _ _ _ _ _ _ _ _ _ _ _ _ _ _ _ _ _ _ _ _ _ _ _ _ _ _ _ _ _ _ _ _ _ _ _ _ _ _ _ _ _ _ _ _ _ _ _ _ _ _ _ _ _ _ _ _ _ _ _ _ _ _ _ _ _ _ _ _ _ _ _ _ _ _ _ _ _ _ _ _ _ _ _ _ _ _ _ _ _ _ _ _ _ _ _ _ _ _ _ _ _ _ _ _ _ _ _ _ _ _ _ _ _ _ _ _ _ _ _ _ _ _ g6 nx L f _ _ (by omega) (hid (by rw [SN1.out]; exact HC6.out)) (hid (by rw [SN2.out]; exact (HD6.out.sub SUB.out).more (by omega))) HB6

set_option maxHeartbeats 4000000 in
set_option maxRecDepth 100000 in
theorem deeds_over (w wr : World) (g : Nat → Nat) (c b nx k : Nat) (r : Ht × Bk) (ao : Option Addr) (co : Nat) (L : List Dnx) (f : Nat → Od) (x : St) (b1 o1 n0 cap : Nat) (hk5 : k ≤ 100000) (hki : (k : Int) < (n0 : Int)) (hnx : 27 ≤ nx) (hxm : x.bytes.size ≤ maxLen) (HPX : Hid (StCells wr b1 (o1 + k * 8) x))
    (HC : Hid (CourtAt wr g 1 c (8 * k) r.1)) (HD : Hid (DeedsC wr g 24 23 b nx k r.2 (.slice ao L.length co) L f)) (HB : Hid (Base w.heap.size w g wr)) (HG : Hid (GoodN r)) (hse : isSeatB x.s = true) (D0 : Ded) (hd : r.1.seats x.s.toNat = some D0) (hkd : x.kind = 6 ∨ x.kind = 10)
    (C : Code) (hcode : Tryz.f9.body.bind loopOf = some C) (Q : Exit → Act → World → Prop) (u7 u8 u9 u10 u11 u13 u14 u15 u16 u17 u18 u19 u20 u21 u22 u23 u24 u25 u26 u27 u28 u29 u30 u31 u32 u33 u34 u35 u36 u37 u38 u39 u40 u41 u42 u43 u44 u45 u46 u47 u48 u49 u50 u51 u52 u53 u54 u55 u56 u57 u58 u59 u60 u61 u62 u63 u64 u65 u66 u67 u68 u69 u70 u71 u72 u73 u74 u75 u76 u77 u78 u79 u80 u81 u82 u83 u84 u85 u86 u87 u88 u89 u90 u91 u92 u93 u94 u95 u96 u97 u98 u99 u100 u101 u102 u103 u104 u105 u106 u107 u108 u109 u110 u111 u112 u113 u114 u115 u116 u117 u118 u119 u120 u121 u122 u123 u124 u125 u126 u127 u128 u129 u130 u131 u132 u133 u134 u135 u136 u137 u138 u139 u140 u141 u142 u143 u144 u145 u146 u147 u148 u149 u150 u151 u152 u153 u154 u155 u156 u157 u158 u159 u160 u161 u162 u163 u164 u165 u166 u167 u168 u169 u170 u171 u172 u173 u174 u175 u176 u177 u178 u179 u180 u181 u182 : Value)
    (hK : ∀ (x7 x8 x9 x10 x11 x13 x14 x15 x16 x17 x18 x19 x20 x21 x22 x23 x24 x25 x26 x27 x28 x29 x30 x31 x32 x33 x34 x35 x36 x37 x38 x39 x40 x41 x42 x43 x44 x45 x46 x47 x48 x49 x50 x51 x52 x53 x54 x55 x56 x57 x58 x59 x60 x61 x62 x63 x64 x65 x66 x67 x68 x69 x70 x71 x72 x73 x74 x75 x76 x77 x78 x79 x80 x81 x82 x83 x84 x85 x86 x87 x88 x89 x90 x91 x92 x93 x94 x95 x96 x97 x98 x99 x100 x101 x102 x103 x104 x105 x106 x107 x108 x109 x110 x111 x112 x113 x114 x115 x116 x117 x118 x119 x120 x121 x122 x123 x124 x125 x126 x127 x128 x129 x130 x131 x132 x133 x134 x135 x136 x137 x138 x139 x140 x141 x142 x143 x144 x145 x146 x147 x148 x149 x150 x151 x152 x153 x154 x155 x156 x157 x158 x159 x160 x161 x162 x163 x164 x165 x166 x167 x168 x169 x170 x171 x172 x173 x174 x175 x176 x177 x178 x179 x180 x181 : Value) (g' : Nat → Nat) (nx' : Nat) (L' : List Dnx) (F' : Nat → Od) (v' : Value) (w' : World), 27 ≤ nx' → Hid (CourtAt w' g' 1 c (8 * (k + 1)) (stepN r x).1) → Hid (DeedsC w' g' 24 23 b nx' (k + 1) (stepN r x).2 v' L' F') → Hid (Base w.heap.size w g' w') → Q .normal ⟨List.toArray (.slice (some ⟨b1, o1, none⟩) n0 cap :: undef :: .slice none 0 0 :: .pointer (some ⟨c, 0, none⟩) :: .pointer (some ⟨b, 0, none⟩) :: v' :: .int .i64 ((k : Int) + 1) :: x7 :: x8 :: x9 :: x10 :: x11 :: .pointer (some ⟨c, 0, none⟩) :: x13 :: x14 :: x15 :: x16 :: x17 :: x18 :: x19 :: x20 :: x21 :: x22 :: x23 :: x24 :: x25 :: x26 :: x27 :: x28 :: x29 :: x30 :: x31 :: x32 :: x33 :: x34 :: x35 :: x36 :: x37 :: x38 :: x39 :: x40 :: x41 :: x42 :: x43 :: x44 :: x45 :: x46 :: x47 :: x48 :: x49 :: x50 :: x51 :: x52 :: x53 :: x54 :: x55 :: x56 :: x57 :: x58 :: x59 :: x60 :: x61 :: x62 :: x63 :: x64 :: x65 :: x66 :: x67 :: x68 :: x69 :: x70 :: x71 :: x72 :: x73 :: x74 :: x75 :: x76 :: x77 :: x78 :: x79 :: x80 :: x81 :: x82 :: x83 :: x84 :: x85 :: x86 :: x87 :: x88 :: x89 :: x90 :: x91 :: x92 :: x93 :: x94 :: x95 :: x96 :: x97 :: x98 :: x99 :: x100 :: x101 :: x102 :: x103 :: x104 :: x105 :: x106 :: x107 :: x108 :: x109 :: x110 :: x111 :: x112 :: x113 :: x114 :: x115 :: x116 :: x117 :: x118 :: x119 :: x120 :: x121 :: x122 :: x123 :: x124 :: x125 :: x126 :: x127 :: x128 :: x129 :: x130 :: x131 :: x132 :: x133 :: x134 :: x135 :: x136 :: x137 :: x138 :: x139 :: x140 :: x141 :: x142 :: x143 :: x144 :: x145 :: x146 :: x147 :: x148 :: x149 :: x150 :: x151 :: x152 :: x153 :: x154 :: x155 :: x156 :: x157 :: x158 :: x159 :: x160 :: x161 :: x162 :: x163 :: x164 :: x165 :: x166 :: x167 :: x168 :: x169 :: x170 :: x171 :: x172 :: x173 :: x174 :: x175 :: x176 :: x177 :: x178 :: x179 :: x180 :: x181 :: u182 :: []), []⟩ w') :
    Code.wp Tryz.prog C Q ⟨List.toArray (.slice (some ⟨b1, o1, none⟩) n0 cap :: undef :: .slice none 0 0 :: .pointer (some ⟨c, 0, none⟩) :: .pointer (some ⟨b, 0, none⟩) :: .slice ao L.length co :: .int .i64 k :: u7 :: u8 :: u9 :: u10 :: u11 :: .pointer (some ⟨c, 0, none⟩) :: u13 :: u14 :: u15 :: u16 :: u17 :: u18 :: u19 :: u20 :: u21 :: u22 :: u23 :: u24 :: u25 :: u26 :: u27 :: u28 :: u29 :: u30 :: u31 :: u32 :: u33 :: u34 :: u35 :: u36 :: u37 :: u38 :: u39 :: u40 :: u41 :: u42 :: u43 :: u44 :: u45 :: u46 :: u47 :: u48 :: u49 :: u50 :: u51 :: u52 :: u53 :: u54 :: u55 :: u56 :: u57 :: u58 :: u59 :: u60 :: u61 :: u62 :: u63 :: u64 :: u65 :: u66 :: u67 :: u68 :: u69 :: u70 :: u71 :: u72 :: u73 :: u74 :: u75 :: u76 :: u77 :: u78 :: u79 :: u80 :: u81 :: u82 :: u83 :: u84 :: u85 :: u86 :: u87 :: u88 :: u89 :: u90 :: u91 :: u92 :: u93 :: u94 :: u95 :: u96 :: u97 :: u98 :: u99 :: u100 :: u101 :: u102 :: u103 :: u104 :: u105 :: u106 :: u107 :: u108 :: u109 :: u110 :: u111 :: u112 :: u113 :: u114 :: u115 :: u116 :: u117 :: u118 :: u119 :: u120 :: u121 :: u122 :: u123 :: u124 :: u125 :: u126 :: u127 :: u128 :: u129 :: u130 :: u131 :: u132 :: u133 :: u134 :: u135 :: u136 :: u137 :: u138 :: u139 :: u140 :: u141 :: u142 :: u143 :: u144 :: u145 :: u146 :: u147 :: u148 :: u149 :: u150 :: u151 :: u152 :: u153 :: u154 :: u155 :: u156 :: u157 :: u158 :: u159 :: u160 :: u161 :: u162 :: u163 :: u164 :: u165 :: u166 :: u167 :: u168 :: u169 :: u170 :: u171 :: u172 :: u173 :: u174 :: u175 :: u176 :: u177 :: u178 :: u179 :: u180 :: u181 :: u182 :: []), []⟩ wr := by
  have HQ := hid hK
  clear hK
  obtain rfl : (Tryz.f9.body.bind loopOf).getD .skip = C := by rw [hcode]; rfl
  clear hcode
  obtain ⟨P0, P1, P2, P3, P4, P5, P6, P7⟩ := HPX.out
  obtain ⟨j0, hj, hy0, hy1, hy2⟩ := info_parts Tryz.infoRDone
  have hk0 : (0 : Int) ≤ (k : Int) := by omega
  obtain ⟨hvok, s, ds, hCL⟩ := HC.out
  conv => arg 2; whnf
  have HCL := hid hCL
  have HOK := hid (show r.1.v.Ok ∧ r.1.v.tab.Ok ∧ ∀ s, s < 5 → ∀ D, r.1.seats s = some D → D.Ok from ⟨hvok, hCL.sheet.1, fun i hi D hD => by
    obtain ⟨_, _, _, hh⟩ := hCL.work i hi D hD
    exact hh.ok⟩)
  have KP := hid HG.out.kept
  clear hvok hCL HG HC HPX
  go_upto_region 8 with (fail)
  have hA3 := Evo.alloc g 0 wr (.cells #[.int .i64 x.kind, .int .i64 x.s, .int .i64 x.mode, .int .i64 x.at_, .int .i64 x.key, .int .i64 x.to_, .int .i64 x.keep, .string x.bytes] 55)
  have HX3 : Hid (LocC (wr.alloc (.cells #[.int .i64 x.kind, .int .i64 x.s, .int .i64 x.mode, .int .i64 x.at_, .int .i64 x.key, .int .i64 x.to_, .int .i64 x.keep, .string x.bytes] 55)) (extc g wr 0) 0 wr.heap.size 55 (stL x)) := hid (LocC.new g 0 wr 55 (stL x))
  have HC3 := hid (HCL.out.frame hA3 (by omega))
  have HD3 := hid (HD.out.quiet hA3)
  have HB3 := hid (HB.out.step hA3 (by omega))
  clear hA3 HCL HD HB P0 P1 P2 P3 P4 P5 P6 P7
  generalize wr.alloc (.cells #[.int .i64 x.kind, .int .i64 x.s, .int .i64 x.mode, .int .i64 x.at_, .int .i64 x.key, .int .i64 x.to_, .int .i64 x.keep, .string x.bytes] 55) = w3 at *
  generalize extc g wr 0 = g3 at *
  generalize wr.heap.size = bx at *
  have c0 := HC3.out.top.1
  have c8 := HC3.out.sheet.n.1
  have k1 : w3.cell? ⟨bx, 1, none⟩ = some (.int .i64 x.s) := HX3.out.1.cell 1
  go_upto_region 9 with (fail)
  have SN1 := hid (show (stepN r x).1 = (doH r.1 x).2 from rfl)
  have SN2 := hid (show (stepN r x).2 = noteK r.2 x (doH r.1 x).1 r.1.v.tab.last from rfl)
  have SEAT := hid (fun W => ref_Seat x.s W)
  obtain ⟨n, hn, hxn⟩ := seat_nat hse
  have hxt : x.s.toNat = n := by rw [hxn]; rfl
  rw [hxt] at hd
  have hs1 := (HC3.out.seat hn).1
  have hbz : busyB r.1 x = true := by unfold busyB; rw [hxt, hd, hse]; rfl
  have s1 : w3.cell? ⟨c, 3 + n, none⟩ = some (.pointer (some ⟨ds n, 0, none⟩)) := by rw [hs1]; unfold seatP; rw [hd]
  have SQ := hid (fun W => (show Calls Tryz.prog 25 #[.int .i64 (n : Int)] W (fun e w' => e = .returned (.bool true) ∧ w' = W) from by
    have := SEAT.out W
    rw [hse, hxn] at this
    exact this.mono (fun _ _ h => ⟨h.1, h.2.symm⟩)))
  have k1 : w3.cell? ⟨bx, 1, none⟩ = some (.int .i64 (n : Int)) := by rw [← hxn]; exact k1
  have hn0 : (0 : Int) ≤ (n : Int) := by omega
  have hn5 : (n : Int) < 5 := by omega
  have HXN := hid hxn
  have HXT := hid hxt
  clear hs1 hd hxn hxt
  go_wp2_with fail
  go_region_held3 (fun W : World => W.cell? ⟨bx, 1, none⟩ = some (.int .i64 (n : Int)) ∧ W.cell? ⟨c, 3 + n, none⟩ = some (.pointer (some ⟨ds n, 0, none⟩)))
    (exact ⟨k1, s1⟩)
    (first
      | (go_at_call 25; refine (SQ.out _).mono ?_; rintro e w9 ⟨rfl, rfl⟩))
  clear s1
  have HC4 := hid (HC3.out.below ((Below.refl w3.heap.size w3).drew))
  have HD4 := hid (HD3.out.quiet (Evo.of_same ((Below.refl w3.heap.size w3).drew)))
  have HX4 := hid (HX3.out.below ((Below.refl w3.heap.size w3).drew))
  have HB4 := hid (HB3.out.below' ((Below.refl w3.heap.size w3).drew))
  clear HC3 HD3 HX3 HB3 c0 c8 k1
  generalize w3.drew = w4 at *
  have k0 : w4.cell? ⟨bx, 0, none⟩ = some (.int .i64 x.kind) := HX4.out.1.cell 0
  have k1 : w4.cell? ⟨bx, 1, none⟩ = some (.int .i64 (n : Int)) := by rw [← HXN.out]; exact HX4.out.1.cell 1
  have k2 : w4.cell? ⟨bx, 2, none⟩ = some (.int .i64 x.mode) := HX4.out.1.cell 2
  have k3 : w4.cell? ⟨bx, 3, none⟩ = some (.int .i64 x.at_) := HX4.out.1.cell 3
  have k4 : w4.cell? ⟨bx, 4, none⟩ = some (.int .i64 x.key) := HX4.out.1.cell 4
  have k5 : w4.cell? ⟨bx, 5, none⟩ = some (.int .i64 x.to_) := HX4.out.1.cell 5
  have k6 : w4.cell? ⟨bx, 6, none⟩ = some (.int .i64 x.keep) := HX4.out.1.cell 6
  have k7 : w4.cell? ⟨bx, 7, none⟩ = some (.string x.bytes) := HX4.out.1.cell 7
  go_wp2_with fail
  have PD := court_Do2 g3 1 c (8 * k) r.1 x w4 (by omega) hxm ⟨HOK.out.1, s, ds, HC4.out⟩
  rw [HXN.out] at PD
  refine PD.mono ?_
  clear PD
  rintro e w5 ⟨a5, c5, g5, rfl, hC5, hE5, hs5, hn5, hq5⟩
  have HL5 : Hid (FixC w5 g5 23 a5 (encEnts (doH r.1 x).1.l)) := hid ⟨hs5, fun ad e => ⟨(hq5 ad e).2, (hq5 ad e).1⟩⟩
  have HD5 := hid (HD4.out.frame hE5 (.inl (by omega)) (by omega) (by omega))
  have HX5 := hid (HX4.out.frame hE5 (by omega))
  have HB5 := hid (HB4.out.step hE5 (by omega))
  have HC5 := hid hC5
  have T8 := hid (doH_told8 r.1 x)
  clear hC5 hE5 hs5 hn5 hq5 HC4 HD4 HX4 HB4 k0 k1 k2 k3 k4 k5 k6 k7
  obtain ⟨n', d, -, hxn', hBd, NC, NS, NA⟩ := note_busy (last := r.1.v.tab.last) KP.out HOK.out.2.2 hbz
  obtain rfl : n = n' := by have := HXN.out; omega
  have HBd := hid hBd
  have NC := hid NC
  have NS := hid NS
  have NA := hid NA
  have NG := hid (show ¬ (x.kind = 1 ∧ (doH r.1 x).1.code = 0) from fun h => by
    have := (doH_begun h.1 h.2).2
    rw [hbz] at this
    cases this)
  clear KP SEAT SQ hBd hxn'
  generalize doH r.1 x = y at *
  obtain ⟨⟨yc, yn, yv, yl⟩, yH⟩ := y
  go_upto_region 11 with (fail)
  have hA6 := Evo.alloc g5 0 w5 (.cells #[.int .i64 yc, .int .i64 yn, .bool yv.there, .string yv.bytes, .slice a5 yl.length c5] 74)
  have HV6 : Hid (LocC (w5.alloc (.cells #[.int .i64 yc, .int .i64 yn, .bool yv.there, .string yv.bytes, .slice a5 yl.length c5] 74)) (extc g5 w5 0) 0 w5.heap.size 74 [.int .i64 yc, .int .i64 yn, .bool yv.there, .string yv.bytes, .slice a5 yl.length c5]) := hid (LocC.new g5 0 w5 _ _)
  have HC6 := hid (HC5.out.frame hA6 (by omega))
  have HD6 := hid (HD5.out.quiet hA6)
  have HX6 := hid (HX5.out.frame hA6 (by omega))
  have HB6 := hid (HB5.out.step hA6 (by omega))
  have HL6 := hid (HL5.out.frame hA6 (by omega))
  clear hA6 HC5 HD5 HX5 HB5 HL5
  generalize w5.alloc (.cells #[.int .i64 yc, .int .i64 yn, .bool yv.there, .string yv.bytes, .slice a5 yl.length c5] 74) = w6 at *
  generalize extc g5 w5 0 = g6 at *
  generalize w5.heap.size = be at *
  have k0 : w6.cell? ⟨bx, 0, none⟩ = some (.int .i64 x.kind) := HX6.out.1.cell 0
  have k1 : w6.cell? ⟨bx, 1, none⟩ = some (.int .i64 (n : Int)) := by rw [← HXN.out]; exact HX6.out.1.cell 1
  have k2 : w6.cell? ⟨bx, 2, none⟩ = some (.int .i64 x.mode) := HX6.out.1.cell 2
  have k3 : w6.cell? ⟨bx, 3, none⟩ = some (.int .i64 x.at_) := HX6.out.1.cell 3
  have e0 : w6.cell? ⟨be, 0, none⟩ = some (.int .i64 yc) := HV6.out.1.cell 0
  have e1 : w6.cell? ⟨be, 1, none⟩ = some (.int .i64 yn) := HV6.out.1.cell 1
  have HKD := hid hkd
  clear hkd
  by_cases h6 : x.kind = 6
  · rw [h6] at k0
    by_cases hyc0 : yc = 0
    · rw [hyc0] at e0
      focus
        have NCl := hid (NC.out (.inl ⟨h6, hyc0⟩))
        clear NC NS NA NG
        obtain ⟨o0, o1', o2, o3⟩ := openL_get f hn
        have d0 := (HD6.out.loc.1.cell (n * 4)).trans o0
        have z0 := HD6.out.loc.1.free (n * 4)
        go_upto_region 19 with (fail)
        have E7 : Evo 24 25 g6 g6 w6 (w6.setCell ⟨b, n * 4, none⟩ (.int .i64 yn)) := evo_store _ HD6.out.loc.2
        have E7 := hid E7
        have L7 : Hid (LocC (w6.setCell ⟨b, n * 4, none⟩ (.int .i64 yn)) g6 24 b 79 (openL (upd f n { f n with n := yn }))) := hid ⟨by rw [← openL_n f hn]; exact HD6.out.loc.1.set (n * 4) _, HD6.out.loc.2⟩
        have HC7 := hid (HC6.out.frame E7.out (by omega))
        have HB7 := hid (HB6.out.step E7.out (by omega))
        have R7 := hid (HD6.out.row.frame E7.out (by omega))
        clear d0 z0 k0 k1 k2 k3 e0 e1 HC6 HB6
        generalize w6.setCell ⟨b, n * 4, none⟩ (.int .i64 yn) = w7 at *
        obtain ⟨q0, q1, q2, q3⟩ := openL_get (upd f n { f n with n := yn }) hn
        rw [upd_same] at q0 q1 q2 q3
        obtain ⟨fa, fc, hfv, -, -⟩ := ownsRow.sliceAt (HD6.out.live n hn d HBd.out).row.1
        simp only at q0 q1 q2 q3
        have HFV := hid hfv
        have d0 := (L7.out.1.cell (n * 4)).trans q0
        have d1 := (L7.out.1.cell (n * 4 + 1)).trans q1
        have d2 := (L7.out.1.cell (n * 4 + 2)).trans q2
        have d3 := ((L7.out.1.cell (n * 4 + 3)).trans q3).trans (show some (f n).v = some (.slice fa (f n).acts.length fc) by rw [hfv])
        have E8 := hid (Evo.alloc g6 0 w7 (.cells #[.int .i64 yn, .int .i64 (f n).at_, .int .i64 (f n).mode, .slice fa (f n).acts.length fc] 39))
        have R8 := hid (R7.out.frame E8.out (by omega))
        have HC8 := hid (HC7.out.frame E8.out (by omega))
        have HB8 := hid (HB7.out.step E8.out (by omega))
        have hfew := HD6.out.few
        have m1 : L.length + 1 ≤ maxLen := by unfold maxLen; omega
        have m2 : (L.length + 1) * 48 ≤ 140737488355328 := by omega
        clear hfv q0 q1 q2 q3 R7 HC7 HB7
        go_wp2_with (refine wpList_append2 rfl (.tmp 98) (.tmp 102) 33 rfl 39 j0 (.agg #[.int .i64 0, .int .i64 0, .int .i64 0, .slice none 0 0]) 4 48 Tryz.underlying33 hj hy0 hy1 hy2 rfl (by decide) (.slice ao L.length co) L.length (encDones L) rfl R8.out.1 ⟨w7.heap.size, 0, none⟩ 1 1 (encDnx (⟨yn, (f n).at_, (f n).mode, (f n).acts, fa, fc, (f n).q⟩ : Dnx)) rfl rfl (cells_new w7 (encDnx (⟨yn, (f n).at_, (f n).mode, (f n).acts, fa, fc, (f n).q⟩ : Dnx)) 39) (encDnx_one _) m1 m2 ?_)
        intro v9 w9 ho hg hf
        obtain ⟨a9, c9, rfl, -, -⟩ := ownsRow.sliceAt ho
        obtain ⟨g9, hR, hE9⟩ : ∃ g9, RowC w9 g9 (24 + 1) 39 4 (.slice a9 (L.length + 1) c9) (L.length + 1) (encDones L ++ encDnx (⟨yn, (f n).at_, (f n).mode, (f n).acts, fa, fc, (f n).q⟩ : Dnx)) ∧ Evo (24 + 1) (24 + 2) (extc g6 w7 0) g9 (w7.alloc (.cells #[.int .i64 yn, .int .i64 (f n).at_, .int .i64 (f n).mode, .slice fa (f n).acts.length fc] 39)) w9 := ⟨_, R8.out.grown ho hg (by simpa using hf)⟩
        have HD9 := hid (HD6.out.closed hn HBd.out HFV.out (by omega) E7.out L7.out E8.out hE9 hR NCl.out.1 NCl.out.2.1 NCl.out.2.2)
        have HC9 := hid (HC8.out.frame hE9 (by omega))
        have HB9 := hid (HB8.out.step hE9 (by omega))
        clear ho hg hf hR hE9 E7 E8 L7 R8 HC8 HB8 HD6 d0 d1 d2 d3 NCl
        go_wp2
        exact HQ.out _ _ _ _ _ _ _ _ _ _ _ _ _ _ _ _ _ _ _ _ _ _ _ _ _ _ _ _ _ _ _ _ _ _ _ _ _ _ _ _ _ _ _ _ _ _ _ _ _ _ _ _ _ _ _ _ _ _ _ _ _ _ _ _ _ _ _ _ _ _ _ _ _ _ _ _ _ _ _ _ _ _ _ _ _ _ _ _ _ _ _ _ _ _ _ _ _ _ _ _ _ _ _ _ _ _ _ _ _ _ _ _ _ _ _ _ _ _ _ _ _ _ _ _ _ _ _ _ _ _ _ _ _ _ _ _ _ _ _ _ _ _ _ _ _ _ _ _ _ _ _ _ _ _ _ _ _ _ _ _ _ _ _ _ _ _ _ _ _ _ _ _ _ _ g9 nx _ _ _ _ (by omega) (hid (by rw [SN1.out]; exact HC9.out)) (hid (by rw [SN2.out]; exact HD9.out)) HB9
    · have hyc : (yc == 0) = false := by simpa using hyc0
      have hyc2 : (yc != 0) = true := by simpa using hyc0
      have SUBH := hid (NS.out (fun h => by rcases h with ⟨h, h'⟩ | ⟨h, h'⟩ <;> omega) (.inl hyc0))
      clear NC NS NA NG
      go_wp2
      exact HQ.out _ _ _ _ _ _ _ _ _ _ _ _ _ _ _ _ _ _ _ _ _ _ _ _ _ _ _ _ _ _ _ _ _ _ _ _ _ _ _ _ _ _ _ _ _ _ _ _ _ _ _ _ _ _ _ _ _ _ _ _ _ _ _ _ _ _ _ _ _ _ _ _ _ _ _ _ _ _ _ _ _ _ _ _ _ _ _ _ _ _ _ _ _ _ _ _ _ _ _ _ _ _ _ _ _ _ _ _ _ _ _ _ _ _ _ _ _ _ _ _ _ _ _ _ _ _ _ _ _ _ _ _ _ _ _ _ _ _ _ _ _ _ _ _ _ _ _ _ _ _ _ _ _ _ _ _ _ _ _ _ _ _ _ _ _ _ _ _ _ _ _ _ _ _ g6 nx L f _ _ (by omega) (hid (by rw [SN1.out]; exact HC6.out)) (hid (by rw [SN2.out]; exact (HD6.out.sub SUBH.out).more (by omega))) HB6
  by_cases h10 : x.kind = 10
  · rw [h10] at k0
    by_cases hyp : 0 < yn
    · have hyp2 : yn > 0 := hyp
      focus
        have NCl := hid (NC.out (.inr ⟨h10, hyp⟩))
        clear NC NS NA NG
        obtain ⟨o0, o1', o2, o3⟩ := openL_get f hn
        have d0 := (HD6.out.loc.1.cell (n * 4)).trans o0
        have z0 := HD6.out.loc.1.free (n * 4)
        go_upto_region 19 with (fail)
        have E7 : Evo 24 25 g6 g6 w6 (w6.setCell ⟨b, n * 4, none⟩ (.int .i64 yn)) := evo_store _ HD6.out.loc.2
        have E7 := hid E7
        have L7 : Hid (LocC (w6.setCell ⟨b, n * 4, none⟩ (.int .i64 yn)) g6 24 b 79 (openL (upd f n { f n with n := yn }))) := hid ⟨by rw [← openL_n f hn]; exact HD6.out.loc.1.set (n * 4) _, HD6.out.loc.2⟩
        have HC7 := hid (HC6.out.frame E7.out (by omega))
        have HB7 := hid (HB6.out.step E7.out (by omega))
        have R7 := hid (HD6.out.row.frame E7.out (by omega))
        clear d0 z0 k0 k1 k2 k3 e0 e1 HC6 HB6
        generalize w6.setCell ⟨b, n * 4, none⟩ (.int .i64 yn) = w7 at *
        obtain ⟨q0, q1, q2, q3⟩ := openL_get (upd f n { f n with n := yn }) hn
        rw [upd_same] at q0 q1 q2 q3
        obtain ⟨fa, fc, hfv, -, -⟩ := ownsRow.sliceAt (HD6.out.live n hn d HBd.out).row.1
        simp only at q0 q1 q2 q3
        have HFV := hid hfv
        have d0 := (L7.out.1.cell (n * 4)).trans q0
        have d1 := (L7.out.1.cell (n * 4 + 1)).trans q1
        have d2 := (L7.out.1.cell (n * 4 + 2)).trans q2
        have d3 := ((L7.out.1.cell (n * 4 + 3)).trans q3).trans (show some (f n).v = some (.slice fa (f n).acts.length fc) by rw [hfv])
        have E8 := hid (Evo.alloc g6 0 w7 (.cells #[.int .i64 yn, .int .i64 (f n).at_, .int .i64 (f n).mode, .slice fa (f n).acts.length fc] 39))
        have R8 := hid (R7.out.frame E8.out (by omega))
        have HC8 := hid (HC7.out.frame E8.out (by omega))
        have HB8 := hid (HB7.out.step E8.out (by omega))
        have hfew := HD6.out.few
        have m1 : L.length + 1 ≤ maxLen := by unfold maxLen; omega
        have m2 : (L.length + 1) * 48 ≤ 140737488355328 := by omega
        clear hfv q0 q1 q2 q3 R7 HC7 HB7
        go_wp2_with (refine wpList_append2 rfl (.tmp 98) (.tmp 102) 33 rfl 39 j0 (.agg #[.int .i64 0, .int .i64 0, .int .i64 0, .slice none 0 0]) 4 48 Tryz.underlying33 hj hy0 hy1 hy2 rfl (by decide) (.slice ao L.length co) L.length (encDones L) rfl R8.out.1 ⟨w7.heap.size, 0, none⟩ 1 1 (encDnx (⟨yn, (f n).at_, (f n).mode, (f n).acts, fa, fc, (f n).q⟩ : Dnx)) rfl rfl (cells_new w7 (encDnx (⟨yn, (f n).at_, (f n).mode, (f n).acts, fa, fc, (f n).q⟩ : Dnx)) 39) (encDnx_one _) m1 m2 ?_)
        intro v9 w9 ho hg hf
        obtain ⟨a9, c9, rfl, -, -⟩ := ownsRow.sliceAt ho
        obtain ⟨g9, hR, hE9⟩ : ∃ g9, RowC w9 g9 (24 + 1) 39 4 (.slice a9 (L.length + 1) c9) (L.length + 1) (encDones L ++ encDnx (⟨yn, (f n).at_, (f n).mode, (f n).acts, fa, fc, (f n).q⟩ : Dnx)) ∧ Evo (24 + 1) (24 + 2) (extc g6 w7 0) g9 (w7.alloc (.cells #[.int .i64 yn, .int .i64 (f n).at_, .int .i64 (f n).mode, .slice fa (f n).acts.length fc] 39)) w9 := ⟨_, R8.out.grown ho hg (by simpa using hf)⟩
        have HD9 := hid (HD6.out.closed hn HBd.out HFV.out (by omega) E7.out L7.out E8.out hE9 hR NCl.out.1 NCl.out.2.1 NCl.out.2.2)
        have HC9 := hid (HC8.out.frame hE9 (by omega))
        have HB9 := hid (HB8.out.step hE9 (by omega))
        clear ho hg hf hR hE9 E7 E8 L7 R8 HC8 HB8 HD6 d0 d1 d2 d3 NCl
        go_wp2
        exact HQ.out _ _ _ _ _ _ _ _ _ _ _ _ _ _ _ _ _ _ _ _ _ _ _ _ _ _ _ _ _ _ _ _ _ _ _ _ _ _ _ _ _ _ _ _ _ _ _ _ _ _ _ _ _ _ _ _ _ _ _ _ _ _ _ _ _ _ _ _ _ _ _ _ _ _ _ _ _ _ _ _ _ _ _ _ _ _ _ _ _ _ _ _ _ _ _ _ _ _ _ _ _ _ _ _ _ _ _ _ _ _ _ _ _ _ _ _ _ _ _ _ _ _ _ _ _ _ _ _ _ _ _ _ _ _ _ _ _ _ _ _ _ _ _ _ _ _ _ _ _ _ _ _ _ _ _ _ _ _ _ _ _ _ _ _ _ _ _ _ _ _ _ _ _ _ g9 nx _ _ _ _ (by omega) (hid (by rw [SN1.out]; exact HC9.out)) (hid (by rw [SN2.out]; exact HD9.out)) HB9
    · have hyp2 : ¬ yn > 0 := hyp
      by_cases hyc0 : yc = 0
      · rw [hyc0] at e0
        have SUBH := hid (NS.out (fun h => by rcases h with ⟨h, h'⟩ | ⟨h, h'⟩ <;> omega) (.inr (.inr (by omega))))
        clear NC NS NA NG
        go_wp2
        exact HQ.out _ _ _ _ _ _ _ _ _ _ _ _ _ _ _ _ _ _ _ _ _ _ _ _ _ _ _ _ _ _ _ _ _ _ _ _ _ _ _ _ _ _ _ _ _ _ _ _ _ _ _ _ _ _ _ _ _ _ _ _ _ _ _ _ _ _ _ _ _ _ _ _ _ _ _ _ _ _ _ _ _ _ _ _ _ _ _ _ _ _ _ _ _ _ _ _ _ _ _ _ _ _ _ _ _ _ _ _ _ _ _ _ _ _ _ _ _ _ _ _ _ _ _ _ _ _ _ _ _ _ _ _ _ _ _ _ _ _ _ _ _ _ _ _ _ _ _ _ _ _ _ _ _ _ _ _ _ _ _ _ _ _ _ _ _ _ _ _ _ _ _ _ _ _ g6 nx L f _ _ (by omega) (hid (by rw [SN1.out]; exact HC6.out)) (hid (by rw [SN2.out]; exact (HD6.out.sub SUBH.out).more (by omega))) HB6
      · have hyc2 : (yc != 0) = true := by simpa using hyc0
        have SUBH := hid (NS.out (fun h => by rcases h with ⟨h, h'⟩ | ⟨h, h'⟩ <;> omega) (.inl hyc0))
        clear NC NS NA NG
        go_wp2
        exact HQ.out _ _ _ _ _ _ _ _ _ _ _ _ _ _ _ _ _ _ _ _ _ _ _ _ _ _ _ _ _ _ _ _ _ _ _ _ _ _ _ _ _ _ _ _ _ _ _ _ _ _ _ _ _ _ _ _ _ _ _ _ _ _ _ _ _ _ _ _ _ _ _ _ _ _ _ _ _ _ _ _ _ _ _ _ _ _ _ _ _ _ _ _ _ _ _ _ _ _ _ _ _ _ _ _ _ _ _ _ _ _ _ _ _ _ _ _ _ _ _ _ _ _ _ _ _ _ _ _ _ _ _ _ _ _ _ _ _ _ _ _ _ _ _ _ _ _ _ _ _ _ _ _ _ _ _ _ _ _ _ _ _ _ _ _ _ _ _ _ _ _ _ _ _ _ g6 nx L f _ _ (by omega) (hid (by rw [SN1.out]; exact HC6.out)) (hid (by rw [SN2.out]; exact (HD6.out.sub SUBH.out).more (by omega))) HB6
  · exact (HKD.out.elim h6 h10).elim

set_option maxHeartbeats 4000000 in
set_option maxRecDepth 100000 in
theorem deeds_busy (w wr : World) (g : Nat → Nat) (c b nx k : Nat) (r : Ht × Bk) (ao : Option Addr) (co : Nat) (L : List Dnx) (f : Nat → Od) (x : St) (b1 o1 n0 cap : Nat) (hk5 : k ≤ 100000) (hki : (k : Int) < (n0 : Int)) (hnx : 27 ≤ nx) (hxm : x.bytes.size ≤ maxLen) (HPX : Hid (StCells wr b1 (o1 + k * 8) x))
    (HC : Hid (CourtAt wr g 1 c (8 * k) r.1)) (HD : Hid (DeedsC wr g 24 23 b nx k r.2 (.slice ao L.length co) L f)) (HB : Hid (Base w.heap.size w g wr)) (HG : Hid (GoodN r)) (hse : isSeatB x.s = true) (D0 : Ded) (hd : r.1.seats x.s.toNat = some D0) (hkd : ¬ (x.kind = 6 ∨ x.kind = 10))
    (C : Code) (hcode : Tryz.f9.body.bind loopOf = some C) (Q : Exit → Act → World → Prop) (u7 u8 u9 u10 u11 u13 u14 u15 u16 u17 u18 u19 u20 u21 u22 u23 u24 u25 u26 u27 u28 u29 u30 u31 u32 u33 u34 u35 u36 u37 u38 u39 u40 u41 u42 u43 u44 u45 u46 u47 u48 u49 u50 u51 u52 u53 u54 u55 u56 u57 u58 u59 u60 u61 u62 u63 u64 u65 u66 u67 u68 u69 u70 u71 u72 u73 u74 u75 u76 u77 u78 u79 u80 u81 u82 u83 u84 u85 u86 u87 u88 u89 u90 u91 u92 u93 u94 u95 u96 u97 u98 u99 u100 u101 u102 u103 u104 u105 u106 u107 u108 u109 u110 u111 u112 u113 u114 u115 u116 u117 u118 u119 u120 u121 u122 u123 u124 u125 u126 u127 u128 u129 u130 u131 u132 u133 u134 u135 u136 u137 u138 u139 u140 u141 u142 u143 u144 u145 u146 u147 u148 u149 u150 u151 u152 u153 u154 u155 u156 u157 u158 u159 u160 u161 u162 u163 u164 u165 u166 u167 u168 u169 u170 u171 u172 u173 u174 u175 u176 u177 u178 u179 u180 u181 u182 : Value)
    (hK : ∀ (x7 x8 x9 x10 x11 x13 x14 x15 x16 x17 x18 x19 x20 x21 x22 x23 x24 x25 x26 x27 x28 x29 x30 x31 x32 x33 x34 x35 x36 x37 x38 x39 x40 x41 x42 x43 x44 x45 x46 x47 x48 x49 x50 x51 x52 x53 x54 x55 x56 x57 x58 x59 x60 x61 x62 x63 x64 x65 x66 x67 x68 x69 x70 x71 x72 x73 x74 x75 x76 x77 x78 x79 x80 x81 x82 x83 x84 x85 x86 x87 x88 x89 x90 x91 x92 x93 x94 x95 x96 x97 x98 x99 x100 x101 x102 x103 x104 x105 x106 x107 x108 x109 x110 x111 x112 x113 x114 x115 x116 x117 x118 x119 x120 x121 x122 x123 x124 x125 x126 x127 x128 x129 x130 x131 x132 x133 x134 x135 x136 x137 x138 x139 x140 x141 x142 x143 x144 x145 x146 x147 x148 x149 x150 x151 x152 x153 x154 x155 x156 x157 x158 x159 x160 x161 x162 x163 x164 x165 x166 x167 x168 x169 x170 x171 x172 x173 x174 x175 x176 x177 x178 x179 x180 x181 : Value) (g' : Nat → Nat) (nx' : Nat) (L' : List Dnx) (F' : Nat → Od) (v' : Value) (w' : World), 27 ≤ nx' → Hid (CourtAt w' g' 1 c (8 * (k + 1)) (stepN r x).1) → Hid (DeedsC w' g' 24 23 b nx' (k + 1) (stepN r x).2 v' L' F') → Hid (Base w.heap.size w g' w') → Q .normal ⟨List.toArray (.slice (some ⟨b1, o1, none⟩) n0 cap :: undef :: .slice none 0 0 :: .pointer (some ⟨c, 0, none⟩) :: .pointer (some ⟨b, 0, none⟩) :: v' :: .int .i64 ((k : Int) + 1) :: x7 :: x8 :: x9 :: x10 :: x11 :: .pointer (some ⟨c, 0, none⟩) :: x13 :: x14 :: x15 :: x16 :: x17 :: x18 :: x19 :: x20 :: x21 :: x22 :: x23 :: x24 :: x25 :: x26 :: x27 :: x28 :: x29 :: x30 :: x31 :: x32 :: x33 :: x34 :: x35 :: x36 :: x37 :: x38 :: x39 :: x40 :: x41 :: x42 :: x43 :: x44 :: x45 :: x46 :: x47 :: x48 :: x49 :: x50 :: x51 :: x52 :: x53 :: x54 :: x55 :: x56 :: x57 :: x58 :: x59 :: x60 :: x61 :: x62 :: x63 :: x64 :: x65 :: x66 :: x67 :: x68 :: x69 :: x70 :: x71 :: x72 :: x73 :: x74 :: x75 :: x76 :: x77 :: x78 :: x79 :: x80 :: x81 :: x82 :: x83 :: x84 :: x85 :: x86 :: x87 :: x88 :: x89 :: x90 :: x91 :: x92 :: x93 :: x94 :: x95 :: x96 :: x97 :: x98 :: x99 :: x100 :: x101 :: x102 :: x103 :: x104 :: x105 :: x106 :: x107 :: x108 :: x109 :: x110 :: x111 :: x112 :: x113 :: x114 :: x115 :: x116 :: x117 :: x118 :: x119 :: x120 :: x121 :: x122 :: x123 :: x124 :: x125 :: x126 :: x127 :: x128 :: x129 :: x130 :: x131 :: x132 :: x133 :: x134 :: x135 :: x136 :: x137 :: x138 :: x139 :: x140 :: x141 :: x142 :: x143 :: x144 :: x145 :: x146 :: x147 :: x148 :: x149 :: x150 :: x151 :: x152 :: x153 :: x154 :: x155 :: x156 :: x157 :: x158 :: x159 :: x160 :: x161 :: x162 :: x163 :: x164 :: x165 :: x166 :: x167 :: x168 :: x169 :: x170 :: x171 :: x172 :: x173 :: x174 :: x175 :: x176 :: x177 :: x178 :: x179 :: x180 :: x181 :: u182 :: []), []⟩ w') :
    Code.wp Tryz.prog C Q ⟨List.toArray (.slice (some ⟨b1, o1, none⟩) n0 cap :: undef :: .slice none 0 0 :: .pointer (some ⟨c, 0, none⟩) :: .pointer (some ⟨b, 0, none⟩) :: .slice ao L.length co :: .int .i64 k :: u7 :: u8 :: u9 :: u10 :: u11 :: .pointer (some ⟨c, 0, none⟩) :: u13 :: u14 :: u15 :: u16 :: u17 :: u18 :: u19 :: u20 :: u21 :: u22 :: u23 :: u24 :: u25 :: u26 :: u27 :: u28 :: u29 :: u30 :: u31 :: u32 :: u33 :: u34 :: u35 :: u36 :: u37 :: u38 :: u39 :: u40 :: u41 :: u42 :: u43 :: u44 :: u45 :: u46 :: u47 :: u48 :: u49 :: u50 :: u51 :: u52 :: u53 :: u54 :: u55 :: u56 :: u57 :: u58 :: u59 :: u60 :: u61 :: u62 :: u63 :: u64 :: u65 :: u66 :: u67 :: u68 :: u69 :: u70 :: u71 :: u72 :: u73 :: u74 :: u75 :: u76 :: u77 :: u78 :: u79 :: u80 :: u81 :: u82 :: u83 :: u84 :: u85 :: u86 :: u87 :: u88 :: u89 :: u90 :: u91 :: u92 :: u93 :: u94 :: u95 :: u96 :: u97 :: u98 :: u99 :: u100 :: u101 :: u102 :: u103 :: u104 :: u105 :: u106 :: u107 :: u108 :: u109 :: u110 :: u111 :: u112 :: u113 :: u114 :: u115 :: u116 :: u117 :: u118 :: u119 :: u120 :: u121 :: u122 :: u123 :: u124 :: u125 :: u126 :: u127 :: u128 :: u129 :: u130 :: u131 :: u132 :: u133 :: u134 :: u135 :: u136 :: u137 :: u138 :: u139 :: u140 :: u141 :: u142 :: u143 :: u144 :: u145 :: u146 :: u147 :: u148 :: u149 :: u150 :: u151 :: u152 :: u153 :: u154 :: u155 :: u156 :: u157 :: u158 :: u159 :: u160 :: u161 :: u162 :: u163 :: u164 :: u165 :: u166 :: u167 :: u168 :: u169 :: u170 :: u171 :: u172 :: u173 :: u174 :: u175 :: u176 :: u177 :: u178 :: u179 :: u180 :: u181 :: u182 :: []), []⟩ wr := by
  have HQ := hid hK
  clear hK
  obtain rfl : (Tryz.f9.body.bind loopOf).getD .skip = C := by rw [hcode]; rfl
  clear hcode
  obtain ⟨P0, P1, P2, P3, P4, P5, P6, P7⟩ := HPX.out
  have hk0 : (0 : Int) ≤ (k : Int) := by omega
  obtain ⟨hvok, s, ds, hCL⟩ := HC.out
  conv => arg 2; whnf
  have HCL := hid hCL
  have HOK := hid (show r.1.v.Ok ∧ r.1.v.tab.Ok ∧ ∀ s, s < 5 → ∀ D, r.1.seats s = some D → D.Ok from ⟨hvok, hCL.sheet.1, fun i hi D hD => by
    obtain ⟨_, _, _, hh⟩ := hCL.work i hi D hD
    exact hh.ok⟩)
  have KP := hid HG.out.kept
  clear hvok hCL HG HC HPX
  go_upto_region 8 with (fail)
  have hA3 := Evo.alloc g 0 wr (.cells #[.int .i64 x.kind, .int .i64 x.s, .int .i64 x.mode, .int .i64 x.at_, .int .i64 x.key, .int .i64 x.to_, .int .i64 x.keep, .string x.bytes] 55)
  have HX3 : Hid (LocC (wr.alloc (.cells #[.int .i64 x.kind, .int .i64 x.s, .int .i64 x.mode, .int .i64 x.at_, .int .i64 x.key, .int .i64 x.to_, .int .i64 x.keep, .string x.bytes] 55)) (extc g wr 0) 0 wr.heap.size 55 (stL x)) := hid (LocC.new g 0 wr 55 (stL x))
  have HC3 := hid (HCL.out.frame hA3 (by omega))
  have HD3 := hid (HD.out.quiet hA3)
  have HB3 := hid (HB.out.step hA3 (by omega))
  clear hA3 HCL HD HB P0 P1 P2 P3 P4 P5 P6 P7
  generalize wr.alloc (.cells #[.int .i64 x.kind, .int .i64 x.s, .int .i64 x.mode, .int .i64 x.at_, .int .i64 x.key, .int .i64 x.to_, .int .i64 x.keep, .string x.bytes] 55) = w3 at *
  generalize extc g wr 0 = g3 at *
  generalize wr.heap.size = bx at *
  have c0 := HC3.out.top.1
  have c8 := HC3.out.sheet.n.1
  have k1 : w3.cell? ⟨bx, 1, none⟩ = some (.int .i64 x.s) := HX3.out.1.cell 1
  go_upto_region 9 with (fail)
  have SN1 := hid (show (stepN r x).1 = (doH r.1 x).2 from rfl)
  have SN2 := hid (show (stepN r x).2 = noteK r.2 x (doH r.1 x).1 r.1.v.tab.last from rfl)
  have SEAT := hid (fun W => ref_Seat x.s W)
  obtain ⟨n, hn, hxn⟩ := seat_nat hse
  have hxt : x.s.toNat = n := by rw [hxn]; rfl
  rw [hxt] at hd
  have hs1 := (HC3.out.seat hn).1
  have hbz : busyB r.1 x = true := by unfold busyB; rw [hxt, hd, hse]; rfl
  have s1 : w3.cell? ⟨c, 3 + n, none⟩ = some (.pointer (some ⟨ds n, 0, none⟩)) := by rw [hs1]; unfold seatP; rw [hd]
  have SQ := hid (fun W => (show Calls Tryz.prog 25 #[.int .i64 (n : Int)] W (fun e w' => e = .returned (.bool true) ∧ w' = W) from by
    have := SEAT.out W
    rw [hse, hxn] at this
    exact this.mono (fun _ _ h => ⟨h.1, h.2.symm⟩)))
  have k1 : w3.cell? ⟨bx, 1, none⟩ = some (.int .i64 (n : Int)) := by rw [← hxn]; exact k1
  have hn0 : (0 : Int) ≤ (n : Int) := by omega
  have hn5 : (n : Int) < 5 := by omega
  have HXN := hid hxn
  have HXT := hid hxt
  clear hs1 hd hxn hxt
  go_wp2_with fail
  go_region_held3 (fun W : World => W.cell? ⟨bx, 1, none⟩ = some (.int .i64 (n : Int)) ∧ W.cell? ⟨c, 3 + n, none⟩ = some (.pointer (some ⟨ds n, 0, none⟩)))
    (exact ⟨k1, s1⟩)
    (first
      | (go_at_call 25; refine (SQ.out _).mono ?_; rintro e w9 ⟨rfl, rfl⟩))
  clear s1
  have HC4 := hid (HC3.out.below ((Below.refl w3.heap.size w3).drew))
  have HD4 := hid (HD3.out.quiet (Evo.of_same ((Below.refl w3.heap.size w3).drew)))
  have HX4 := hid (HX3.out.below ((Below.refl w3.heap.size w3).drew))
  have HB4 := hid (HB3.out.below' ((Below.refl w3.heap.size w3).drew))
  clear HC3 HD3 HX3 HB3 c0 c8 k1
  generalize w3.drew = w4 at *
  have k0 : w4.cell? ⟨bx, 0, none⟩ = some (.int .i64 x.kind) := HX4.out.1.cell 0
  have k1 : w4.cell? ⟨bx, 1, none⟩ = some (.int .i64 (n : Int)) := by rw [← HXN.out]; exact HX4.out.1.cell 1
  have k2 : w4.cell? ⟨bx, 2, none⟩ = some (.int .i64 x.mode) := HX4.out.1.cell 2
  have k3 : w4.cell? ⟨bx, 3, none⟩ = some (.int .i64 x.at_) := HX4.out.1.cell 3
  have k4 : w4.cell? ⟨bx, 4, none⟩ = some (.int .i64 x.key) := HX4.out.1.cell 4
  have k5 : w4.cell? ⟨bx, 5, none⟩ = some (.int .i64 x.to_) := HX4.out.1.cell 5
  have k6 : w4.cell? ⟨bx, 6, none⟩ = some (.int .i64 x.keep) := HX4.out.1.cell 6
  have k7 : w4.cell? ⟨bx, 7, none⟩ = some (.string x.bytes) := HX4.out.1.cell 7
  go_wp2_with fail
  have PD := court_Do2 g3 1 c (8 * k) r.1 x w4 (by omega) hxm ⟨HOK.out.1, s, ds, HC4.out⟩
  rw [HXN.out] at PD
  refine PD.mono ?_
  clear PD
  rintro e w5 ⟨a5, c5, g5, rfl, hC5, hE5, hs5, hn5, hq5⟩
  have HL5 : Hid (FixC w5 g5 23 a5 (encEnts (doH r.1 x).1.l)) := hid ⟨hs5, fun ad e => ⟨(hq5 ad e).2, (hq5 ad e).1⟩⟩
  have HD5 := hid (HD4.out.frame hE5 (.inl (by omega)) (by omega) (by omega))
  have HX5 := hid (HX4.out.frame hE5 (by omega))
  have HB5 := hid (HB4.out.step hE5 (by omega))
  have HC5 := hid hC5
  have T8 := hid (doH_told8 r.1 x)
  clear hC5 hE5 hs5 hn5 hq5 HC4 HD4 HX4 HB4 k0 k1 k2 k3 k4 k5 k6 k7
  obtain ⟨n', d, -, hxn', hBd, NC, NS, NA⟩ := note_busy (last := r.1.v.tab.last) KP.out HOK.out.2.2 hbz
  obtain rfl : n = n' := by have := HXN.out; omega
  have HBd := hid hBd
  have NC := hid NC
  have NS := hid NS
  have NA := hid NA
  have NG := hid (show ¬ (x.kind = 1 ∧ (doH r.1 x).1.code = 0) from fun h => by
    have := (doH_begun h.1 h.2).2
    rw [hbz] at this
    cases this)
  clear KP SEAT SQ hBd hxn'
  generalize doH r.1 x = y at *
  obtain ⟨⟨yc, yn, yv, yl⟩, yH⟩ := y
  go_upto_region 11 with (fail)
  have hA6 := Evo.alloc g5 0 w5 (.cells #[.int .i64 yc, .int .i64 yn, .bool yv.there, .string yv.bytes, .slice a5 yl.length c5] 74)
  have HV6 : Hid (LocC (w5.alloc (.cells #[.int .i64 yc, .int .i64 yn, .bool yv.there, .string yv.bytes, .slice a5 yl.length c5] 74)) (extc g5 w5 0) 0 w5.heap.size 74 [.int .i64 yc, .int .i64 yn, .bool yv.there, .string yv.bytes, .slice a5 yl.length c5]) := hid (LocC.new g5 0 w5 _ _)
  have HC6 := hid (HC5.out.frame hA6 (by omega))
  have HD6 := hid (HD5.out.quiet hA6)
  have HX6 := hid (HX5.out.frame hA6 (by omega))
  have HB6 := hid (HB5.out.step hA6 (by omega))
  have HL6 := hid (HL5.out.frame hA6 (by omega))
  clear hA6 HC5 HD5 HX5 HB5 HL5
  generalize w5.alloc (.cells #[.int .i64 yc, .int .i64 yn, .bool yv.there, .string yv.bytes, .slice a5 yl.length c5] 74) = w6 at *
  generalize extc g5 w5 0 = g6 at *
  generalize w5.heap.size = be at *
  have k0 : w6.cell? ⟨bx, 0, none⟩ = some (.int .i64 x.kind) := HX6.out.1.cell 0
  have k1 : w6.cell? ⟨bx, 1, none⟩ = some (.int .i64 (n : Int)) := by rw [← HXN.out]; exact HX6.out.1.cell 1
  have k2 : w6.cell? ⟨bx, 2, none⟩ = some (.int .i64 x.mode) := HX6.out.1.cell 2
  have k3 : w6.cell? ⟨bx, 3, none⟩ = some (.int .i64 x.at_) := HX6.out.1.cell 3
  have e0 : w6.cell? ⟨be, 0, none⟩ = some (.int .i64 yc) := HV6.out.1.cell 0
  have e1 : w6.cell? ⟨be, 1, none⟩ = some (.int .i64 yn) := HV6.out.1.cell 1
  obtain ⟨h6, h10⟩ := not_or.1 hkd
  clear hkd
  have o6 : (x.kind == 6) = false := by simpa using h6
  have o10 : (x.kind == 10) = false := by simpa using h10
  by_cases hyc0 : yc = 0
  · by_cases h1 : x.kind = 1
    · exact (NG.out ⟨h1, hyc0⟩).elim
    have o1 : (x.kind == 1) = false := by simpa using h1
    rw [hyc0] at e0
    have hkn := HD6.out.live n hn d HBd.out
    have m1 : (f n).acts.length + 1 ≤ maxLen := by have := hkn.len; unfold maxLen; omega
    have m2 : ((f n).acts.length + 1) * 72 ≤ 140737488355328 := by have := hkn.len; omega
    obtain ⟨-, -, -, o3⟩ := openL_get f hn
    have d3 := (HD6.out.loc.1.cell (n * 4 + 3)).trans o3
    by_cases hkd : x.kind = 2
    · have NAE := hid (NA.out hyc0 _ (.inl ⟨hkd, rfl⟩))
      have HKD := hid hkd
      have H8 := hid (show yl.length ≤ 8 from T8.out)
      rw [hkd] at k0
      clear hkd NC NS NA NG o1 o6 o10 h1 h6 h10
      go_upto_region 23 with (fail)
      refine deeds_act23 w g6 w6 c _ _ b nx k _ _ L f be bx x yc yn yv yl a5 c5 n hn d HBd.out HC6 HD6 HB6 HX6 HV6 HL6 H8.out (by omega) HKD.out _ (by kernel_rfl) _ _ _ _ _ _ _ _ _ _ _ _ _ _ _ _ _ _ _ _ _ _ _ _ _ _ _ _ _ _ _ _ _ _ _ _ _ _ _ _ _ _ _ _ _ _ _ _ _ _ _ _ _ _ _ _ _ _ _ _ _ _ _ _ _ _ _ _ _ _ _ _ _ _ _ _ _ _ _ _ _ _ _ _ _ _ _ _ _ _ _ _ _ _ _ _ _ _ _ _ _ _ _ _ _ _ _ _ _ _ _ _ _ _ _ _ _ _ _ _ _ _ _ _ _ _ _ _ _ _ _ _ _ _ _ _ _ _ _ _ _ _ _ _ _ _ _ _ _ _ _ _ _ _ _ _ _ _ _ _ _ _ _ _ _ _ _ _ _ _ _ _ _ _ _ _ _ _ _ _ _ ?_
      clear HC6 HD6 HB6 HX6 HV6 HL6 H8 k0 k1 k2 k3 e0 e1
      intro x111 x112 x113 x114 x115 x116 x117 x118 x119 x120 x121 x122 x123 x124 x125 x126 g9 w9 F HC9 HD9 HB9
      go_wp2
      exact HQ.out _ _ _ _ _ _ _ _ _ _ _ _ _ _ _ _ _ _ _ _ _ _ _ _ _ _ _ _ _ _ _ _ _ _ _ _ _ _ _ _ _ _ _ _ _ _ _ _ _ _ _ _ _ _ _ _ _ _ _ _ _ _ _ _ _ _ _ _ _ _ _ _ _ _ _ _ _ _ _ _ _ _ _ _ _ _ _ _ _ _ _ _ _ _ _ _ _ _ _ _ _ _ _ _ _ _ _ _ _ _ _ _ _ _ _ _ _ _ _ _ _ _ _ _ _ _ _ _ _ _ _ _ _ _ _ _ _ _ _ _ _ _ _ _ _ _ _ _ _ _ _ _ _ _ _ _ _ _ _ _ _ _ _ _ _ _ _ _ _ _ _ _ _ _ g9 nx L _ _ _ (by omega) (hid (by rw [SN1.out]; exact HC9.out)) (hid (by rw [SN2.out, NAE.out]; exact HD9.out)) HB9
    have z2 : (x.kind == 2) = false := by simpa using hkd
    by_cases hkd : x.kind = 3
    · have NAE := hid (NA.out hyc0 _ (.inr (.inl ⟨hkd, rfl⟩)))
      have HKD := hid hkd
      have H8 := hid (show yl.length ≤ 8 from T8.out)
      rw [hkd] at k0
      clear hkd NC NS NA NG o1 o6 o10 h1 h6 h10
      go_upto_region 25 with (fail)
      refine deeds_act25 w g6 w6 c _ _ b nx k _ _ L f be bx x yc yn yv yl a5 c5 n hn d HBd.out HC6 HD6 HB6 HX6 HV6 HL6 H8.out (by omega) HKD.out _ (by kernel_rfl) _ _ _ _ _ _ _ _ _ _ _ _ _ _ _ _ _ _ _ _ _ _ _ _ _ _ _ _ _ _ _ _ _ _ _ _ _ _ _ _ _ _ _ _ _ _ _ _ _ _ _ _ _ _ _ _ _ _ _ _ _ _ _ _ _ _ _ _ _ _ _ _ _ _ _ _ _ _ _ _ _ _ _ _ _ _ _ _ _ _ _ _ _ _ _ _ _ _ _ _ _ _ _ _ _ _ _ _ _ _ _ _ _ _ _ _ _ _ _ _ _ _ _ _ _ _ _ _ _ _ _ _ _ _ _ _ _ _ _ _ _ _ _ _ _ _ _ _ _ _ _ _ _ _ _ _ _ _ _ _ _ _ _ _ _ _ _ _ _ _ _ _ _ _ _ _ _ _ _ _ _ ?_
      clear HC6 HD6 HB6 HX6 HV6 HL6 H8 k0 k1 k2 k3 e0 e1
      intro x129 x130 x131 x132 x133 x134 x135 x136 x137 x138 x139 x140 x141 x142 x143 x144 x145 g9 w9 F HC9 HD9 HB9
      go_wp2
      exact HQ.out _ _ _ _ _ _ _ _ _ _ _ _ _ _ _ _ _ _ _ _ _ _ _ _ _ _ _ _ _ _ _ _ _ _ _ _ _ _ _ _ _ _ _ _ _ _ _ _ _ _ _ _ _ _ _ _ _ _ _ _ _ _ _ _ _ _ _ _ _ _ _ _ _ _ _ _ _ _ _ _ _ _ _ _ _ _ _ _ _ _ _ _ _ _ _ _ _ _ _ _ _ _ _ _ _ _ _ _ _ _ _ _ _ _ _ _ _ _ _ _ _ _ _ _ _ _ _ _ _ _ _ _ _ _ _ _ _ _ _ _ _ _ _ _ _ _ _ _ _ _ _ _ _ _ _ _ _ _ _ _ _ _ _ _ _ _ _ _ _ _ _ _ _ _ g9 nx L _ _ _ (by omega) (hid (by rw [SN1.out]; exact HC9.out)) (hid (by rw [SN2.out, NAE.out]; exact HD9.out)) HB9
    have z3 : (x.kind == 3) = false := by simpa using hkd
    by_cases hkd : x.kind = 4
    · have NAE := hid (NA.out hyc0 _ (.inr (.inr (.inl ⟨hkd, rfl⟩))))
      have HKD := hid hkd
      have H8 := hid (show yl.length ≤ 8 from T8.out)
      rw [hkd] at k0
      clear hkd NC NS NA NG o1 o6 o10 h1 h6 h10
      go_upto_region 27 with (fail)
      refine deeds_act27 w g6 w6 c _ _ b nx k _ _ L f be bx x yc yn yv yl a5 c5 n hn d HBd.out HC6 HD6 HB6 HX6 HV6 HL6 H8.out (by omega) HKD.out _ (by kernel_rfl) _ _ _ _ _ _ _ _ _ _ _ _ _ _ _ _ _ _ _ _ _ _ _ _ _ _ _ _ _ _ _ _ _ _ _ _ _ _ _ _ _ _ _ _ _ _ _ _ _ _ _ _ _ _ _ _ _ _ _ _ _ _ _ _ _ _ _ _ _ _ _ _ _ _ _ _ _ _ _ _ _ _ _ _ _ _ _ _ _ _ _ _ _ _ _ _ _ _ _ _ _ _ _ _ _ _ _ _ _ _ _ _ _ _ _ _ _ _ _ _ _ _ _ _ _ _ _ _ _ _ _ _ _ _ _ _ _ _ _ _ _ _ _ _ _ _ _ _ _ _ _ _ _ _ _ _ _ _ _ _ _ _ _ _ _ _ _ _ _ _ _ _ _ _ _ _ _ _ _ _ _ ?_
      clear HC6 HD6 HB6 HX6 HV6 HL6 H8 k0 k1 k2 k3 e0 e1
      intro x148 x149 x150 x151 x152 x153 x154 x155 x156 x157 x158 x159 x160 x161 g9 w9 F HC9 HD9 HB9
      go_wp2
      exact HQ.out _ _ _ _ _ _ _ _ _ _ _ _ _ _ _ _ _ _ _ _ _ _ _ _ _ _ _ _ _ _ _ _ _ _ _ _ _ _ _ _ _ _ _ _ _ _ _ _ _ _ _ _ _ _ _ _ _ _ _ _ _ _ _ _ _ _ _ _ _ _ _ _ _ _ _ _ _ _ _ _ _ _ _ _ _ _ _ _ _ _ _ _ _ _ _ _ _ _ _ _ _ _ _ _ _ _ _ _ _ _ _ _ _ _ _ _ _ _ _ _ _ _ _ _ _ _ _ _ _ _ _ _ _ _ _ _ _ _ _ _ _ _ _ _ _ _ _ _ _ _ _ _ _ _ _ _ _ _ _ _ _ _ _ _ _ _ _ _ _ _ _ _ _ _ g9 nx L _ _ _ (by omega) (hid (by rw [SN1.out]; exact HC9.out)) (hid (by rw [SN2.out, NAE.out]; exact HD9.out)) HB9
    have z4 : (x.kind == 4) = false := by simpa using hkd
    by_cases hkd : x.kind = 5
    · have NAE := hid (NA.out hyc0 _ (.inr (.inr (.inr ⟨hkd, rfl⟩))))
      have HKD := hid hkd
      have H8 := hid (show yl.length ≤ 8 from T8.out)
      rw [hkd] at k0
      clear hkd NC NS NA NG o1 o6 o10 h1 h6 h10
      go_upto_region 29 with (fail)
      refine deeds_act29 w g6 w6 c _ _ b nx k _ _ L f be bx x yc yn yv yl a5 c5 n hn d HBd.out HC6 HD6 HB6 HX6 HV6 HL6 H8.out (by omega) HKD.out _ (by kernel_rfl) _ _ _ _ _ _ _ _ _ _ _ _ _ _ _ _ _ _ _ _ _ _ _ _ _ _ _ _ _ _ _ _ _ _ _ _ _ _ _ _ _ _ _ _ _ _ _ _ _ _ _ _ _ _ _ _ _ _ _ _ _ _ _ _ _ _ _ _ _ _ _ _ _ _ _ _ _ _ _ _ _ _ _ _ _ _ _ _ _ _ _ _ _ _ _ _ _ _ _ _ _ _ _ _ _ _ _ _ _ _ _ _ _ _ _ _ _ _ _ _ _ _ _ _ _ _ _ _ _ _ _ _ _ _ _ _ _ _ _ _ _ _ _ _ _ _ _ _ _ _ _ _ _ _ _ _ _ _ _ _ _ _ _ _ _ _ _ _ _ _ _ _ _ _ _ _ _ _ _ _ _ ?_
      clear HC6 HD6 HB6 HX6 HV6 HL6 H8 k0 k1 k2 k3 e0 e1
      intro x164 x165 x166 x167 x168 x169 x170 x171 x172 x173 x174 x175 x176 x177 x178 x179 x180 x181 g9 w9 F HC9 HD9 HB9
      go_wp2
      exact HQ.out _ _ _ _ _ _ _ _ _ _ _ _ _ _ _ _ _ _ _ _ _ _ _ _ _ _ _ _ _ _ _ _ _ _ _ _ _ _ _ _ _ _ _ _ _ _ _ _ _ _ _ _ _ _ _ _ _ _ _ _ _ _ _ _ _ _ _ _ _ _ _ _ _ _ _ _ _ _ _ _ _ _ _ _ _ _ _ _ _ _ _ _ _ _ _ _ _ _ _ _ _ _ _ _ _ _ _ _ _ _ _ _ _ _ _ _ _ _ _ _ _ _ _ _ _ _ _ _ _ _ _ _ _ _ _ _ _ _ _ _ _ _ _ _ _ _ _ _ _ _ _ _ _ _ _ _ _ _ _ _ _ _ _ _ _ _ _ _ _ _ _ _ _ _ g9 nx L _ _ _ (by omega) (hid (by rw [SN1.out]; exact HC9.out)) (hid (by rw [SN2.out, NAE.out]; exact HD9.out)) HB9
    have z5 : (x.kind == 5) = false := by simpa using hkd
    have hk25 : x.kind < 2 ∨ 5 < x.kind := by omega
    have SUBH := hid (NS.out (fun h => by rcases h with ⟨h, h'⟩ | ⟨h, h'⟩ <;> omega) (.inr hk25))
    clear NC NS NA NG
    go_wp2
    exact HQ.out _ _ _ _ _ _ _ _ _ _ _ _ _ _ _ _ _ _ _ _ _ _ _ _ _ _ _ _ _ _ _ _ _ _ _ _ _ _ _ _ _ _ _ _ _ _ _ _ _ _ _ _ _ _ _ _ _ _ _ _ _ _ _ _ _ _ _ _ _ _ _ _ _ _ _ _ _ _ _ _ _ _ _ _ _ _ _ _ _ _ _ _ _ _ _ _ _ _ _ _ _ _ _ _ _ _ _ _ _ _ _ _ _ _ _ _ _ _ _ _ _ _ _ _ _ _ _ _ _ _ _ _ _ _ _ _ _ _ _ _ _ _ _ _ _ _ _ _ _ _ _ _ _ _ _ _ _ _ _ _ _ _ _ _ _ _ _ _ _ _ _ _ _ _ g6 nx L f _ _ (by omega) (hid (by rw [SN1.out]; exact HC6.out)) (hid (by rw [SN2.out]; exact (HD6.out.sub SUBH.out).more (by omega))) HB6
  · have hyc : (yc == 0) = false := by simpa using hyc0
    have hyc2 : (yc != 0) = true := by simpa using hyc0
    by_cases h1 : x.kind = 1
    · rw [h1] at k0
      have SUBH := hid (NS.out (fun h => by rcases h with ⟨h, h'⟩ | ⟨h, h'⟩ <;> omega) (.inl hyc0))
      clear NC NS NA NG
      go_wp2
      exact HQ.out _ _ _ _ _ _ _ _ _ _ _ _ _ _ _ _ _ _ _ _ _ _ _ _ _ _ _ _ _ _ _ _ _ _ _ _ _ _ _ _ _ _ _ _ _ _ _ _ _ _ _ _ _ _ _ _ _ _ _ _ _ _ _ _ _ _ _ _ _ _ _ _ _ _ _ _ _ _ _ _ _ _ _ _ _ _ _ _ _ _ _ _ _ _ _ _ _ _ _ _ _ _ _ _ _ _ _ _ _ _ _ _ _ _ _ _ _ _ _ _ _ _ _ _ _ _ _ _ _ _ _ _ _ _ _ _ _ _ _ _ _ _ _ _ _ _ _ _ _ _ _ _ _ _ _ _ _ _ _ _ _ _ _ _ _ _ _ _ _ _ _ _ _ _ g6 nx L f _ _ (by omega) (hid (by rw [SN1.out]; exact HC6.out)) (hid (by rw [SN2.out]; exact (HD6.out.sub SUBH.out).more (by omega))) HB6
    · have o1 : (x.kind == 1) = false := by simpa using h1
      have SUBH := hid (NS.out (fun h => by rcases h with ⟨h, h'⟩ | ⟨h, h'⟩ <;> omega) (.inl hyc0))
      clear NC NS NA NG
      go_wp2
      exact HQ.out _ _ _ _ _ _ _ _ _ _ _ _ _ _ _ _ _ _ _ _ _ _ _ _ _ _ _ _ _ _ _ _ _ _ _ _ _ _ _ _ _ _ _ _ _ _ _ _ _ _ _ _ _ _ _ _ _ _ _ _ _ _ _ _ _ _ _ _ _ _ _ _ _ _ _ _ _ _ _ _ _ _ _ _ _ _ _ _ _ _ _ _ _ _ _ _ _ _ _ _ _ _ _ _ _ _ _ _ _ _ _ _ _ _ _ _ _ _ _ _ _ _ _ _ _ _ _ _ _ _ _ _ _ _ _ _ _ _ _ _ _ _ _ _ _ _ _ _ _ _ _ _ _ _ _ _ _ _ _ _ _ _ _ _ _ _ _ _ _ _ _ _ _ _ g6 nx L f _ _ (by omega) (hid (by rw [SN1.out]; exact HC6.out)) (hid (by rw [SN2.out]; exact (HD6.out.sub SUBH.out).more (by omega))) HB6

end Go.Proofs.YtoiobhcgpajogadGreat

/- The walk of the document's Deeds. -/
namespace Go.Proofs.YtoiobhcgpajogadGreat
open Go.RowKit

def DeedsPost (l : List St) (w : World) (e : Ending) (w' : World) : Prop :=
  ∃ ad c M, e = .returned (.slice ad M.length c) ∧ DonesF w' ad M ∧ M.map Dnx.d = notedS l ∧ Below w.heap.size w w' ∧ M.length ≤ l.length ∧ ∀ y ∈ M, y.acts.length ≤ l.length ∧ ∀ z ∈ y.acts, z.a.l.length ≤ 8

set_option maxHeartbeats 4000000 in
set_option maxRecDepth 100000 in
theorem ref_Deeds (a : Option Addr) (cap : Nat) (l : List St) (w : World) (hl : l.length ≤ 100000) (hx : ∀ x ∈ l, x.bytes.size ≤ maxLen) (hA : StepsAt w a l) :
    Calls Tryz.prog 9 #[.slice a l.length cap] w (DeedsPost l w) := by
  have HA := hid hA
  have HX := hid hx
  clear hA hx
  go_enter Tryz.func9, Tryz.ntmps9
  go_wp2_with fail
  refine (court_New (fun _ => 0) 1 w).mono ?_
  rintro e w1 ⟨c, g1, rfl, hE, -, hC⟩
  have B1 := hid ((Base.start w).step hE (by omega))
  have C1 := hid hC
  clear hE hC
  go_upto_region 3 with (fail)
  have hA2 := Evo.alloc g1 24 w1 (.cells #[.int .i64 0, .int .i64 0, .int .i64 0, .slice none 0 0, .int .i64 0, .int .i64 0, .int .i64 0, .slice none 0 0, .int .i64 0, .int .i64 0, .int .i64 0, .slice none 0 0, .int .i64 0, .int .i64 0, .int .i64 0, .slice none 0 0, .int .i64 0, .int .i64 0, .int .i64 0, .slice none 0 0] 79)
  have C2 := hid (C1.out.frame hA2 (by omega))
  have B2 := hid (B1.out.step hA2 (by omega))
  have D2 : Hid (DeedsC (w1.alloc (.cells #[.int .i64 0, .int .i64 0, .int .i64 0, .slice none 0 0, .int .i64 0, .int .i64 0, .int .i64 0, .slice none 0 0, .int .i64 0, .int .i64 0, .int .i64 0, .slice none 0 0, .int .i64 0, .int .i64 0, .int .i64 0, .slice none 0 0, .int .i64 0, .int .i64 0, .int .i64 0, .slice none 0 0] 79)) (extc g1 w1 24) 24 23 w1.heap.size 27 0 Bk.new (.slice none 0 0) [] (fun _ => default)) := hid ⟨LocC.new g1 24 w1 _ (openL fun _ => default), fun s _ => ⟨none, 0, 0, rfl⟩, ⟨World.ownsRow_nil _ 0 _ _, nofun⟩, rfl, Nat.zero_le _, nofun, nofun, fun s _ h => absurd rfl h⟩
  clear hA2 C1 B1
  generalize w1.alloc (.cells #[.int .i64 0, .int .i64 0, .int .i64 0, .slice none 0 0, .int .i64 0, .int .i64 0, .int .i64 0, .slice none 0 0, .int .i64 0, .int .i64 0, .int .i64 0, .slice none 0 0, .int .i64 0, .int .i64 0, .int .i64 0, .slice none 0 0, .int .i64 0, .int .i64 0, .int .i64 0, .slice none 0 0] 79) = w2 at *
  generalize extc g1 w1 24 = g2 at *
  generalize w1.heap.size = b at *
  go_wp2_with fail
  go_loopw [5, 6] (fun o i wr => ∃ (k : Nat) (g : Nat → Nat) (nx : Nat) (L : List Dnx) (f : Nat → Od), k ≤ l.length ∧ i = .int .i64 k ∧ 27 ≤ nx ∧ Hid (CourtAt wr g 1 c (8 * k) (runN (Ht.new, Bk.new) (l.take k)).1) ∧ Hid (DeedsC wr g 24 23 b nx k (runN (Ht.new, Bk.new) (l.take k)).2 o L f) ∧ Hid (Base w.heap.size w g wr) ∧ Hid (GoodN (runN (Ht.new, Bk.new) (l.take k)))) (fun _ i _ => l.length - (intOf i).toNat)
  case atStart => exact ⟨0, g2, 27, [], fun _ => default, Nat.zero_le _, rfl, Nat.le_refl _, C2, D2, B2, hid GoodN.start⟩
  case round =>
    clear C2 B2 D2
    obtain ⟨k, g, nx, L, f, hk, rfl, hnx, HC, HD, HB, HG⟩ := hrel
    obtain ⟨ao, co, rfl, -, -⟩ := ownsRow.sliceAt HD.out.row.1
    by_cases hlt : k < l.length
    · have HST := hid (runN_take (Ht.new, Bk.new) l hlt)
      obtain ⟨b1, o1, rfl, hbb, v1⟩ := HA.out.facts (by omega)
      obtain ⟨p0, p1, p2, p3, p4, p5, p6, p7, -⟩ := v1 k hlt
      have hxm := HX.out l[k] (List.getElem_mem _)
      have P0 := (HB.out.cell (p := ⟨b1, _, none⟩) hbb).trans p0
      have P1 := (HB.out.cell (p := ⟨b1, _, none⟩) hbb).trans p1
      have P2 := (HB.out.cell (p := ⟨b1, _, none⟩) hbb).trans p2
      have P3 := (HB.out.cell (p := ⟨b1, _, none⟩) hbb).trans p3
      have P4 := (HB.out.cell (p := ⟨b1, _, none⟩) hbb).trans p4
      have P5 := (HB.out.cell (p := ⟨b1, _, none⟩) hbb).trans p5
      have P6 := (HB.out.cell (p := ⟨b1, _, none⟩) hbb).trans p6
      have P7 := (HB.out.cell (p := ⟨b1, _, none⟩) hbb).trans p7
      have hki : (k : Int) < (l.length : Int) := by omega
      have hk0 : (0 : Int) ≤ (k : Int) := by omega
      clear v1 p0 p1 p2 p3 p4 p5 p6 p7
      have HPX := hid (show StCells wr b1 (o1 + k * 8) l[k] from ⟨P0, P1, P2, P3, P4, P5, P6, P7⟩)
      clear P0 P1 P2 P3 P4 P5 P6 P7
      generalize l[k] = x at *
      generalize runN (Ht.new, Bk.new) (l.take k) = r at *
      obtain ⟨hvok, s, ds, hCL⟩ := HC.out
      have HOK := hid (show r.1.v.Ok ∧ r.1.v.tab.Ok ∧ ∀ s, s < 5 → ∀ D, r.1.seats s = some D → D.Ok from ⟨hvok, hCL.sheet.1, fun i hi D hD => by
        obtain ⟨_, _, _, hh⟩ := hCL.work i hi D hD
        exact hh.ok⟩)
      have GS := hid (HG.out.step HOK.out.1 HOK.out.2.1 HOK.out.2.2 x)
      clear hvok hCL HOK
      have hk5 : k ≤ 100000 := by omega
      by_cases hse : isSeatB x.s = true
      · cases hd : r.1.seats x.s.toNat with
        | none =>
          refine deeds_idle w wr g c b nx k r ao co L f x b1 o1 l.length cap hk5 hki hnx hxm HPX HC HD HB HG hse hd _ (by kernel_rfl) _ _ _ _ _ _ _ _ _ _ _ _ _ _ _ _ _ _ _ _ _ _ _ _ _ _ _ _ _ _ _ _ _ _ _ _ _ _ _ _ _ _ _ _ _ _ _ _ _ _ _ _ _ _ _ _ _ _ _ _ _ _ _ _ _ _ _ _ _ _ _ _ _ _ _ _ _ _ _ _ _ _ _ _ _ _ _ _ _ _ _ _ _ _ _ _ _ _ _ _ _ _ _ _ _ _ _ _ _ _ _ _ _ _ _ _ _ _ _ _ _ _ _ _ _ _ _ _ _ _ _ _ _ _ _ _ _ _ _ _ _ _ _ _ _ _ _ _ _ _ _ _ _ _ _ _ _ _ _ _ _ _ _ _ _ _ _ _ _ _ _ _ _ _ _ _ ?_
          clear HC HD HB HG HPX
          intro x7 x8 x9 x10 x11 x13 x14 x15 x16 x17 x18 x19 x20 x21 x22 x23 x24 x25 x26 x27 x28 x29 x30 x31 x32 x33 x34 x35 x36 x37 x38 x39 x40 x41 x42 x43 x44 x45 x46 x47 x48 x49 x50 x51 x52 x53 x54 x55 x56 x57 x58 x59 x60 x61 x62 x63 x64 x65 x66 x67 x68 x69 x70 x71 x72 x73 x74 x75 x76 x77 x78 x79 x80 x81 x82 x83 x84 x85 x86 x87 x88 x89 x90 x91 x92 x93 x94 x95 x96 x97 x98 x99 x100 x101 x102 x103 x104 x105 x106 x107 x108 x109 x110 x111 x112 x113 x114 x115 x116 x117 x118 x119 x120 x121 x122 x123 x124 x125 x126 x127 x128 x129 x130 x131 x132 x133 x134 x135 x136 x137 x138 x139 x140 x141 x142 x143 x144 x145 x146 x147 x148 x149 x150 x151 x152 x153 x154 x155 x156 x157 x158 x159 x160 x161 x162 x163 x164 x165 x166 x167 x168 x169 x170 x171 x172 x173 x174 x175 x176 x177 x178 x179 x180 x181 g' nx' L' F' v' w' hnx' HC' HD' HB'
          go_wp2
          go_roundw
          case rel => exact ⟨k + 1, g', nx', L', F', by omega, by go_num, hnx', hid (by rw [HST.out]; exact HC'.out), hid (by rw [HST.out]; exact HD'.out), HB', hid (by rw [HST.out]; exact GS.out)⟩
          case measure => simp [intOf]; omega
        | some D0 =>
          by_cases hkd : x.kind = 6 ∨ x.kind = 10
          · refine deeds_over w wr g c b nx k r ao co L f x b1 o1 l.length cap hk5 hki hnx hxm HPX HC HD HB HG hse D0 hd hkd _ (by kernel_rfl) _ _ _ _ _ _ _ _ _ _ _ _ _ _ _ _ _ _ _ _ _ _ _ _ _ _ _ _ _ _ _ _ _ _ _ _ _ _ _ _ _ _ _ _ _ _ _ _ _ _ _ _ _ _ _ _ _ _ _ _ _ _ _ _ _ _ _ _ _ _ _ _ _ _ _ _ _ _ _ _ _ _ _ _ _ _ _ _ _ _ _ _ _ _ _ _ _ _ _ _ _ _ _ _ _ _ _ _ _ _ _ _ _ _ _ _ _ _ _ _ _ _ _ _ _ _ _ _ _ _ _ _ _ _ _ _ _ _ _ _ _ _ _ _ _ _ _ _ _ _ _ _ _ _ _ _ _ _ _ _ _ _ _ _ _ _ _ _ _ _ _ _ _ _ _ _ ?_
            clear HC HD HB HG HPX
            intro x7 x8 x9 x10 x11 x13 x14 x15 x16 x17 x18 x19 x20 x21 x22 x23 x24 x25 x26 x27 x28 x29 x30 x31 x32 x33 x34 x35 x36 x37 x38 x39 x40 x41 x42 x43 x44 x45 x46 x47 x48 x49 x50 x51 x52 x53 x54 x55 x56 x57 x58 x59 x60 x61 x62 x63 x64 x65 x66 x67 x68 x69 x70 x71 x72 x73 x74 x75 x76 x77 x78 x79 x80 x81 x82 x83 x84 x85 x86 x87 x88 x89 x90 x91 x92 x93 x94 x95 x96 x97 x98 x99 x100 x101 x102 x103 x104 x105 x106 x107 x108 x109 x110 x111 x112 x113 x114 x115 x116 x117 x118 x119 x120 x121 x122 x123 x124 x125 x126 x127 x128 x129 x130 x131 x132 x133 x134 x135 x136 x137 x138 x139 x140 x141 x142 x143 x144 x145 x146 x147 x148 x149 x150 x151 x152 x153 x154 x155 x156 x157 x158 x159 x160 x161 x162 x163 x164 x165 x166 x167 x168 x169 x170 x171 x172 x173 x174 x175 x176 x177 x178 x179 x180 x181 g' nx' L' F' v' w' hnx' HC' HD' HB'
            go_wp2
            go_roundw
            case rel => exact ⟨k + 1, g', nx', L', F', by omega, by go_num, hnx', hid (by rw [HST.out]; exact HC'.out), hid (by rw [HST.out]; exact HD'.out), HB', hid (by rw [HST.out]; exact GS.out)⟩
            case measure => simp [intOf]; omega
          · refine deeds_busy w wr g c b nx k r ao co L f x b1 o1 l.length cap hk5 hki hnx hxm HPX HC HD HB HG hse D0 hd hkd _ (by kernel_rfl) _ _ _ _ _ _ _ _ _ _ _ _ _ _ _ _ _ _ _ _ _ _ _ _ _ _ _ _ _ _ _ _ _ _ _ _ _ _ _ _ _ _ _ _ _ _ _ _ _ _ _ _ _ _ _ _ _ _ _ _ _ _ _ _ _ _ _ _ _ _ _ _ _ _ _ _ _ _ _ _ _ _ _ _ _ _ _ _ _ _ _ _ _ _ _ _ _ _ _ _ _ _ _ _ _ _ _ _ _ _ _ _ _ _ _ _ _ _ _ _ _ _ _ _ _ _ _ _ _ _ _ _ _ _ _ _ _ _ _ _ _ _ _ _ _ _ _ _ _ _ _ _ _ _ _ _ _ _ _ _ _ _ _ _ _ _ _ _ _ _ _ _ _ _ _ _ ?_
            clear HC HD HB HG HPX
            intro x7 x8 x9 x10 x11 x13 x14 x15 x16 x17 x18 x19 x20 x21 x22 x23 x24 x25 x26 x27 x28 x29 x30 x31 x32 x33 x34 x35 x36 x37 x38 x39 x40 x41 x42 x43 x44 x45 x46 x47 x48 x49 x50 x51 x52 x53 x54 x55 x56 x57 x58 x59 x60 x61 x62 x63 x64 x65 x66 x67 x68 x69 x70 x71 x72 x73 x74 x75 x76 x77 x78 x79 x80 x81 x82 x83 x84 x85 x86 x87 x88 x89 x90 x91 x92 x93 x94 x95 x96 x97 x98 x99 x100 x101 x102 x103 x104 x105 x106 x107 x108 x109 x110 x111 x112 x113 x114 x115 x116 x117 x118 x119 x120 x121 x122 x123 x124 x125 x126 x127 x128 x129 x130 x131 x132 x133 x134 x135 x136 x137 x138 x139 x140 x141 x142 x143 x144 x145 x146 x147 x148 x149 x150 x151 x152 x153 x154 x155 x156 x157 x158 x159 x160 x161 x162 x163 x164 x165 x166 x167 x168 x169 x170 x171 x172 x173 x174 x175 x176 x177 x178 x179 x180 x181 g' nx' L' F' v' w' hnx' HC' HD' HB'
            go_wp2
            go_roundw
            case rel => exact ⟨k + 1, g', nx', L', F', by omega, by go_num, hnx', hid (by rw [HST.out]; exact HC'.out), hid (by rw [HST.out]; exact HD'.out), HB', hid (by rw [HST.out]; exact GS.out)⟩
            case measure => simp [intOf]; omega
      · refine deeds_noseat w wr g c b nx k r ao co L f x b1 o1 l.length cap hk5 hki hnx hxm HPX HC HD HB HG (by simpa using hse) _ (by kernel_rfl) _ _ _ _ _ _ _ _ _ _ _ _ _ _ _ _ _ _ _ _ _ _ _ _ _ _ _ _ _ _ _ _ _ _ _ _ _ _ _ _ _ _ _ _ _ _ _ _ _ _ _ _ _ _ _ _ _ _ _ _ _ _ _ _ _ _ _ _ _ _ _ _ _ _ _ _ _ _ _ _ _ _ _ _ _ _ _ _ _ _ _ _ _ _ _ _ _ _ _ _ _ _ _ _ _ _ _ _ _ _ _ _ _ _ _ _ _ _ _ _ _ _ _ _ _ _ _ _ _ _ _ _ _ _ _ _ _ _ _ _ _ _ _ _ _ _ _ _ _ _ _ _ _ _ _ _ _ _ _ _ _ _ _ _ _ _ _ _ _ _ _ _ _ _ _ _ ?_
        clear HC HD HB HG HPX
        intro x7 x8 x9 x10 x11 x13 x14 x15 x16 x17 x18 x19 x20 x21 x22 x23 x24 x25 x26 x27 x28 x29 x30 x31 x32 x33 x34 x35 x36 x37 x38 x39 x40 x41 x42 x43 x44 x45 x46 x47 x48 x49 x50 x51 x52 x53 x54 x55 x56 x57 x58 x59 x60 x61 x62 x63 x64 x65 x66 x67 x68 x69 x70 x71 x72 x73 x74 x75 x76 x77 x78 x79 x80 x81 x82 x83 x84 x85 x86 x87 x88 x89 x90 x91 x92 x93 x94 x95 x96 x97 x98 x99 x100 x101 x102 x103 x104 x105 x106 x107 x108 x109 x110 x111 x112 x113 x114 x115 x116 x117 x118 x119 x120 x121 x122 x123 x124 x125 x126 x127 x128 x129 x130 x131 x132 x133 x134 x135 x136 x137 x138 x139 x140 x141 x142 x143 x144 x145 x146 x147 x148 x149 x150 x151 x152 x153 x154 x155 x156 x157 x158 x159 x160 x161 x162 x163 x164 x165 x166 x167 x168 x169 x170 x171 x172 x173 x174 x175 x176 x177 x178 x179 x180 x181 g' nx' L' F' v' w' hnx' HC' HD' HB'
        go_wp2
        go_roundw
        case rel => exact ⟨k + 1, g', nx', L', F', by omega, by go_num, hnx', hid (by rw [HST.out]; exact HC'.out), hid (by rw [HST.out]; exact HD'.out), HB', hid (by rw [HST.out]; exact GS.out)⟩
        case measure => simp [intOf]; omega
    · obtain rfl : k = l.length := by omega
      have HD2 := hid (show DeedsC wr g 24 23 b nx l.length (runN (Ht.new, Bk.new) l).2 (.slice ao L.length co) L f from by have := HD.out; rw [List.take_length] at this; exact this)
      have HP := hid (show DeedsPost l w (.returned (.slice ao L.length co)) wr from by
        obtain ⟨a', c', e', hF⟩ := HD2.out.dones
        cases e'
        exact ⟨ao, co, L, rfl, hF, HD2.out.isL, HB.out.below, HD2.out.few, fun y hy => ⟨(HD2.out.fin y hy).len, fun z hz => ((HD2.out.fin y hy).lists z hz).2⟩⟩)
      clear HC HD HB HG HD2
      go_wp2
      go_ret
      exact HP.out

end Go.Proofs.YtoiobhcgpajogadGreat
