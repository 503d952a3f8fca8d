/- The document's desk: the walk of line: the switch. -/
import Derived.Test.YtoiobhcgpajogaaGreatDoorRDk3
namespace Go.Proofs.YtoiobhcgpajogaaGreatDoor
open Go.RowKit
set_option linter.unusedVariables false

/-- Which word is which step. -/
def WordStep (w : List UInt8) (n0 n1 n2 : Int) (b : ByteArray) (at_ : Int) (x : St) : Prop :=
  (w = b_shot ∧ x = ⟨1, n0, 1, 0, 0, 0, 0, ByteArray.empty⟩ ∧ at_ = 0) ∨ (w = b_sure ∧ x = ⟨1, n0, 2, 0, 0, 0, 0, ByteArray.empty⟩ ∧ at_ = 1) ∨ (w = b_look ∧ x = ⟨1, n0, 3, n1, 0, 0, 0, ByteArray.empty⟩) ∨ (w = b_get ∧ x = ⟨2, n0, 0, 0, n1, 0, 0, ByteArray.empty⟩) ∨ (w = b_put ∧ x = ⟨3, n0, 0, 0, n1, 0, 0, b⟩) ∨ (w = b_drop ∧ x = ⟨4, n0, 0, 0, n1, 0, 0, ByteArray.empty⟩) ∨ (w = b_list ∧ x = ⟨5, n0, 0, 0, n1, n2, 0, ByteArray.empty⟩) ∨ (w = b_commit ∧ x = ⟨6, n0, 0, 0, 0, 0, 0, ByteArray.empty⟩) ∨ (w = b_abort ∧ x = ⟨7, n0, 0, 0, 0, 0, 0, ByteArray.empty⟩) ∨ (w = b_clear ∧ x = ⟨8, n0, 0, 0, 0, 0, 0, ByteArray.empty⟩) ∨ (w = b_crash ∧ x = ⟨9, n0, 0, 0, 0, 0, 0, ByteArray.empty⟩) ∨ (w = b_tear ∧ x = ⟨10, n0, 0, 0, 0, 0, n1, ByteArray.empty⟩)

theorem RDk.put1 {w : World} {g : Nat → Nat} {w0 : World} {g0 : Nat → Nat} {q d c N b i : Nat} {t : List UInt8} {H : Ht} (k : RDk w0 g0 q d c t N H g w) (hg : g b = q + 24) (hb : w0.heap.size ≤ b) (v : Value) : RDk w0 g0 q d c t N H g (w.setCell ⟨b, i, none⟩ v) := by
  have e : Evo (q + 24) (q + 24 + 1) g g w (w.setCell ⟨b, i, none⟩ v) := evo_store v hg
  exact ⟨k.desk.frame e (by omega), k.court.frame e (by omega), k.glob.frame e (by omega), evo_storeNew k.evo hb v⟩

set_option maxHeartbeats 16000000 in
set_option maxRecDepth 100000 in
theorem rline_switch (w0 w : World) (g0 g : Nat → Nat) (q d c bx N : Nat) (t : List UInt8) (H : Ht) (x : St) (hq : 1 ≤ q) (hN : N + 8 < 1000000)
    (bw ow lw cw bn on ln cn : Nat) (xw b : ByteArray) (n0 n1 n2 at_ : Int) (hlw : 1 ≤ lw) (hln : 3 ≤ ln) (hbm : b.size ≤ maxLen) (hbx : w0.heap.size ≤ bx)
    (CW : w.cell? ⟨bw, ow, none⟩ = some (.string xw)) (N1 : w.cell? ⟨bn, on + 1, none⟩ = some (.int .i64 n1)) (N2 : w.cell? ⟨bn, on + 2, none⟩ = some (.int .i64 n2)) (hgn : g bn < q + 24)
    (hx : WordStep xw.data.toList n0 n1 n2 b at_ x)
    (KR : Hid (RDk w0 g0 q d c t N H g w)) (HX : Hid (LocC w g (q + 24) bx 97 (stL ⟨0, n0, 0, 0, 0, 0, 0, ByteArray.empty⟩))) (OK : Hid (EvOk (doH H x).1)) (ht : t.length ≤ 700000000)
    (C : Code) (hcode : Tryz.f18.body.bind (tailR 32) = some C) (Q : Exit → Act → World → Prop) (u1 u2 u3 u5 u6 u8 u10 u11 u12 u14 u16 u17 u18 u19 u20 u21 u22 u23 u24 u25 u26 u27 u28 u29 u30 u31 u32 u33 u34 u35 u36 u37 u38 u39 u40 u41 u42 u43 u44 u45 u46 u47 u48 u49 u50 u51 u52 u53 u54 u55 u56 u57 u58 u59 u60 u61 u62 u63 u64 u65 u66 u67 u68 u69 u70 u71 u72 u73 u74 u75 u76 u77 u78 u79 u80 u81 u82 u83 u84 u85 u86 u87 u88 u89 u90 u91 u92 u93 u94 u95 u96 u97 u98 u99 u100 u101 u102 u103 u104 u105 u106 u107 u108 u109 u110 u111 u112 u113 u114 u115 u116 u117 u118 u119 u120 u121 u122 u123 u124 u125 u126 u127 u128 u129 u130 u131 u132 u133 u134 u135 u136 u137 u138 u139 u140 u141 u142 u143 u144 u145 u146 u147 u148 u149 u150 u151 u152 u153 u154 u155 u156 u157 u158 u159 u160 u161 u162 u163 u164 u165 u166 u167 u168 u169 u170 u171 u172 u173 u174 u175 u176 u177 u178 u179 u180 u181 u182 u183 u184 u185 u186 u187 u188 u189 u190 u191 u192 u193 u194 u195 u196 u197 u198 u199 u200 u201 u202 u203 u204 u205 u206 u207 u208 u209 u210 u211 u212 u213 u214 u215 u216 u217 u218 u219 u220 u221 u222 u223 u224 u225 u226 u227 u228 u229 u230 u231 u232 u233 u234 u235 u236 u237 u238 u239 u240 u241 u242 u243 u244 u245 u246 u247 u248 u249 u250 u251 u252 u253 u254 u255 u256 u257 u258 u259 u260 u261 u262 u263 u264 u265 u266 u267 u268 u269 u270 u271 u272 u273 u274 u275 u276 u277 u278 u279 u280 u281 u282 u283 u284 u285 u286 u287 u288 u289 u290 u291 u292 u293 u294 u295 u296 u297 u298 u299 u300 u301 u302 u303 u304 u305 u306 u307 u308 u309 u310 u311 u312 u313 u314 u315 : Value)
    (hQ : ∀ (e' : Exit) (a' : Act) (w' : World), (e' = .normal ∨ e' = .ret) → a'.defers = [] → (∃ g', RDk w0 g0 q d c (t ++ (tellD x (doH H x).1 ++ [10])) (N + 8) (doH H x).2 g' w') → Q e' a' w') :
    Code.wp Tryz.prog C Q ⟨List.toArray (.pointer (some ⟨d, 0, none⟩) :: u1 :: u2 :: u3 :: .slice (some ⟨bw, ow, none⟩) lw cw :: u5 :: u6 :: .string b :: u8 :: .slice (some ⟨bn, on, none⟩) ln cn :: u10 :: u11 :: u12 :: .int .i64 at_ :: u14 :: .pointer (some ⟨bx, 0, none⟩) :: u16 :: u17 :: u18 :: u19 :: u20 :: u21 :: u22 :: u23 :: u24 :: u25 :: u26 :: u27 :: u28 :: u29 :: u30 :: u31 :: u32 :: u33 :: u34 :: u35 :: u36 :: u37 :: u38 :: u39 :: u40 :: u41 :: u42 :: u43 :: u44 :: u45 :: u46 :: u47 :: u48 :: u49 :: u50 :: u51 :: u52 :: u53 :: u54 :: u55 :: u56 :: u57 :: u58 :: u59 :: u60 :: u61 :: u62 :: u63 :: u64 :: u65 :: u66 :: u67 :: u68 :: u69 :: u70 :: u71 :: u72 :: u73 :: u74 :: u75 :: u76 :: u77 :: u78 :: u79 :: u80 :: u81 :: u82 :: u83 :: u84 :: u85 :: u86 :: u87 :: u88 :: u89 :: u90 :: u91 :: u92 :: u93 :: u94 :: u95 :: u96 :: u97 :: u98 :: u99 :: u100 :: u101 :: u102 :: u103 :: u104 :: u105 :: u106 :: u107 :: u108 :: u109 :: u110 :: u111 :: u112 :: u113 :: u114 :: u115 :: u116 :: u117 :: u118 :: u119 :: u120 :: u121 :: u122 :: u123 :: u124 :: u125 :: u126 :: u127 :: u128 :: u129 :: u130 :: u131 :: u132 :: u133 :: u134 :: u135 :: u136 :: u137 :: u138 :: u139 :: u140 :: u141 :: u142 :: u143 :: u144 :: u145 :: u146 :: u147 :: u148 :: u149 :: u150 :: u151 :: u152 :: u153 :: u154 :: u155 :: u156 :: u157 :: u158 :: u159 :: u160 :: u161 :: u162 :: u163 :: u164 :: u165 :: u166 :: u167 :: u168 :: u169 :: u170 :: u171 :: u172 :: u173 :: u174 :: u175 :: u176 :: u177 :: u178 :: u179 :: u180 :: u181 :: u182 :: u183 :: u184 :: u185 :: u186 :: u187 :: u188 :: u189 :: u190 :: u191 :: u192 :: u193 :: u194 :: u195 :: u196 :: u197 :: u198 :: u199 :: u200 :: u201 :: u202 :: u203 :: u204 :: u205 :: u206 :: u207 :: u208 :: u209 :: u210 :: u211 :: u212 :: u213 :: u214 :: u215 :: u216 :: u217 :: u218 :: u219 :: u220 :: u221 :: u222 :: u223 :: u224 :: u225 :: u226 :: u227 :: u228 :: u229 :: u230 :: u231 :: u232 :: u233 :: u234 :: u235 :: u236 :: u237 :: u238 :: u239 :: u240 :: u241 :: u242 :: u243 :: u244 :: u245 :: u246 :: u247 :: u248 :: u249 :: u250 :: u251 :: u252 :: u253 :: u254 :: u255 :: u256 :: u257 :: u258 :: u259 :: u260 :: u261 :: u262 :: u263 :: u264 :: u265 :: u266 :: u267 :: u268 :: u269 :: u270 :: u271 :: u272 :: u273 :: u274 :: u275 :: u276 :: u277 :: u278 :: u279 :: u280 :: u281 :: u282 :: u283 :: u284 :: u285 :: u286 :: u287 :: u288 :: u289 :: u290 :: u291 :: u292 :: u293 :: u294 :: u295 :: u296 :: u297 :: u298 :: u299 :: u300 :: u301 :: u302 :: u303 :: u304 :: u305 :: u306 :: u307 :: u308 :: u309 :: u310 :: u311 :: u312 :: u313 :: u314 :: u315 :: []), []⟩ w := by
  have HQ := hid hQ
  clear hQ
  obtain rfl : (Tryz.f18.body.bind (tailR 32)).getD .skip = C := by rw [hcode]; rfl
  clear hcode
  conv => arg 2; whnf
  have hl1 : (1 : Int) ≤ (lw : Int) := by omega
  have hl2 : 0 < lw := by omega
  have hl3 : (0 : Int) < (lw : Int) := by omega
  have hn1 : (1 : Int) < (ln : Int) := by omega
  have hn2 : (2 : Int) < (ln : Int) := by omega
  have hn3 : 1 < ln := by omega
  have hn4 : 2 < ln := by omega
  go_upto_region 32 with (fail)
  rename_i K1 h1 K2 h2
  have HK1 := hid h1
  clear h1
  rcases hx with hx | hx | hx | hx | hx | hx | hx | hx | hx | hx | hx | hx
  · obtain ⟨hw, rfl, rfl⟩ := hx
    have hwl : xw.toList = [115, 104, 111, 116] := by rw [toList_data]; exact hw
    clear hw
    have u0 : w.cell? ⟨bx, 0, none⟩ = some (.int .i64 0) := HX.out.1.cell 0
    have v0 : w.frozen? ⟨bx, 0, none⟩ = false := HX.out.1.free 0
    have u2 : w.cell? ⟨bx, 2, none⟩ = some (.int .i64 0) := HX.out.1.cell 2
    have v2 : w.frozen? ⟨bx, 2, none⟩ = false := HX.out.1.free 2
    have XZ := hid (show LocC ((w.setCell ⟨bx, 0, none⟩ (.int .i64 1)).setCell ⟨bx, 2, none⟩ (.int .i64 1)) g (q + 24) bx 97 (stL ⟨1, n0, 1, 0, 0, 0, 0, ByteArray.empty⟩) from ((HX.out.set 0 (.int .i64 1)).set 2 (.int .i64 1)))
    have KZ := hid (show RDk w0 g0 q d c t N H g ((w.setCell ⟨bx, 0, none⟩ (.int .i64 1)).setCell ⟨bx, 2, none⟩ (.int .i64 1)) from ((KR.out.put1 HX.out.2 hbx (.int .i64 1)).put1 HX.out.2 hbx (.int .i64 1)))
    go_wp2_with fail
    all_goals
      generalize ((w.setCell ⟨bx, 0, none⟩ (.int .i64 1)).setCell ⟨bx, 2, none⟩ (.int .i64 1)) = wZ at *
      refine HK1.out _ _ ?_
      exact rline_do w0 wZ g0 g q d c bx N t H _ hq hN (by first | exact hbm | exact Nat.zero_le _) KZ XZ OK ht _ (by kernel_rfl) _ _ _ _ _ _ _ _ _ _ _ _ _ _ _ _ _ _ _ _ _ _ _ _ _ _ _ _ _ _ _ _ _ _ _ _ _ _ _ _ _ _ _ _ _ _ _ _ _ _ _ _ _ _ _ _ _ _ _ _ _ _ _ _ _ _ _ _ _ _ _ _ _ _ _ _ _ _ _ _ _ _ _ _ _ _ _ _ _ _ _ _ _ _ _ _ _ _ _ _ _ _ _ _ _ _ _ _ _ _ _ _ _ _ _ _ _ _ _ _ _ _ _ _ _ _ _ _ _ _ _ _ _ _ _ _ _ _ _ _ _ _ _ _ _ _ _ _ _ _ _ _ _ _ _ _ _ _ _ _ _ _ _ _ _ _ _ _ _ _ _ _ _ _ _ _ _ _ _ _ _ _ _ _ _ _ _ _ _ _ _ _ _ _ _ _ _ _ _ _ _ _ _ _ _ _ _ _ _ _ _ _ _ _ _ _ _ _ _ _ _ _ _ _ _ _ _ _ _ _ _ _ _ _ _ _ _ _ _ _ _ _ _ _ _ _ _ _ _ _ _ _ _ _ _ _ _ _ _ _ _ _ _ _ _ _ _ _ _ _ _ _ _ _ _ _ _ _ _ _ _ _ _ _ _ _ _ _ _ _ _ _ _ _ _ _ _ _ _ _ _ _ _ _ _ _ _ _ _ _ _ _ _ _ _ HQ.out
  · obtain ⟨hw, rfl, rfl⟩ := hx
    have hwl : xw.toList = [115, 117, 114, 101] := by rw [toList_data]; exact hw
    clear hw
    have u0 : w.cell? ⟨bx, 0, none⟩ = some (.int .i64 0) := HX.out.1.cell 0
    have v0 : w.frozen? ⟨bx, 0, none⟩ = false := HX.out.1.free 0
    have u2 : w.cell? ⟨bx, 2, none⟩ = some (.int .i64 0) := HX.out.1.cell 2
    have v2 : w.frozen? ⟨bx, 2, none⟩ = false := HX.out.1.free 2
    have XZ := hid (show LocC ((w.setCell ⟨bx, 0, none⟩ (.int .i64 1)).setCell ⟨bx, 2, none⟩ (.int .i64 2)) g (q + 24) bx 97 (stL ⟨1, n0, 2, 0, 0, 0, 0, ByteArray.empty⟩) from ((HX.out.set 0 (.int .i64 1)).set 2 (.int .i64 2)))
    have KZ := hid (show RDk w0 g0 q d c t N H g ((w.setCell ⟨bx, 0, none⟩ (.int .i64 1)).setCell ⟨bx, 2, none⟩ (.int .i64 2)) from ((KR.out.put1 HX.out.2 hbx (.int .i64 1)).put1 HX.out.2 hbx (.int .i64 2)))
    go_wp2_with fail
    all_goals
      generalize ((w.setCell ⟨bx, 0, none⟩ (.int .i64 1)).setCell ⟨bx, 2, none⟩ (.int .i64 2)) = wZ at *
      refine HK1.out _ _ ?_
      exact rline_do w0 wZ g0 g q d c bx N t H _ hq hN (by first | exact hbm | exact Nat.zero_le _) KZ XZ OK ht _ (by kernel_rfl) _ _ _ _ _ _ _ _ _ _ _ _ _ _ _ _ _ _ _ _ _ _ _ _ _ _ _ _ _ _ _ _ _ _ _ _ _ _ _ _ _ _ _ _ _ _ _ _ _ _ _ _ _ _ _ _ _ _ _ _ _ _ _ _ _ _ _ _ _ _ _ _ _ _ _ _ _ _ _ _ _ _ _ _ _ _ _ _ _ _ _ _ _ _ _ _ _ _ _ _ _ _ _ _ _ _ _ _ _ _ _ _ _ _ _ _ _ _ _ _ _ _ _ _ _ _ _ _ _ _ _ _ _ _ _ _ _ _ _ _ _ _ _ _ _ _ _ _ _ _ _ _ _ _ _ _ _ _ _ _ _ _ _ _ _ _ _ _ _ _ _ _ _ _ _ _ _ _ _ _ _ _ _ _ _ _ _ _ _ _ _ _ _ _ _ _ _ _ _ _ _ _ _ _ _ _ _ _ _ _ _ _ _ _ _ _ _ _ _ _ _ _ _ _ _ _ _ _ _ _ _ _ _ _ _ _ _ _ _ _ _ _ _ _ _ _ _ _ _ _ _ _ _ _ _ _ _ _ _ _ _ _ _ _ _ _ _ _ _ _ _ _ _ _ _ _ _ _ _ _ _ _ _ _ _ _ _ _ _ _ _ _ _ _ _ _ _ _ _ _ _ _ _ _ _ _ _ _ _ _ _ _ _ _ _ HQ.out
  · obtain ⟨hw, rfl⟩ := hx
    have hwl : xw.toList = [108, 111, 111, 107] := by rw [toList_data]; exact hw
    clear hw
    have HSX := hid (HX.out.below (Below.refl w.heap.size w).drew)
    have HSK := hid (KR.out.below (Below.refl w.heap.size w).drew)
    have hS0 : w.drew.cell? ⟨bn, on + 1, none⟩ = some (.int .i64 n1) ∧ w.drew.cell? ⟨bn, on + 2, none⟩ = some (.int .i64 n2) := ⟨N1, N2⟩
    have u0 : w.drew.cell? ⟨bx, 0, none⟩ = some (.int .i64 0) := HSX.out.1.cell 0
    have v0 : w.drew.frozen? ⟨bx, 0, none⟩ = false := HSX.out.1.free 0
    go_upto_region 37 with (fail)
    -- REGION look
    refine wp_region_noPanic ?_
    refine wp_region_held_drew (S := (fun W : World => W.cell? ⟨bn, on + 1, none⟩ = some (.int .i64 n1) ∧ W.cell? ⟨bn, on + 2, none⟩ = some (.int .i64 n2))) (by kernel_rfl) ?_ (fun hH0 => ?_)
    · (try dsimp only); (first | assumption)
    refine tk 0 (h := ?_)
    try simp only [Act.put, List.setIfInBounds_toArray, List.set_cons_zero, List.set_cons_succ]
    refine tk 1 (h := ?_)
    try simp only [Act.put, List.setIfInBounds_toArray, List.set_cons_zero, List.set_cons_succ]
    refine tk 2 (h := ?_)
    try simp only [Act.put, List.setIfInBounds_toArray, List.set_cons_zero, List.set_cons_succ]
    refine tk 3 (h := ?_)
    try simp only [Act.put, List.setIfInBounds_toArray, List.set_cons_zero, List.set_cons_succ]
    refine wpAnyH_ready (rs := [4]) (by kernel_rfl) (by simp) ?_
    refine AllReadyH.cons (by simp only [List.getElem?_toArray, List.getElem?_cons_zero, List.getElem?_cons_succ]; rfl) (fun K hK => ?_) AllReadyH.nil
    go_simp
    have hE := evo_store (w := w) (i := 0) (.int .i64 1) HX.out.2
    have X0 : Hid (LocC (w.setCell ⟨bx, 0, none⟩ (.int .i64 1)).drew g (q + 24) bx 97 _) := hid ((HX.out.set 0 (.int .i64 1)).below (Below.refl (w.setCell ⟨bx, 0, none⟩ (.int .i64 1)).heap.size (w.setCell ⟨bx, 0, none⟩ (.int .i64 1))).drew)
    have KK0 : Hid (RDk w0 g0 q d c t N H g (w.setCell ⟨bx, 0, none⟩ (.int .i64 1)).drew) := hid ((KR.out.put1 (i := 0) HX.out.2 hbx (.int .i64 1)).below (Below.refl (w.setCell ⟨bx, 0, none⟩ (.int .i64 1)).heap.size (w.setCell ⟨bx, 0, none⟩ (.int .i64 1))).drew)
    have hS1 : (w.setCell ⟨bx, 0, none⟩ (.int .i64 1)).drew.cell? ⟨bn, on + 1, none⟩ = some (.int .i64 n1) ∧ (w.setCell ⟨bx, 0, none⟩ (.int .i64 1)).drew.cell? ⟨bn, on + 2, none⟩ = some (.int .i64 n2) := ⟨hE.cell N1 (.inl hgn), hE.cell N2 (.inl hgn)⟩
    clear hE u0 v0
    generalize (w.setCell ⟨bx, 0, none⟩ (.int .i64 1)).drew = wS0 at *
    have u2 : wS0.cell? ⟨bx, 2, none⟩ = some (.int .i64 0) := X0.out.1.cell 2
    have v2 : wS0.frozen? ⟨bx, 2, none⟩ = false := X0.out.1.free 2
    try go_wp2_with fail
    refine hK.out _ _ ?_ (fun hH1 => ?_)
    · (try dsimp only); (first | assumption)
    clear hK K hH0
    try simp only [Act.put, List.setIfInBounds_toArray, List.set_cons_zero, List.set_cons_succ]
    refine tk 5 (h := ?_)
    try simp only [Act.put, List.setIfInBounds_toArray, List.set_cons_zero, List.set_cons_succ]
    refine wpAnyH_ready (rs := [6]) (by kernel_rfl) (by simp) ?_
    refine AllReadyH.cons (by simp only [List.getElem?_toArray, List.getElem?_cons_zero, List.getElem?_cons_succ]; rfl) (fun K hK => ?_) AllReadyH.nil
    go_simp
    have hE := evo_store (w := wS0) (i := 2) (.int .i64 3) X0.out.2
    have X1 : Hid (LocC (wS0.setCell ⟨bx, 2, none⟩ (.int .i64 3)) g (q + 24) bx 97 _) := hid (X0.out.set 2 (.int .i64 3))
    have KK1 : Hid (RDk w0 g0 q d c t N H g (wS0.setCell ⟨bx, 2, none⟩ (.int .i64 3))) := hid (KK0.out.put1 (i := 2) X0.out.2 hbx (.int .i64 3))
    have hS2 : (wS0.setCell ⟨bx, 2, none⟩ (.int .i64 3)).cell? ⟨bn, on + 1, none⟩ = some (.int .i64 n1) ∧ (wS0.setCell ⟨bx, 2, none⟩ (.int .i64 3)).cell? ⟨bn, on + 2, none⟩ = some (.int .i64 n2) := ⟨hE.cell hS1.1 (.inl hgn), hE.cell hS1.2 (.inl hgn)⟩
    clear hE u2 v2
    generalize (wS0.setCell ⟨bx, 2, none⟩ (.int .i64 3)) = wS1 at *
    have u3 : wS1.cell? ⟨bx, 3, none⟩ = some (.int .i64 0) := X1.out.1.cell 3
    have v3 : wS1.frozen? ⟨bx, 3, none⟩ = false := X1.out.1.free 3
    try go_wp2_with fail
    refine hK.out _ _ ?_ (fun hH2 => ?_)
    · (try dsimp only); (first | assumption)
    clear hK K hH1
    try simp only [Act.put, List.setIfInBounds_toArray, List.set_cons_zero, List.set_cons_succ]
    refine tk 7 (h := ?_)
    try simp only [Act.put, List.setIfInBounds_toArray, List.set_cons_zero, List.set_cons_succ]
    refine wpAnyH_ready (rs := [8]) (by kernel_rfl) (by simp) ?_
    refine AllReadyH.cons (by simp only [List.getElem?_toArray, List.getElem?_cons_zero, List.getElem?_cons_succ]; rfl) (fun K hK => ?_) AllReadyH.nil
    go_simp
    have hE := evo_store (w := wS1) (i := 3) (.int .i64 n1) X1.out.2
    have X2 : Hid (LocC (wS1.setCell ⟨bx, 3, none⟩ (.int .i64 n1)) g (q + 24) bx 97 _) := hid (X1.out.set 3 (.int .i64 n1))
    have KK2 : Hid (RDk w0 g0 q d c t N H g (wS1.setCell ⟨bx, 3, none⟩ (.int .i64 n1))) := hid (KK1.out.put1 (i := 3) X1.out.2 hbx (.int .i64 n1))
    have hS3 : (wS1.setCell ⟨bx, 3, none⟩ (.int .i64 n1)).cell? ⟨bn, on + 1, none⟩ = some (.int .i64 n1) ∧ (wS1.setCell ⟨bx, 3, none⟩ (.int .i64 n1)).cell? ⟨bn, on + 2, none⟩ = some (.int .i64 n2) := ⟨hE.cell hS2.1 (.inl hgn), hE.cell hS2.2 (.inl hgn)⟩
    clear hE u3 v3
    generalize (wS1.setCell ⟨bx, 3, none⟩ (.int .i64 n1)) = wS2 at *
    try go_wp2_with fail
    refine hK.out _ _ ?_ (fun hH3 => ?_)
    · (try dsimp only); (first | assumption)
    clear hK K hH2
    try simp only [Act.put, List.setIfInBounds_toArray, List.set_cons_zero, List.set_cons_succ]
    refine wpAnyH_done (by kernel_rfl) ?_ _
    refine NoPanic.normal ?_
    simp only [Exit.then, Exit.inBlock]
    go_wp2_with fail
    have XZ := hid (show LocC wS2 g (q + 24) bx 97 (stL ⟨1, n0, 3, n1, 0, 0, 0, ByteArray.empty⟩) from X2.out)
    refine HK1.out _ _ ?_
    exact rline_do w0 wS2 g0 g q d c bx N t H _ hq hN (by first | exact hbm | exact Nat.zero_le _) KK2 XZ OK ht _ (by kernel_rfl) _ _ _ _ _ _ _ _ _ _ _ _ _ _ _ _ _ _ _ _ _ _ _ _ _ _ _ _ _ _ _ _ _ _ _ _ _ _ _ _ _ _ _ _ _ _ _ _ _ _ _ _ _ _ _ _ _ _ _ _ _ _ _ _ _ _ _ _ _ _ _ _ _ _ _ _ _ _ _ _ _ _ _ _ _ _ _ _ _ _ _ _ _ _ _ _ _ _ _ _ _ _ _ _ _ _ _ _ _ _ _ _ _ _ _ _ _ _ _ _ _ _ _ _ _ _ _ _ _ _ _ _ _ _ _ _ _ _ _ _ _ _ _ _ _ _ _ _ _ _ _ _ _ _ _ _ _ _ _ _ _ _ _ _ _ _ _ _ _ _ _ _ _ _ _ _ _ _ _ _ _ _ _ _ _ _ _ _ _ _ _ _ _ _ _ _ _ _ _ _ _ _ _ _ _ _ _ _ _ _ _ _ _ _ _ _ _ _ _ _ _ _ _ _ _ _ _ _ _ _ _ _ _ _ _ _ _ _ _ _ _ _ _ _ _ _ _ _ _ _ _ _ _ _ _ _ _ _ _ _ _ _ _ _ _ _ _ _ _ _ _ _ _ _ _ _ _ _ _ _ _ _ _ _ _ _ _ _ _ _ _ _ _ _ _ _ _ _ _ _ _ _ _ _ _ _ _ _ _ _ _ _ _ _ _ HQ.out
    -- END look
  · obtain ⟨hw, rfl⟩ := hx
    have hwl : xw.toList = [103, 101, 116] := by rw [toList_data]; exact hw
    clear hw
    have HSX := hid (HX.out.below (Below.refl w.heap.size w).drew)
    have HSK := hid (KR.out.below (Below.refl w.heap.size w).drew)
    have hS0 : w.drew.cell? ⟨bn, on + 1, none⟩ = some (.int .i64 n1) ∧ w.drew.cell? ⟨bn, on + 2, none⟩ = some (.int .i64 n2) := ⟨N1, N2⟩
    have u0 : w.drew.cell? ⟨bx, 0, none⟩ = some (.int .i64 0) := HSX.out.1.cell 0
    have v0 : w.drew.frozen? ⟨bx, 0, none⟩ = false := HSX.out.1.free 0
    go_upto_region 39 with (fail)
    -- REGION get
    refine wp_region_noPanic ?_
    refine wp_region_held_drew (S := (fun W : World => W.cell? ⟨bn, on + 1, none⟩ = some (.int .i64 n1) ∧ W.cell? ⟨bn, on + 2, none⟩ = some (.int .i64 n2))) (by kernel_rfl) ?_ (fun hH0 => ?_)
    · (try dsimp only); (first | assumption)
    refine tk 0 (h := ?_)
    try simp only [Act.put, List.setIfInBounds_toArray, List.set_cons_zero, List.set_cons_succ]
    refine tk 1 (h := ?_)
    try simp only [Act.put, List.setIfInBounds_toArray, List.set_cons_zero, List.set_cons_succ]
    refine tk 2 (h := ?_)
    try simp only [Act.put, List.setIfInBounds_toArray, List.set_cons_zero, List.set_cons_succ]
    refine tk 3 (h := ?_)
    try simp only [Act.put, List.setIfInBounds_toArray, List.set_cons_zero, List.set_cons_succ]
    refine wpAnyH_ready (rs := [4]) (by kernel_rfl) (by simp) ?_
    refine AllReadyH.cons (by simp only [List.getElem?_toArray, List.getElem?_cons_zero, List.getElem?_cons_succ]; rfl) (fun K hK => ?_) AllReadyH.nil
    go_simp
    have hE := evo_store (w := w) (i := 0) (.int .i64 2) HX.out.2
    have X0 : Hid (LocC (w.setCell ⟨bx, 0, none⟩ (.int .i64 2)).drew g (q + 24) bx 97 _) := hid ((HX.out.set 0 (.int .i64 2)).below (Below.refl (w.setCell ⟨bx, 0, none⟩ (.int .i64 2)).heap.size (w.setCell ⟨bx, 0, none⟩ (.int .i64 2))).drew)
    have KK0 : Hid (RDk w0 g0 q d c t N H g (w.setCell ⟨bx, 0, none⟩ (.int .i64 2)).drew) := hid ((KR.out.put1 (i := 0) HX.out.2 hbx (.int .i64 2)).below (Below.refl (w.setCell ⟨bx, 0, none⟩ (.int .i64 2)).heap.size (w.setCell ⟨bx, 0, none⟩ (.int .i64 2))).drew)
    have hS1 : (w.setCell ⟨bx, 0, none⟩ (.int .i64 2)).drew.cell? ⟨bn, on + 1, none⟩ = some (.int .i64 n1) ∧ (w.setCell ⟨bx, 0, none⟩ (.int .i64 2)).drew.cell? ⟨bn, on + 2, none⟩ = some (.int .i64 n2) := ⟨hE.cell N1 (.inl hgn), hE.cell N2 (.inl hgn)⟩
    clear hE u0 v0
    generalize (w.setCell ⟨bx, 0, none⟩ (.int .i64 2)).drew = wS0 at *
    have u4 : wS0.cell? ⟨bx, 4, none⟩ = some (.int .i64 0) := X0.out.1.cell 4
    have v4 : wS0.frozen? ⟨bx, 4, none⟩ = false := X0.out.1.free 4
    try go_wp2_with fail
    refine hK.out _ _ ?_ (fun hH1 => ?_)
    · (try dsimp only); (first | assumption)
    clear hK K hH0
    try simp only [Act.put, List.setIfInBounds_toArray, List.set_cons_zero, List.set_cons_succ]
    refine tk 5 (h := ?_)
    try simp only [Act.put, List.setIfInBounds_toArray, List.set_cons_zero, List.set_cons_succ]
    refine wpAnyH_ready (rs := [6]) (by kernel_rfl) (by simp) ?_
    refine AllReadyH.cons (by simp only [List.getElem?_toArray, List.getElem?_cons_zero, List.getElem?_cons_succ]; rfl) (fun K hK => ?_) AllReadyH.nil
    go_simp
    have hE := evo_store (w := wS0) (i := 4) (.int .i64 n1) X0.out.2
    have X1 : Hid (LocC (wS0.setCell ⟨bx, 4, none⟩ (.int .i64 n1)) g (q + 24) bx 97 _) := hid (X0.out.set 4 (.int .i64 n1))
    have KK1 : Hid (RDk w0 g0 q d c t N H g (wS0.setCell ⟨bx, 4, none⟩ (.int .i64 n1))) := hid (KK0.out.put1 (i := 4) X0.out.2 hbx (.int .i64 n1))
    have hS2 : (wS0.setCell ⟨bx, 4, none⟩ (.int .i64 n1)).cell? ⟨bn, on + 1, none⟩ = some (.int .i64 n1) ∧ (wS0.setCell ⟨bx, 4, none⟩ (.int .i64 n1)).cell? ⟨bn, on + 2, none⟩ = some (.int .i64 n2) := ⟨hE.cell hS1.1 (.inl hgn), hE.cell hS1.2 (.inl hgn)⟩
    clear hE u4 v4
    generalize (wS0.setCell ⟨bx, 4, none⟩ (.int .i64 n1)) = wS1 at *
    try go_wp2_with fail
    refine hK.out _ _ ?_ (fun hH2 => ?_)
    · (try dsimp only); (first | assumption)
    clear hK K hH1
    try simp only [Act.put, List.setIfInBounds_toArray, List.set_cons_zero, List.set_cons_succ]
    refine wpAnyH_done (by kernel_rfl) ?_ _
    refine NoPanic.normal ?_
    simp only [Exit.then, Exit.inBlock]
    go_wp2_with fail
    have XZ := hid (show LocC wS1 g (q + 24) bx 97 (stL ⟨2, n0, 0, 0, n1, 0, 0, ByteArray.empty⟩) from X1.out)
    refine HK1.out _ _ ?_
    exact rline_do w0 wS1 g0 g q d c bx N t H _ hq hN (by first | exact hbm | exact Nat.zero_le _) KK1 XZ OK ht _ (by kernel_rfl) _ _ _ _ _ _ _ _ _ _ _ _ _ _ _ _ _ _ _ _ _ _ _ _ _ _ _ _ _ _ _ _ _ _ _ _ _ _ _ _ _ _ _ _ _ _ _ _ _ _ _ _ _ _ _ _ _ _ _ _ _ _ _ _ _ _ _ _ _ _ _ _ _ _ _ _ _ _ _ _ _ _ _ _ _ _ _ _ _ _ _ _ _ _ _ _ _ _ _ _ _ _ _ _ _ _ _ _ _ _ _ _ _ _ _ _ _ _ _ _ _ _ _ _ _ _ _ _ _ _ _ _ _ _ _ _ _ _ _ _ _ _ _ _ _ _ _ _ _ _ _ _ _ _ _ _ _ _ _ _ _ _ _ _ _ _ _ _ _ _ _ _ _ _ _ _ _ _ _ _ _ _ _ _ _ _ _ _ _ _ _ _ _ _ _ _ _ _ _ _ _ _ _ _ _ _ _ _ _ _ _ _ _ _ _ _ _ _ _ _ _ _ _ _ _ _ _ _ _ _ _ _ _ _ _ _ _ _ _ _ _ _ _ _ _ _ _ _ _ _ _ _ _ _ _ _ _ _ _ _ _ _ _ _ _ _ _ _ _ _ _ _ _ _ _ _ _ _ _ _ _ _ _ _ _ _ _ _ _ _ _ _ _ _ _ _ _ _ _ _ _ _ _ _ _ _ _ _ _ _ _ _ _ _ _ HQ.out
    -- END get
  · obtain ⟨hw, rfl⟩ := hx
    have hwl : xw.toList = [112, 117, 116] := by rw [toList_data]; exact hw
    clear hw
    have HSX := hid (HX.out.below (Below.refl w.heap.size w).drew)
    have HSK := hid (KR.out.below (Below.refl w.heap.size w).drew)
    have hS0 : w.drew.cell? ⟨bn, on + 1, none⟩ = some (.int .i64 n1) ∧ w.drew.cell? ⟨bn, on + 2, none⟩ = some (.int .i64 n2) := ⟨N1, N2⟩
    have u0 : w.drew.cell? ⟨bx, 0, none⟩ = some (.int .i64 0) := HSX.out.1.cell 0
    have v0 : w.drew.frozen? ⟨bx, 0, none⟩ = false := HSX.out.1.free 0
    go_upto_region 41 with (fail)
    -- REGION put
    refine wp_region_noPanic ?_
    refine wp_region_held_drew (S := (fun W : World => W.cell? ⟨bn, on + 1, none⟩ = some (.int .i64 n1) ∧ W.cell? ⟨bn, on + 2, none⟩ = some (.int .i64 n2))) (by kernel_rfl) ?_ (fun hH0 => ?_)
    · (try dsimp only); (first | assumption)
    refine tk 0 (h := ?_)
    try simp only [Act.put, List.setIfInBounds_toArray, List.set_cons_zero, List.set_cons_succ]
    refine tk 1 (h := ?_)
    try simp only [Act.put, List.setIfInBounds_toArray, List.set_cons_zero, List.set_cons_succ]
    refine tk 2 (h := ?_)
    try simp only [Act.put, List.setIfInBounds_toArray, List.set_cons_zero, List.set_cons_succ]
    refine tk 3 (h := ?_)
    try simp only [Act.put, List.setIfInBounds_toArray, List.set_cons_zero, List.set_cons_succ]
    refine tk 4 (h := ?_)
    try simp only [Act.put, List.setIfInBounds_toArray, List.set_cons_zero, List.set_cons_succ]
    refine wpAnyH_ready (rs := [5]) (by kernel_rfl) (by simp) ?_
    refine AllReadyH.cons (by simp only [List.getElem?_toArray, List.getElem?_cons_zero, List.getElem?_cons_succ]; rfl) (fun K hK => ?_) AllReadyH.nil
    go_simp
    have hE := evo_store (w := w) (i := 0) (.int .i64 3) HX.out.2
    have X0 : Hid (LocC (w.setCell ⟨bx, 0, none⟩ (.int .i64 3)).drew g (q + 24) bx 97 _) := hid ((HX.out.set 0 (.int .i64 3)).below (Below.refl (w.setCell ⟨bx, 0, none⟩ (.int .i64 3)).heap.size (w.setCell ⟨bx, 0, none⟩ (.int .i64 3))).drew)
    have KK0 : Hid (RDk w0 g0 q d c t N H g (w.setCell ⟨bx, 0, none⟩ (.int .i64 3)).drew) := hid ((KR.out.put1 (i := 0) HX.out.2 hbx (.int .i64 3)).below (Below.refl (w.setCell ⟨bx, 0, none⟩ (.int .i64 3)).heap.size (w.setCell ⟨bx, 0, none⟩ (.int .i64 3))).drew)
    have hS1 : (w.setCell ⟨bx, 0, none⟩ (.int .i64 3)).drew.cell? ⟨bn, on + 1, none⟩ = some (.int .i64 n1) ∧ (w.setCell ⟨bx, 0, none⟩ (.int .i64 3)).drew.cell? ⟨bn, on + 2, none⟩ = some (.int .i64 n2) := ⟨hE.cell N1 (.inl hgn), hE.cell N2 (.inl hgn)⟩
    clear hE u0 v0
    generalize (w.setCell ⟨bx, 0, none⟩ (.int .i64 3)).drew = wS0 at *
    have u4 : wS0.cell? ⟨bx, 4, none⟩ = some (.int .i64 0) := X0.out.1.cell 4
    have v4 : wS0.frozen? ⟨bx, 4, none⟩ = false := X0.out.1.free 4
    try go_wp2_with fail
    refine hK.out _ _ ?_ (fun hH1 => ?_)
    · (try dsimp only); (first | assumption)
    clear hK K hH0
    try simp only [Act.put, List.setIfInBounds_toArray, List.set_cons_zero, List.set_cons_succ]
    refine tk 6 (h := ?_)
    try simp only [Act.put, List.setIfInBounds_toArray, List.set_cons_zero, List.set_cons_succ]
    refine wpAnyH_ready (rs := [7]) (by kernel_rfl) (by simp) ?_
    refine AllReadyH.cons (by simp only [List.getElem?_toArray, List.getElem?_cons_zero, List.getElem?_cons_succ]; rfl) (fun K hK => ?_) AllReadyH.nil
    go_simp
    have hE := evo_store (w := wS0) (i := 4) (.int .i64 n1) X0.out.2
    have X1 : Hid (LocC (wS0.setCell ⟨bx, 4, none⟩ (.int .i64 n1)) g (q + 24) bx 97 _) := hid (X0.out.set 4 (.int .i64 n1))
    have KK1 : Hid (RDk w0 g0 q d c t N H g (wS0.setCell ⟨bx, 4, none⟩ (.int .i64 n1))) := hid (KK0.out.put1 (i := 4) X0.out.2 hbx (.int .i64 n1))
    have hS2 : (wS0.setCell ⟨bx, 4, none⟩ (.int .i64 n1)).cell? ⟨bn, on + 1, none⟩ = some (.int .i64 n1) ∧ (wS0.setCell ⟨bx, 4, none⟩ (.int .i64 n1)).cell? ⟨bn, on + 2, none⟩ = some (.int .i64 n2) := ⟨hE.cell hS1.1 (.inl hgn), hE.cell hS1.2 (.inl hgn)⟩
    clear hE u4 v4
    generalize (wS0.setCell ⟨bx, 4, none⟩ (.int .i64 n1)) = wS1 at *
    have u7 : wS1.cell? ⟨bx, 7, none⟩ = some (.string ByteArray.empty) := X1.out.1.cell 7
    have v7 : wS1.frozen? ⟨bx, 7, none⟩ = false := X1.out.1.free 7
    try go_wp2_with fail
    refine hK.out _ _ ?_ (fun hH2 => ?_)
    · (try dsimp only); (first | assumption)
    clear hK K hH1
    try simp only [Act.put, List.setIfInBounds_toArray, List.set_cons_zero, List.set_cons_succ]
    refine tk 8 (h := ?_)
    try simp only [Act.put, List.setIfInBounds_toArray, List.set_cons_zero, List.set_cons_succ]
    refine wpAnyH_ready (rs := [9]) (by kernel_rfl) (by simp) ?_
    refine AllReadyH.cons (by simp only [List.getElem?_toArray, List.getElem?_cons_zero, List.getElem?_cons_succ]; rfl) (fun K hK => ?_) AllReadyH.nil
    go_simp
    have hE := evo_store (w := wS1) (i := 7) (.string b) X1.out.2
    have X2 : Hid (LocC (wS1.setCell ⟨bx, 7, none⟩ (.string b)) g (q + 24) bx 97 _) := hid (X1.out.set 7 (.string b))
    have KK2 : Hid (RDk w0 g0 q d c t N H g (wS1.setCell ⟨bx, 7, none⟩ (.string b))) := hid (KK1.out.put1 (i := 7) X1.out.2 hbx (.string b))
    have hS3 : (wS1.setCell ⟨bx, 7, none⟩ (.string b)).cell? ⟨bn, on + 1, none⟩ = some (.int .i64 n1) ∧ (wS1.setCell ⟨bx, 7, none⟩ (.string b)).cell? ⟨bn, on + 2, none⟩ = some (.int .i64 n2) := ⟨hE.cell hS2.1 (.inl hgn), hE.cell hS2.2 (.inl hgn)⟩
    clear hE u7 v7
    generalize (wS1.setCell ⟨bx, 7, none⟩ (.string b)) = wS2 at *
    try go_wp2_with fail
    refine hK.out _ _ ?_ (fun hH3 => ?_)
    · (try dsimp only); (first | assumption)
    clear hK K hH2
    try simp only [Act.put, List.setIfInBounds_toArray, List.set_cons_zero, List.set_cons_succ]
    refine wpAnyH_done (by kernel_rfl) ?_ _
    refine NoPanic.normal ?_
    simp only [Exit.then, Exit.inBlock]
    go_wp2_with fail
    have XZ := hid (show LocC wS2 g (q + 24) bx 97 (stL ⟨3, n0, 0, 0, n1, 0, 0, b⟩) from X2.out)
    refine HK1.out _ _ ?_
    exact rline_do w0 wS2 g0 g q d c bx N t H _ hq hN (by first | exact hbm | exact Nat.zero_le _) KK2 XZ OK ht _ (by kernel_rfl) _ _ _ _ _ _ _ _ _ _ _ _ _ _ _ _ _ _ _ _ _ _ _ _ _ _ _ _ _ _ _ _ _ _ _ _ _ _ _ _ _ _ _ _ _ _ _ _ _ _ _ _ _ _ _ _ _ _ _ _ _ _ _ _ _ _ _ _ _ _ _ _ _ _ _ _ _ _ _ _ _ _ _ _ _ _ _ _ _ _ _ _ _ _ _ _ _ _ _ _ _ _ _ _ _ _ _ _ _ _ _ _ _ _ _ _ _ _ _ _ _ _ _ _ _ _ _ _ _ _ _ _ _ _ _ _ _ _ _ _ _ _ _ _ _ _ _ _ _ _ _ _ _ _ _ _ _ _ _ _ _ _ _ _ _ _ _ _ _ _ _ _ _ _ _ _ _ _ _ _ _ _ _ _ _ _ _ _ _ _ _ _ _ _ _ _ _ _ _ _ _ _ _ _ _ _ _ _ _ _ _ _ _ _ _ _ _ _ _ _ _ _ _ _ _ _ _ _ _ _ _ _ _ _ _ _ _ _ _ _ _ _ _ _ _ _ _ _ _ _ _ _ _ _ _ _ _ _ _ _ _ _ _ _ _ _ _ _ _ _ _ _ _ _ _ _ _ _ _ _ _ _ _ _ _ _ _ _ _ _ _ _ _ _ _ _ _ _ _ _ _ _ _ _ _ _ _ _ _ _ _ _ _ _ _ HQ.out
    -- END put
  · obtain ⟨hw, rfl⟩ := hx
    have hwl : xw.toList = [100, 114, 111, 112] := by rw [toList_data]; exact hw
    clear hw
    have HSX := hid (HX.out.below (Below.refl w.heap.size w).drew)
    have HSK := hid (KR.out.below (Below.refl w.heap.size w).drew)
    have hS0 : w.drew.cell? ⟨bn, on + 1, none⟩ = some (.int .i64 n1) ∧ w.drew.cell? ⟨bn, on + 2, none⟩ = some (.int .i64 n2) := ⟨N1, N2⟩
    have u0 : w.drew.cell? ⟨bx, 0, none⟩ = some (.int .i64 0) := HSX.out.1.cell 0
    have v0 : w.drew.frozen? ⟨bx, 0, none⟩ = false := HSX.out.1.free 0
    go_upto_region 43 with (fail)
    -- REGION drop
    refine wp_region_noPanic ?_
    refine wp_region_held_drew (S := (fun W : World => W.cell? ⟨bn, on + 1, none⟩ = some (.int .i64 n1) ∧ W.cell? ⟨bn, on + 2, none⟩ = some (.int .i64 n2))) (by kernel_rfl) ?_ (fun hH0 => ?_)
    · (try dsimp only); (first | assumption)
    refine tk 0 (h := ?_)
    try simp only [Act.put, List.setIfInBounds_toArray, List.set_cons_zero, List.set_cons_succ]
    refine tk 1 (h := ?_)
    try simp only [Act.put, List.setIfInBounds_toArray, List.set_cons_zero, List.set_cons_succ]
    refine tk 2 (h := ?_)
    try simp only [Act.put, List.setIfInBounds_toArray, List.set_cons_zero, List.set_cons_succ]
    refine tk 3 (h := ?_)
    try simp only [Act.put, List.setIfInBounds_toArray, List.set_cons_zero, List.set_cons_succ]
    refine wpAnyH_ready (rs := [4]) (by kernel_rfl) (by simp) ?_
    refine AllReadyH.cons (by simp only [List.getElem?_toArray, List.getElem?_cons_zero, List.getElem?_cons_succ]; rfl) (fun K hK => ?_) AllReadyH.nil
    go_simp
    have hE := evo_store (w := w) (i := 0) (.int .i64 4) HX.out.2
    have X0 : Hid (LocC (w.setCell ⟨bx, 0, none⟩ (.int .i64 4)).drew g (q + 24) bx 97 _) := hid ((HX.out.set 0 (.int .i64 4)).below (Below.refl (w.setCell ⟨bx, 0, none⟩ (.int .i64 4)).heap.size (w.setCell ⟨bx, 0, none⟩ (.int .i64 4))).drew)
    have KK0 : Hid (RDk w0 g0 q d c t N H g (w.setCell ⟨bx, 0, none⟩ (.int .i64 4)).drew) := hid ((KR.out.put1 (i := 0) HX.out.2 hbx (.int .i64 4)).below (Below.refl (w.setCell ⟨bx, 0, none⟩ (.int .i64 4)).heap.size (w.setCell ⟨bx, 0, none⟩ (.int .i64 4))).drew)
    have hS1 : (w.setCell ⟨bx, 0, none⟩ (.int .i64 4)).drew.cell? ⟨bn, on + 1, none⟩ = some (.int .i64 n1) ∧ (w.setCell ⟨bx, 0, none⟩ (.int .i64 4)).drew.cell? ⟨bn, on + 2, none⟩ = some (.int .i64 n2) := ⟨hE.cell N1 (.inl hgn), hE.cell N2 (.inl hgn)⟩
    clear hE u0 v0
    generalize (w.setCell ⟨bx, 0, none⟩ (.int .i64 4)).drew = wS0 at *
    have u4 : wS0.cell? ⟨bx, 4, none⟩ = some (.int .i64 0) := X0.out.1.cell 4
    have v4 : wS0.frozen? ⟨bx, 4, none⟩ = false := X0.out.1.free 4
    try go_wp2_with fail
    refine hK.out _ _ ?_ (fun hH1 => ?_)
    · (try dsimp only); (first | assumption)
    clear hK K hH0
    try simp only [Act.put, List.setIfInBounds_toArray, List.set_cons_zero, List.set_cons_succ]
    refine tk 5 (h := ?_)
    try simp only [Act.put, List.setIfInBounds_toArray, List.set_cons_zero, List.set_cons_succ]
    refine wpAnyH_ready (rs := [6]) (by kernel_rfl) (by simp) ?_
    refine AllReadyH.cons (by simp only [List.getElem?_toArray, List.getElem?_cons_zero, List.getElem?_cons_succ]; rfl) (fun K hK => ?_) AllReadyH.nil
    go_simp
    have hE := evo_store (w := wS0) (i := 4) (.int .i64 n1) X0.out.2
    have X1 : Hid (LocC (wS0.setCell ⟨bx, 4, none⟩ (.int .i64 n1)) g (q + 24) bx 97 _) := hid (X0.out.set 4 (.int .i64 n1))
    have KK1 : Hid (RDk w0 g0 q d c t N H g (wS0.setCell ⟨bx, 4, none⟩ (.int .i64 n1))) := hid (KK0.out.put1 (i := 4) X0.out.2 hbx (.int .i64 n1))
    have hS2 : (wS0.setCell ⟨bx, 4, none⟩ (.int .i64 n1)).cell? ⟨bn, on + 1, none⟩ = some (.int .i64 n1) ∧ (wS0.setCell ⟨bx, 4, none⟩ (.int .i64 n1)).cell? ⟨bn, on + 2, none⟩ = some (.int .i64 n2) := ⟨hE.cell hS1.1 (.inl hgn), hE.cell hS1.2 (.inl hgn)⟩
    clear hE u4 v4
    generalize (wS0.setCell ⟨bx, 4, none⟩ (.int .i64 n1)) = wS1 at *
    try go_wp2_with fail
    refine hK.out _ _ ?_ (fun hH2 => ?_)
    · (try dsimp only); (first | assumption)
    clear hK K hH1
    try simp only [Act.put, List.setIfInBounds_toArray, List.set_cons_zero, List.set_cons_succ]
    refine wpAnyH_done (by kernel_rfl) ?_ _
    refine NoPanic.normal ?_
    simp only [Exit.then, Exit.inBlock]
    go_wp2_with fail
    have XZ := hid (show LocC wS1 g (q + 24) bx 97 (stL ⟨4, n0, 0, 0, n1, 0, 0, ByteArray.empty⟩) from X1.out)
    refine HK1.out _ _ ?_
    exact rline_do w0 wS1 g0 g q d c bx N t H _ hq hN (by first | exact hbm | exact Nat.zero_le _) KK1 XZ OK ht _ (by kernel_rfl) _ _ _ _ _ _ _ _ _ _ _ _ _ _ _ _ _ _ _ _ _ _ _ _ _ _ _ _ _ _ _ _ _ _ _ _ _ _ _ _ _ _ _ _ _ _ _ _ _ _ _ _ _ _ _ _ _ _ _ _ _ _ _ _ _ _ _ _ _ _ _ _ _ _ _ _ _ _ _ _ _ _ _ _ _ _ _ _ _ _ _ _ _ _ _ _ _ _ _ _ _ _ _ _ _ _ _ _ _ _ _ _ _ _ _ _ _ _ _ _ _ _ _ _ _ _ _ _ _ _ _ _ _ _ _ _ _ _ _ _ _ _ _ _ _ _ _ _ _ _ _ _ _ _ _ _ _ _ _ _ _ _ _ _ _ _ _ _ _ _ _ _ _ _ _ _ _ _ _ _ _ _ _ _ _ _ _ _ _ _ _ _ _ _ _ _ _ _ _ _ _ _ _ _ _ _ _ _ _ _ _ _ _ _ _ _ _ _ _ _ _ _ _ _ _ _ _ _ _ _ _ _ _ _ _ _ _ _ _ _ _ _ _ _ _ _ _ _ _ _ _ _ _ _ _ _ _ _ _ _ _ _ _ _ _ _ _ _ _ _ _ _ _ _ _ _ _ _ _ _ _ _ _ _ _ _ _ _ _ _ _ _ _ _ _ _ _ _ _ _ _ _ _ _ _ _ _ _ _ _ _ _ _ _ _ HQ.out
    -- END drop
  · obtain ⟨hw, rfl⟩ := hx
    have hwl : xw.toList = [108, 105, 115, 116] := by rw [toList_data]; exact hw
    clear hw
    have HSX := hid (HX.out.below (Below.refl w.heap.size w).drew)
    have HSK := hid (KR.out.below (Below.refl w.heap.size w).drew)
    have hS0 : w.drew.cell? ⟨bn, on + 1, none⟩ = some (.int .i64 n1) ∧ w.drew.cell? ⟨bn, on + 2, none⟩ = some (.int .i64 n2) := ⟨N1, N2⟩
    have u0 : w.drew.cell? ⟨bx, 0, none⟩ = some (.int .i64 0) := HSX.out.1.cell 0
    have v0 : w.drew.frozen? ⟨bx, 0, none⟩ = false := HSX.out.1.free 0
    go_upto_region 45 with (fail)
    -- REGION list
    refine wp_region_noPanic ?_
    refine wp_region_held_drew (S := (fun W : World => W.cell? ⟨bn, on + 1, none⟩ = some (.int .i64 n1) ∧ W.cell? ⟨bn, on + 2, none⟩ = some (.int .i64 n2))) (by kernel_rfl) ?_ (fun hH0 => ?_)
    · (try dsimp only); (first | assumption)
    refine tk 0 (h := ?_)
    try simp only [Act.put, List.setIfInBounds_toArray, List.set_cons_zero, List.set_cons_succ]
    refine tk 1 (h := ?_)
    try simp only [Act.put, List.setIfInBounds_toArray, List.set_cons_zero, List.set_cons_succ]
    refine tk 2 (h := ?_)
    try simp only [Act.put, List.setIfInBounds_toArray, List.set_cons_zero, List.set_cons_succ]
    refine tk 3 (h := ?_)
    try simp only [Act.put, List.setIfInBounds_toArray, List.set_cons_zero, List.set_cons_succ]
    refine tk 4 (h := ?_)
    try simp only [Act.put, List.setIfInBounds_toArray, List.set_cons_zero, List.set_cons_succ]
    refine tk 5 (h := ?_)
    try simp only [Act.put, List.setIfInBounds_toArray, List.set_cons_zero, List.set_cons_succ]
    refine tk 6 (h := ?_)
    try simp only [Act.put, List.setIfInBounds_toArray, List.set_cons_zero, List.set_cons_succ]
    refine wpAnyH_ready (rs := [7]) (by kernel_rfl) (by simp) ?_
    refine AllReadyH.cons (by simp only [List.getElem?_toArray, List.getElem?_cons_zero, List.getElem?_cons_succ]; rfl) (fun K hK => ?_) AllReadyH.nil
    go_simp
    have hE := evo_store (w := w) (i := 0) (.int .i64 5) HX.out.2
    have X0 : Hid (LocC (w.setCell ⟨bx, 0, none⟩ (.int .i64 5)).drew g (q + 24) bx 97 _) := hid ((HX.out.set 0 (.int .i64 5)).below (Below.refl (w.setCell ⟨bx, 0, none⟩ (.int .i64 5)).heap.size (w.setCell ⟨bx, 0, none⟩ (.int .i64 5))).drew)
    have KK0 : Hid (RDk w0 g0 q d c t N H g (w.setCell ⟨bx, 0, none⟩ (.int .i64 5)).drew) := hid ((KR.out.put1 (i := 0) HX.out.2 hbx (.int .i64 5)).below (Below.refl (w.setCell ⟨bx, 0, none⟩ (.int .i64 5)).heap.size (w.setCell ⟨bx, 0, none⟩ (.int .i64 5))).drew)
    have hS1 : (w.setCell ⟨bx, 0, none⟩ (.int .i64 5)).drew.cell? ⟨bn, on + 1, none⟩ = some (.int .i64 n1) ∧ (w.setCell ⟨bx, 0, none⟩ (.int .i64 5)).drew.cell? ⟨bn, on + 2, none⟩ = some (.int .i64 n2) := ⟨hE.cell N1 (.inl hgn), hE.cell N2 (.inl hgn)⟩
    clear hE u0 v0
    generalize (w.setCell ⟨bx, 0, none⟩ (.int .i64 5)).drew = wS0 at *
    have u4 : wS0.cell? ⟨bx, 4, none⟩ = some (.int .i64 0) := X0.out.1.cell 4
    have v4 : wS0.frozen? ⟨bx, 4, none⟩ = false := X0.out.1.free 4
    try go_wp2_with fail
    refine hK.out _ _ ?_ (fun hH1 => ?_)
    · (try dsimp only); (first | assumption)
    clear hK K hH0
    try simp only [Act.put, List.setIfInBounds_toArray, List.set_cons_zero, List.set_cons_succ]
    refine tk 8 (h := ?_)
    try simp only [Act.put, List.setIfInBounds_toArray, List.set_cons_zero, List.set_cons_succ]
    refine wpAnyH_ready (rs := [9]) (by kernel_rfl) (by simp) ?_
    refine AllReadyH.cons (by simp only [List.getElem?_toArray, List.getElem?_cons_zero, List.getElem?_cons_succ]; rfl) (fun K hK => ?_) AllReadyH.nil
    go_simp
    have hE := evo_store (w := wS0) (i := 4) (.int .i64 n1) X0.out.2
    have X1 : Hid (LocC (wS0.setCell ⟨bx, 4, none⟩ (.int .i64 n1)) g (q + 24) bx 97 _) := hid (X0.out.set 4 (.int .i64 n1))
    have KK1 : Hid (RDk w0 g0 q d c t N H g (wS0.setCell ⟨bx, 4, none⟩ (.int .i64 n1))) := hid (KK0.out.put1 (i := 4) X0.out.2 hbx (.int .i64 n1))
    have hS2 : (wS0.setCell ⟨bx, 4, none⟩ (.int .i64 n1)).cell? ⟨bn, on + 1, none⟩ = some (.int .i64 n1) ∧ (wS0.setCell ⟨bx, 4, none⟩ (.int .i64 n1)).cell? ⟨bn, on + 2, none⟩ = some (.int .i64 n2) := ⟨hE.cell hS1.1 (.inl hgn), hE.cell hS1.2 (.inl hgn)⟩
    clear hE u4 v4
    generalize (wS0.setCell ⟨bx, 4, none⟩ (.int .i64 n1)) = wS1 at *
    have u5 : wS1.cell? ⟨bx, 5, none⟩ = some (.int .i64 0) := X1.out.1.cell 5
    have v5 : wS1.frozen? ⟨bx, 5, none⟩ = false := X1.out.1.free 5
    try go_wp2_with fail
    refine hK.out _ _ ?_ (fun hH2 => ?_)
    · (try dsimp only); (first | assumption)
    clear hK K hH1
    try simp only [Act.put, List.setIfInBounds_toArray, List.set_cons_zero, List.set_cons_succ]
    refine tk 10 (h := ?_)
    try simp only [Act.put, List.setIfInBounds_toArray, List.set_cons_zero, List.set_cons_succ]
    refine wpAnyH_ready (rs := [11]) (by kernel_rfl) (by simp) ?_
    refine AllReadyH.cons (by simp only [List.getElem?_toArray, List.getElem?_cons_zero, List.getElem?_cons_succ]; rfl) (fun K hK => ?_) AllReadyH.nil
    go_simp
    have hE := evo_store (w := wS1) (i := 5) (.int .i64 n2) X1.out.2
    have X2 : Hid (LocC (wS1.setCell ⟨bx, 5, none⟩ (.int .i64 n2)) g (q + 24) bx 97 _) := hid (X1.out.set 5 (.int .i64 n2))
    have KK2 : Hid (RDk w0 g0 q d c t N H g (wS1.setCell ⟨bx, 5, none⟩ (.int .i64 n2))) := hid (KK1.out.put1 (i := 5) X1.out.2 hbx (.int .i64 n2))
    have hS3 : (wS1.setCell ⟨bx, 5, none⟩ (.int .i64 n2)).cell? ⟨bn, on + 1, none⟩ = some (.int .i64 n1) ∧ (wS1.setCell ⟨bx, 5, none⟩ (.int .i64 n2)).cell? ⟨bn, on + 2, none⟩ = some (.int .i64 n2) := ⟨hE.cell hS2.1 (.inl hgn), hE.cell hS2.2 (.inl hgn)⟩
    clear hE u5 v5
    generalize (wS1.setCell ⟨bx, 5, none⟩ (.int .i64 n2)) = wS2 at *
    try go_wp2_with fail
    refine hK.out _ _ ?_ (fun hH3 => ?_)
    · (try dsimp only); (first | assumption)
    clear hK K hH2
    try simp only [Act.put, List.setIfInBounds_toArray, List.set_cons_zero, List.set_cons_succ]
    refine wpAnyH_done (by kernel_rfl) ?_ _
    refine NoPanic.normal ?_
    simp only [Exit.then, Exit.inBlock]
    go_wp2_with fail
    have XZ := hid (show LocC wS2 g (q + 24) bx 97 (stL ⟨5, n0, 0, 0, n1, n2, 0, ByteArray.empty⟩) from X2.out)
    refine HK1.out _ _ ?_
    exact rline_do w0 wS2 g0 g q d c bx N t H _ hq hN (by first | exact hbm | exact Nat.zero_le _) KK2 XZ OK ht _ (by kernel_rfl) _ _ _ _ _ _ _ _ _ _ _ _ _ _ _ _ _ _ _ _ _ _ _ _ _ _ _ _ _ _ _ _ _ _ _ _ _ _ _ _ _ _ _ _ _ _ _ _ _ _ _ _ _ _ _ _ _ _ _ _ _ _ _ _ _ _ _ _ _ _ _ _ _ _ _ _ _ _ _ _ _ _ _ _ _ _ _ _ _ _ _ _ _ _ _ _ _ _ _ _ _ _ _ _ _ _ _ _ _ _ _ _ _ _ _ _ _ _ _ _ _ _ _ _ _ _ _ _ _ _ _ _ _ _ _ _ _ _ _ _ _ _ _ _ _ _ _ _ _ _ _ _ _ _ _ _ _ _ _ _ _ _ _ _ _ _ _ _ _ _ _ _ _ _ _ _ _ _ _ _ _ _ _ _ _ _ _ _ _ _ _ _ _ _ _ _ _ _ _ _ _ _ _ _ _ _ _ _ _ _ _ _ _ _ _ _ _ _ _ _ _ _ _ _ _ _ _ _ _ _ _ _ _ _ _ _ _ _ _ _ _ _ _ _ _ _ _ _ _ _ _ _ _ _ _ _ _ _ _ _ _ _ _ _ _ _ _ _ _ _ _ _ _ _ _ _ _ _ _ _ _ _ _ _ _ _ _ _ _ _ _ _ _ _ _ _ _ _ _ _ _ _ _ _ _ _ _ _ _ _ _ _ _ _ _ HQ.out
    -- END list
  · obtain ⟨hw, rfl⟩ := hx
    have hwl : xw.toList = [99, 111, 109, 109, 105, 116] := by rw [toList_data]; exact hw
    clear hw
    have u0 : w.cell? ⟨bx, 0, none⟩ = some (.int .i64 0) := HX.out.1.cell 0
    have v0 : w.frozen? ⟨bx, 0, none⟩ = false := HX.out.1.free 0
    have XZ := hid (show LocC (w.setCell ⟨bx, 0, none⟩ (.int .i64 6)) g (q + 24) bx 97 (stL ⟨6, n0, 0, 0, 0, 0, 0, ByteArray.empty⟩) from (HX.out.set 0 (.int .i64 6)))
    have KZ := hid (show RDk w0 g0 q d c t N H g (w.setCell ⟨bx, 0, none⟩ (.int .i64 6)) from (KR.out.put1 HX.out.2 hbx (.int .i64 6)))
    go_wp2_with fail
    all_goals
      generalize (w.setCell ⟨bx, 0, none⟩ (.int .i64 6)) = wZ at *
      refine HK1.out _ _ ?_
      exact rline_do w0 wZ g0 g q d c bx N t H _ hq hN (by first | exact hbm | exact Nat.zero_le _) KZ XZ OK ht _ (by kernel_rfl) _ _ _ _ _ _ _ _ _ _ _ _ _ _ _ _ _ _ _ _ _ _ _ _ _ _ _ _ _ _ _ _ _ _ _ _ _ _ _ _ _ _ _ _ _ _ _ _ _ _ _ _ _ _ _ _ _ _ _ _ _ _ _ _ _ _ _ _ _ _ _ _ _ _ _ _ _ _ _ _ _ _ _ _ _ _ _ _ _ _ _ _ _ _ _ _ _ _ _ _ _ _ _ _ _ _ _ _ _ _ _ _ _ _ _ _ _ _ _ _ _ _ _ _ _ _ _ _ _ _ _ _ _ _ _ _ _ _ _ _ _ _ _ _ _ _ _ _ _ _ _ _ _ _ _ _ _ _ _ _ _ _ _ _ _ _ _ _ _ _ _ _ _ _ _ _ _ _ _ _ _ _ _ _ _ _ _ _ _ _ _ _ _ _ _ _ _ _ _ _ _ _ _ _ _ _ _ _ _ _ _ _ _ _ _ _ _ _ _ _ _ _ _ _ _ _ _ _ _ _ _ _ _ _ _ _ _ _ _ _ _ _ _ _ _ _ _ _ _ _ _ _ _ _ _ _ _ _ _ _ _ _ _ _ _ _ _ _ _ _ _ _ _ _ _ _ _ _ _ _ _ _ _ _ _ _ _ _ _ _ _ _ _ _ _ _ _ _ _ _ _ _ _ _ _ _ _ _ _ _ _ _ _ _ _ HQ.out
  · obtain ⟨hw, rfl⟩ := hx
    have hwl : xw.toList = [97, 98, 111, 114, 116] := by rw [toList_data]; exact hw
    clear hw
    have u0 : w.cell? ⟨bx, 0, none⟩ = some (.int .i64 0) := HX.out.1.cell 0
    have v0 : w.frozen? ⟨bx, 0, none⟩ = false := HX.out.1.free 0
    have XZ := hid (show LocC (w.setCell ⟨bx, 0, none⟩ (.int .i64 7)) g (q + 24) bx 97 (stL ⟨7, n0, 0, 0, 0, 0, 0, ByteArray.empty⟩) from (HX.out.set 0 (.int .i64 7)))
    have KZ := hid (show RDk w0 g0 q d c t N H g (w.setCell ⟨bx, 0, none⟩ (.int .i64 7)) from (KR.out.put1 HX.out.2 hbx (.int .i64 7)))
    go_wp2_with fail
    all_goals
      generalize (w.setCell ⟨bx, 0, none⟩ (.int .i64 7)) = wZ at *
      refine HK1.out _ _ ?_
      exact rline_do w0 wZ g0 g q d c bx N t H _ hq hN (by first | exact hbm | exact Nat.zero_le _) KZ XZ OK ht _ (by kernel_rfl) _ _ _ _ _ _ _ _ _ _ _ _ _ _ _ _ _ _ _ _ _ _ _ _ _ _ _ _ _ _ _ _ _ _ _ _ _ _ _ _ _ _ _ _ _ _ _ _ _ _ _ _ _ _ _ _ _ _ _ _ _ _ _ _ _ _ _ _ _ _ _ _ _ _ _ _ _ _ _ _ _ _ _ _ _ _ _ _ _ _ _ _ _ _ _ _ _ _ _ _ _ _ _ _ _ _ _ _ _ _ _ _ _ _ _ _ _ _ _ _ _ _ _ _ _ _ _ _ _ _ _ _ _ _ _ _ _ _ _ _ _ _ _ _ _ _ _ _ _ _ _ _ _ _ _ _ _ _ _ _ _ _ _ _ _ _ _ _ _ _ _ _ _ _ _ _ _ _ _ _ _ _ _ _ _ _ _ _ _ _ _ _ _ _ _ _ _ _ _ _ _ _ _ _ _ _ _ _ _ _ _ _ _ _ _ _ _ _ _ _ _ _ _ _ _ _ _ _ _ _ _ _ _ _ _ _ _ _ _ _ _ _ _ _ _ _ _ _ _ _ _ _ _ _ _ _ _ _ _ _ _ _ _ _ _ _ _ _ _ _ _ _ _ _ _ _ _ _ _ _ _ _ _ _ _ _ _ _ _ _ _ _ _ _ _ _ _ _ _ _ _ _ _ _ _ _ _ _ _ _ _ _ _ _ _ HQ.out
  · obtain ⟨hw, rfl⟩ := hx
    have hwl : xw.toList = [99, 108, 101, 97, 114] := by rw [toList_data]; exact hw
    clear hw
    have u0 : w.cell? ⟨bx, 0, none⟩ = some (.int .i64 0) := HX.out.1.cell 0
    have v0 : w.frozen? ⟨bx, 0, none⟩ = false := HX.out.1.free 0
    have XZ := hid (show LocC (w.setCell ⟨bx, 0, none⟩ (.int .i64 8)) g (q + 24) bx 97 (stL ⟨8, n0, 0, 0, 0, 0, 0, ByteArray.empty⟩) from (HX.out.set 0 (.int .i64 8)))
    have KZ := hid (show RDk w0 g0 q d c t N H g (w.setCell ⟨bx, 0, none⟩ (.int .i64 8)) from (KR.out.put1 HX.out.2 hbx (.int .i64 8)))
    go_wp2_with fail
    all_goals
      generalize (w.setCell ⟨bx, 0, none⟩ (.int .i64 8)) = wZ at *
      refine HK1.out _ _ ?_
      exact rline_do w0 wZ g0 g q d c bx N t H _ hq hN (by first | exact hbm | exact Nat.zero_le _) KZ XZ OK ht _ (by kernel_rfl) _ _ _ _ _ _ _ _ _ _ _ _ _ _ _ _ _ _ _ _ _ _ _ _ _ _ _ _ _ _ _ _ _ _ _ _ _ _ _ _ _ _ _ _ _ _ _ _ _ _ _ _ _ _ _ _ _ _ _ _ _ _ _ _ _ _ _ _ _ _ _ _ _ _ _ _ _ _ _ _ _ _ _ _ _ _ _ _ _ _ _ _ _ _ _ _ _ _ _ _ _ _ _ _ _ _ _ _ _ _ _ _ _ _ _ _ _ _ _ _ _ _ _ _ _ _ _ _ _ _ _ _ _ _ _ _ _ _ _ _ _ _ _ _ _ _ _ _ _ _ _ _ _ _ _ _ _ _ _ _ _ _ _ _ _ _ _ _ _ _ _ _ _ _ _ _ _ _ _ _ _ _ _ _ _ _ _ _ _ _ _ _ _ _ _ _ _ _ _ _ _ _ _ _ _ _ _ _ _ _ _ _ _ _ _ _ _ _ _ _ _ _ _ _ _ _ _ _ _ _ _ _ _ _ _ _ _ _ _ _ _ _ _ _ _ _ _ _ _ _ _ _ _ _ _ _ _ _ _ _ _ _ _ _ _ _ _ _ _ _ _ _ _ _ _ _ _ _ _ _ _ _ _ _ _ _ _ _ _ _ _ _ _ _ _ _ _ _ _ _ _ _ _ _ _ _ _ _ _ _ _ _ _ _ _ HQ.out
  · obtain ⟨hw, rfl⟩ := hx
    have hwl : xw.toList = [99, 114, 97, 115, 104] := by rw [toList_data]; exact hw
    clear hw
    have u0 : w.cell? ⟨bx, 0, none⟩ = some (.int .i64 0) := HX.out.1.cell 0
    have v0 : w.frozen? ⟨bx, 0, none⟩ = false := HX.out.1.free 0
    have XZ := hid (show LocC (w.setCell ⟨bx, 0, none⟩ (.int .i64 9)) g (q + 24) bx 97 (stL ⟨9, n0, 0, 0, 0, 0, 0, ByteArray.empty⟩) from (HX.out.set 0 (.int .i64 9)))
    have KZ := hid (show RDk w0 g0 q d c t N H g (w.setCell ⟨bx, 0, none⟩ (.int .i64 9)) from (KR.out.put1 HX.out.2 hbx (.int .i64 9)))
    go_wp2_with fail
    all_goals
      generalize (w.setCell ⟨bx, 0, none⟩ (.int .i64 9)) = wZ at *
      refine HK1.out _ _ ?_
      exact rline_do w0 wZ g0 g q d c bx N t H _ hq hN (by first | exact hbm | exact Nat.zero_le _) KZ XZ OK ht _ (by kernel_rfl) _ _ _ _ _ _ _ _ _ _ _ _ _ _ _ _ _ _ _ _ _ _ _ _ _ _ _ _ _ _ _ _ _ _ _ _ _ _ _ _ _ _ _ _ _ _ _ _ _ _ _ _ _ _ _ _ _ _ _ _ _ _ _ _ _ _ _ _ _ _ _ _ _ _ _ _ _ _ _ _ _ _ _ _ _ _ _ _ _ _ _ _ _ _ _ _ _ _ _ _ _ _ _ _ _ _ _ _ _ _ _ _ _ _ _ _ _ _ _ _ _ _ _ _ _ _ _ _ _ _ _ _ _ _ _ _ _ _ _ _ _ _ _ _ _ _ _ _ _ _ _ _ _ _ _ _ _ _ _ _ _ _ _ _ _ _ _ _ _ _ _ _ _ _ _ _ _ _ _ _ _ _ _ _ _ _ _ _ _ _ _ _ _ _ _ _ _ _ _ _ _ _ _ _ _ _ _ _ _ _ _ _ _ _ _ _ _ _ _ _ _ _ _ _ _ _ _ _ _ _ _ _ _ _ _ _ _ _ _ _ _ _ _ _ _ _ _ _ _ _ _ _ _ _ _ _ _ _ _ _ _ _ _ _ _ _ _ _ _ _ _ _ _ _ _ _ _ _ _ _ _ _ _ _ _ _ _ _ _ _ _ _ _ _ _ _ _ _ _ _ _ _ _ _ _ _ _ _ _ _ _ _ _ _ _ HQ.out
  · obtain ⟨hw, rfl⟩ := hx
    have hwl : xw.toList = [116, 101, 97, 114] := by rw [toList_data]; exact hw
    clear hw
    have HSX := hid (HX.out.below (Below.refl w.heap.size w).drew)
    have HSK := hid (KR.out.below (Below.refl w.heap.size w).drew)
    have hS0 : w.drew.cell? ⟨bn, on + 1, none⟩ = some (.int .i64 n1) ∧ w.drew.cell? ⟨bn, on + 2, none⟩ = some (.int .i64 n2) := ⟨N1, N2⟩
    have u0 : w.drew.cell? ⟨bx, 0, none⟩ = some (.int .i64 0) := HSX.out.1.cell 0
    have v0 : w.drew.frozen? ⟨bx, 0, none⟩ = false := HSX.out.1.free 0
    go_upto_region 55 with (fail)
    -- REGION tear
    refine wp_region_noPanic ?_
    refine wp_region_held_drew (S := (fun W : World => W.cell? ⟨bn, on + 1, none⟩ = some (.int .i64 n1) ∧ W.cell? ⟨bn, on + 2, none⟩ = some (.int .i64 n2))) (by kernel_rfl) ?_ (fun hH0 => ?_)
    · (try dsimp only); (first | assumption)
    refine tk 0 (h := ?_)
    try simp only [Act.put, List.setIfInBounds_toArray, List.set_cons_zero, List.set_cons_succ]
    refine tk 1 (h := ?_)
    try simp only [Act.put, List.setIfInBounds_toArray, List.set_cons_zero, List.set_cons_succ]
    refine tk 2 (h := ?_)
    try simp only [Act.put, List.setIfInBounds_toArray, List.set_cons_zero, List.set_cons_succ]
    refine tk 3 (h := ?_)
    try simp only [Act.put, List.setIfInBounds_toArray, List.set_cons_zero, List.set_cons_succ]
    refine wpAnyH_ready (rs := [4]) (by kernel_rfl) (by simp) ?_
    refine AllReadyH.cons (by simp only [List.getElem?_toArray, List.getElem?_cons_zero, List.getElem?_cons_succ]; rfl) (fun K hK => ?_) AllReadyH.nil
    go_simp
    have hE := evo_store (w := w) (i := 0) (.int .i64 10) HX.out.2
    have X0 : Hid (LocC (w.setCell ⟨bx, 0, none⟩ (.int .i64 10)).drew g (q + 24) bx 97 _) := hid ((HX.out.set 0 (.int .i64 10)).below (Below.refl (w.setCell ⟨bx, 0, none⟩ (.int .i64 10)).heap.size (w.setCell ⟨bx, 0, none⟩ (.int .i64 10))).drew)
    have KK0 : Hid (RDk w0 g0 q d c t N H g (w.setCell ⟨bx, 0, none⟩ (.int .i64 10)).drew) := hid ((KR.out.put1 (i := 0) HX.out.2 hbx (.int .i64 10)).below (Below.refl (w.setCell ⟨bx, 0, none⟩ (.int .i64 10)).heap.size (w.setCell ⟨bx, 0, none⟩ (.int .i64 10))).drew)
    have hS1 : (w.setCell ⟨bx, 0, none⟩ (.int .i64 10)).drew.cell? ⟨bn, on + 1, none⟩ = some (.int .i64 n1) ∧ (w.setCell ⟨bx, 0, none⟩ (.int .i64 10)).drew.cell? ⟨bn, on + 2, none⟩ = some (.int .i64 n2) := ⟨hE.cell N1 (.inl hgn), hE.cell N2 (.inl hgn)⟩
    clear hE u0 v0
    generalize (w.setCell ⟨bx, 0, none⟩ (.int .i64 10)).drew = wS0 at *
    have u6 : wS0.cell? ⟨bx, 6, none⟩ = some (.int .i64 0) := X0.out.1.cell 6
    have v6 : wS0.frozen? ⟨bx, 6, none⟩ = false := X0.out.1.free 6
    try go_wp2_with fail
    refine hK.out _ _ ?_ (fun hH1 => ?_)
    · (try dsimp only); (first | assumption)
    clear hK K hH0
    try simp only [Act.put, List.setIfInBounds_toArray, List.set_cons_zero, List.set_cons_succ]
    refine tk 5 (h := ?_)
    try simp only [Act.put, List.setIfInBounds_toArray, List.set_cons_zero, List.set_cons_succ]
    refine wpAnyH_ready (rs := [6]) (by kernel_rfl) (by simp) ?_
    refine AllReadyH.cons (by simp only [List.getElem?_toArray, List.getElem?_cons_zero, List.getElem?_cons_succ]; rfl) (fun K hK => ?_) AllReadyH.nil
    go_simp
    have hE := evo_store (w := wS0) (i := 6) (.int .i64 n1) X0.out.2
    have X1 : Hid (LocC (wS0.setCell ⟨bx, 6, none⟩ (.int .i64 n1)) g (q + 24) bx 97 _) := hid (X0.out.set 6 (.int .i64 n1))
    have KK1 : Hid (RDk w0 g0 q d c t N H g (wS0.setCell ⟨bx, 6, none⟩ (.int .i64 n1))) := hid (KK0.out.put1 (i := 6) X0.out.2 hbx (.int .i64 n1))
    have hS2 : (wS0.setCell ⟨bx, 6, none⟩ (.int .i64 n1)).cell? ⟨bn, on + 1, none⟩ = some (.int .i64 n1) ∧ (wS0.setCell ⟨bx, 6, none⟩ (.int .i64 n1)).cell? ⟨bn, on + 2, none⟩ = some (.int .i64 n2) := ⟨hE.cell hS1.1 (.inl hgn), hE.cell hS1.2 (.inl hgn)⟩
    clear hE u6 v6
    generalize (wS0.setCell ⟨bx, 6, none⟩ (.int .i64 n1)) = wS1 at *
    try go_wp2_with fail
    refine hK.out _ _ ?_ (fun hH2 => ?_)
    · (try dsimp only); (first | assumption)
    clear hK K hH1
    try simp only [Act.put, List.setIfInBounds_toArray, List.set_cons_zero, List.set_cons_succ]
    refine wpAnyH_done (by kernel_rfl) ?_ _
    refine NoPanic.normal ?_
    simp only [Exit.then, Exit.inBlock]
    go_wp2_with fail
    have XZ := hid (show LocC wS1 g (q + 24) bx 97 (stL ⟨10, n0, 0, 0, 0, 0, n1, ByteArray.empty⟩) from X1.out)
    refine HK1.out _ _ ?_
    exact rline_do w0 wS1 g0 g q d c bx N t H _ hq hN (by first | exact hbm | exact Nat.zero_le _) KK1 XZ OK ht _ (by kernel_rfl) _ _ _ _ _ _ _ _ _ _ _ _ _ _ _ _ _ _ _ _ _ _ _ _ _ _ _ _ _ _ _ _ _ _ _ _ _ _ _ _ _ _ _ _ _ _ _ _ _ _ _ _ _ _ _ _ _ _ _ _ _ _ _ _ _ _ _ _ _ _ _ _ _ _ _ _ _ _ _ _ _ _ _ _ _ _ _ _ _ _ _ _ _ _ _ _ _ _ _ _ _ _ _ _ _ _ _ _ _ _ _ _ _ _ _ _ _ _ _ _ _ _ _ _ _ _ _ _ _ _ _ _ _ _ _ _ _ _ _ _ _ _ _ _ _ _ _ _ _ _ _ _ _ _ _ _ _ _ _ _ _ _ _ _ _ _ _ _ _ _ _ _ _ _ _ _ _ _ _ _ _ _ _ _ _ _ _ _ _ _ _ _ _ _ _ _ _ _ _ _ _ _ _ _ _ _ _ _ _ _ _ _ _ _ _ _ _ _ _ _ _ _ _ _ _ _ _ _ _ _ _ _ _ _ _ _ _ _ _ _ _ _ _ _ _ _ _ _ _ _ _ _ _ _ _ _ _ _ _ _ _ _ _ _ _ _ _ _ _ _ _ _ _ _ _ _ _ _ _ _ _ _ _ _ _ _ _ _ _ _ _ _ _ _ _ _ _ _ _ _ _ _ _ _ _ _ _ _ _ _ _ _ _ _ _ HQ.out
    -- END tear

end Go.Proofs.YtoiobhcgpajogaaGreatDoor

/- The document's desk, in plain words: how it comes to what a line asks. -/
namespace Go.Proofs.YtoiobhcgpajogaaGreatDoor
open Go.RowKit

def nmL : List (List UInt8) := [b_shot, b_sure, b_look, b_get, b_put, b_drop, b_list, b_commit, b_abort, b_clear, b_crash, b_tear, b_last]
def mnL : List Nat := [1, 1, 2, 2, 2, 2, 3, 1, 1, 0, 0, 2, 0]

/-- The last of the first k names that is w, with n numbers. -/
def atGo (w : List UInt8) (n : Nat) : Nat → Int
  | 0 => -1
  | k + 1 => if nmL[k]? = some w ∧ mnL[k]? = some n then (k : Int) else atGo w n k

/-- The number i of those that there are, and then three times 0. -/
def nth (vs : List Int) (i : Nat) : Int := (vs ++ [0, 0, 0]).getD i 0

theorem nth_eq (vs : List Int) (i : Nat) (h : i < 3) : nth vs i = vs.getD i 0 := by
  unfold nth
  simp only [List.getD_eq_getElem?_getD]
  rcases Nat.lt_or_ge i vs.length with h' | h'
  · rw [List.getElem?_append_left h']
  · rw [List.getElem?_append_right h', List.getElem?_eq_none h']
    match i - vs.length, (by omega : i - vs.length < 3) with
    | 0, _ => rfl
    | 1, _ => rfl
    | 2, _ => rfl

def refAsk (w : List UInt8) (vs : List Int) (b : ByteArray) : AskD :=
  if w = b_shot ∧ vs.length = 1 then .step ⟨1, nth vs 0, 1, 0, 0, 0, 0, ByteArray.empty⟩
  else if w = b_sure ∧ vs.length = 1 then .step ⟨1, nth vs 0, 2, 0, 0, 0, 0, ByteArray.empty⟩
  else if w = b_look ∧ vs.length = 2 then .step ⟨1, nth vs 0, 3, nth vs 1, 0, 0, 0, ByteArray.empty⟩
  else if w = b_get ∧ vs.length = 2 then .step ⟨2, nth vs 0, 0, 0, nth vs 1, 0, 0, ByteArray.empty⟩
  else if w = b_put ∧ vs.length = 2 then .step ⟨3, nth vs 0, 0, 0, nth vs 1, 0, 0, b⟩
  else if w = b_drop ∧ vs.length = 2 then .step ⟨4, nth vs 0, 0, 0, nth vs 1, 0, 0, ByteArray.empty⟩
  else if w = b_list ∧ vs.length = 3 then .step ⟨5, nth vs 0, 0, 0, nth vs 1, nth vs 2, 0, ByteArray.empty⟩
  else if w = b_commit ∧ vs.length = 1 then .step ⟨6, nth vs 0, 0, 0, 0, 0, 0, ByteArray.empty⟩
  else if w = b_abort ∧ vs.length = 1 then .step ⟨7, nth vs 0, 0, 0, 0, 0, 0, ByteArray.empty⟩
  else if w = b_clear ∧ vs.length = 0 then .step ⟨8, nth vs 0, 0, 0, 0, 0, 0, ByteArray.empty⟩
  else if w = b_crash ∧ vs.length = 0 then .step ⟨9, nth vs 0, 0, 0, 0, 0, 0, ByteArray.empty⟩
  else if w = b_tear ∧ vs.length = 2 then .step ⟨10, nth vs 0, 0, 0, 0, 0, nth vs 1, ByteArray.empty⟩
  else if w = b_last ∧ vs.length = 0 then .last
  else .what

def resD (H : Ht) : AskD → List UInt8 × Ht
  | .nothing => ([], H)
  | .what => (b_what ++ [10], H)
  | .last => (b_last ++ 32 :: (Lib.itoa H.v.tab.last ++ 32 :: (Lib.itoa (firstT H.v.tab) ++ 32 :: (Lib.itoa (leastH H) ++ [10]))), H)
  | .step x => (tellD x (doH H x).1 ++ [10], (doH H x).2)

theorem lineD_res (H : Ht) (s : List UInt8) : lineD H s = resD H (askD (wordsD s)) := by
  unfold lineD resD
  cases askD (wordsD s) <;> rfl

theorem names_apart : ∀ i, i < 13 → ∀ k, k < 13 → nmL[i]? = nmL[k]? → i = k := by decide

theorem atGo_none {w : List UInt8} {n : Nat} : ∀ k, (∀ i, i < k → ¬ (nmL[i]? = some w ∧ mnL[i]? = some n)) → atGo w n k = -1
  | 0, _ => rfl
  | k + 1, h => by
    rw [atGo, if_neg (h k (Nat.lt_succ_self k))]
    exact atGo_none k (fun i hi => h i (Nat.lt_succ_of_lt hi))

theorem atGo_hit {w : List UInt8} {n i : Nat} (hi : nmL[i]? = some w ∧ mnL[i]? = some n) : ∀ k, i < k → atGo w n k = (i : Int)
  | 0, h => absurd h (Nat.not_lt_zero _)
  | k + 1, h => by
    rw [atGo]
    by_cases e : nmL[k]? = some w ∧ mnL[k]? = some n
    · rw [if_pos e]
      have h1 : i < 13 := (List.getElem?_eq_some_iff.1 hi.1).1
      have h2 : k < 13 := (List.getElem?_eq_some_iff.1 e.1).1
      have := names_apart i h1 k h2 (hi.1.trans e.1.symm)
      rw [this]
    · rw [if_neg e]
      have hik : i ≠ k := fun h' => e (h' ▸ hi)
      exact atGo_hit hi k (by omega)

/-- What the place among the names says. -/
theorem ask_ways (w : List UInt8) (vs : List Int) (b : ByteArray) :
    (atGo w vs.length 13 = -1 ∧ refAsk w vs b = .what) ∨ (atGo w vs.length 13 = 12 ∧ w = b_last ∧ refAsk w vs b = .last) ∨
    (∃ x, 0 ≤ atGo w vs.length 13 ∧ w ≠ b_last ∧ refAsk w vs b = .step x ∧ WordStep w (nth vs 0) (nth vs 1) (nth vs 2) b (atGo w vs.length 13) x) := by
  by_cases hex : ∃ i, i < 13 ∧ nmL[i]? = some w ∧ mnL[i]? = some vs.length
  · obtain ⟨i, hi, h1, h2⟩ := hex
    have ha := atGo_hit ⟨h1, h2⟩ 13 hi
    rw [ha]
    match i, hi, h1, h2 with
    | 0, _, h1, h2 => cases h1; have h2 : 1 = vs.length := Option.some.inj h2; right; right; refine ⟨⟨1, nth vs 0, 1, 0, 0, 0, 0, ByteArray.empty⟩, by simp, by decide, ?_, ?_⟩ <;> simp [refAsk, WordStep, ← h2, b_shot, b_sure, b_look, b_get, b_put, b_drop, b_list, b_commit, b_abort, b_clear, b_crash, b_tear]
    | 1, _, h1, h2 => cases h1; have h2 : 1 = vs.length := Option.some.inj h2; right; right; refine ⟨⟨1, nth vs 0, 2, 0, 0, 0, 0, ByteArray.empty⟩, by simp, by decide, ?_, ?_⟩ <;> simp [refAsk, WordStep, ← h2, b_shot, b_sure, b_look, b_get, b_put, b_drop, b_list, b_commit, b_abort, b_clear, b_crash, b_tear]
    | 2, _, h1, h2 => cases h1; have h2 : 2 = vs.length := Option.some.inj h2; right; right; refine ⟨⟨1, nth vs 0, 3, nth vs 1, 0, 0, 0, ByteArray.empty⟩, by simp, by decide, ?_, ?_⟩ <;> simp [refAsk, WordStep, ← h2, b_shot, b_sure, b_look, b_get, b_put, b_drop, b_list, b_commit, b_abort, b_clear, b_crash, b_tear]
    | 3, _, h1, h2 => cases h1; have h2 : 2 = vs.length := Option.some.inj h2; right; right; refine ⟨⟨2, nth vs 0, 0, 0, nth vs 1, 0, 0, ByteArray.empty⟩, by simp, by decide, ?_, ?_⟩ <;> simp [refAsk, WordStep, ← h2, b_shot, b_sure, b_look, b_get, b_put, b_drop, b_list, b_commit, b_abort, b_clear, b_crash, b_tear]
    | 4, _, h1, h2 => cases h1; have h2 : 2 = vs.length := Option.some.inj h2; right; right; refine ⟨⟨3, nth vs 0, 0, 0, nth vs 1, 0, 0, b⟩, by simp, by decide, ?_, ?_⟩ <;> simp [refAsk, WordStep, ← h2, b_shot, b_sure, b_look, b_get, b_put, b_drop, b_list, b_commit, b_abort, b_clear, b_crash, b_tear]
    | 5, _, h1, h2 => cases h1; have h2 : 2 = vs.length := Option.some.inj h2; right; right; refine ⟨⟨4, nth vs 0, 0, 0, nth vs 1, 0, 0, ByteArray.empty⟩, by simp, by decide, ?_, ?_⟩ <;> simp [refAsk, WordStep, ← h2, b_shot, b_sure, b_look, b_get, b_put, b_drop, b_list, b_commit, b_abort, b_clear, b_crash, b_tear]
    | 6, _, h1, h2 => cases h1; have h2 : 3 = vs.length := Option.some.inj h2; right; right; refine ⟨⟨5, nth vs 0, 0, 0, nth vs 1, nth vs 2, 0, ByteArray.empty⟩, by simp, by decide, ?_, ?_⟩ <;> simp [refAsk, WordStep, ← h2, b_shot, b_sure, b_look, b_get, b_put, b_drop, b_list, b_commit, b_abort, b_clear, b_crash, b_tear]
    | 7, _, h1, h2 => cases h1; have h2 : 1 = vs.length := Option.some.inj h2; right; right; refine ⟨⟨6, nth vs 0, 0, 0, 0, 0, 0, ByteArray.empty⟩, by simp, by decide, ?_, ?_⟩ <;> simp [refAsk, WordStep, ← h2, b_shot, b_sure, b_look, b_get, b_put, b_drop, b_list, b_commit, b_abort, b_clear, b_crash, b_tear]
    | 8, _, h1, h2 => cases h1; have h2 : 1 = vs.length := Option.some.inj h2; right; right; refine ⟨⟨7, nth vs 0, 0, 0, 0, 0, 0, ByteArray.empty⟩, by simp, by decide, ?_, ?_⟩ <;> simp [refAsk, WordStep, ← h2, b_shot, b_sure, b_look, b_get, b_put, b_drop, b_list, b_commit, b_abort, b_clear, b_crash, b_tear]
    | 9, _, h1, h2 => cases h1; have h2 : 0 = vs.length := Option.some.inj h2; right; right; refine ⟨⟨8, nth vs 0, 0, 0, 0, 0, 0, ByteArray.empty⟩, by simp, by decide, ?_, ?_⟩ <;> simp [refAsk, WordStep, ← h2, b_shot, b_sure, b_look, b_get, b_put, b_drop, b_list, b_commit, b_abort, b_clear, b_crash, b_tear]
    | 10, _, h1, h2 => cases h1; have h2 : 0 = vs.length := Option.some.inj h2; right; right; refine ⟨⟨9, nth vs 0, 0, 0, 0, 0, 0, ByteArray.empty⟩, by simp, by decide, ?_, ?_⟩ <;> simp [refAsk, WordStep, ← h2, b_shot, b_sure, b_look, b_get, b_put, b_drop, b_list, b_commit, b_abort, b_clear, b_crash, b_tear]
    | 11, _, h1, h2 => cases h1; have h2 : 2 = vs.length := Option.some.inj h2; right; right; refine ⟨⟨10, nth vs 0, 0, 0, 0, 0, nth vs 1, ByteArray.empty⟩, by simp, by decide, ?_, ?_⟩ <;> simp [refAsk, WordStep, ← h2, b_shot, b_sure, b_look, b_get, b_put, b_drop, b_list, b_commit, b_abort, b_clear, b_crash, b_tear]
    | 12, _, h1, h2 => cases h1; have h2 : 0 = vs.length := Option.some.inj h2; right; left; refine ⟨rfl, rfl, ?_⟩; simp [refAsk, ← h2, b_clear, b_crash, b_last]
    | n + 13, h, _, _ => omega
  · left
    have hno : ∀ i, i < 13 → ¬ (nmL[i]? = some w ∧ mnL[i]? = some vs.length) := fun i hi h => hex ⟨i, hi, h⟩
    refine ⟨atGo_none 13 hno, ?_⟩
    have N : ∀ i nm mn, i < 13 → nmL[i]? = some nm → mnL[i]? = some mn → ¬ (w = nm ∧ vs.length = mn) := fun i nm mn hi h1 h2 h => hno i hi ⟨by rw [h1, h.1], by rw [h2, h.2]⟩
    unfold refAsk
    rw [if_neg (N 0 _ _ (by omega) rfl rfl), if_neg (N 1 _ _ (by omega) rfl rfl), if_neg (N 2 _ _ (by omega) rfl rfl), if_neg (N 3 _ _ (by omega) rfl rfl), if_neg (N 4 _ _ (by omega) rfl rfl), if_neg (N 5 _ _ (by omega) rfl rfl), if_neg (N 6 _ _ (by omega) rfl rfl), if_neg (N 7 _ _ (by omega) rfl rfl), if_neg (N 8 _ _ (by omega) rfl rfl), if_neg (N 9 _ _ (by omega) rfl rfl), if_neg (N 10 _ _ (by omega) rfl rfl), if_neg (N 11 _ _ (by omega) rfl rfl), if_neg (N 12 _ _ (by omega) rfl rfl)]

def askN (w : List UInt8) (r : List (List UInt8)) : AskD :=
  match numsD r with
  | none => AskD.what
  | some n =>
    match stepD w n with
    | some x => .step x
    | none =>
      match beginD w n with
      | some x => .step x
      | none => if w = b_last ∧ n = [] then .last else .what

theorem askD_askN (w : List UInt8) (r : List (List UInt8)) (h : (if w = b_put then putD3 r else none) = none) : askD (w :: r) = askN w r := by
  rw [askD_cons, h]
  rfl

theorem askN_none {w : List UInt8} {r : List (List UInt8)} (h : numsD r = none) : askN w r = .what := by unfold askN; rw [h]

theorem nil_iff {vs : List Int} : vs.length = 0 ↔ vs = [] := List.length_eq_zero_iff

/-- A word that is not 'put': the program's way and the document's come to the same. -/
theorem askN_ref {w : List UInt8} {r : List (List UInt8)} {vs : List Int} (hp : w ≠ b_put) (h : numsD r = some vs) (b : ByteArray) : askN w r = refAsk w vs b := by
  unfold askN
  rw [h]
  simp only
  have n0 := nth_eq vs 0 (by omega)
  have n1 := nth_eq vs 1 (by omega)
  have n2 := nth_eq vs 2 (by omega)
  by_cases h1 : w = b_get
  · subst h1; by_cases hl : vs.length = 2 <;> simp [stepD, wordD, refAsk, beginD, modeD, hl, n0, n1, b_shot, b_sure, b_look, b_get, b_put, b_drop, b_list, b_commit, b_abort, b_clear, b_crash, b_tear, b_last]
  by_cases h2 : w = b_drop
  · subst h2; by_cases hl : vs.length = 2 <;> simp [stepD, wordD, refAsk, beginD, modeD, hl, n0, n1, b_shot, b_sure, b_look, b_get, b_put, b_drop, b_list, b_commit, b_abort, b_clear, b_crash, b_tear, b_last]
  by_cases h3 : w = b_list
  · subst h3; by_cases hl : vs.length = 3 <;> simp [stepD, wordD, refAsk, beginD, modeD, hl, n0, n1, n2, b_shot, b_sure, b_look, b_get, b_put, b_drop, b_list, b_commit, b_abort, b_clear, b_crash, b_tear, b_last]
  by_cases h4 : w = b_commit
  · subst h4; by_cases hl : vs.length = 1
    · obtain ⟨v, rfl⟩ : ∃ v, vs = [v] := by match vs, hl with | [v], _ => exact ⟨v, rfl⟩
      simp [stepD, wordD, refAsk, nth, b_shot, b_sure, b_look, b_get, b_put, b_drop, b_list, b_commit]
    · simp [stepD, wordD, refAsk, beginD, modeD, hl, b_shot, b_sure, b_look, b_get, b_put, b_drop, b_list, b_commit, b_abort, b_clear, b_crash, b_tear, b_last]
  by_cases h5 : w = b_abort
  · subst h5; by_cases hl : vs.length = 1
    · obtain ⟨v, rfl⟩ : ∃ v, vs = [v] := by match vs, hl with | [v], _ => exact ⟨v, rfl⟩
      simp [stepD, wordD, refAsk, nth, b_shot, b_sure, b_look, b_get, b_put, b_drop, b_list, b_commit, b_abort]
    · simp [stepD, wordD, refAsk, beginD, modeD, hl, b_shot, b_sure, b_look, b_get, b_put, b_drop, b_list, b_commit, b_abort, b_clear, b_crash, b_tear, b_last]
  by_cases h6 : w = b_clear
  · subst h6; by_cases hl : vs.length = 0
    · obtain rfl := nil_iff.1 hl
      simp [stepD, wordD, refAsk, nth, b_shot, b_sure, b_look, b_get, b_put, b_drop, b_list, b_commit, b_abort, b_clear]
    · have hl' : vs ≠ [] := fun e => hl (nil_iff.2 e)
      simp [stepD, wordD, refAsk, beginD, modeD, hl', b_shot, b_sure, b_look, b_get, b_put, b_drop, b_list, b_commit, b_abort, b_clear, b_crash, b_tear, b_last]
  by_cases h7 : w = b_crash
  · subst h7; by_cases hl : vs.length = 0
    · obtain rfl := nil_iff.1 hl
      simp [stepD, wordD, refAsk, nth, b_shot, b_sure, b_look, b_get, b_put, b_drop, b_list, b_commit, b_abort, b_clear, b_crash]
    · have hl' : vs ≠ [] := fun e => hl (nil_iff.2 e)
      simp [stepD, wordD, refAsk, beginD, modeD, hl', b_shot, b_sure, b_look, b_get, b_put, b_drop, b_list, b_commit, b_abort, b_clear, b_crash, b_tear, b_last]
  by_cases h8 : w = b_tear
  · subst h8; by_cases hl : vs.length = 2 <;> simp [stepD, wordD, refAsk, beginD, modeD, hl, n0, n1, b_shot, b_sure, b_look, b_get, b_put, b_drop, b_list, b_commit, b_abort, b_clear, b_crash, b_tear, b_last]
  have hw : wordD w = (0, 0) := by
    unfold wordD
    rw [if_neg h1, if_neg h2, if_neg h3, if_neg h4, if_neg h5, if_neg h6, if_neg h7, if_neg h8]
  have hs : stepD w vs = none := by unfold stepD; rw [hw]; rfl
  rw [hs]
  simp only
  by_cases h9 : w = b_shot
  · subst h9; by_cases hl : vs.length = 1
    · obtain ⟨v, rfl⟩ : ∃ v, vs = [v] := by match vs, hl with | [v], _ => exact ⟨v, rfl⟩
      simp [refAsk, beginD, modeD, nth, b_shot]
    · simp [refAsk, beginD, modeD, hl, b_shot, b_sure, b_look, b_get, b_put, b_drop, b_list, b_commit, b_abort, b_clear, b_crash, b_tear, b_last]
  by_cases h10 : w = b_sure
  · subst h10; by_cases hl : vs.length = 1
    · obtain ⟨v, rfl⟩ : ∃ v, vs = [v] := by match vs, hl with | [v], _ => exact ⟨v, rfl⟩
      simp [refAsk, beginD, modeD, nth, b_shot, b_sure]
    · simp [refAsk, beginD, modeD, hl, b_shot, b_sure, b_look, b_get, b_put, b_drop, b_list, b_commit, b_abort, b_clear, b_crash, b_tear, b_last]
  by_cases h11 : w = b_look
  · subst h11; by_cases hl : vs.length = 2 <;> simp [refAsk, beginD, modeD, hl, n0, n1, b_shot, b_sure, b_look, b_get, b_put, b_drop, b_list, b_commit, b_abort, b_clear, b_crash, b_tear, b_last]
  have hb : beginD w vs = none := by
    unfold beginD modeD
    by_cases h0 : w = []
    · simp [h0]
    · simp [h0, h9, h10, h11]
  rw [hb]
  simp only
  unfold refAsk
  by_cases hz : w = b_last ∧ vs = []
  · rw [if_pos hz, if_neg (fun h => h9 h.1), if_neg (fun h => h10 h.1), if_neg (fun h => h11 h.1), if_neg (fun h => h1 h.1), if_neg (fun h => hp h.1), if_neg (fun h => h2 h.1), if_neg (fun h => h3 h.1), if_neg (fun h => h4 h.1), if_neg (fun h => h5 h.1), if_neg (fun h => h6 h.1), if_neg (fun h => h7 h.1), if_neg (fun h => h8 h.1), if_pos ⟨hz.1, nil_iff.2 hz.2⟩]
  · rw [if_neg hz, if_neg (fun h => h9 h.1), if_neg (fun h => h10 h.1), if_neg (fun h => h11 h.1), if_neg (fun h => h1 h.1), if_neg (fun h => hp h.1), if_neg (fun h => h2 h.1), if_neg (fun h => h3 h.1), if_neg (fun h => h4 h.1), if_neg (fun h => h5 h.1), if_neg (fun h => h6 h.1), if_neg (fun h => h7 h.1), if_neg (fun h => h8 h.1), if_neg (fun h => hz ⟨h.1, nil_iff.1 h.2⟩)]

/-- 'put', and what is behind it is none. -/
theorem askD_putNo {r : List (List UInt8)} (h : putD3 r = none) : askD (b_put :: r) = .what := by
  rw [askD_askN _ _ (by rw [if_pos rfl]; exact h)]
  unfold askN
  cases numsD r with
  | none => rfl
  | some n => simp [stepD, wordD, beginD, modeD, b_shot, b_sure, b_look, b_get, b_put, b_drop, b_list, b_commit, b_abort, b_clear, b_crash, b_tear, b_last]

theorem putD3_some {a c s : List UInt8} {v : List UInt8} (hs : s.head? = some 61) (hm : meanL s.tail = some v) : putD3 [a, c, s] = match numsD [a, c] with
    | some [x, k] => some ⟨3, x, 0, 0, k, 0, 0, ⟨v.toArray⟩⟩
    | _ => none := by
  unfold putD3
  simp only [hs, hm, if_true, Option.map_some]
  cases numsD [a, c] with
  | none => rfl
  | some l =>
    match l with
    | [] => rfl
    | [_] => rfl
    | [_, _] => rfl
    | _ :: _ :: _ :: _ => rfl

/-- 'put', and bytes that mean something. -/
theorem askD_putYes {a c s : List UInt8} {v : List UInt8} (hs : s.head? = some 61) (hm : meanL s.tail = some v) : askD (b_put :: [a, c, s]) = match numsD [a, c] with
    | none => AskD.what
    | some vs => refAsk b_put vs ⟨v.toArray⟩ := by
  have hp := putD3_some (a := a) (c := c) hs hm
  cases hn : numsD [a, c] with
  | none =>
    rw [hn] at hp
    exact askD_putNo hp
  | some vs =>
    have hl := numsD_length _ _ hn
    match vs, hl with
    | [x, k], _ =>
      rw [hn] at hp
      simp only at hp
      rw [askD_cons, if_pos rfl, hp]
      simp [refAsk, nth, b_shot, b_sure, b_look, b_get, b_put]

end Go.Proofs.YtoiobhcgpajogaaGreatDoor
