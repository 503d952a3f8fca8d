/- The document's desk: the walk of line, from the place among the names on. -/
import Derived.Test.YtoiobhcgpajogaaGreatDoorRDk5
namespace Go.Proofs.YtoiobhcgpajogaaGreatDoor
open Go.RowKit
set_option linter.unusedVariables false

theorem last_cat (A B C : List UInt8) : (((((⟨#[108, 97, 115, 116, 32]⟩ : ByteArray) ++ ⟨A.toArray⟩) ++ ⟨#[32]⟩) ++ ⟨B.toArray⟩) ++ ⟨#[32]⟩) ++ ⟨C.toArray⟩ = ⟨(b_last ++ 32 :: (A ++ 32 :: (B ++ 32 :: C))).toArray⟩ := by
  show (((((⟨([108, 97, 115, 116, 32] : List UInt8).toArray⟩ : ByteArray) ++ ⟨A.toArray⟩) ++ ⟨([32] : List UInt8).toArray⟩) ++ ⟨B.toArray⟩) ++ ⟨([32] : List UInt8).toArray⟩) ++ ⟨C.toArray⟩ = _
  rw [ba_append, ba_append, ba_append, ba_append, ba_append]
  simp [b_last]

theorem nth_cell (vs : List Int) (i : Nat) (hi : i < 3) : (vs.map (Value.int .i64) ++ [Value.int .i64 0, Value.int .i64 0, Value.int .i64 0])[i]? = some (Value.int .i64 (nth vs i)) := by
  have hl : i < (vs ++ [0, 0, 0]).length := by simp; omega
  rw [show vs.map (Value.int .i64) ++ [Value.int .i64 0, Value.int .i64 0, Value.int .i64 0] = (vs ++ [0, 0, 0]).map (Value.int .i64) by simp, List.getElem?_map, List.getElem?_eq_getElem hl]
  unfold nth
  rw [List.getD_eq_getElem?_getD, List.getElem?_eq_getElem hl]
  rfl

theorem RDk.more {w0 w : World} {g0 g : Nat → Nat} {q d c N : Nat} {t : List UInt8} {H : Ht} (k : RDk w0 g0 q d c t N H g w) {N2 : Nat} (hn : N ≤ N2) : RDk w0 g0 q d c t N2 H g w := ⟨k.desk, k.court.more hn, k.glob, k.evo⟩

set_option maxHeartbeats 4000000 in
set_option maxRecDepth 100000 in
theorem rline_ask (w0 wB w : World) (g0 g : Nat → Nat) (q d c N : Nat) (t : List UInt8) (H : Ht) (hq : 1 ≤ q) (hN : N + 8 < 1000000)
    (bw ow lw cw cn : Nat) (an : Option Addr) (xw b : ByteArray) (vs : List Int) (hlw : 1 ≤ lw) (hvl : vs.length ≤ 20000) (hbm : b.size ≤ maxLen)
    (CW : wB.cell? ⟨bw, ow, none⟩ = some (.string xw)) (HB : Hid (Below wB.heap.size wB w)) (HO : Hid (w.ownsRow wB.heap.size 3 1 (.slice an vs.length cn) vs.length (vs.map (Value.int .i64))))
    (KR : Hid (RDk w0 g0 q d c t N H g wB)) (OK : Hid (∀ x, EvOk (doH H x).1)) (LH : Hid (I64 H.v.tab.last ∧ I64 (firstT H.v.tab) ∧ I64 (leastH H))) (ht : t.length ≤ 700000000)
    (C : Code) (hcode : Tryz.f18.body.bind (tailR 26) = some C) (Q : Exit → Act → World → Prop) (u1 u2 u3 u5 u6 u8 u10 u11 u12 u14 u15 u16 u17 u18 u19 u20 u21 u22 u23 u24 u25 u26 u27 u28 u29 u30 u31 u32 u33 u34 u35 u36 u37 u38 u39 u40 u41 u42 u43 u44 u45 u46 u47 u48 u49 u50 u51 u52 u53 u54 u55 u56 u57 u58 u59 u60 u61 u62 u63 u64 u65 u66 u67 u68 u69 u70 u71 u72 u73 u74 u75 u76 u77 u78 u79 u80 u81 u82 u83 u84 u85 u86 u87 u88 u89 u90 u91 u92 u93 u94 u95 u96 u97 u98 u99 u100 u101 u102 u103 u104 u105 u106 u107 u108 u109 u110 u111 u112 u113 u114 u115 u116 u117 u118 u119 u120 u121 u122 u123 u124 u125 u126 u127 u128 u129 u130 u131 u132 u133 u134 u135 u136 u137 u138 u139 u140 u141 u142 u143 u144 u145 u146 u147 u148 u149 u150 u151 u152 u153 u154 u155 u156 u157 u158 u159 u160 u161 u162 u163 u164 u165 u166 u167 u168 u169 u170 u171 u172 u173 u174 u175 u176 u177 u178 u179 u180 u181 u182 u183 u184 u185 u186 u187 u188 u189 u190 u191 u192 u193 u194 u195 u196 u197 u198 u199 u200 u201 u202 u203 u204 u205 u206 u207 u208 u209 u210 u211 u212 u213 u214 u215 u216 u217 u218 u219 u220 u221 u222 u223 u224 u225 u226 u227 u228 u229 u230 u231 u232 u233 u234 u235 u236 u237 u238 u239 u240 u241 u242 u243 u244 u245 u246 u247 u248 u249 u250 u251 u252 u253 u254 u255 u256 u257 u258 u259 u260 u261 u262 u263 u264 u265 u266 u267 u268 u269 u270 u271 u272 u273 u274 u275 u276 u277 u278 u279 u280 u281 u282 u283 u284 u285 u286 u287 u288 u289 u290 u291 u292 u293 u294 u295 u296 u297 u298 u299 u300 u301 u302 u303 u304 u305 u306 u307 u308 u309 u310 u311 u312 u313 u314 u315 : Value)
    (hQ : ∀ (e' : Exit) (a' : Act) (w' : World), (e' = .normal ∨ e' = .ret) → a'.defers = [] → (∃ g', RDk w0 g0 q d c (t ++ (resD H (refAsk xw.data.toList vs b)).1) (N + 8) (resD H (refAsk xw.data.toList vs b)).2 g' w') → Q e' a' w') :
    Code.wp Tryz.prog C Q ⟨List.toArray (.pointer (some ⟨d, 0, none⟩) :: u1 :: u2 :: u3 :: .slice (some ⟨bw, ow, none⟩) lw cw :: u5 :: u6 :: .string b :: u8 :: .slice an vs.length cn :: u10 :: u11 :: u12 :: .int .i64 (atGo xw.data.toList vs.length 13) :: u14 :: u15 :: u16 :: u17 :: u18 :: u19 :: u20 :: u21 :: u22 :: u23 :: u24 :: u25 :: u26 :: u27 :: u28 :: u29 :: u30 :: u31 :: u32 :: u33 :: u34 :: u35 :: u36 :: u37 :: u38 :: u39 :: u40 :: u41 :: u42 :: u43 :: u44 :: u45 :: u46 :: u47 :: u48 :: u49 :: u50 :: u51 :: u52 :: u53 :: u54 :: u55 :: u56 :: u57 :: u58 :: u59 :: u60 :: u61 :: u62 :: u63 :: u64 :: u65 :: u66 :: u67 :: u68 :: u69 :: u70 :: u71 :: u72 :: u73 :: u74 :: u75 :: u76 :: u77 :: u78 :: u79 :: u80 :: u81 :: u82 :: u83 :: u84 :: u85 :: u86 :: u87 :: u88 :: u89 :: u90 :: u91 :: u92 :: u93 :: u94 :: u95 :: u96 :: u97 :: u98 :: u99 :: u100 :: u101 :: u102 :: u103 :: u104 :: u105 :: u106 :: u107 :: u108 :: u109 :: u110 :: u111 :: u112 :: u113 :: u114 :: u115 :: u116 :: u117 :: u118 :: u119 :: u120 :: u121 :: u122 :: u123 :: u124 :: u125 :: u126 :: u127 :: u128 :: u129 :: u130 :: u131 :: u132 :: u133 :: u134 :: u135 :: u136 :: u137 :: u138 :: u139 :: u140 :: u141 :: u142 :: u143 :: u144 :: u145 :: u146 :: u147 :: u148 :: u149 :: u150 :: u151 :: u152 :: u153 :: u154 :: u155 :: u156 :: u157 :: u158 :: u159 :: u160 :: u161 :: u162 :: u163 :: u164 :: u165 :: u166 :: u167 :: u168 :: u169 :: u170 :: u171 :: u172 :: u173 :: u174 :: u175 :: u176 :: u177 :: u178 :: u179 :: u180 :: u181 :: u182 :: u183 :: u184 :: u185 :: u186 :: u187 :: u188 :: u189 :: u190 :: u191 :: u192 :: u193 :: u194 :: u195 :: u196 :: u197 :: u198 :: u199 :: u200 :: u201 :: u202 :: u203 :: u204 :: u205 :: u206 :: u207 :: u208 :: u209 :: u210 :: u211 :: u212 :: u213 :: u214 :: u215 :: u216 :: u217 :: u218 :: u219 :: u220 :: u221 :: u222 :: u223 :: u224 :: u225 :: u226 :: u227 :: u228 :: u229 :: u230 :: u231 :: u232 :: u233 :: u234 :: u235 :: u236 :: u237 :: u238 :: u239 :: u240 :: u241 :: u242 :: u243 :: u244 :: u245 :: u246 :: u247 :: u248 :: u249 :: u250 :: u251 :: u252 :: u253 :: u254 :: u255 :: u256 :: u257 :: u258 :: u259 :: u260 :: u261 :: u262 :: u263 :: u264 :: u265 :: u266 :: u267 :: u268 :: u269 :: u270 :: u271 :: u272 :: u273 :: u274 :: u275 :: u276 :: u277 :: u278 :: u279 :: u280 :: u281 :: u282 :: u283 :: u284 :: u285 :: u286 :: u287 :: u288 :: u289 :: u290 :: u291 :: u292 :: u293 :: u294 :: u295 :: u296 :: u297 :: u298 :: u299 :: u300 :: u301 :: u302 :: u303 :: u304 :: u305 :: u306 :: u307 :: u308 :: u309 :: u310 :: u311 :: u312 :: u313 :: u314 :: u315 :: []), []⟩ w := by
  have HQ := hid hQ
  clear hQ
  obtain rfl : (Tryz.f18.body.bind (tailR 26)).getD .skip = C := by rw [hcode]; rfl
  clear hcode
  conv => arg 2; whnf
  have CWw := cell_below CW HB.out
  have hl1 : (1 : Int) ≤ (lw : Int) := by omega
  have hl2 : 0 < lw := by omega
  have hl3 : (0 : Int) < (lw : Int) := by omega
  rcases ask_ways xw.data.toList vs b with ⟨ha, hA⟩ | ⟨ha, hw, hA⟩ | ⟨x, ha, hw, hA, hx⟩
  · rw [hA] at HQ
    have HP1 := hid (KR.out.below HB.out)
    have HSY := hid (ref_say g q d c t b_what w HP1.out.desk (by simp only [b_what, List.length_cons, List.length_nil]; omega))
    rw [ha]
    clear ha hA CWw
    go_wp2_with fail
    refine HSY.out.mono ?_
    rintro e w9 ⟨rfl, hL9, hE9⟩
    have HP := hid (show RDk w0 g0 q d c (t ++ (b_what ++ [10])) (N + 8) H g w9 from (HP1.out.said hq hE9 hL9).more (by omega))
    clear hL9 hE9 HSY HP1
    go_wp2
    exact HQ.out _ _ _ (.inr rfl) rfl ⟨g, HP.out⟩
  · rw [hA] at HQ
    have hwl : xw.toList = [108, 97, 115, 116] := by rw [toList_data]; exact hw
    obtain ⟨hok, sh, dsc, hCL⟩ := KR.out.court
    have HCL := hid hCL
    have LF := hid (fun W (hb : Below wB.heap.size wB W) => sheet_First g (q + 1 + 4) sh H.v.tab W (hCL.below hb).sheet)
    have LL := hid (fun W (hb : Below wB.heap.size wB W) => (show Calls Tryz.prog 40 #[.pointer (some ⟨c, 0, none⟩)] W (fun e w' => e = .returned (.int .i64 (leastH H)) ∧ W = w') from court_Least g (q + 1) c sh dsc N H.v.tab H.v.log H.seats W (hCL.below hb)))
    have KS := hid (fun W (hb : Below wB.heap.size wB W) => (show W.cell? ⟨d, 1, none⟩ = some (.pointer (some ⟨c, 0, none⟩)) ∧ W.cell? ⟨c, 0, none⟩ = some (.pointer (some ⟨sh, 0, none⟩)) ∧ W.cell? ⟨sh, 8, none⟩ = some (.int .i64 H.v.tab.last) from ⟨(KR.out.below hb).desk.1.cell 1, (hCL.below hb).top.1, (hCL.below hb).sheet.n.1⟩))
    have TB := hid KR.out.glob.tab
    have hS0 : w.drew.cell? ⟨d, 1, none⟩ = some (.pointer (some ⟨c, 0, none⟩)) ∧ w.drew.cell? ⟨c, 0, none⟩ = some (.pointer (some ⟨sh, 0, none⟩)) ∧ w.drew.cell? ⟨sh, 8, none⟩ = some (.int .i64 H.v.tab.last) := KS.out _ HB.out.drew
    have l1 := Lib.itoa_length_le _ LH.out.1.1 LH.out.1.2
    have l2 := Lib.itoa_length_le _ LH.out.2.1.1 LH.out.2.1.2
    have l3 := Lib.itoa_length_le _ LH.out.2.2.1 LH.out.2.2.2
    have j1 : ¬ (9223372036854775807 < 5 + (Lib.itoa H.v.tab.last).length) := by omega
    have j2 : ¬ (9223372036854775807 < 5 + (Lib.itoa H.v.tab.last).length + 1) := by omega
    have j3 : ¬ (9223372036854775807 < 5 + (Lib.itoa H.v.tab.last).length + 1 + (Lib.itoa (firstT H.v.tab)).length) := by omega
    have j4 : ¬ (9223372036854775807 < 5 + (Lib.itoa H.v.tab.last).length + 1 + (Lib.itoa (firstT H.v.tab)).length + 1) := by omega
    have j5 : ¬ (9223372036854775807 < 5 + (Lib.itoa H.v.tab.last).length + 1 + (Lib.itoa (firstT H.v.tab)).length + 1 + (Lib.itoa (leastH H)).length) := by omega
    rw [ha]
    clear hw hA ha hCL hok
    go_upto_region 29 with (fail)
    -- REGION 29
    refine wp_region_noPanic ?_
    refine wp_region_held_drew (S := (fun W : World => W.cell? ⟨d, 1, none⟩ = some (.pointer (some ⟨c, 0, none⟩)) ∧ W.cell? ⟨c, 0, none⟩ = some (.pointer (some ⟨sh, 0, none⟩)) ∧ W.cell? ⟨sh, 8, none⟩ = some (.int .i64 H.v.tab.last))) (by kernel_rfl) ?_ (fun hH0 => ?_)
    · (try dsimp only); (first | assumption)
    refine tk 0 (h := ?_)
    try simp only [Act.put, List.setIfInBounds_toArray, List.set_cons_zero, List.set_cons_succ]
    refine tk 1 (h := ?_)
    try simp only [Act.put, List.setIfInBounds_toArray, List.set_cons_zero, List.set_cons_succ]
    refine tk 2 (h := ?_)
    try simp only [Act.put, List.setIfInBounds_toArray, List.set_cons_zero, List.set_cons_succ]
    refine tk 3 (h := ?_)
    try simp only [Act.put, List.setIfInBounds_toArray, List.set_cons_zero, List.set_cons_succ]
    refine tk 4 (h := ?_)
    try simp only [Act.put, List.setIfInBounds_toArray, List.set_cons_zero, List.set_cons_succ]
    refine tk 5 (h := ?_)
    try simp only [Act.put, List.setIfInBounds_toArray, List.set_cons_zero, List.set_cons_succ]
    refine tk 6 (h := ?_)
    try simp only [Act.put, List.setIfInBounds_toArray, List.set_cons_zero, List.set_cons_succ]
    refine tk 7 (h := ?_)
    try simp only [Act.put, List.setIfInBounds_toArray, List.set_cons_zero, List.set_cons_succ]
    refine tk 8 (h := ?_)
    try simp only [Act.put, List.setIfInBounds_toArray, List.set_cons_zero, List.set_cons_succ]
    refine tk 9 (h := ?_)
    try simp only [Act.put, List.setIfInBounds_toArray, List.set_cons_zero, List.set_cons_succ]
    refine tk 10 (h := ?_)
    try simp only [Act.put, List.setIfInBounds_toArray, List.set_cons_zero, List.set_cons_succ]
    refine tk 14 (h := ?_)
    try simp only [Act.put, List.setIfInBounds_toArray, List.set_cons_zero, List.set_cons_succ]
    refine tk 15 (h := ?_)
    try simp only [Act.put, List.setIfInBounds_toArray, List.set_cons_zero, List.set_cons_succ]
    refine tk 16 (h := ?_)
    try simp only [Act.put, List.setIfInBounds_toArray, List.set_cons_zero, List.set_cons_succ]
    refine tk 17 (h := ?_)
    try simp only [Act.put, List.setIfInBounds_toArray, List.set_cons_zero, List.set_cons_succ]
    refine tk 18 (h := ?_)
    try simp only [Act.put, List.setIfInBounds_toArray, List.set_cons_zero, List.set_cons_succ]
    refine tk 19 (h := ?_)
    try simp only [Act.put, List.setIfInBounds_toArray, List.set_cons_zero, List.set_cons_succ]
    refine tk 20 (h := ?_)
    try simp only [Act.put, List.setIfInBounds_toArray, List.set_cons_zero, List.set_cons_succ]
    refine tk 25 (h := ?_)
    try simp only [Act.put, List.setIfInBounds_toArray, List.set_cons_zero, List.set_cons_succ]
    refine tk 26 (h := ?_)
    try simp only [Act.put, List.setIfInBounds_toArray, List.set_cons_zero, List.set_cons_succ]
    refine tk 27 (h := ?_)
    try simp only [Act.put, List.setIfInBounds_toArray, List.set_cons_zero, List.set_cons_succ]
    refine tk 28 (h := ?_)
    try simp only [Act.put, List.setIfInBounds_toArray, List.set_cons_zero, List.set_cons_succ]
    refine wpAnyH_ready (rs := [11]) (by kernel_rfl) (by simp) ?_
    refine AllReadyH.cons (by simp only [List.getElem?_toArray, List.getElem?_cons_zero, List.getElem?_cons_succ]; rfl) (fun K hK => ?_) AllReadyH.nil
    go_simp
    go_at_call 38
    have hb0 := HB.out.drew
    (with_reducible refine (ref_num _ LH.out.1.1 LH.out.1.2 _ (tabIs_below TB.out hb0)).mono ?_)
    rintro e w8 ⟨rfl, hb8⟩
    have hb1 := hb0.trans (hb8.mono hb0.size)
    have hS2 := KS.out _ hb1
    clear hb8
    try go_wp2_with fail
    refine hK.out _ _ ?_ (fun hH1 => ?_)
    · (try dsimp only); (first | assumption)
    clear hK K hH0
    try simp only [Act.put, List.setIfInBounds_toArray, List.set_cons_zero, List.set_cons_succ]
    refine tk 12 (h := ?_)
    try simp only [Act.put, List.setIfInBounds_toArray, List.set_cons_zero, List.set_cons_succ]
    refine tk 13 (h := ?_)
    try simp only [Act.put, List.setIfInBounds_toArray, List.set_cons_zero, List.set_cons_succ]
    refine wpAnyH_ready (rs := [21]) (by kernel_rfl) (by simp) ?_
    refine AllReadyH.cons (by simp only [List.getElem?_toArray, List.getElem?_cons_zero, List.getElem?_cons_succ]; rfl) (fun K hK => ?_) AllReadyH.nil
    go_simp
    go_at_call 39
    (with_reducible refine (LF.out _ hb1).mono ?_)
    rintro e w9 ⟨rfl, hb9⟩
    have hb2 := hb1.trans (hb9.mono hb1.size)
    have hS3 := KS.out _ hb2
    clear hb9
    try go_wp2_with fail
    refine hK.out _ _ ?_ (fun hH2 => ?_)
    · (try dsimp only); (first | assumption)
    clear hK K hH1
    try simp only [Act.put, List.setIfInBounds_toArray, List.set_cons_zero, List.set_cons_succ]
    refine wpAnyH_ready (rs := [22]) (by kernel_rfl) (by simp) ?_
    refine AllReadyH.cons (by simp only [List.getElem?_toArray, List.getElem?_cons_zero, List.getElem?_cons_succ]; rfl) (fun K hK => ?_) AllReadyH.nil
    go_simp
    go_at_call 38
    (with_reducible refine (ref_num _ LH.out.2.1.1 LH.out.2.1.2 _ (tabIs_below TB.out hb2)).mono ?_)
    rintro e w10 ⟨rfl, hb10⟩
    have hb3 := hb2.trans (hb10.mono hb2.size)
    have hS4 := KS.out _ hb3
    clear hb10
    try go_wp2_with fail
    refine hK.out _ _ ?_ (fun hH3 => ?_)
    · (try dsimp only); (first | assumption)
    clear hK K hH2
    try simp only [Act.put, List.setIfInBounds_toArray, List.set_cons_zero, List.set_cons_succ]
    refine tk 23 (h := ?_)
    try simp only [Act.put, List.setIfInBounds_toArray, List.set_cons_zero, List.set_cons_succ]
    refine tk 24 (h := ?_)
    try simp only [Act.put, List.setIfInBounds_toArray, List.set_cons_zero, List.set_cons_succ]
    refine wpAnyH_ready (rs := [29]) (by kernel_rfl) (by simp) ?_
    refine AllReadyH.cons (by simp only [List.getElem?_toArray, List.getElem?_cons_zero, List.getElem?_cons_succ]; rfl) (fun K hK => ?_) AllReadyH.nil
    go_simp
    go_at_call 40
    (with_reducible refine (LL.out _ hb3).mono ?_)
    rintro e w11 ⟨rfl, hw11⟩
    rw [← hw11]
    clear hw11 w11
    try go_wp2_with fail
    refine hK.out _ _ ?_ (fun hH4 => ?_)
    · (try dsimp only); (first | assumption)
    clear hK K hH3
    try simp only [Act.put, List.setIfInBounds_toArray, List.set_cons_zero, List.set_cons_succ]
    refine wpAnyH_ready (rs := [30]) (by kernel_rfl) (by simp) ?_
    refine AllReadyH.cons (by simp only [List.getElem?_toArray, List.getElem?_cons_zero, List.getElem?_cons_succ]; rfl) (fun K hK => ?_) AllReadyH.nil
    go_simp
    go_at_call 38
    (with_reducible refine (ref_num _ LH.out.2.2.1 LH.out.2.2.2 _ (tabIs_below TB.out hb3)).mono ?_)
    rintro e w12 ⟨rfl, hb12⟩
    have hb4 := hb3.trans (hb12.mono hb3.size)
    have hS5 := KS.out _ hb4
    clear hb12
    try go_wp2_with fail
    refine hK.out _ _ ?_ (fun hH5 => ?_)
    · (try dsimp only); (first | assumption)
    clear hK K hH4
    try simp only [Act.put, List.setIfInBounds_toArray, List.set_cons_zero, List.set_cons_succ]
    refine tk 31 (h := ?_)
    try simp only [Act.put, List.setIfInBounds_toArray, List.set_cons_zero, List.set_cons_succ]
    refine wpAnyH_ready (rs := [32]) (by kernel_rfl) (by simp) ?_
    refine AllReadyH.cons (by simp only [List.getElem?_toArray, List.getElem?_cons_zero, List.getElem?_cons_succ]; rfl) (fun K hK => ?_) AllReadyH.nil
    go_simp
    go_at_call 36
    rw [last_cat]
    have K7 := hid (KR.out.below hb4)
    refine (ref_say g q d c t (b_last ++ 32 :: (Lib.itoa H.v.tab.last ++ 32 :: (Lib.itoa (firstT H.v.tab) ++ 32 :: Lib.itoa (leastH H)))) w12 K7.out.desk (by simp only [b_last, List.length_append, List.length_cons, List.length_nil]; omega)).mono ?_
    rintro e w13 ⟨rfl, hL13, hE13⟩
    have hC13 := (HCL.out.below hb4).frame hE13 (by omega)
    have hS7 : w13.cell? ⟨d, 1, none⟩ = some (.pointer (some ⟨c, 0, none⟩)) ∧ w13.cell? ⟨c, 0, none⟩ = some (.pointer (some ⟨sh, 0, none⟩)) ∧ w13.cell? ⟨sh, 8, none⟩ = some (.int .i64 H.v.tab.last) := ⟨hL13.1.cell 1, hC13.top.1, hC13.sheet.n.1⟩
    have HP := hid ((K7.out.said hq hE13 hL13).more (show N ≤ N + 8 by omega))
    clear hL13 hE13 hC13 K7
    try go_wp2_with fail
    refine hK.out _ _ ?_ (fun hH6 => ?_)
    · (try dsimp only); (first | assumption)
    clear hK K hH5
    try simp only [Act.put, List.setIfInBounds_toArray, List.set_cons_zero, List.set_cons_succ]
    refine wpAnyH_done (by kernel_rfl) ?_ _
    refine NoPanic.normal ?_
    simp only [Exit.then]
    go_wp2
    refine HQ.out _ _ _ (.inr rfl) rfl ⟨g, ?_⟩
    have hP := HP.out
    rw [show (b_last ++ 32 :: (Lib.itoa H.v.tab.last ++ 32 :: (Lib.itoa (firstT H.v.tab) ++ 32 :: Lib.itoa (leastH H)))) ++ [10] = b_last ++ 32 :: (Lib.itoa H.v.tab.last ++ 32 :: (Lib.itoa (firstT H.v.tab) ++ 32 :: (Lib.itoa (leastH H) ++ [10]))) from by simp only [List.append_assoc, List.cons_append]] at hP
    exact hP
    -- END 29
  · rw [hA] at HQ
    have OKx := hid (OK.out x)
    obtain ⟨i0, hi, hz0, hz1, hz2⟩ := info_parts Tryz.infoInt
    have q1 : vs.length + 3 ≤ maxLen := by unfold maxLen; omega
    have q2 : (vs.length + 3) * 8 ≤ 140737488355328 := by omega
    have hwn : (xw.toList == [108, 97, 115, 116]) = false := by rw [toList_data, beq_eq_false_iff_ne]; exact hw
    have HX := hid hx
    have HA := hid ha
    generalize hat : atGo xw.data.toList vs.length 13 = at_ at *
    clear hw hA hx hat OK
    go_upto_region 31 with (refine wpList_append_own _ rfl (.tmp 158) (.tmp 159) 72 rfl wB.heap.size 3 i0 (.int .i64 0) 1 8 Tryz.underlying72 hi hz0 hz1 hz2 rfl (by decide) (.slice an vs.length cn) vs.length (vs.map (Value.int .i64)) rfl (HO.out.alloc _) ⟨w.heap.size, 0, none⟩ 3 3 [.int .i64 0, .int .i64 0, .int .i64 0] rfl rfl (cells_new w [.int .i64 0, .int .i64 0, .int .i64 0] 3) ?c2 q1 q2 ?c5 ?_)
    case c2 => first | rfl | (intro u hu; simp at hu; subst hu; rfl)
    case c5 => have := HB.out.size; rw [World.size_alloc]; omega
    intro v' w4 hown' hgrow _
    have hr : ∃ r cap2, v' = .slice (some ⟨r, 0, none⟩) (vs.length + 3) cap2 ∧ wB.heap.size ≤ r := by
      rcases hown'.2 with ⟨h1, h2⟩ | ⟨r, cap2, cur, h, hb, -⟩
      · omega
      · exact ⟨r, cap2, h, hb⟩
    obtain ⟨bn, cn2, rfl, hbn⟩ := hr
    have NC := hid (show ∀ i, i < 3 → w4.cell? ⟨bn, 0 + i, none⟩ = some (.int .i64 (nth vs i)) from fun i hi => by
      obtain ⟨a2, c2, e2, hsl, -⟩ := ownsRow.sliceAt hown'
      cases e2
      rcases hsl with h | ⟨b', o', e, hc⟩
      · simp at h
      · cases e
        exact hc i _ (nth_cell vs i hi))
    have HB4 := hid ((HB.out.alloc HB.out.size (.cells #[.int .i64 0, .int .i64 0, .int .i64 0] 3)).grown hgrow (by have := HB.out.size; rw [World.size_alloc]; omega) (fun j hj => (HO.out.lt j hj).1))
    have hK4 := KR.out.fresh (Evo.of_below g 0 HB4.out)
    have E5 := Evo.alloc (extc g wB 0) (q + 24) w4 (.cells #[.int .i64 0, .int .i64 (nth vs 0), .int .i64 0, .int .i64 0, .int .i64 0, .int .i64 0, .int .i64 0, .string ⟨#[]⟩] 97)
    have K5 := hid (hK4.fresh E5)
    have X5 : Hid (LocC (w4.alloc (.cells #[.int .i64 0, .int .i64 (nth vs 0), .int .i64 0, .int .i64 0, .int .i64 0, .int .i64 0, .int .i64 0, .string ⟨#[]⟩] 97)) (extc (extc g wB 0) w4 (q + 24)) (q + 24) w4.heap.size 97 (stL ⟨0, nth vs 0, 0, 0, 0, 0, 0, ByteArray.empty⟩)) := hid (LocC.new (extc g wB 0) (q + 24) w4 97 (stL ⟨0, nth vs 0, 0, 0, 0, 0, 0, ByteArray.empty⟩))
    have n0 : w4.cell? ⟨bn, 0, none⟩ = some (.int .i64 (nth vs 0)) := NC.out 0 (by omega)
    have hbl := World.block_lt_of_cell? w4 _ n0
    have FC := hid (show (w4.alloc (.cells #[.int .i64 0, .int .i64 (nth vs 0), .int .i64 0, .int .i64 0, .int .i64 0, .int .i64 0, .int .i64 0, .string ⟨#[]⟩] 97)).cell? ⟨bw, ow, none⟩ = some (.string xw) ∧
        (w4.alloc (.cells #[.int .i64 0, .int .i64 (nth vs 0), .int .i64 0, .int .i64 0, .int .i64 0, .int .i64 0, .int .i64 0, .string ⟨#[]⟩] 97)).cell? ⟨bn, 0 + 1, none⟩ = some (.int .i64 (nth vs 1)) ∧
        (w4.alloc (.cells #[.int .i64 0, .int .i64 (nth vs 0), .int .i64 0, .int .i64 0, .int .i64 0, .int .i64 0, .int .i64 0, .string ⟨#[]⟩] 97)).cell? ⟨bn, 0 + 2, none⟩ = some (.int .i64 (nth vs 2)) ∧ extc (extc g wB 0) w4 (q + 24) bn < q + 24 ∧ w0.heap.size ≤ w4.heap.size from
      ⟨cell_below (cell_below CW HB4.out) (E5.below (by omega)), cell_below (NC.out 1 (by omega)) (E5.below (by omega)), cell_below (NC.out 2 (by omega)) (E5.below (by omega)), by rw [extc_old hbl, extc_new hbn]; omega, hK4.evo.size⟩)
    have hm1 : (1 : Int) ≤ ((vs.length + 3 : Nat) : Int) := by omega
    have hm2 : (0 : Int) < ((vs.length + 3 : Nat) : Int) := by omega
    have hm3 : 0 < vs.length + 3 := by omega
    clear hown' hgrow hK4 E5 hbl CWw HB HO KR NC HB4 CW
    go_upto_region 31 with (fail)
    rename_i K1 h1
    have HK1 := hid h1
    clear h1
    go_wp2_with fail
    refine HK1.out _ _ ?_
    obtain ⟨f1, f2, f3, f4, f5⟩ := FC.out
    generalize w4.alloc (.cells #[.int .i64 0, .int .i64 (nth vs 0), .int .i64 0, .int .i64 0, .int .i64 0, .int .i64 0, .int .i64 0, .string ⟨#[]⟩] 97) = w5 at *
    generalize extc (extc g wB 0) w4 (q + 24) = g5 at *
    generalize w4.heap.size = bx at *
    exact rline_switch w0 w5 g0 g5 q d c bx N t H x hq hN bw ow lw cw bn 0 (vs.length + 3) cn2 xw b (nth vs 0) (nth vs 1) (nth vs 2) at_ hlw (by omega) hbm f5 f1 f2 f3 f4 HX.out K5 X5 OKx ht _ (by kernel_rfl) _ _ _ _ _ _ _ _ _ _ _ _ _ _ _ _ _ _ _ _ _ _ _ _ _ _ _ _ _ _ _ _ _ _ _ _ _ _ _ _ _ _ _ _ _ _ _ _ _ _ _ _ _ _ _ _ _ _ _ _ _ _ _ _ _ _ _ _ _ _ _ _ _ _ _ _ _ _ _ _ _ _ _ _ _ _ _ _ _ _ _ _ _ _ _ _ _ _ _ _ _ _ _ _ _ _ _ _ _ _ _ _ _ _ _ _ _ _ _ _ _ _ _ _ _ _ _ _ _ _ _ _ _ _ _ _ _ _ _ _ _ _ _ _ _ _ _ _ _ _ _ _ _ _ _ _ _ _ _ _ _ _ _ _ _ _ _ _ _ _ _ _ _ _ _ _ _ _ _ _ _ _ _ _ _ _ _ _ _ _ _ _ _ _ _ _ _ _ _ _ _ _ _ _ _ _ _ _ _ _ _ _ _ _ _ _ _ _ _ _ _ _ _ _ _ _ _ _ _ _ _ _ _ _ _ _ _ _ _ _ _ _ _ _ _ _ _ _ _ _ _ _ _ _ _ _ _ _ _ _ _ _ _ _ _ _ _ _ _ _ _ _ _ _ _ _ _ _ _ _ _ _ _ _ _ _ _ _ _ _ _ _ _ _ _ _ _ _ _ _ _ _ _ _ _ _ _ _ _ _ _ HQ.out

end Go.Proofs.YtoiobhcgpajogaaGreatDoor

/- The document's desk: the walk of line: the place among the names. -/
namespace Go.Proofs.YtoiobhcgpajogaaGreatDoor
open Go.RowKit

def nmB : List ByteArray := nmL.map (fun l => ⟨l.toArray⟩)

theorem nmB_get (k : Nat) (hk : k < 13) : ∃ x : ByteArray, nmB[k]? = some x ∧ nmL[k]? = some x.data.toList := by
  have hl : k < nmL.length := hk
  refine ⟨⟨nmL[k].toArray⟩, ?_, ?_⟩
  · unfold nmB; rw [List.getElem?_map, List.getElem?_eq_getElem hl]; rfl
  · rw [List.getElem?_eq_getElem hl]

theorem mnL_get (k : Nat) (hk : k < 13) : ∃ m : Nat, mnL[k]? = some m ∧ m ≤ 3 := by
  have hl : k < mnL.length := hk
  have : ∀ k, k < 13 → ∀ m, mnL[k]? = some m → m ≤ 3 := by decide
  exact ⟨mnL[k], List.getElem?_eq_getElem hl, this k hk _ (List.getElem?_eq_getElem hl)⟩

set_option maxHeartbeats 4000000 in
set_option maxRecDepth 100000 in
theorem rline_at (w0 wB w : World) (g0 g : Nat → Nat) (q d c N : Nat) (t : List UInt8) (H : Ht) (hq : 1 ≤ q) (hN : N + 8 < 1000000)
    (bw ow lw cw cn bz oz bm om : Nat) (an : Option Addr) (xw b : ByteArray) (vs : List Int) (hlw : 1 ≤ lw) (hvl : vs.length ≤ 20000) (hbm : b.size ≤ maxLen)
    (CW : wB.cell? ⟨bw, ow, none⟩ = some (.string xw)) (NM : Hid (∀ j (x : ByteArray), nmB[j]? = some x → wB.cell? ⟨bz, oz + j, none⟩ = some (.string x))) (MN : Hid (∀ j (m : Nat), mnL[j]? = some m → wB.cell? ⟨bm, om + j, none⟩ = some (.int .i64 m)))
    (HB : Hid (Below wB.heap.size wB w)) (HO : Hid (w.ownsRow wB.heap.size 3 1 (.slice an vs.length cn) vs.length (vs.map (Value.int .i64))))
    (KR : Hid (RDk w0 g0 q d c t N H g wB)) (OK : Hid (∀ x, EvOk (doH H x).1)) (LH : Hid (I64 H.v.tab.last ∧ I64 (firstT H.v.tab) ∧ I64 (leastH H))) (ht : t.length ≤ 700000000)
    (C : Code) (hcode : Tryz.f18.body.bind (tailR 20) = some C) (Q : Exit → Act → World → Prop) (u1 u2 u3 u8 u10 u11 u12 u13 u14 u15 u16 u17 u18 u19 u20 u21 u22 u23 u24 u25 u26 u27 u28 u29 u30 u31 u32 u33 u34 u35 u36 u37 u38 u39 u40 u41 u42 u43 u44 u45 u46 u47 u48 u49 u50 u51 u52 u53 u54 u55 u56 u57 u58 u59 u60 u61 u62 u63 u64 u65 u66 u67 u68 u69 u70 u71 u72 u73 u74 u75 u76 u77 u78 u79 u80 u81 u82 u83 u84 u85 u86 u87 u88 u89 u90 u91 u92 u93 u94 u95 u96 u97 u98 u99 u100 u101 u102 u103 u104 u105 u106 u107 u108 u109 u110 u111 u112 u113 u114 u115 u116 u117 u118 u119 u120 u121 u122 u123 u124 u125 u126 u127 u128 u129 u130 u131 u132 u133 u134 u135 u136 u137 u138 u139 u140 u141 u142 u143 u144 u145 u146 u147 u148 u149 u150 u151 u152 u153 u154 u155 u156 u157 u158 u159 u160 u161 u162 u163 u164 u165 u166 u167 u168 u169 u170 u171 u172 u173 u174 u175 u176 u177 u178 u179 u180 u181 u182 u183 u184 u185 u186 u187 u188 u189 u190 u191 u192 u193 u194 u195 u196 u197 u198 u199 u200 u201 u202 u203 u204 u205 u206 u207 u208 u209 u210 u211 u212 u213 u214 u215 u216 u217 u218 u219 u220 u221 u222 u223 u224 u225 u226 u227 u228 u229 u230 u231 u232 u233 u234 u235 u236 u237 u238 u239 u240 u241 u242 u243 u244 u245 u246 u247 u248 u249 u250 u251 u252 u253 u254 u255 u256 u257 u258 u259 u260 u261 u262 u263 u264 u265 u266 u267 u268 u269 u270 u271 u272 u273 u274 u275 u276 u277 u278 u279 u280 u281 u282 u283 u284 u285 u286 u287 u288 u289 u290 u291 u292 u293 u294 u295 u296 u297 u298 u299 u300 u301 u302 u303 u304 u305 u306 u307 u308 u309 u310 u311 u312 u313 u314 u315 : Value)
    (hQ : ∀ (e' : Exit) (a' : Act) (w' : World), (e' = .normal ∨ e' = .ret) → a'.defers = [] → (∃ g', RDk w0 g0 q d c (t ++ (resD H (refAsk xw.data.toList vs b)).1) (N + 8) (resD H (refAsk xw.data.toList vs b)).2 g' w') → Q e' a' w') :
    Code.wp Tryz.prog C Q ⟨List.toArray (.pointer (some ⟨d, 0, none⟩) :: u1 :: u2 :: u3 :: .slice (some ⟨bw, ow, none⟩) lw cw :: .slice (some ⟨bz, oz, none⟩) 13 13 :: .slice (some ⟨bm, om, none⟩) 13 13 :: .string b :: u8 :: .slice an vs.length cn :: u10 :: u11 :: u12 :: u13 :: u14 :: u15 :: u16 :: u17 :: u18 :: u19 :: u20 :: u21 :: u22 :: u23 :: u24 :: u25 :: u26 :: u27 :: u28 :: u29 :: u30 :: u31 :: u32 :: u33 :: u34 :: u35 :: u36 :: u37 :: u38 :: u39 :: u40 :: u41 :: u42 :: u43 :: u44 :: u45 :: u46 :: u47 :: u48 :: u49 :: u50 :: u51 :: u52 :: u53 :: u54 :: u55 :: u56 :: u57 :: u58 :: u59 :: u60 :: u61 :: u62 :: u63 :: u64 :: u65 :: u66 :: u67 :: u68 :: u69 :: u70 :: u71 :: u72 :: u73 :: u74 :: u75 :: u76 :: u77 :: u78 :: u79 :: u80 :: u81 :: u82 :: u83 :: u84 :: u85 :: u86 :: u87 :: u88 :: u89 :: u90 :: u91 :: u92 :: u93 :: u94 :: u95 :: u96 :: u97 :: u98 :: u99 :: u100 :: u101 :: u102 :: u103 :: u104 :: u105 :: u106 :: u107 :: u108 :: u109 :: u110 :: u111 :: u112 :: u113 :: u114 :: u115 :: u116 :: u117 :: u118 :: u119 :: u120 :: u121 :: u122 :: u123 :: u124 :: u125 :: u126 :: u127 :: u128 :: u129 :: u130 :: u131 :: u132 :: u133 :: u134 :: u135 :: u136 :: u137 :: u138 :: u139 :: u140 :: u141 :: u142 :: u143 :: u144 :: u145 :: u146 :: u147 :: u148 :: u149 :: u150 :: u151 :: u152 :: u153 :: u154 :: u155 :: u156 :: u157 :: u158 :: u159 :: u160 :: u161 :: u162 :: u163 :: u164 :: u165 :: u166 :: u167 :: u168 :: u169 :: u170 :: u171 :: u172 :: u173 :: u174 :: u175 :: u176 :: u177 :: u178 :: u179 :: u180 :: u181 :: u182 :: u183 :: u184 :: u185 :: u186 :: u187 :: u188 :: u189 :: u190 :: u191 :: u192 :: u193 :: u194 :: u195 :: u196 :: u197 :: u198 :: u199 :: u200 :: u201 :: u202 :: u203 :: u204 :: u205 :: u206 :: u207 :: u208 :: u209 :: u210 :: u211 :: u212 :: u213 :: u214 :: u215 :: u216 :: u217 :: u218 :: u219 :: u220 :: u221 :: u222 :: u223 :: u224 :: u225 :: u226 :: u227 :: u228 :: u229 :: u230 :: u231 :: u232 :: u233 :: u234 :: u235 :: u236 :: u237 :: u238 :: u239 :: u240 :: u241 :: u242 :: u243 :: u244 :: u245 :: u246 :: u247 :: u248 :: u249 :: u250 :: u251 :: u252 :: u253 :: u254 :: u255 :: u256 :: u257 :: u258 :: u259 :: u260 :: u261 :: u262 :: u263 :: u264 :: u265 :: u266 :: u267 :: u268 :: u269 :: u270 :: u271 :: u272 :: u273 :: u274 :: u275 :: u276 :: u277 :: u278 :: u279 :: u280 :: u281 :: u282 :: u283 :: u284 :: u285 :: u286 :: u287 :: u288 :: u289 :: u290 :: u291 :: u292 :: u293 :: u294 :: u295 :: u296 :: u297 :: u298 :: u299 :: u300 :: u301 :: u302 :: u303 :: u304 :: u305 :: u306 :: u307 :: u308 :: u309 :: u310 :: u311 :: u312 :: u313 :: u314 :: u315 :: []), []⟩ w := by
  have HQ := hid hQ
  clear hQ
  obtain rfl : (Tryz.f18.body.bind (tailR 20)).getD .skip = C := by rw [hcode]; rfl
  clear hcode
  conv => arg 2; whnf
  have HCW := hid CW
  have hl1 : (1 : Int) ≤ (lw : Int) := by omega
  have hl2 : 0 < lw := by omega
  have hl3 : (0 : Int) < (lw : Int) := by omega
  clear CW
  go_upto_region 21 with (fail)
  rename_i K1 h1 K2 h2
  have HK1 := hid h1
  clear h1
  go_wp2_with fail
  go_loopw [13, 14] (fun at_ i wr => ∃ k : Nat, k ≤ 13 ∧ i = .int .i64 k ∧ at_ = .int .i64 (atGo xw.data.toList vs.length k) ∧ Hid (Below w.heap.size w wr)) (fun _ i _ => 13 - (intOf i).toNat)
  case atStart => exact ⟨0, Nat.zero_le _, rfl, rfl, hid (Below.refl _ _)⟩
  case round =>
    obtain ⟨k, hk, rfl, rfl, HW⟩ := hrel
    have HBr := hid (HB.out.trans (HW.out.mono HB.out.size))
    by_cases hlt : k < 13
    · obtain ⟨y, hy1, hy2⟩ := nmB_get k hlt
      obtain ⟨m, hm1, hm2⟩ := mnL_get k hlt
      have c0 := cell_below (NM.out k y hy1) HBr.out
      have c1 := cell_below (MN.out k m hm1) HBr.out
      have c2 := cell_below HCW.out HBr.out
      have hki : (k : Int) < 13 := by omega
      have hk0 : (0 : Int) ≤ (k : Int) := by omega
      have HS := hid (show atGo xw.data.toList vs.length (k + 1) = if y.data.toList = xw.data.toList ∧ m = vs.length then (k : Int) else atGo xw.data.toList vs.length k from by
        rw [atGo, hy2, hm1]
        simp only [Option.some.injEq])
      clear hy1 hy2 hm1
      generalize atGo xw.data.toList vs.length k = at_ at *
      by_cases hyx : y.data.toList = xw.data.toList
      · have e1 : (y.toList == xw.toList) = true := by rw [toList_data, toList_data, hyx]; simp
        by_cases hmn : m = vs.length
        · have HS2 := hid (HS.out.trans (if_pos ⟨hyx, hmn⟩))
          have e2 : ((m : Int) == (vs.length : Int)) = true := by simp [hmn]
          clear hyx hmn HS
          go_wp2_with fail
          go_quiet (fail)
          go_wp2
          go_roundw
          case rel => exact ⟨k + 1, by omega, by go_num, by rw [HS2.out], hid (HW.out.trans ((below_drewN _ _).mono HW.out.size))⟩
          case measure => simp [intOf]; omega
        · have HS2 := hid (HS.out.trans (if_neg (fun h => hmn h.2)))
          have e2 : ((m : Int) == (vs.length : Int)) = false := by simp; omega
          clear hyx hmn HS
          go_wp2_with fail
          go_quiet (fail)
          go_wp2
          go_roundw
          case rel => exact ⟨k + 1, by omega, by go_num, by rw [HS2.out], hid (HW.out.trans ((below_drewN _ _).mono HW.out.size))⟩
          case measure => simp [intOf]; omega
      · have HS2 := hid (HS.out.trans (if_neg (fun h => hyx h.1)))
        have e1 : (y.toList == xw.toList) = false := by rw [toList_data, toList_data]; simpa using hyx
        clear hyx HS
        go_wp2_with fail
        go_quiet (fail)
        go_wp2
        go_roundw
        case rel => exact ⟨k + 1, by omega, by go_num, by rw [HS2.out], hid (HW.out.trans ((below_drewN _ _).mono HW.out.size))⟩
        case measure => simp [intOf]; omega
    · obtain rfl : k = 13 := by omega
      have HOr := hid (ownsRow.lift HO.out (fun r hr => HW.out.block r (HO.out.lt r hr).2))
      go_wp2_with fail
      refine HK1.out _ _ ?_
      exact rline_ask w0 wB wr g0 g q d c N t H hq hN bw ow lw cw cn an xw b vs hlw hvl hbm HCW.out HBr HOr KR OK LH ht _ (by kernel_rfl) _ _ _ _ _ _ _ _ _ _ _ _ _ _ _ _ _ _ _ _ _ _ _ _ _ _ _ _ _ _ _ _ _ _ _ _ _ _ _ _ _ _ _ _ _ _ _ _ _ _ _ _ _ _ _ _ _ _ _ _ _ _ _ _ _ _ _ _ _ _ _ _ _ _ _ _ _ _ _ _ _ _ _ _ _ _ _ _ _ _ _ _ _ _ _ _ _ _ _ _ _ _ _ _ _ _ _ _ _ _ _ _ _ _ _ _ _ _ _ _ _ _ _ _ _ _ _ _ _ _ _ _ _ _ _ _ _ _ _ _ _ _ _ _ _ _ _ _ _ _ _ _ _ _ _ _ _ _ _ _ _ _ _ _ _ _ _ _ _ _ _ _ _ _ _ _ _ _ _ _ _ _ _ _ _ _ _ _ _ _ _ _ _ _ _ _ _ _ _ _ _ _ _ _ _ _ _ _ _ _ _ _ _ _ _ _ _ _ _ _ _ _ _ _ _ _ _ _ _ _ _ _ _ _ _ _ _ _ _ _ _ _ _ _ _ _ _ _ _ _ _ _ _ _ _ _ _ _ _ _ _ _ _ _ _ _ _ _ _ _ _ _ _ _ _ _ _ _ _ _ _ _ _ _ _ _ _ _ _ _ _ _ _ _ _ _ _ _ _ _ _ _ _ _ _ _ _ _ _ _ _ _ HQ.out

end Go.Proofs.YtoiobhcgpajogaaGreatDoor

/- The document's desk: the walk of line: the numbers. -/
namespace Go.Proofs.YtoiobhcgpajogaaGreatDoor
open Go.RowKit

/-- What the document's line asks for, behind its first word. -/
def refAskN (w : List UInt8) (b : ByteArray) : Option (List Int) → AskD
  | none => .what
  | some vs => refAsk w vs b

set_option maxHeartbeats 4000000 in
set_option maxRecDepth 100000 in
theorem rline_nums (w0 w : World) (g0 g : Nat → Nat) (q d c N : Nat) (t : List UInt8) (H : Ht) (hq : 1 ≤ q) (hN : N + 8 < 1000000)
    (bw ow cw bz oz bm om : Nat) (xw b : ByteArray) (xs : List ByteArray) (hxl : xs.length ≤ 20000) (hxz : ∀ x ∈ xs, x.size ≤ 100000) (hbm : b.size ≤ maxLen)
    (CW : w.cell? ⟨bw, ow, none⟩ = some (.string xw)) (CX : Hid (∀ j (hj : j < xs.length), w.cell? ⟨bw, ow + (j + 1), none⟩ = some (.string xs[j])))
    (NM : Hid (∀ j (x : ByteArray), nmB[j]? = some x → w.cell? ⟨bz, oz + j, none⟩ = some (.string x))) (MN : Hid (∀ j (m : Nat), mnL[j]? = some m → w.cell? ⟨bm, om + j, none⟩ = some (.int .i64 m)))
    (KR : Hid (RDk w0 g0 q d c t N H g w)) (OK : Hid (∀ x, EvOk (doH H x).1)) (LH : Hid (I64 H.v.tab.last ∧ I64 (firstT H.v.tab) ∧ I64 (leastH H))) (ht : t.length ≤ 700000000)
    (C : Code) (hcode : Tryz.f18.body.bind (tailR 12) = some C) (Q : Exit → Act → World → Prop) (u1 u2 u3 u8 u9 u10 u11 u12 u13 u14 u15 u16 u17 u18 u19 u20 u21 u22 u23 u24 u25 u26 u27 u28 u29 u30 u31 u32 u33 u34 u35 u36 u37 u38 u39 u40 u41 u42 u43 u44 u45 u46 u47 u48 u49 u50 u51 u52 u53 u54 u55 u56 u57 u58 u59 u60 u61 u62 u63 u64 u65 u66 u67 u68 u69 u70 u71 u72 u73 u74 u75 u76 u77 u78 u79 u80 u81 u82 u83 u84 u85 u86 u87 u88 u89 u90 u91 u92 u93 u94 u95 u96 u97 u98 u99 u100 u101 u102 u103 u104 u105 u106 u107 u108 u109 u110 u111 u112 u113 u114 u115 u116 u117 u118 u119 u120 u121 u122 u123 u124 u125 u126 u127 u128 u129 u130 u131 u132 u133 u134 u135 u136 u137 u138 u139 u140 u141 u142 u143 u144 u145 u146 u147 u148 u149 u150 u151 u152 u153 u154 u155 u156 u157 u158 u159 u160 u161 u162 u163 u164 u165 u166 u167 u168 u169 u170 u171 u172 u173 u174 u175 u176 u177 u178 u179 u180 u181 u182 u183 u184 u185 u186 u187 u188 u189 u190 u191 u192 u193 u194 u195 u196 u197 u198 u199 u200 u201 u202 u203 u204 u205 u206 u207 u208 u209 u210 u211 u212 u213 u214 u215 u216 u217 u218 u219 u220 u221 u222 u223 u224 u225 u226 u227 u228 u229 u230 u231 u232 u233 u234 u235 u236 u237 u238 u239 u240 u241 u242 u243 u244 u245 u246 u247 u248 u249 u250 u251 u252 u253 u254 u255 u256 u257 u258 u259 u260 u261 u262 u263 u264 u265 u266 u267 u268 u269 u270 u271 u272 u273 u274 u275 u276 u277 u278 u279 u280 u281 u282 u283 u284 u285 u286 u287 u288 u289 u290 u291 u292 u293 u294 u295 u296 u297 u298 u299 u300 u301 u302 u303 u304 u305 u306 u307 u308 u309 u310 u311 u312 u313 u314 u315 : Value)
    (hQ : ∀ (e' : Exit) (a' : Act) (w' : World), (e' = .normal ∨ e' = .ret) → a'.defers = [] → (∃ g', RDk w0 g0 q d c (t ++ (resD H (refAskN xw.data.toList b (numsD (xs.map (·.data.toList))))).1) (N + 8) (resD H (refAskN xw.data.toList b (numsD (xs.map (·.data.toList))))).2 g' w') → Q e' a' w') :
    Code.wp Tryz.prog C Q ⟨List.toArray (.pointer (some ⟨d, 0, none⟩) :: u1 :: u2 :: u3 :: .slice (some ⟨bw, ow, none⟩) (xs.length + 1) cw :: .slice (some ⟨bz, oz, none⟩) 13 13 :: .slice (some ⟨bm, om, none⟩) 13 13 :: .string b :: u8 :: u9 :: u10 :: u11 :: u12 :: u13 :: u14 :: u15 :: u16 :: u17 :: u18 :: u19 :: u20 :: u21 :: u22 :: u23 :: u24 :: u25 :: u26 :: u27 :: u28 :: u29 :: u30 :: u31 :: u32 :: u33 :: u34 :: u35 :: u36 :: u37 :: u38 :: u39 :: u40 :: u41 :: u42 :: u43 :: u44 :: u45 :: u46 :: u47 :: u48 :: u49 :: u50 :: u51 :: u52 :: u53 :: u54 :: u55 :: u56 :: u57 :: u58 :: u59 :: u60 :: u61 :: u62 :: u63 :: u64 :: u65 :: u66 :: u67 :: u68 :: u69 :: u70 :: u71 :: u72 :: u73 :: u74 :: u75 :: u76 :: u77 :: u78 :: u79 :: u80 :: u81 :: u82 :: u83 :: u84 :: u85 :: u86 :: u87 :: u88 :: u89 :: u90 :: u91 :: u92 :: u93 :: u94 :: u95 :: u96 :: u97 :: u98 :: u99 :: u100 :: u101 :: u102 :: u103 :: u104 :: u105 :: u106 :: u107 :: u108 :: u109 :: u110 :: u111 :: u112 :: u113 :: u114 :: u115 :: u116 :: u117 :: u118 :: u119 :: u120 :: u121 :: u122 :: u123 :: u124 :: u125 :: u126 :: u127 :: u128 :: u129 :: u130 :: u131 :: u132 :: u133 :: u134 :: u135 :: u136 :: u137 :: u138 :: u139 :: u140 :: u141 :: u142 :: u143 :: u144 :: u145 :: u146 :: u147 :: u148 :: u149 :: u150 :: u151 :: u152 :: u153 :: u154 :: u155 :: u156 :: u157 :: u158 :: u159 :: u160 :: u161 :: u162 :: u163 :: u164 :: u165 :: u166 :: u167 :: u168 :: u169 :: u170 :: u171 :: u172 :: u173 :: u174 :: u175 :: u176 :: u177 :: u178 :: u179 :: u180 :: u181 :: u182 :: u183 :: u184 :: u185 :: u186 :: u187 :: u188 :: u189 :: u190 :: u191 :: u192 :: u193 :: u194 :: u195 :: u196 :: u197 :: u198 :: u199 :: u200 :: u201 :: u202 :: u203 :: u204 :: u205 :: u206 :: u207 :: u208 :: u209 :: u210 :: u211 :: u212 :: u213 :: u214 :: u215 :: u216 :: u217 :: u218 :: u219 :: u220 :: u221 :: u222 :: u223 :: u224 :: u225 :: u226 :: u227 :: u228 :: u229 :: u230 :: u231 :: u232 :: u233 :: u234 :: u235 :: u236 :: u237 :: u238 :: u239 :: u240 :: u241 :: u242 :: u243 :: u244 :: u245 :: u246 :: u247 :: u248 :: u249 :: u250 :: u251 :: u252 :: u253 :: u254 :: u255 :: u256 :: u257 :: u258 :: u259 :: u260 :: u261 :: u262 :: u263 :: u264 :: u265 :: u266 :: u267 :: u268 :: u269 :: u270 :: u271 :: u272 :: u273 :: u274 :: u275 :: u276 :: u277 :: u278 :: u279 :: u280 :: u281 :: u282 :: u283 :: u284 :: u285 :: u286 :: u287 :: u288 :: u289 :: u290 :: u291 :: u292 :: u293 :: u294 :: u295 :: u296 :: u297 :: u298 :: u299 :: u300 :: u301 :: u302 :: u303 :: u304 :: u305 :: u306 :: u307 :: u308 :: u309 :: u310 :: u311 :: u312 :: u313 :: u314 :: u315 :: []), []⟩ w := by
  have HQ := hid hQ
  clear hQ
  obtain rfl : (Tryz.f18.body.bind (tailR 12)).getD .skip = C := by rw [hcode]; rfl
  clear hcode
  conv => arg 2; whnf
  obtain ⟨i0, hi, hz0, hz1, hz2⟩ := info_parts Tryz.infoInt
  have HCW := hid CW
  have HX := hid hxz
  have hxi : (xs.length : Int) ≤ 20000 := by omega
  clear CW hxz
  go_upto_region 13 with (fail)
  rename_i K1 h1 K2 h2
  have HK1 := hid h1
  clear h1
  go_wp2_with fail
  go_loopw [9, 10] (fun n i wr => ∃ (k : Nat) (vs : List Int), k ≤ xs.length ∧ i = .int .i64 ((k + 1 : Nat) : Int) ∧ Hid (numsD ((xs.take k).map (·.data.toList)) = some vs) ∧ vs.length = k ∧ Hid (wr.ownsRow w.heap.size 3 1 n vs.length (vs.map (Value.int .i64))) ∧ Hid (Below w.heap.size w wr)) (fun _ i _ => xs.length + 1 - (intOf i).toNat)
  case atStart => exact ⟨0, [], Nat.zero_le _, rfl, hid rfl, rfl, hid (World.ownsRow_nil _ _ _ _), hid (Below.refl _ _)⟩
  case round =>
    obtain ⟨k, vs, hk, rfl, HN, hvl, HO, HB⟩ := hrel
    obtain ⟨ao, co, rfl, -, -⟩ := ownsRow.sliceAt HO.out
    have HVL := hid hvl
    clear hvl
    by_cases hlt : k < xs.length
    · have c0 := cell_below (CX.out k hlt) HB.out
      have hs := HX.out xs[k] (List.getElem_mem _)
      have TK := hid (show (xs.take (k + 1)).map (·.data.toList) = (xs.take k).map (·.data.toList) ++ [xs[k].data.toList] from by rw [List.take_succ_eq_append_getElem hlt, List.map_append]; rfl)
      have MEM := hid (show xs[k].data.toList ∈ xs.map (·.data.toList) from List.mem_map.2 ⟨_, List.getElem_mem _, rfl⟩)
      have hki : ((k : Int) + 1) < (xs.length : Int) + 1 := by omega
      have hk0 : (0 : Int) ≤ (k : Int) + 1 := by omega
      have hkn : k + 1 < xs.length + 1 := by omega
      have GG := hid (KR.out.glob.below HB.out)
      generalize xs[k] = s at *
      cases hat : Lib.atoiAll s.data.toList
      case ok v =>
        have hr := atoi_range hat
        have CT := hid (Tryz.strconv_Atoi_ok s (by omega) v hat wr)
        have HAT := hid hat
        clear hat
        go_wp2_with fail
        refine CT.out.mono ?_
        rintro e w2 ⟨rfl, hw2⟩
        have hb2 : Below wr.heap.size wr w2 := by
          rcases hw2 with rfl | ⟨t, rfl⟩
          · exact Below.refl _ _
          · exact Joins.below_bytesWorld _ _ _ _ (Nat.le_refl _)
        have HB2 := hid (HB.out.trans (hb2.mono HB.out.size))
        have HO2 := hid (ownsRow.lift HO.out (fun r hr => hb2.block r (HO.out.lt r hr).2))
        have HT2 := hid (GG.out.below hb2).tab
        have d0 := cell_below c0 hb2
        have KS := hid (fun W (h : Below w2.heap.size w2 W) => (show Below w2.heap.size w2 W ∧ W.cell? ⟨bw, ow + (k + 1), none⟩ = some (.string s) from ⟨h, cell_below d0 h⟩))
        clear hw2 hb2 CT HB HO GG c0
        by_cases hq2 : Lib.itoa v = s.data.toList
        case' pos =>
          have hq3 : (Lib.itoa v == s.toList) = true := by rw [toList_data, hq2]; simp
          have hq4 : (Lib.itoa v != s.toList) = false := by rw [toList_data, hq2]; simp
          have HD := hid (show numD s.data.toList = some v from by unfold numD; rw [HAT.out]; simp only; rw [if_pos hq2])
          clear hq2
          go_upto_region 17 with (fail)
          -- REGION a
          refine wp_region_noPanic ?_
          refine wp_region_held_drew (S := (fun W' : World => Below w2.heap.size w2 W' ∧ W'.cell? ⟨bw, ow + (k + 1), none⟩ = some (.string s))) (by kernel_rfl) ?_ (fun hH0 => ?_)
          · (try dsimp only); (first | assumption | exact KS.out _ (Below.refl w2.heap.size w2).drew)
          refine tk 0 (h := ?_)
          try simp only [Act.put, List.setIfInBounds_toArray, List.set_cons_zero, List.set_cons_succ]
          refine tk 1 (h := ?_)
          try simp only [Act.put, List.setIfInBounds_toArray, List.set_cons_zero, List.set_cons_succ]
          refine tk 2 (h := ?_)
          try simp only [Act.put, List.setIfInBounds_toArray, List.set_cons_zero, List.set_cons_succ]
          refine tk 3 (h := ?_)
          try simp only [Act.put, List.setIfInBounds_toArray, List.set_cons_zero, List.set_cons_succ]
          refine tk 5 (h := ?_)
          try simp only [Act.put, List.setIfInBounds_toArray, List.set_cons_zero, List.set_cons_succ]
          refine tk 6 (h := ?_)
          try simp only [Act.put, List.setIfInBounds_toArray, List.set_cons_zero, List.set_cons_succ]
          refine tk 7 (h := ?_)
          try simp only [Act.put, List.setIfInBounds_toArray, List.set_cons_zero, List.set_cons_succ]
          refine tk 8 (h := ?_)
          try simp only [Act.put, List.setIfInBounds_toArray, List.set_cons_zero, List.set_cons_succ]
          refine wpAnyH_ready (rs := [4]) (by kernel_rfl) (by simp) ?_
          refine AllReadyH.cons (by simp only [List.getElem?_toArray, List.getElem?_cons_zero, List.getElem?_cons_succ]; rfl) (fun K hK => ?_) AllReadyH.nil
          go_simp
          go_at_call 38
          have hS := (‹Below _ w2 _ ∧ _›).1
          (with_reducible refine (ref_num v hr.1 hr.2 _ (tabIs_below HT2.out hS)).mono ?_)
          rintro e w3 ⟨rfl, hb3⟩
          have hS3 := KS.out _ (hS.trans (hb3.mono hS.size))
          clear hb3 hS
          try go_wp2_with fail
          refine hK.out _ _ ?_ (fun hH1 => ?_)
          · (try dsimp only); (first | assumption | exact KS.out _ (Below.refl w2.heap.size w2).drew)
          clear hK K hH0
          try simp only [Act.put, List.setIfInBounds_toArray, List.set_cons_zero, List.set_cons_succ]
          refine tk 9 (h := ?_)
          try simp only [Act.put, List.setIfInBounds_toArray, List.set_cons_zero, List.set_cons_succ]
          refine tk 10 (h := ?_)
          try simp only [Act.put, List.setIfInBounds_toArray, List.set_cons_zero, List.set_cons_succ]
          refine wpAnyH_done (by kernel_rfl) ?_ _
          refine NoPanic.normal ?_
          simp only [Exit.then]
          have HB3 := hid (HB2.out.trans ((‹Below _ w2 w3 ∧ _›).1.mono HB2.out.size))
          have HO3 := hid (ownsRow.lift HO2.out (fun r hr => (‹Below _ w2 w3 ∧ _›).1.block r (HO2.out.lt r hr).2))
          have q1 : vs.length + 1 ≤ maxLen := by have := HVL.out; unfold maxLen; omega
          have q2 : (vs.length + 1) * 8 ≤ 140737488355328 := by have := HVL.out; omega
          clear KS hS3 HB2 HO2 HT2 d0
          go_wp2_with (refine wpList_append_own _ rfl (.tmp 89) (.tmp 91) 72 rfl w.heap.size 3 i0 (.int .i64 0) 1 8 Tryz.underlying72 hi hz0 hz1 hz2 rfl (by decide) (.slice ao vs.length co) vs.length (vs.map (Value.int .i64)) rfl (HO3.out.alloc _) ⟨w3.heap.size, 0, none⟩ 1 1 [.int .i64 v] rfl rfl (cells_new w3 [.int .i64 v] 3) ?c2 q1 q2 ?c5 ?_)
          case c2 => first | rfl | (intro u hu; simp at hu; subst hu; rfl)
          case c5 => have := HB3.out.size; simp; omega
          intro v' w4 hown' hgrow _
          have HB4 := hid ((HB3.out.alloc HB3.out.size (.cells #[.int .i64 v] 3)).grown hgrow (by have := HB3.out.size; simp; omega) (fun j hj => (HO3.out.lt j hj).1))
          have HO4 := hid (show w4.ownsRow w.heap.size 3 1 v' (vs ++ [v]).length ((vs ++ [v]).map (Value.int .i64)) by rw [List.map_append, List.length_append]; exact hown')
          clear hown' hgrow
          go_wp2
          go_roundw
          case rel => exact ⟨k + 1, vs ++ [v], by omega, by go_num, hid (by rw [TK.out]; exact numsD_snoc _ _ _ _ HN.out HD.out), by have := HVL.out; simp; omega, HO4, HB4⟩
          case measure => simp [intOf]; omega
          -- END a
        case' neg =>
          have hq3 : (Lib.itoa v == s.toList) = false := by rw [toList_data]; simpa using hq2
          have hq4 : (Lib.itoa v != s.toList) = true := by rw [toList_data]; simpa using hq2
          have HD := hid (show numD s.data.toList = none from by unfold numD; rw [HAT.out]; simp only; rw [if_neg hq2])
          clear hq2
          go_upto_region 17 with (fail)
          -- REGION b
          refine wp_region_noPanic ?_
          refine wp_region_held_drew (S := (fun W' : World => Below w2.heap.size w2 W' ∧ W'.cell? ⟨bw, ow + (k + 1), none⟩ = some (.string s))) (by kernel_rfl) ?_ (fun hH0 => ?_)
          · (try dsimp only); (first | assumption | exact KS.out _ (Below.refl w2.heap.size w2).drew)
          refine tk 0 (h := ?_)
          try simp only [Act.put, List.setIfInBounds_toArray, List.set_cons_zero, List.set_cons_succ]
          refine tk 1 (h := ?_)
          try simp only [Act.put, List.setIfInBounds_toArray, List.set_cons_zero, List.set_cons_succ]
          refine tk 2 (h := ?_)
          try simp only [Act.put, List.setIfInBounds_toArray, List.set_cons_zero, List.set_cons_succ]
          refine tk 3 (h := ?_)
          try simp only [Act.put, List.setIfInBounds_toArray, List.set_cons_zero, List.set_cons_succ]
          refine tk 5 (h := ?_)
          try simp only [Act.put, List.setIfInBounds_toArray, List.set_cons_zero, List.set_cons_succ]
          refine tk 6 (h := ?_)
          try simp only [Act.put, List.setIfInBounds_toArray, List.set_cons_zero, List.set_cons_succ]
          refine tk 7 (h := ?_)
          try simp only [Act.put, List.setIfInBounds_toArray, List.set_cons_zero, List.set_cons_succ]
          refine tk 8 (h := ?_)
          try simp only [Act.put, List.setIfInBounds_toArray, List.set_cons_zero, List.set_cons_succ]
          refine wpAnyH_ready (rs := [4]) (by kernel_rfl) (by simp) ?_
          refine AllReadyH.cons (by simp only [List.getElem?_toArray, List.getElem?_cons_zero, List.getElem?_cons_succ]; rfl) (fun K hK => ?_) AllReadyH.nil
          go_simp
          go_at_call 38
          have hS := (‹Below _ w2 _ ∧ _›).1
          (with_reducible refine (ref_num v hr.1 hr.2 _ (tabIs_below HT2.out hS)).mono ?_)
          rintro e w3 ⟨rfl, hb3⟩
          have hS3 := KS.out _ (hS.trans (hb3.mono hS.size))
          clear hb3 hS
          try go_wp2_with fail
          refine hK.out _ _ ?_ (fun hH1 => ?_)
          · (try dsimp only); (first | assumption | exact KS.out _ (Below.refl w2.heap.size w2).drew)
          clear hK K hH0
          try simp only [Act.put, List.setIfInBounds_toArray, List.set_cons_zero, List.set_cons_succ]
          refine tk 9 (h := ?_)
          try simp only [Act.put, List.setIfInBounds_toArray, List.set_cons_zero, List.set_cons_succ]
          refine tk 10 (h := ?_)
          try simp only [Act.put, List.setIfInBounds_toArray, List.set_cons_zero, List.set_cons_succ]
          refine wpAnyH_done (by kernel_rfl) ?_ _
          refine NoPanic.normal ?_
          simp only [Exit.then]
          have HB3 := hid (HB2.out.trans ((‹Below _ w2 w3 ∧ _›).1.mono HB2.out.size))
          clear KS hS3 HB2 HO2 HT2 d0
          have hN0 : numsD (xs.map (·.data.toList)) = none := numsD_none _ _ MEM.out HD.out
          rw [hN0] at HQ
          have KW := hid (KR.out.below HB3.out)
          have HSY := hid (ref_say g q d c t b_what w3 KW.out.desk (by simp only [b_what, List.length_cons, List.length_nil]; omega))
          go_wp2_with fail
          refine HSY.out.mono ?_
          rintro e w9 ⟨rfl, hL9, hE9⟩
          have HP := hid (show RDk w0 g0 q d c (t ++ (b_what ++ [10])) (N + 8) H g w9 from (KW.out.said hq hE9 hL9).more (by omega))
          clear hL9 hE9 HSY KW hN0
          go_wp2
          exact HQ.out _ _ _ (.inr rfl) rfl ⟨g, HP.out⟩
          -- END b
      case _ =>
        obtain ⟨ev, hv, hev⟩ := GG.out.syn
        have CT := hid (Tryz.strconv_Atoi_syntax s (by omega) hat ev wr hv hev)
        have HD := hid (show numD s.data.toList = none from by unfold numD; rw [hat])
        clear hat hv hev
        go_wp2_with fail
        refine CT.out.mono ?_
        rintro e w2 ⟨N1, rfl, -, -, hb2⟩
        have HB2 := hid (HB.out.trans (hb2.mono HB.out.size))
        clear hb2 CT HB HO GG c0
        go_wp2_with fail
        go_quiet (fail)
        have HB3 := hid (HB2.out.trans ((below_drewN w2 nq).mono HB2.out.size))
        have hN0 : numsD (xs.map (·.data.toList)) = none := numsD_none _ _ MEM.out HD.out
        rw [hN0] at HQ
        have KW := hid (KR.out.below HB3.out)
        have HSY := hid (ref_say g q d c t b_what (w2.drewN nq) KW.out.desk (by simp only [b_what, List.length_cons, List.length_nil]; omega))
        go_wp2_with fail
        refine HSY.out.mono ?_
        rintro e w9 ⟨rfl, hL9, hE9⟩
        have HP := hid (show RDk w0 g0 q d c (t ++ (b_what ++ [10])) (N + 8) H g w9 from (KW.out.said hq hE9 hL9).more (by omega))
        clear hL9 hE9 HSY KW hN0
        go_wp2
        exact HQ.out _ _ _ (.inr rfl) rfl ⟨g, HP.out⟩
      case range =>
        obtain ⟨ev, hv, hev⟩ := GG.out.rng
        have CT := hid (Tryz.strconv_Atoi_range s (by omega) hat ev wr hv hev)
        have HD := hid (show numD s.data.toList = none from by unfold numD; rw [hat])
        clear hat hv hev
        go_wp2_with fail
        refine CT.out.mono ?_
        rintro e w2 ⟨N1, rfl, -, -, hb2⟩
        have HB2 := hid (HB.out.trans (hb2.mono HB.out.size))
        clear hb2 CT HB HO GG c0
        go_wp2_with fail
        go_quiet (fail)
        have HB3 := hid (HB2.out.trans ((below_drewN w2 nq).mono HB2.out.size))
        have hN0 : numsD (xs.map (·.data.toList)) = none := numsD_none _ _ MEM.out HD.out
        rw [hN0] at HQ
        have KW := hid (KR.out.below HB3.out)
        have HSY := hid (ref_say g q d c t b_what (w2.drewN nq) KW.out.desk (by simp only [b_what, List.length_cons, List.length_nil]; omega))
        go_wp2_with fail
        refine HSY.out.mono ?_
        rintro e w9 ⟨rfl, hL9, hE9⟩
        have HP := hid (show RDk w0 g0 q d c (t ++ (b_what ++ [10])) (N + 8) H g w9 from (KW.out.said hq hE9 hL9).more (by omega))
        clear hL9 hE9 HSY KW hN0
        go_wp2
        exact HQ.out _ _ _ (.inr rfl) rfl ⟨g, HP.out⟩
    · obtain rfl : k = xs.length := by omega
      have e := List.take_length (l := xs)
      rw [e] at HN
      have hvl := HVL.out
      rw [HN.out] at HQ
      clear e
      go_wp2_with fail
      refine HK1.out _ _ ?_
      exact rline_at w0 w wr g0 g q d c N t H hq hN bw ow (xs.length + 1) cw co bz oz bm om ao xw b vs (by omega) (by omega) hbm HCW.out NM MN HB HO KR OK LH ht _ (by kernel_rfl) _ _ _ _ _ _ _ _ _ _ _ _ _ _ _ _ _ _ _ _ _ _ _ _ _ _ _ _ _ _ _ _ _ _ _ _ _ _ _ _ _ _ _ _ _ _ _ _ _ _ _ _ _ _ _ _ _ _ _ _ _ _ _ _ _ _ _ _ _ _ _ _ _ _ _ _ _ _ _ _ _ _ _ _ _ _ _ _ _ _ _ _ _ _ _ _ _ _ _ _ _ _ _ _ _ _ _ _ _ _ _ _ _ _ _ _ _ _ _ _ _ _ _ _ _ _ _ _ _ _ _ _ _ _ _ _ _ _ _ _ _ _ _ _ _ _ _ _ _ _ _ _ _ _ _ _ _ _ _ _ _ _ _ _ _ _ _ _ _ _ _ _ _ _ _ _ _ _ _ _ _ _ _ _ _ _ _ _ _ _ _ _ _ _ _ _ _ _ _ _ _ _ _ _ _ _ _ _ _ _ _ _ _ _ _ _ _ _ _ _ _ _ _ _ _ _ _ _ _ _ _ _ _ _ _ _ _ _ _ _ _ _ _ _ _ _ _ _ _ _ _ _ _ _ _ _ _ _ _ _ _ _ _ _ _ _ _ _ _ _ _ _ _ _ _ _ _ _ _ _ _ _ _ _ _ _ _ _ _ _ _ _ _ _ _ _ _ _ _ _ _ _ _ _ _ _ _ _ _ _ _ HQ.out

end Go.Proofs.YtoiobhcgpajogaaGreatDoor
