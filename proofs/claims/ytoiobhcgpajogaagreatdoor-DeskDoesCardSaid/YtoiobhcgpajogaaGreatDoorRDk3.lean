/- The document's desk: the walk of line, its last part: what a step tells. -/
import Derived.Test.YtoiobhcgpajogaaGreatDoorRDk1
import Derived.Test.YtoiobhcgpajogaaGreatDoorCourt3
namespace Go.Proofs.YtoiobhcgpajogaaGreatDoor
open Go.RowKit

def startsR (n : Nat) : Code → Bool
  | .region k _ _ => k == n
  | .seq a _ => startsR n a
  | _ => false

/-- From the region n on. -/
def tailR (n : Nat) : Code → Option Code
  | .seq a b => if startsR n a then some (.seq a b) else tailR n b
  | _ => none

def blockR (n : Nat) : Code → Option Code
  | .block k c => if k = n then some (.block k c) else blockR n c
  | .seq a b => match blockR n a with
    | some c => some c
    | none => blockR n b
  | .cond _ a b => match blockR n a with
    | some c => some c
    | none => blockR n b
  | .loop c => blockR n c
  | .scope c => blockR n c
  | _ => none

/-- The document's desk in memory. -/
structure RDk (w0 : World) (g0 : Nat → Nat) (q d c : Nat) (t : List UInt8) (N : Nat) (H : Ht) (g : Nat → Nat) (w : World) : Prop where
  desk : LocC w g q d 48 [.string ⟨t.toArray⟩, .pointer (some ⟨c, 0, none⟩)]
  court : CourtAt w g (q + 1) c N H
  glob : GlobC w g
  evo : Evo q (q + 24) g0 g w0 w

section
variable {w0 w w' : World} {g0 g g' : Nat → Nat} {q d c N lo hi : Nat} {t t' : List UInt8} {H H' : Ht}
theorem RDk.below (k : RDk w0 g0 q d c t N H g w) (e : Below w.heap.size w w') : RDk w0 g0 q d c t N H g w' :=
  ⟨k.desk.below e, k.court.below e, k.glob.below e, k.evo.trans (Evo.of_same e)⟩
theorem RDk.fresh (k : RDk w0 g0 q d c t N H g w) (e : Evo 0 0 g g' w w') : RDk w0 g0 q d c t N H g' w' :=
  ⟨k.desk.frame e (by omega), k.court.frame e (by omega), k.glob.frame e (by omega), k.evo.trans (e.none (by omega))⟩
theorem RDk.said (k : RDk w0 g0 q d c t N H g w) (hq : 1 ≤ q) (e : Evo q (q + 1) g g w w') (hL : LocC w' g q d 48 [.string ⟨t'.toArray⟩, .pointer (some ⟨c, 0, none⟩)]) : RDk w0 g0 q d c t' N H g w' :=
  ⟨hL, k.court.frame e (by omega), k.glob.frame e (by omega), k.evo.trans (e.wide (by omega) (by omega))⟩
theorem RDk.self (k : RDk w0 g0 q d c t N H g w) : RDk w g q d c t N H g w := ⟨k.desk, k.court, k.glob, Evo.refl _ _ _ _⟩
/-- The same desk while others change. -/
theorem RDk.apart (k : RDk w0 g0 q d c t N H g w) (e : Evo lo hi g g' w w') (h1 : 1 ≤ lo) (hc : q + 24 ≤ lo ∨ hi ≤ q) : RDk w' g' q d c t N H g' w' :=
  ⟨k.desk.frame e (by omega), k.court.frame e (by omega), k.glob.frame e (by omega), Evo.refl _ _ _ _⟩
end

set_option maxHeartbeats 4000000 in
set_option maxRecDepth 100000 in
theorem rline_tell (w0 w : World) (g0 g : Nat → Nat) (q d c bx be N : Nat) (t : List UInt8) (H : Ht) (x : St) (e : Evt) (a : Option Addr) (cap : Nat) (hq : 1 ≤ q)
    (K : Hid (RDk w0 g0 q d c t N H g w)) (HX : Hid (LocC w g (q + 24) bx 97 (stL x))) (HE : Hid (LocC w g (q + 25) be 102 [.int .i64 e.code, .int .i64 e.n, .bool e.v.there, .string e.v.bytes, .slice a e.l.length cap])) (HL : Hid (SliceAt w a (encEnts e.l))) (OK : Hid (EvOk e)) (ht : t.length ≤ 700000000)
    (C : Code) (hcode : Tryz.f18.body.bind (blockR 5) = some C) (Q : Exit → Act → World → Prop) (u1 u2 u3 u4 u5 u6 u7 u8 u9 u10 u11 u12 u13 u14 u17 u18 u19 u20 u21 u22 u23 u24 u25 u26 u27 u28 u29 u30 u31 u32 u33 u34 u35 u36 u37 u38 u39 u40 u41 u42 u43 u44 u45 u46 u47 u48 u49 u50 u51 u52 u53 u54 u55 u56 u57 u58 u59 u60 u61 u62 u63 u64 u65 u66 u67 u68 u69 u70 u71 u72 u73 u74 u75 u76 u77 u78 u79 u80 u81 u82 u83 u84 u85 u86 u87 u88 u89 u90 u91 u92 u93 u94 u95 u96 u97 u98 u99 u100 u101 u102 u103 u104 u105 u106 u107 u108 u109 u110 u111 u112 u113 u114 u115 u116 u117 u118 u119 u120 u121 u122 u123 u124 u125 u126 u127 u128 u129 u130 u131 u132 u133 u134 u135 u136 u137 u138 u139 u140 u141 u142 u143 u144 u145 u146 u147 u148 u149 u150 u151 u152 u153 u154 u155 u156 u157 u158 u159 u160 u161 u162 u163 u164 u165 u166 u167 u168 u169 u170 u171 u172 u173 u174 u175 u176 u177 u178 u179 u180 u181 u182 u183 u184 u185 u186 u187 u188 u189 u190 u191 u192 u193 u194 u195 u196 u197 u198 u199 u200 u201 u202 u203 u204 u205 u206 u207 u208 u209 u210 u211 u212 u213 u214 u215 u216 u217 u218 u219 u220 u221 u222 u223 u224 u225 u226 u227 u228 u229 u230 u231 u232 u233 u234 u235 u236 u237 u238 u239 u240 u241 u242 u243 u244 u245 u246 u247 u248 u249 u250 u251 u252 u253 u254 u255 u256 u257 u258 u259 u260 u261 u262 u263 u264 u265 u266 u267 u268 u269 u270 u271 u272 u273 u274 u275 u276 u277 u278 u279 u280 u281 u282 u283 u284 u285 u286 u287 u288 u289 u290 u291 u292 u293 u294 u295 u296 u297 u298 u299 u300 u301 u302 u303 u304 u305 u306 u307 u308 u309 u310 u311 u312 u313 u314 u315 : Value)
    (hQ : ∀ (e' : Exit) (a' : Act) (w' : World), (e' = .normal ∨ e' = .ret) → a'.defers = [] → (∃ g', RDk w0 g0 q d c (t ++ (tellD x e ++ [10])) N H g' w') → Q e' a' w') :
    Code.wp Tryz.prog C Q ⟨List.toArray (.pointer (some ⟨d, 0, none⟩) :: u1 :: u2 :: u3 :: u4 :: u5 :: u6 :: u7 :: u8 :: u9 :: u10 :: u11 :: u12 :: u13 :: u14 :: .pointer (some ⟨bx, 0, none⟩) :: .pointer (some ⟨be, 0, none⟩) :: u17 :: u18 :: u19 :: u20 :: u21 :: u22 :: u23 :: u24 :: u25 :: u26 :: u27 :: u28 :: u29 :: u30 :: u31 :: u32 :: u33 :: u34 :: u35 :: u36 :: u37 :: u38 :: u39 :: u40 :: u41 :: u42 :: u43 :: u44 :: u45 :: u46 :: u47 :: u48 :: u49 :: u50 :: u51 :: u52 :: u53 :: u54 :: u55 :: u56 :: u57 :: u58 :: u59 :: u60 :: u61 :: u62 :: u63 :: u64 :: u65 :: u66 :: u67 :: u68 :: u69 :: u70 :: u71 :: u72 :: u73 :: u74 :: u75 :: u76 :: u77 :: u78 :: u79 :: u80 :: u81 :: u82 :: u83 :: u84 :: u85 :: u86 :: u87 :: u88 :: u89 :: u90 :: u91 :: u92 :: u93 :: u94 :: u95 :: u96 :: u97 :: u98 :: u99 :: u100 :: u101 :: u102 :: u103 :: u104 :: u105 :: u106 :: u107 :: u108 :: u109 :: u110 :: u111 :: u112 :: u113 :: u114 :: u115 :: u116 :: u117 :: u118 :: u119 :: u120 :: u121 :: u122 :: u123 :: u124 :: u125 :: u126 :: u127 :: u128 :: u129 :: u130 :: u131 :: u132 :: u133 :: u134 :: u135 :: u136 :: u137 :: u138 :: u139 :: u140 :: u141 :: u142 :: u143 :: u144 :: u145 :: u146 :: u147 :: u148 :: u149 :: u150 :: u151 :: u152 :: u153 :: u154 :: u155 :: u156 :: u157 :: u158 :: u159 :: u160 :: u161 :: u162 :: u163 :: u164 :: u165 :: u166 :: u167 :: u168 :: u169 :: u170 :: u171 :: u172 :: u173 :: u174 :: u175 :: u176 :: u177 :: u178 :: u179 :: u180 :: u181 :: u182 :: u183 :: u184 :: u185 :: u186 :: u187 :: u188 :: u189 :: u190 :: u191 :: u192 :: u193 :: u194 :: u195 :: u196 :: u197 :: u198 :: u199 :: u200 :: u201 :: u202 :: u203 :: u204 :: u205 :: u206 :: u207 :: u208 :: u209 :: u210 :: u211 :: u212 :: u213 :: u214 :: u215 :: u216 :: u217 :: u218 :: u219 :: u220 :: u221 :: u222 :: u223 :: u224 :: u225 :: u226 :: u227 :: u228 :: u229 :: u230 :: u231 :: u232 :: u233 :: u234 :: u235 :: u236 :: u237 :: u238 :: u239 :: u240 :: u241 :: u242 :: u243 :: u244 :: u245 :: u246 :: u247 :: u248 :: u249 :: u250 :: u251 :: u252 :: u253 :: u254 :: u255 :: u256 :: u257 :: u258 :: u259 :: u260 :: u261 :: u262 :: u263 :: u264 :: u265 :: u266 :: u267 :: u268 :: u269 :: u270 :: u271 :: u272 :: u273 :: u274 :: u275 :: u276 :: u277 :: u278 :: u279 :: u280 :: u281 :: u282 :: u283 :: u284 :: u285 :: u286 :: u287 :: u288 :: u289 :: u290 :: u291 :: u292 :: u293 :: u294 :: u295 :: u296 :: u297 :: u298 :: u299 :: u300 :: u301 :: u302 :: u303 :: u304 :: u305 :: u306 :: u307 :: u308 :: u309 :: u310 :: u311 :: u312 :: u313 :: u314 :: u315 :: []), []⟩ w := by
  have HQ := hid hQ
  clear hQ
  obtain rfl : (Tryz.f18.body.bind (blockR 5)).getD .skip = C := by rw [hcode]; rfl
  clear hcode
  conv => arg 2; whnf
  have e0 : w.cell? ⟨be, 0, none⟩ = some (.int .i64 e.code) := HE.out.1.cell 0
  have x0 : w.cell? ⟨bx, 0, none⟩ = some (.int .i64 x.kind) := HX.out.1.cell 0
  by_cases hc : e.code = 0
  · rw [hc] at e0
    by_cases hk2 : x.kind = 2
    · have HT := hid (show tellD x e = b_has ++ 32 :: valL e.v from by unfold tellD; rw [if_neg (by simp [hc]), if_pos hk2])
      rw [hk2] at x0
      have e2 : w.cell? ⟨be, 2, none⟩ = some (.bool e.v.there) := HE.out.1.cell 2
      have e3 : w.cell? ⟨be, 3, none⟩ = some (.string e.v.bytes) := HE.out.1.cell 3
      have hvl := valL_le OK.out.v
      have CV : Hid (Calls Tryz.prog 42 #[.agg #[.bool e.v.there, .string e.v.bytes]] w (StrPost (valL e.v) w)) := hid (ref_ValueText e.v.there e.v.bytes w (by have := size12 OK.out.v; omega))
      clear hk2 hc
      go_wp2_with fail
      refine CV.out.mono ?_
      rintro e1 w1 ⟨rfl, hb1⟩
      have HSY := hid (ref_say g q d c t (b_has ++ 32 :: valL e.v) w1 (K.out.below hb1).desk (by simp only [b_has, List.length_append, List.length_cons, List.length_nil]; omega))
      go_wp2_with fail
      rw [show (⟨#[104, 97, 115, 32]⟩ : ByteArray) ++ ⟨(valL e.v).toArray⟩ = ⟨([104, 97, 115, 32] ++ valL e.v).toArray⟩ from ba_append [104, 97, 115, 32] _]
      refine HSY.out.mono ?_
      rintro e w9 ⟨rfl, hL9, hE9⟩
      have HP := hid (show RDk w0 g0 q d c (t ++ (b_has ++ 32 :: valL e.v ++ [10])) N H g w9 from (K.out.below hb1).said hq hE9 hL9)
      clear hL9 hE9 HSY
      go_wp2
      exact HQ.out _ _ _ (.inl rfl) rfl ⟨g, by rw [HT.out]; exact HP.out⟩
    · by_cases hk5 : x.kind = 5
      · have HT := hid (show tellD x e = b_all ++ pairsD e.l from by unfold tellD; rw [if_neg (by simp [hc]), if_neg hk2, if_pos hk5])
        rw [hk5] at x0
        have e4 : w.cell? ⟨be, 4, none⟩ = some (.slice a e.l.length cap) := HE.out.1.cell 4
        have h8 := OK.out.l8
        have HLL := hid OK.out.l
        have HTB := hid K.out.glob.tab
        clear hk2 hk5 hc OK
        generalize e.l = l at *
        go_wp2
        go_loopw [17, 18] (fun s i wr => ∃ (k : Nat) (r : ByteArray), k ≤ l.length ∧ i = .int .i64 k ∧ s = .string r ∧ Hid (r = ⟨(b_all ++ pairsD (l.take k)).toArray⟩) ∧ r.size ≤ 3 + 59 * k ∧ Hid (Below w.heap.size w wr)) (fun _ i _ => l.length - (intOf i).toNat)
        case atStart => exact ⟨0, ⟨#[97, 108, 108]⟩, Nat.zero_le _, rfl, rfl, hid rfl, by simp [ByteArray.size], hid (Below.refl _ _)⟩
        case round =>
          obtain ⟨k, r, hk, rfl, rfl, HR, hr, HB⟩ := hrel
          have f4 := cell_below e4 HB.out
          by_cases hlt : k < l.length
          · obtain ⟨bk, off, rfl, hf⟩ := HL.out.ents (by omega)
            obtain ⟨p0, p1, p2⟩ := hf k hlt
            have q0 := cell_below p0 HB.out
            have q1 := cell_below p1 HB.out
            have q2 := cell_below p2 HB.out
            obtain ⟨x1, x2, x3⟩ := HLL.out l[k] (List.getElem_mem _)
            have ST := hid (show pairsD (l.take (k + 1)) = pairsD (l.take k) ++ (32 :: (Lib.itoa l[k].n ++ valL l[k].v)) from by rw [List.take_succ_eq_append_getElem hlt, pairsD_snoc])
            clear hf p0 p1 p2
            generalize l[k] = y at *
            have hs12 := size12 x3
            have hv37 := valL_le x3
            have hi21 := itoa_le21 x1 (by omega)
            have hki : (k : Int) < (l.length : Int) := by omega
            have hk0 : (0 : Int) ≤ (k : Int) := by omega
            have j1 : ¬ (9223372036854775807 < 1 + (Lib.itoa y.n).length) := by omega
            have j2 : ¬ (9223372036854775807 < 1 + (Lib.itoa y.n).length + (valL y.v).length) := by omega
            have j3 : ¬ (9223372036854775807 < r.size + (1 + (Lib.itoa y.n).length + (valL y.v).length)) := by omega
            have CV := hid (fun W => (show Calls Tryz.prog 42 #[.agg #[.bool y.v.there, .string y.v.bytes]] W (StrPost (valL y.v) W) from ref_ValueText y.v.there y.v.bytes W (by omega)))
            go_upto_region 67 with (fail)
            have NT := hid (fun W (h : Below wr.heap.size wr W) => tabIs_below (tabIs_below HTB.out HB.out) h)
            have KS := hid (fun W (h : Below wr.heap.size wr W) => (show Below wr.heap.size wr W ∧ W.cell? ⟨be, 4, none⟩ = some (.slice (some ⟨bk, off, none⟩) l.length cap) ∧ W.cell? ⟨bk, off + k * 3, none⟩ = some (.int .i64 y.n) ∧ W.cell? ⟨bk, off + k * 3 + 1, none⟩ = some (.bool y.v.there) ∧ W.cell? ⟨bk, off + k * 3 + 2, none⟩ = some (.string y.v.bytes) from ⟨h, cell_below f4 h, cell_below q0 h, cell_below q1 h, cell_below q2 h⟩))
            -- REGION 67
            refine wp_region_noPanic ?_
            refine wp_region_held_drew (S := (fun W' : World => Below wr.heap.size wr W' ∧ W'.cell? ⟨be, 4, none⟩ = some (.slice (some ⟨bk, off, none⟩) l.length cap) ∧ W'.cell? ⟨bk, off + k * 3, none⟩ = some (.int .i64 y.n) ∧ W'.cell? ⟨bk, off + k * 3 + 1, none⟩ = some (.bool y.v.there) ∧ W'.cell? ⟨bk, off + k * 3 + 2, none⟩ = some (.string y.v.bytes))) (by kernel_rfl) ?_ (fun hH0 => ?_)
            · (try dsimp only); (first | assumption | exact KS.out _ (Below.refl wr.heap.size wr).drew)
            refine tk 0 (h := ?_)
            try simp only [Act.put, List.setIfInBounds_toArray, List.set_cons_zero, List.set_cons_succ]
            refine tk 1 (h := ?_)
            try simp only [Act.put, List.setIfInBounds_toArray, List.set_cons_zero, List.set_cons_succ]
            refine tk 2 (h := ?_)
            try simp only [Act.put, List.setIfInBounds_toArray, List.set_cons_zero, List.set_cons_succ]
            refine tk 3 (h := ?_)
            try simp only [Act.put, List.setIfInBounds_toArray, List.set_cons_zero, List.set_cons_succ]
            refine tk 4 (h := ?_)
            try simp only [Act.put, List.setIfInBounds_toArray, List.set_cons_zero, List.set_cons_succ]
            refine tk 5 (h := ?_)
            try simp only [Act.put, List.setIfInBounds_toArray, List.set_cons_zero, List.set_cons_succ]
            refine tk 6 (h := ?_)
            try simp only [Act.put, List.setIfInBounds_toArray, List.set_cons_zero, List.set_cons_succ]
            refine tk 9 (h := ?_)
            try simp only [Act.put, List.setIfInBounds_toArray, List.set_cons_zero, List.set_cons_succ]
            refine tk 10 (h := ?_)
            try simp only [Act.put, List.setIfInBounds_toArray, List.set_cons_zero, List.set_cons_succ]
            refine tk 11 (h := ?_)
            try simp only [Act.put, List.setIfInBounds_toArray, List.set_cons_zero, List.set_cons_succ]
            refine tk 12 (h := ?_)
            try simp only [Act.put, List.setIfInBounds_toArray, List.set_cons_zero, List.set_cons_succ]
            refine tk 13 (h := ?_)
            try simp only [Act.put, List.setIfInBounds_toArray, List.set_cons_zero, List.set_cons_succ]
            refine tk 14 (h := ?_)
            try simp only [Act.put, List.setIfInBounds_toArray, List.set_cons_zero, List.set_cons_succ]
            refine wpAnyH_ready (rs := [7]) (by kernel_rfl) (by simp) ?_
            refine AllReadyH.cons (by simp only [List.getElem?_toArray, List.getElem?_cons_zero, List.getElem?_cons_succ]; rfl) (fun K hK => ?_) AllReadyH.nil
            go_simp
            go_at_call 38
            have hS := (‹Below _ wr _ ∧ _›).1
            (with_reducible refine (ref_num y.n (by omega) (by omega) _ (NT.out _ hS)).mono ?_)
            rintro e w5 ⟨rfl, hb5⟩
            have hS' := KS.out _ (hS.trans (hb5.mono hS.size))
            clear hb5 hS
            try go_wp2_with fail
            refine hK.out _ _ ?_ (fun hH1 => ?_)
            · (try dsimp only); (first | assumption | exact KS.out _ (Below.refl wr.heap.size wr).drew)
            clear hK K hH0
            try simp only [Act.put, List.setIfInBounds_toArray, List.set_cons_zero, List.set_cons_succ]
            refine tk 8 (h := ?_)
            try simp only [Act.put, List.setIfInBounds_toArray, List.set_cons_zero, List.set_cons_succ]
            refine wpAnyH_ready (rs := [15]) (by kernel_rfl) (by simp) ?_
            refine AllReadyH.cons (by simp only [List.getElem?_toArray, List.getElem?_cons_zero, List.getElem?_cons_succ]; rfl) (fun K hK => ?_) AllReadyH.nil
            go_simp
            go_at_call 42
            have hS := (‹Below _ wr _ ∧ _›).1
            (with_reducible refine (CV.out _).mono ?_)
            rintro e w5 ⟨rfl, hb5⟩
            have hS' := KS.out _ (hS.trans (hb5.mono hS.size))
            clear hb5 hS
            try go_wp2_with fail
            refine hK.out _ _ ?_ (fun hH2 => ?_)
            · (try dsimp only); (first | assumption | exact KS.out _ (Below.refl wr.heap.size wr).drew)
            clear hK K hH1
            try simp only [Act.put, List.setIfInBounds_toArray, List.set_cons_zero, List.set_cons_succ]
            refine tk 16 (h := ?_)
            try simp only [Act.put, List.setIfInBounds_toArray, List.set_cons_zero, List.set_cons_succ]
            refine tk 17 (h := ?_)
            try simp only [Act.put, List.setIfInBounds_toArray, List.set_cons_zero, List.set_cons_succ]
            refine tk 18 (h := ?_)
            try simp only [Act.put, List.setIfInBounds_toArray, List.set_cons_zero, List.set_cons_succ]
            refine wpAnyH_done (by kernel_rfl) ?_ _
            refine NoPanic.normal ?_
            rotate_left
            -- END 67
            all_goals
              have HB5 := hid (HB.out.trans ((‹Below _ wr w5 ∧ _›).1.mono HB.out.size))
              clear NT KS hS'
              go_wp2
              go_roundw
              case rel =>
                refine ⟨k + 1, _, by omega, by go_num, rfl, hid ?_, ?_, HB5⟩
                · rw [HR.out, ST.out]
                  rw [show (⟨#[32]⟩ : ByteArray) ++ ⟨(Lib.itoa y.n).toArray⟩ = ⟨(32 :: Lib.itoa y.n).toArray⟩ from ba_append [32] _, ba_append (32 :: Lib.itoa y.n) _]
                  rw [← List.append_assoc]
                  exact ba_append _ _
                · simp only [ByteArray.size_append]
                  show _ + (1 + (Lib.itoa y.n).toArray.size + (valL y.v).toArray.size) ≤ _
                  simp only [List.size_toArray]
                  omega
              case measure => simp [intOf]; omega
          · obtain rfl : k = l.length := by omega
            have hpl := pairsD_le l HLL.out
            rw [List.take_length] at HR
            obtain rfl := HR.out
            have HSY := hid (ref_say g q d c t (b_all ++ pairsD l) wr (K.out.below HB.out).desk (by simp only [b_all, List.length_append, List.length_cons, List.length_nil]; omega))
            go_wp2_with fail
            refine HSY.out.mono ?_
            rintro e w9 ⟨rfl, hL9, hE9⟩
            have HP := hid (show RDk w0 g0 q d c (t ++ (b_all ++ pairsD l ++ [10])) N H g w9 from (K.out.below HB.out).said hq hE9 hL9)
            clear hL9 hE9 HSY
            go_wp2
            exact HQ.out _ _ _ (.inl rfl) rfl ⟨g, by rw [HT.out]; exact HP.out⟩
      · by_cases hkn : x.kind = 6 ∨ x.kind = 8 ∨ x.kind = 10
        · have HT := hid (show tellD x e = b_ok ++ 32 :: Lib.itoa e.n from by unfold tellD; rw [if_neg (by simp [hc]), if_neg hk2, if_neg hk5, if_pos hkn])
          have e1 : w.cell? ⟨be, 1, none⟩ = some (.int .i64 e.n) := HE.out.1.cell 1
          have hnl := itoa_le21 OK.out.n0 (by have := OK.out.n1; omega)
          have CN := hid (ref_num e.n (by have := OK.out.n0; omega) (by have := OK.out.n1; omega) w K.out.glob.tab)
          clear hk2 hk5 hc
          rcases hkn with h | h | h
          all_goals
            rw [h] at x0
            clear h
            go_wp2_with fail
            refine CN.out.mono ?_
            rintro e1 w1 ⟨rfl, hb1⟩
            have HSY := hid (ref_say g q d c t (b_ok ++ 32 :: Lib.itoa e.n) w1 (K.out.below hb1).desk (by simp only [b_ok, List.length_append, List.length_cons, List.length_nil]; omega))
            go_wp2_with fail
            rw [show (⟨#[111, 107, 32]⟩ : ByteArray) ++ ⟨(Lib.itoa e.n).toArray⟩ = ⟨([111, 107, 32] ++ Lib.itoa e.n).toArray⟩ from ba_append [111, 107, 32] _]
            refine HSY.out.mono ?_
            rintro e w9 ⟨rfl, hL9, hE9⟩
            have HP := hid (show RDk w0 g0 q d c (t ++ (b_ok ++ 32 :: Lib.itoa e.n ++ [10])) N H g w9 from (K.out.below hb1).said hq hE9 hL9)
            clear hL9 hE9 HSY
            go_wp2
            exact HQ.out _ _ _ (.inl rfl) rfl ⟨g, by rw [HT.out]; exact HP.out⟩
        · have HT := hid (show tellD x e = b_ok from by unfold tellD; rw [if_neg (by simp [hc]), if_neg hk2, if_neg hk5, if_neg hkn])
          rw [not_or, not_or] at hkn
          obtain ⟨k6, k8, k10⟩ := hkn
          have k2' : (x.kind == 2) = false := by simpa using hk2
          have k5' : (x.kind == 5) = false := by simpa using hk5
          have k6' : (x.kind == 6) = false := by simpa using k6
          have k8' : (x.kind == 8) = false := by simpa using k8
          have k10' : (x.kind == 10) = false := by simpa using k10
          clear hk2 hk5 k6 k8 k10 hc
          have HSY := hid (ref_say g q d c t (b_ok) w (K.out.below (Below.refl _ _)).desk (by simp only [b_ok, List.length_cons, List.length_nil]; omega))
          go_wp2_with fail
          refine HSY.out.mono ?_
          rintro e w9 ⟨rfl, hL9, hE9⟩
          have HP := hid (show RDk w0 g0 q d c (t ++ (b_ok ++ [10])) N H g w9 from (K.out.below (Below.refl _ _)).said hq hE9 hL9)
          clear hL9 hE9 HSY
          go_wp2
          exact HQ.out _ _ _ (.inl rfl) rfl ⟨g, by rw [HT.out]; exact HP.out⟩
  · have HT := hid (show tellD x e = b_no ++ 32 :: Lib.itoa e.code from by unfold tellD; rw [if_pos hc])
    have hcn : (e.code != 0) = true := by simpa using hc
    have hnl := itoa_le21 OK.out.c0 (by have := OK.out.c1; omega)
    have CN := hid (ref_num e.code (by have := OK.out.c0; omega) (by have := OK.out.c1; omega) w K.out.glob.tab)
    clear hc
    go_wp2_with fail
    refine CN.out.mono ?_
    rintro e1 w1 ⟨rfl, hb1⟩
    have HSY := hid (ref_say g q d c t (b_no ++ 32 :: Lib.itoa e.code) w1 (K.out.below hb1).desk (by simp only [b_no, List.length_append, List.length_cons, List.length_nil]; omega))
    go_wp2_with fail
    rw [show (⟨#[110, 111, 32]⟩ : ByteArray) ++ ⟨(Lib.itoa e.code).toArray⟩ = ⟨([110, 111, 32] ++ Lib.itoa e.code).toArray⟩ from ba_append [110, 111, 32] _]
    refine HSY.out.mono ?_
    rintro e w9 ⟨rfl, hL9, hE9⟩
    have HP := hid (show RDk w0 g0 q d c (t ++ (b_no ++ 32 :: Lib.itoa e.code ++ [10])) N H g w9 from (K.out.below hb1).said hq hE9 hL9)
    clear hL9 hE9 HSY
    go_wp2
    exact HQ.out _ _ _ (.inl rfl) rfl ⟨g, by rw [HT.out]; exact HP.out⟩

end Go.Proofs.YtoiobhcgpajogaaGreatDoor

/- The document's desk: the walk of line: the step. -/
namespace Go.Proofs.YtoiobhcgpajogaaGreatDoor
open Go.RowKit

theorem five_set {w : World} {g : Nat → Nat} {q b : Nat} {T : TypeId} {u0 u1 u2 u3 u4 : Value} (h : LocC w g q b T [u0, u1, u2, u3, u4]) (v0 v1 v2 v3 v4 : Value) : LocC (((((w.setCell ⟨b, 0, none⟩ v0).setCell ⟨b, 1, none⟩ v1).setCell ⟨b, 2, none⟩ v2).setCell ⟨b, 3, none⟩ v3).setCell ⟨b, 4, none⟩ v4) g q b T [v0, v1, v2, v3, v4] :=
  ((((h.set 0 v0).set 1 v1).set 2 v2).set 3 v3).set 4 v4

theorem evo_fiveR (g : Nat → Nat) (w : World) (b q : Nat) (hq : g b = q) (v0 v1 v2 v3 v4 : Value) : Evo q (q + 1) g g w (((((w.setCell ⟨b, 0, none⟩ v0).setCell ⟨b, 1, none⟩ v1).setCell ⟨b, 2, none⟩ v2).setCell ⟨b, 3, none⟩ v3).setCell ⟨b, 4, none⟩ v4) :=
  ((((evo_store v0 hq).trans (evo_store v1 hq)).trans (evo_store v2 hq)).trans (evo_store v3 hq)).trans (evo_store v4 hq)

theorem stepR {w w' : World} {g g' : Nat → Nat} {w0 : World} {g0 : Nat → Nat} {q d c N : Nat} {t : List UInt8} {H H' : Ht} (k : RDk w0 g0 q d c t N H g w) (hq : 1 ≤ q) (e : Evo (q + 1) (q + 1 + 21) g g' w w') (hC : CourtAt w' g' (q + 1) c (N + 8) H') : RDk w0 g0 q d c t (N + 8) H' g' w' :=
  ⟨k.desk.frame e (by omega), hC, k.glob.frame e (by omega), k.evo.trans (e.wide (by omega) (by omega))⟩

/-- A store into a block that the call has made. -/
theorem RDk.five {w : World} {g : Nat → Nat} {w0 : World} {g0 : Nat → Nat} {q d c N b : Nat} {t : List UInt8} {H : Ht} (k : RDk w0 g0 q d c t N H g w) (hg : g b = q + 25) (hb : w0.heap.size ≤ b) (v0 v1 v2 v3 v4 : Value) : RDk w0 g0 q d c t N H g (((((w.setCell ⟨b, 0, none⟩ v0).setCell ⟨b, 1, none⟩ v1).setCell ⟨b, 2, none⟩ v2).setCell ⟨b, 3, none⟩ v3).setCell ⟨b, 4, none⟩ v4) := by
  have e := evo_fiveR g w b (q + 25) hg v0 v1 v2 v3 v4
  exact ⟨k.desk.frame e (by omega), k.court.frame e (by omega), k.glob.frame e (by omega), evo_storeNew (evo_storeNew (evo_storeNew (evo_storeNew (evo_storeNew k.evo hb v0) hb v1) hb v2) hb v3) hb v4⟩

set_option maxHeartbeats 4000000 in
set_option maxRecDepth 100000 in
theorem rline_do (w0 w : World) (g0 g : Nat → Nat) (q d c bx N : Nat) (t : List UInt8) (H : Ht) (x : St) (hq : 1 ≤ q) (hN : N + 8 < 1000000) (hxm : x.bytes.size ≤ maxLen)
    (KR : Hid (RDk w0 g0 q d c t N H g w)) (HX : Hid (LocC w g (q + 24) bx 97 (stL x))) (OK : Hid (EvOk (doH H x).1)) (ht : t.length ≤ 700000000)
    (C : Code) (hcode : Tryz.f18.body.bind (tailR 56) = some C) (Q : Exit → Act → World → Prop) (u1 u2 u3 u4 u5 u6 u7 u8 u9 u10 u11 u12 u13 u14 u16 u17 u18 u19 u20 u21 u22 u23 u24 u25 u26 u27 u28 u29 u30 u31 u32 u33 u34 u35 u36 u37 u38 u39 u40 u41 u42 u43 u44 u45 u46 u47 u48 u49 u50 u51 u52 u53 u54 u55 u56 u57 u58 u59 u60 u61 u62 u63 u64 u65 u66 u67 u68 u69 u70 u71 u72 u73 u74 u75 u76 u77 u78 u79 u80 u81 u82 u83 u84 u85 u86 u87 u88 u89 u90 u91 u92 u93 u94 u95 u96 u97 u98 u99 u100 u101 u102 u103 u104 u105 u106 u107 u108 u109 u110 u111 u112 u113 u114 u115 u116 u117 u118 u119 u120 u121 u122 u123 u124 u125 u126 u127 u128 u129 u130 u131 u132 u133 u134 u135 u136 u137 u138 u139 u140 u141 u142 u143 u144 u145 u146 u147 u148 u149 u150 u151 u152 u153 u154 u155 u156 u157 u158 u159 u160 u161 u162 u163 u164 u165 u166 u167 u168 u169 u170 u171 u172 u173 u174 u175 u176 u177 u178 u179 u180 u181 u182 u183 u184 u185 u186 u187 u188 u189 u190 u191 u192 u193 u194 u195 u196 u197 u198 u199 u200 u201 u202 u203 u204 u205 u206 u207 u208 u209 u210 u211 u212 u213 u214 u215 u216 u217 u218 u219 u220 u221 u222 u223 u224 u225 u226 u227 u228 u229 u230 u231 u232 u233 u234 u235 u236 u237 u238 u239 u240 u241 u242 u243 u244 u245 u246 u247 u248 u249 u250 u251 u252 u253 u254 u255 u256 u257 u258 u259 u260 u261 u262 u263 u264 u265 u266 u267 u268 u269 u270 u271 u272 u273 u274 u275 u276 u277 u278 u279 u280 u281 u282 u283 u284 u285 u286 u287 u288 u289 u290 u291 u292 u293 u294 u295 u296 u297 u298 u299 u300 u301 u302 u303 u304 u305 u306 u307 u308 u309 u310 u311 u312 u313 u314 u315 : Value)
    (hQ : ∀ (e' : Exit) (a' : Act) (w' : World), (e' = .normal ∨ e' = .ret) → a'.defers = [] → (∃ g', RDk w0 g0 q d c (t ++ (tellD x (doH H x).1 ++ [10])) (N + 8) (doH H x).2 g' w') → Q e' a' w') :
    Code.wp Tryz.prog C Q ⟨List.toArray (.pointer (some ⟨d, 0, none⟩) :: u1 :: u2 :: u3 :: u4 :: u5 :: u6 :: u7 :: u8 :: u9 :: u10 :: u11 :: u12 :: u13 :: u14 :: .pointer (some ⟨bx, 0, none⟩) :: u16 :: u17 :: u18 :: u19 :: u20 :: u21 :: u22 :: u23 :: u24 :: u25 :: u26 :: u27 :: u28 :: u29 :: u30 :: u31 :: u32 :: u33 :: u34 :: u35 :: u36 :: u37 :: u38 :: u39 :: u40 :: u41 :: u42 :: u43 :: u44 :: u45 :: u46 :: u47 :: u48 :: u49 :: u50 :: u51 :: u52 :: u53 :: u54 :: u55 :: u56 :: u57 :: u58 :: u59 :: u60 :: u61 :: u62 :: u63 :: u64 :: u65 :: u66 :: u67 :: u68 :: u69 :: u70 :: u71 :: u72 :: u73 :: u74 :: u75 :: u76 :: u77 :: u78 :: u79 :: u80 :: u81 :: u82 :: u83 :: u84 :: u85 :: u86 :: u87 :: u88 :: u89 :: u90 :: u91 :: u92 :: u93 :: u94 :: u95 :: u96 :: u97 :: u98 :: u99 :: u100 :: u101 :: u102 :: u103 :: u104 :: u105 :: u106 :: u107 :: u108 :: u109 :: u110 :: u111 :: u112 :: u113 :: u114 :: u115 :: u116 :: u117 :: u118 :: u119 :: u120 :: u121 :: u122 :: u123 :: u124 :: u125 :: u126 :: u127 :: u128 :: u129 :: u130 :: u131 :: u132 :: u133 :: u134 :: u135 :: u136 :: u137 :: u138 :: u139 :: u140 :: u141 :: u142 :: u143 :: u144 :: u145 :: u146 :: u147 :: u148 :: u149 :: u150 :: u151 :: u152 :: u153 :: u154 :: u155 :: u156 :: u157 :: u158 :: u159 :: u160 :: u161 :: u162 :: u163 :: u164 :: u165 :: u166 :: u167 :: u168 :: u169 :: u170 :: u171 :: u172 :: u173 :: u174 :: u175 :: u176 :: u177 :: u178 :: u179 :: u180 :: u181 :: u182 :: u183 :: u184 :: u185 :: u186 :: u187 :: u188 :: u189 :: u190 :: u191 :: u192 :: u193 :: u194 :: u195 :: u196 :: u197 :: u198 :: u199 :: u200 :: u201 :: u202 :: u203 :: u204 :: u205 :: u206 :: u207 :: u208 :: u209 :: u210 :: u211 :: u212 :: u213 :: u214 :: u215 :: u216 :: u217 :: u218 :: u219 :: u220 :: u221 :: u222 :: u223 :: u224 :: u225 :: u226 :: u227 :: u228 :: u229 :: u230 :: u231 :: u232 :: u233 :: u234 :: u235 :: u236 :: u237 :: u238 :: u239 :: u240 :: u241 :: u242 :: u243 :: u244 :: u245 :: u246 :: u247 :: u248 :: u249 :: u250 :: u251 :: u252 :: u253 :: u254 :: u255 :: u256 :: u257 :: u258 :: u259 :: u260 :: u261 :: u262 :: u263 :: u264 :: u265 :: u266 :: u267 :: u268 :: u269 :: u270 :: u271 :: u272 :: u273 :: u274 :: u275 :: u276 :: u277 :: u278 :: u279 :: u280 :: u281 :: u282 :: u283 :: u284 :: u285 :: u286 :: u287 :: u288 :: u289 :: u290 :: u291 :: u292 :: u293 :: u294 :: u295 :: u296 :: u297 :: u298 :: u299 :: u300 :: u301 :: u302 :: u303 :: u304 :: u305 :: u306 :: u307 :: u308 :: u309 :: u310 :: u311 :: u312 :: u313 :: u314 :: u315 :: []), []⟩ w := by
  have HQ := hid hQ
  clear hQ
  obtain rfl : (Tryz.f18.body.bind (tailR 56)).getD .skip = C := by rw [hcode]; rfl
  clear hcode
  conv => arg 2; whnf
  have Kd := hid (KR.out.below (Below.refl w.heap.size w).drew)
  have Xd := hid (HX.out.below (Below.refl w.heap.size w).drew)
  have CDO := hid (fun gg W (h : CourtAt W gg (q + 1) c N H) => court_Do2 gg (q + 1) c N H x W hN hxm h)
  generalize doH H x = y at *
  obtain ⟨⟨yc, yn, yv, yl⟩, yH⟩ := y
  simp only at OK HQ
  have hS0 : w.drew.cell? ⟨d, 1, none⟩ = some (.pointer (some ⟨c, 0, none⟩)) ∧ w.drew.cell? ⟨bx, 0, none⟩ = some (.int .i64 x.kind) ∧ w.drew.cell? ⟨bx, 1, none⟩ = some (.int .i64 x.s) ∧ w.drew.cell? ⟨bx, 2, none⟩ = some (.int .i64 x.mode) ∧ w.drew.cell? ⟨bx, 3, none⟩ = some (.int .i64 x.at_) ∧ w.drew.cell? ⟨bx, 4, none⟩ = some (.int .i64 x.key) ∧ w.drew.cell? ⟨bx, 5, none⟩ = some (.int .i64 x.to_) ∧ w.drew.cell? ⟨bx, 6, none⟩ = some (.int .i64 x.keep) ∧ w.drew.cell? ⟨bx, 7, none⟩ = some (.string x.bytes) := ⟨Kd.out.desk.1.cell 1, Xd.out.1.cell 0, Xd.out.1.cell 1, Xd.out.1.cell 2, Xd.out.1.cell 3, Xd.out.1.cell 4, Xd.out.1.cell 5, Xd.out.1.cell 6, Xd.out.1.cell 7⟩
  go_upto_region 56 with (fail)
  rename_i KQ hKQ
  have HKQ := hid hKQ
  clear hKQ
  -- REGION 56
  refine wp_region_noPanic ?_
  refine wp_region_held_drew (S := (fun W : World => W.cell? ⟨d, 1, none⟩ = some (.pointer (some ⟨c, 0, none⟩)) ∧ W.cell? ⟨bx, 0, none⟩ = some (.int .i64 x.kind) ∧ W.cell? ⟨bx, 1, none⟩ = some (.int .i64 x.s) ∧ W.cell? ⟨bx, 2, none⟩ = some (.int .i64 x.mode) ∧ W.cell? ⟨bx, 3, none⟩ = some (.int .i64 x.at_) ∧ W.cell? ⟨bx, 4, none⟩ = some (.int .i64 x.key) ∧ W.cell? ⟨bx, 5, none⟩ = some (.int .i64 x.to_) ∧ W.cell? ⟨bx, 6, none⟩ = some (.int .i64 x.keep) ∧ W.cell? ⟨bx, 7, none⟩ = some (.string x.bytes))) (by kernel_rfl) ?_ (fun hH0 => ?_)
  · (try dsimp only); (first | assumption)
  refine tk 0 (h := ?_)
  try simp only [Act.put, List.setIfInBounds_toArray, List.set_cons_zero, List.set_cons_succ]
  refine tk 1 (h := ?_)
  try simp only [Act.put, List.setIfInBounds_toArray, List.set_cons_zero, List.set_cons_succ]
  refine tk 2 (h := ?_)
  try simp only [Act.put, List.setIfInBounds_toArray, List.set_cons_zero, List.set_cons_succ]
  refine tk 3 (h := ?_)
  try simp only [Act.put, List.setIfInBounds_toArray, List.set_cons_zero, List.set_cons_succ]
  refine tk 4 (h := ?_)
  try simp only [Act.put, List.setIfInBounds_toArray, List.set_cons_zero, List.set_cons_succ]
  refine wpAnyH_ready (rs := [5, 6]) (by kernel_rfl) (by simp) ?_
  refine AllReadyH.cons (by simp only [List.getElem?_toArray, List.getElem?_cons_zero, List.getElem?_cons_succ]; rfl) (fun K hK => ?_) ?_
  · skip
    go_simp
    go_at_call 41
    first
      | ((with_reducible refine (CDO.out g w.drew Kd.out.court).mono ?_)
         rintro e w5 ⟨a5, c5, g5, rfl, hC5, hE5, hs5, hn5, hq5⟩
         have K5 := hid (stepR Kd.out hq hE5 hC5)
         have X5 := hid (Xd.out.frame hE5 (by omega))
         have L5 := hid (show SliceAt w5 a5 (encEnts yl) ∧ ∀ ad, a5 = some ad → g5 ad.block = q + 1 + 22 ∧ ad.block < w5.heap.size from ⟨hs5, hq5⟩)
         have B5 := hid (show w0.heap.size ≤ w5.heap.size from K5.out.evo.size)
         have hS5 : w5.cell? ⟨d, 1, none⟩ = some (.pointer (some ⟨c, 0, none⟩)) ∧ w5.cell? ⟨bx, 0, none⟩ = some (.int .i64 x.kind) ∧ w5.cell? ⟨bx, 1, none⟩ = some (.int .i64 x.s) ∧ w5.cell? ⟨bx, 2, none⟩ = some (.int .i64 x.mode) ∧ w5.cell? ⟨bx, 3, none⟩ = some (.int .i64 x.at_) ∧ w5.cell? ⟨bx, 4, none⟩ = some (.int .i64 x.key) ∧ w5.cell? ⟨bx, 5, none⟩ = some (.int .i64 x.to_) ∧ w5.cell? ⟨bx, 6, none⟩ = some (.int .i64 x.keep) ∧ w5.cell? ⟨bx, 7, none⟩ = some (.string x.bytes) := ⟨K5.out.desk.1.cell 1, X5.out.1.cell 0, X5.out.1.cell 1, X5.out.1.cell 2, X5.out.1.cell 3, X5.out.1.cell 4, X5.out.1.cell 5, X5.out.1.cell 6, X5.out.1.cell 7⟩
         clear hC5 hE5 hs5 hn5 hq5 hS0)
      | ((with_reducible refine (CDO.out gB wB KB.out.court).mono ?_)
         rintro e wF ⟨a5, c5, gF, rfl, hC5, hE5, hs5, hn5, hq5⟩
         have KF := hid (stepR KB.out hq hE5 hC5)
         have XF := hid (XB.out.frame hE5 (by omega))
         have EF := hid (EB.out.frame hE5 (by omega))
         have LF := hid (show SliceAt wF a5 (encEnts yl) ∧ ∀ ad, a5 = some ad → gF ad.block = q + 1 + 22 ∧ ad.block < wF.heap.size from ⟨hs5, hq5⟩)
         have hSF : wF.cell? ⟨d, 1, none⟩ = some (.pointer (some ⟨c, 0, none⟩)) ∧ wF.cell? ⟨bx, 0, none⟩ = some (.int .i64 x.kind) ∧ wF.cell? ⟨bx, 1, none⟩ = some (.int .i64 x.s) ∧ wF.cell? ⟨bx, 2, none⟩ = some (.int .i64 x.mode) ∧ wF.cell? ⟨bx, 3, none⟩ = some (.int .i64 x.at_) ∧ wF.cell? ⟨bx, 4, none⟩ = some (.int .i64 x.key) ∧ wF.cell? ⟨bx, 5, none⟩ = some (.int .i64 x.to_) ∧ wF.cell? ⟨bx, 6, none⟩ = some (.int .i64 x.keep) ∧ wF.cell? ⟨bx, 7, none⟩ = some (.string x.bytes) := ⟨KF.out.desk.1.cell 1, XF.out.1.cell 0, XF.out.1.cell 1, XF.out.1.cell 2, XF.out.1.cell 3, XF.out.1.cell 4, XF.out.1.cell 5, XF.out.1.cell 6, XF.out.1.cell 7⟩
         have u0 := EF.out.1.cell 0; have u1 := EF.out.1.cell 1; have u2 := EF.out.1.cell 2; have u3 := EF.out.1.cell 3; have u4 := EF.out.1.cell 4
         have f0 := EF.out.1.free 0; have f1 := EF.out.1.free 1; have f2 := EF.out.1.free 2; have f3 := EF.out.1.free 3; have f4 := EF.out.1.free 4
         clear hC5 hE5 hs5 hn5 hq5)
    try go_wp2_with fail
    refine hK.out _ _ ?_ (fun hH1 => ?_)
    · (try dsimp only); (first | assumption)
    clear hK K hH0
    try simp only [Act.put, List.setIfInBounds_toArray, List.set_cons_zero, List.set_cons_succ]
    refine wpAnyH_ready (rs := [6]) (by kernel_rfl) (by simp) ?_
    refine AllReadyH.cons (by simp only [List.getElem?_toArray, List.getElem?_cons_zero, List.getElem?_cons_succ]; rfl) (fun K hK => ?_) AllReadyH.nil
    go_simp
    first
      | (have hA6 := Evo.alloc g5 (q + 25) w5 (.cells #[.int .i64 0, .int .i64 0, .bool false, .string ⟨#[]⟩, .slice none 0 0] 102)
         have KF := hid (K5.out.fresh hA6)
         have XF := hid (X5.out.frame hA6 (by omega))
         have EF : Hid (LocC (w5.alloc (.cells #[.int .i64 0, .int .i64 0, .bool false, .string ⟨#[]⟩, .slice none 0 0] 102)) (extc g5 w5 (q + 25)) (q + 25) w5.heap.size 102 [.int .i64 0, .int .i64 0, .bool false, .string ⟨#[]⟩, .slice none 0 0]) := hid (LocC.new g5 (q + 25) w5 102 [.int .i64 0, .int .i64 0, .bool false, .string ⟨#[]⟩, .slice none 0 0])
         have LF := hid (show SliceAt (w5.alloc (.cells #[.int .i64 0, .int .i64 0, .bool false, .string ⟨#[]⟩, .slice none 0 0] 102)) a5 (encEnts yl) ∧ ∀ ad, a5 = some ad → extc g5 w5 (q + 25) ad.block = q + 1 + 22 ∧ ad.block < (w5.alloc (.cells #[.int .i64 0, .int .i64 0, .bool false, .string ⟨#[]⟩, .slice none 0 0] 102)).heap.size from ⟨sliceAt_below L5.out.1 (hA6.below (by omega)), fun ad h => ⟨(hA6.col _ (L5.out.2 ad h).2).trans (L5.out.2 ad h).1, Nat.lt_of_lt_of_le (L5.out.2 ad h).2 hA6.size⟩⟩)
         have BF := hid (show w0.heap.size ≤ w5.heap.size from B5.out)
         have hSF : (w5.alloc (.cells #[.int .i64 0, .int .i64 0, .bool false, .string ⟨#[]⟩, .slice none 0 0] 102)).cell? ⟨d, 1, none⟩ = some (.pointer (some ⟨c, 0, none⟩)) ∧ (w5.alloc (.cells #[.int .i64 0, .int .i64 0, .bool false, .string ⟨#[]⟩, .slice none 0 0] 102)).cell? ⟨bx, 0, none⟩ = some (.int .i64 x.kind) ∧ (w5.alloc (.cells #[.int .i64 0, .int .i64 0, .bool false, .string ⟨#[]⟩, .slice none 0 0] 102)).cell? ⟨bx, 1, none⟩ = some (.int .i64 x.s) ∧ (w5.alloc (.cells #[.int .i64 0, .int .i64 0, .bool false, .string ⟨#[]⟩, .slice none 0 0] 102)).cell? ⟨bx, 2, none⟩ = some (.int .i64 x.mode) ∧ (w5.alloc (.cells #[.int .i64 0, .int .i64 0, .bool false, .string ⟨#[]⟩, .slice none 0 0] 102)).cell? ⟨bx, 3, none⟩ = some (.int .i64 x.at_) ∧ (w5.alloc (.cells #[.int .i64 0, .int .i64 0, .bool false, .string ⟨#[]⟩, .slice none 0 0] 102)).cell? ⟨bx, 4, none⟩ = some (.int .i64 x.key) ∧ (w5.alloc (.cells #[.int .i64 0, .int .i64 0, .bool false, .string ⟨#[]⟩, .slice none 0 0] 102)).cell? ⟨bx, 5, none⟩ = some (.int .i64 x.to_) ∧ (w5.alloc (.cells #[.int .i64 0, .int .i64 0, .bool false, .string ⟨#[]⟩, .slice none 0 0] 102)).cell? ⟨bx, 6, none⟩ = some (.int .i64 x.keep) ∧ (w5.alloc (.cells #[.int .i64 0, .int .i64 0, .bool false, .string ⟨#[]⟩, .slice none 0 0] 102)).cell? ⟨bx, 7, none⟩ = some (.string x.bytes) := ⟨KF.out.desk.1.cell 1, XF.out.1.cell 0, XF.out.1.cell 1, XF.out.1.cell 2, XF.out.1.cell 3, XF.out.1.cell 4, XF.out.1.cell 5, XF.out.1.cell 6, XF.out.1.cell 7⟩
         clear hA6 hS5
         generalize w5.alloc (.cells #[.int .i64 0, .int .i64 0, .bool false, .string ⟨#[]⟩, .slice none 0 0] 102) = wF at *
         generalize extc g5 w5 (q + 25) = gF at *
         generalize w5.heap.size = be at *
         have u0 := EF.out.1.cell 0; have u1 := EF.out.1.cell 1; have u2 := EF.out.1.cell 2; have u3 := EF.out.1.cell 3; have u4 := EF.out.1.cell 4
         have f0 := EF.out.1.free 0; have f1 := EF.out.1.free 1; have f2 := EF.out.1.free 2; have f3 := EF.out.1.free 3; have f4 := EF.out.1.free 4)
      | (have hA6 := Evo.alloc g (q + 25) w (.cells #[.int .i64 0, .int .i64 0, .bool false, .string ⟨#[]⟩, .slice none 0 0] 102)
         have hdr := (Below.refl (w.alloc (.cells #[.int .i64 0, .int .i64 0, .bool false, .string ⟨#[]⟩, .slice none 0 0] 102)).heap.size (w.alloc (.cells #[.int .i64 0, .int .i64 0, .bool false, .string ⟨#[]⟩, .slice none 0 0] 102))).drew
         have KB := hid ((KR.out.fresh hA6).below hdr)
         have XB := hid ((HX.out.frame hA6 (by omega)).below hdr)
         have EB : Hid (LocC (w.alloc (.cells #[.int .i64 0, .int .i64 0, .bool false, .string ⟨#[]⟩, .slice none 0 0] 102)).drew (extc g w (q + 25)) (q + 25) w.heap.size 102 [.int .i64 0, .int .i64 0, .bool false, .string ⟨#[]⟩, .slice none 0 0]) := hid ((LocC.new g (q + 25) w 102 [.int .i64 0, .int .i64 0, .bool false, .string ⟨#[]⟩, .slice none 0 0]).below hdr)
         have BF := hid (show w0.heap.size ≤ w.heap.size from KR.out.evo.size)
         have hSB : (w.alloc (.cells #[.int .i64 0, .int .i64 0, .bool false, .string ⟨#[]⟩, .slice none 0 0] 102)).drew.cell? ⟨d, 1, none⟩ = some (.pointer (some ⟨c, 0, none⟩)) ∧ (w.alloc (.cells #[.int .i64 0, .int .i64 0, .bool false, .string ⟨#[]⟩, .slice none 0 0] 102)).drew.cell? ⟨bx, 0, none⟩ = some (.int .i64 x.kind) ∧ (w.alloc (.cells #[.int .i64 0, .int .i64 0, .bool false, .string ⟨#[]⟩, .slice none 0 0] 102)).drew.cell? ⟨bx, 1, none⟩ = some (.int .i64 x.s) ∧ (w.alloc (.cells #[.int .i64 0, .int .i64 0, .bool false, .string ⟨#[]⟩, .slice none 0 0] 102)).drew.cell? ⟨bx, 2, none⟩ = some (.int .i64 x.mode) ∧ (w.alloc (.cells #[.int .i64 0, .int .i64 0, .bool false, .string ⟨#[]⟩, .slice none 0 0] 102)).drew.cell? ⟨bx, 3, none⟩ = some (.int .i64 x.at_) ∧ (w.alloc (.cells #[.int .i64 0, .int .i64 0, .bool false, .string ⟨#[]⟩, .slice none 0 0] 102)).drew.cell? ⟨bx, 4, none⟩ = some (.int .i64 x.key) ∧ (w.alloc (.cells #[.int .i64 0, .int .i64 0, .bool false, .string ⟨#[]⟩, .slice none 0 0] 102)).drew.cell? ⟨bx, 5, none⟩ = some (.int .i64 x.to_) ∧ (w.alloc (.cells #[.int .i64 0, .int .i64 0, .bool false, .string ⟨#[]⟩, .slice none 0 0] 102)).drew.cell? ⟨bx, 6, none⟩ = some (.int .i64 x.keep) ∧ (w.alloc (.cells #[.int .i64 0, .int .i64 0, .bool false, .string ⟨#[]⟩, .slice none 0 0] 102)).drew.cell? ⟨bx, 7, none⟩ = some (.string x.bytes) := ⟨KB.out.desk.1.cell 1, XB.out.1.cell 0, XB.out.1.cell 1, XB.out.1.cell 2, XB.out.1.cell 3, XB.out.1.cell 4, XB.out.1.cell 5, XB.out.1.cell 6, XB.out.1.cell 7⟩
         clear hA6 hdr hS0
         generalize (w.alloc (.cells #[.int .i64 0, .int .i64 0, .bool false, .string ⟨#[]⟩, .slice none 0 0] 102)).drew = wB at *
         generalize extc g w (q + 25) = gB at *
         generalize w.heap.size = be at *)
    try go_wp2_with fail
    refine hK.out _ _ ?_ (fun hH2 => ?_)
    · (try dsimp only); (first | assumption)
    clear hK K hH1
    try simp only [Act.put, List.setIfInBounds_toArray, List.set_cons_zero, List.set_cons_succ]
    refine wpAnyH_ready (rs := [7]) (by kernel_rfl) (by simp) ?_
    refine AllReadyH.cons (by simp only [List.getElem?_toArray, List.getElem?_cons_zero, List.getElem?_cons_succ]; rfl) (fun K hK => ?_) AllReadyH.nil
    go_simp
    have EZ := hid (five_set EF.out (.int .i64 yc) (.int .i64 yn) (.bool yv.there) (.string yv.bytes) (.slice a5 yl.length c5))
    have hEv := evo_fiveR gF wF be (q + 25) EF.out.2 (.int .i64 yc) (.int .i64 yn) (.bool yv.there) (.string yv.bytes) (.slice a5 yl.length c5)
    have KZ := hid (KF.out.five EF.out.2 BF.out (.int .i64 yc) (.int .i64 yn) (.bool yv.there) (.string yv.bytes) (.slice a5 yl.length c5))
    have XZ := hid (XF.out.frame hEv (by omega))
    have LZ := hid (SliceAt.lift LF.out.1 (fun ad h => hEv.same ad.block (LF.out.2 ad h).2 (fun hh => by have h1 := (LF.out.2 ad h).1; have h2 := hh.1; have h3 := hh.2; omega)))
    have hSZ : (((((wF.setCell ⟨be, 0, none⟩ (.int .i64 yc)).setCell ⟨be, 1, none⟩ (.int .i64 yn)).setCell ⟨be, 2, none⟩ (.bool yv.there)).setCell ⟨be, 3, none⟩ (.string yv.bytes)).setCell ⟨be, 4, none⟩ (.slice a5 yl.length c5)).cell? ⟨d, 1, none⟩ = some (.pointer (some ⟨c, 0, none⟩)) ∧ (((((wF.setCell ⟨be, 0, none⟩ (.int .i64 yc)).setCell ⟨be, 1, none⟩ (.int .i64 yn)).setCell ⟨be, 2, none⟩ (.bool yv.there)).setCell ⟨be, 3, none⟩ (.string yv.bytes)).setCell ⟨be, 4, none⟩ (.slice a5 yl.length c5)).cell? ⟨bx, 0, none⟩ = some (.int .i64 x.kind) ∧ (((((wF.setCell ⟨be, 0, none⟩ (.int .i64 yc)).setCell ⟨be, 1, none⟩ (.int .i64 yn)).setCell ⟨be, 2, none⟩ (.bool yv.there)).setCell ⟨be, 3, none⟩ (.string yv.bytes)).setCell ⟨be, 4, none⟩ (.slice a5 yl.length c5)).cell? ⟨bx, 1, none⟩ = some (.int .i64 x.s) ∧ (((((wF.setCell ⟨be, 0, none⟩ (.int .i64 yc)).setCell ⟨be, 1, none⟩ (.int .i64 yn)).setCell ⟨be, 2, none⟩ (.bool yv.there)).setCell ⟨be, 3, none⟩ (.string yv.bytes)).setCell ⟨be, 4, none⟩ (.slice a5 yl.length c5)).cell? ⟨bx, 2, none⟩ = some (.int .i64 x.mode) ∧ (((((wF.setCell ⟨be, 0, none⟩ (.int .i64 yc)).setCell ⟨be, 1, none⟩ (.int .i64 yn)).setCell ⟨be, 2, none⟩ (.bool yv.there)).setCell ⟨be, 3, none⟩ (.string yv.bytes)).setCell ⟨be, 4, none⟩ (.slice a5 yl.length c5)).cell? ⟨bx, 3, none⟩ = some (.int .i64 x.at_) ∧ (((((wF.setCell ⟨be, 0, none⟩ (.int .i64 yc)).setCell ⟨be, 1, none⟩ (.int .i64 yn)).setCell ⟨be, 2, none⟩ (.bool yv.there)).setCell ⟨be, 3, none⟩ (.string yv.bytes)).setCell ⟨be, 4, none⟩ (.slice a5 yl.length c5)).cell? ⟨bx, 4, none⟩ = some (.int .i64 x.key) ∧ (((((wF.setCell ⟨be, 0, none⟩ (.int .i64 yc)).setCell ⟨be, 1, none⟩ (.int .i64 yn)).setCell ⟨be, 2, none⟩ (.bool yv.there)).setCell ⟨be, 3, none⟩ (.string yv.bytes)).setCell ⟨be, 4, none⟩ (.slice a5 yl.length c5)).cell? ⟨bx, 5, none⟩ = some (.int .i64 x.to_) ∧ (((((wF.setCell ⟨be, 0, none⟩ (.int .i64 yc)).setCell ⟨be, 1, none⟩ (.int .i64 yn)).setCell ⟨be, 2, none⟩ (.bool yv.there)).setCell ⟨be, 3, none⟩ (.string yv.bytes)).setCell ⟨be, 4, none⟩ (.slice a5 yl.length c5)).cell? ⟨bx, 6, none⟩ = some (.int .i64 x.keep) ∧ (((((wF.setCell ⟨be, 0, none⟩ (.int .i64 yc)).setCell ⟨be, 1, none⟩ (.int .i64 yn)).setCell ⟨be, 2, none⟩ (.bool yv.there)).setCell ⟨be, 3, none⟩ (.string yv.bytes)).setCell ⟨be, 4, none⟩ (.slice a5 yl.length c5)).cell? ⟨bx, 7, none⟩ = some (.string x.bytes) := ⟨KZ.out.desk.1.cell 1, XZ.out.1.cell 0, XZ.out.1.cell 1, XZ.out.1.cell 2, XZ.out.1.cell 3, XZ.out.1.cell 4, XZ.out.1.cell 5, XZ.out.1.cell 6, XZ.out.1.cell 7⟩
    clear hEv
    generalize ((((wF.setCell ⟨be, 0, none⟩ (.int .i64 yc)).setCell ⟨be, 1, none⟩ (.int .i64 yn)).setCell ⟨be, 2, none⟩ (.bool yv.there)).setCell ⟨be, 3, none⟩ (.string yv.bytes)).setCell ⟨be, 4, none⟩ (.slice a5 yl.length c5) = wZ at *
    clear u0 u1 u2 u3 u4 f0 f1 f2 f3 f4 hSF
    try go_wp2_with fail
    refine hK.out _ _ ?_ (fun hH3 => ?_)
    · (try dsimp only); (first | assumption)
    clear hK K hH2
    try simp only [Act.put, List.setIfInBounds_toArray, List.set_cons_zero, List.set_cons_succ]
    refine wpAnyH_done (by kernel_rfl) ?_ _
    refine NoPanic.normal ?_
    simp only [Exit.then]
    refine HKQ.out _ _ ?_
    exact rline_tell w0 wZ g0 gF q d c bx be (N + 8) t yH x ⟨yc, yn, yv, yl⟩ a5 c5 hq KZ XZ EZ LZ OK ht _ (by kernel_rfl) _ _ _ _ _ _ _ _ _ _ _ _ _ _ _ _ _ _ _ _ _ _ _ _ _ _ _ _ _ _ _ _ _ _ _ _ _ _ _ _ _ _ _ _ _ _ _ _ _ _ _ _ _ _ _ _ _ _ _ _ _ _ _ _ _ _ _ _ _ _ _ _ _ _ _ _ _ _ _ _ _ _ _ _ _ _ _ _ _ _ _ _ _ _ _ _ _ _ _ _ _ _ _ _ _ _ _ _ _ _ _ _ _ _ _ _ _ _ _ _ _ _ _ _ _ _ _ _ _ _ _ _ _ _ _ _ _ _ _ _ _ _ _ _ _ _ _ _ _ _ _ _ _ _ _ _ _ _ _ _ _ _ _ _ _ _ _ _ _ _ _ _ _ _ _ _ _ _ _ _ _ _ _ _ _ _ _ _ _ _ _ _ _ _ _ _ _ _ _ _ _ _ _ _ _ _ _ _ _ _ _ _ _ _ _ _ _ _ _ _ _ _ _ _ _ _ _ _ _ _ _ _ _ _ _ _ _ _ _ _ _ _ _ _ _ _ _ _ _ _ _ _ _ _ _ _ _ _ _ _ _ _ _ _ _ _ _ _ _ _ _ _ _ _ _ _ _ _ _ _ _ _ _ _ _ _ _ _ _ _ _ _ _ _ _ _ _ _ _ _ _ _ _ _ _ _ _ _ _ _ _ _ _ _ HQ.out
  refine AllReadyH.cons (by simp only [List.getElem?_toArray, List.getElem?_cons_zero, List.getElem?_cons_succ]; rfl) (fun K hK => ?_) AllReadyH.nil
  go_simp
  first
    | (have hA6 := Evo.alloc g5 (q + 25) w5 (.cells #[.int .i64 0, .int .i64 0, .bool false, .string ⟨#[]⟩, .slice none 0 0] 102)
       have KF := hid (K5.out.fresh hA6)
       have XF := hid (X5.out.frame hA6 (by omega))
       have EF : Hid (LocC (w5.alloc (.cells #[.int .i64 0, .int .i64 0, .bool false, .string ⟨#[]⟩, .slice none 0 0] 102)) (extc g5 w5 (q + 25)) (q + 25) w5.heap.size 102 [.int .i64 0, .int .i64 0, .bool false, .string ⟨#[]⟩, .slice none 0 0]) := hid (LocC.new g5 (q + 25) w5 102 [.int .i64 0, .int .i64 0, .bool false, .string ⟨#[]⟩, .slice none 0 0])
       have LF := hid (show SliceAt (w5.alloc (.cells #[.int .i64 0, .int .i64 0, .bool false, .string ⟨#[]⟩, .slice none 0 0] 102)) a5 (encEnts yl) ∧ ∀ ad, a5 = some ad → extc g5 w5 (q + 25) ad.block = q + 1 + 22 ∧ ad.block < (w5.alloc (.cells #[.int .i64 0, .int .i64 0, .bool false, .string ⟨#[]⟩, .slice none 0 0] 102)).heap.size from ⟨sliceAt_below L5.out.1 (hA6.below (by omega)), fun ad h => ⟨(hA6.col _ (L5.out.2 ad h).2).trans (L5.out.2 ad h).1, Nat.lt_of_lt_of_le (L5.out.2 ad h).2 hA6.size⟩⟩)
       have BF := hid (show w0.heap.size ≤ w5.heap.size from B5.out)
       have hSF : (w5.alloc (.cells #[.int .i64 0, .int .i64 0, .bool false, .string ⟨#[]⟩, .slice none 0 0] 102)).cell? ⟨d, 1, none⟩ = some (.pointer (some ⟨c, 0, none⟩)) ∧ (w5.alloc (.cells #[.int .i64 0, .int .i64 0, .bool false, .string ⟨#[]⟩, .slice none 0 0] 102)).cell? ⟨bx, 0, none⟩ = some (.int .i64 x.kind) ∧ (w5.alloc (.cells #[.int .i64 0, .int .i64 0, .bool false, .string ⟨#[]⟩, .slice none 0 0] 102)).cell? ⟨bx, 1, none⟩ = some (.int .i64 x.s) ∧ (w5.alloc (.cells #[.int .i64 0, .int .i64 0, .bool false, .string ⟨#[]⟩, .slice none 0 0] 102)).cell? ⟨bx, 2, none⟩ = some (.int .i64 x.mode) ∧ (w5.alloc (.cells #[.int .i64 0, .int .i64 0, .bool false, .string ⟨#[]⟩, .slice none 0 0] 102)).cell? ⟨bx, 3, none⟩ = some (.int .i64 x.at_) ∧ (w5.alloc (.cells #[.int .i64 0, .int .i64 0, .bool false, .string ⟨#[]⟩, .slice none 0 0] 102)).cell? ⟨bx, 4, none⟩ = some (.int .i64 x.key) ∧ (w5.alloc (.cells #[.int .i64 0, .int .i64 0, .bool false, .string ⟨#[]⟩, .slice none 0 0] 102)).cell? ⟨bx, 5, none⟩ = some (.int .i64 x.to_) ∧ (w5.alloc (.cells #[.int .i64 0, .int .i64 0, .bool false, .string ⟨#[]⟩, .slice none 0 0] 102)).cell? ⟨bx, 6, none⟩ = some (.int .i64 x.keep) ∧ (w5.alloc (.cells #[.int .i64 0, .int .i64 0, .bool false, .string ⟨#[]⟩, .slice none 0 0] 102)).cell? ⟨bx, 7, none⟩ = some (.string x.bytes) := ⟨KF.out.desk.1.cell 1, XF.out.1.cell 0, XF.out.1.cell 1, XF.out.1.cell 2, XF.out.1.cell 3, XF.out.1.cell 4, XF.out.1.cell 5, XF.out.1.cell 6, XF.out.1.cell 7⟩
       clear hA6 hS5
       generalize w5.alloc (.cells #[.int .i64 0, .int .i64 0, .bool false, .string ⟨#[]⟩, .slice none 0 0] 102) = wF at *
       generalize extc g5 w5 (q + 25) = gF at *
       generalize w5.heap.size = be at *
       have u0 := EF.out.1.cell 0; have u1 := EF.out.1.cell 1; have u2 := EF.out.1.cell 2; have u3 := EF.out.1.cell 3; have u4 := EF.out.1.cell 4
       have f0 := EF.out.1.free 0; have f1 := EF.out.1.free 1; have f2 := EF.out.1.free 2; have f3 := EF.out.1.free 3; have f4 := EF.out.1.free 4)
    | (have hA6 := Evo.alloc g (q + 25) w (.cells #[.int .i64 0, .int .i64 0, .bool false, .string ⟨#[]⟩, .slice none 0 0] 102)
       have hdr := (Below.refl (w.alloc (.cells #[.int .i64 0, .int .i64 0, .bool false, .string ⟨#[]⟩, .slice none 0 0] 102)).heap.size (w.alloc (.cells #[.int .i64 0, .int .i64 0, .bool false, .string ⟨#[]⟩, .slice none 0 0] 102))).drew
       have KB := hid ((KR.out.fresh hA6).below hdr)
       have XB := hid ((HX.out.frame hA6 (by omega)).below hdr)
       have EB : Hid (LocC (w.alloc (.cells #[.int .i64 0, .int .i64 0, .bool false, .string ⟨#[]⟩, .slice none 0 0] 102)).drew (extc g w (q + 25)) (q + 25) w.heap.size 102 [.int .i64 0, .int .i64 0, .bool false, .string ⟨#[]⟩, .slice none 0 0]) := hid ((LocC.new g (q + 25) w 102 [.int .i64 0, .int .i64 0, .bool false, .string ⟨#[]⟩, .slice none 0 0]).below hdr)
       have BF := hid (show w0.heap.size ≤ w.heap.size from KR.out.evo.size)
       have hSB : (w.alloc (.cells #[.int .i64 0, .int .i64 0, .bool false, .string ⟨#[]⟩, .slice none 0 0] 102)).drew.cell? ⟨d, 1, none⟩ = some (.pointer (some ⟨c, 0, none⟩)) ∧ (w.alloc (.cells #[.int .i64 0, .int .i64 0, .bool false, .string ⟨#[]⟩, .slice none 0 0] 102)).drew.cell? ⟨bx, 0, none⟩ = some (.int .i64 x.kind) ∧ (w.alloc (.cells #[.int .i64 0, .int .i64 0, .bool false, .string ⟨#[]⟩, .slice none 0 0] 102)).drew.cell? ⟨bx, 1, none⟩ = some (.int .i64 x.s) ∧ (w.alloc (.cells #[.int .i64 0, .int .i64 0, .bool false, .string ⟨#[]⟩, .slice none 0 0] 102)).drew.cell? ⟨bx, 2, none⟩ = some (.int .i64 x.mode) ∧ (w.alloc (.cells #[.int .i64 0, .int .i64 0, .bool false, .string ⟨#[]⟩, .slice none 0 0] 102)).drew.cell? ⟨bx, 3, none⟩ = some (.int .i64 x.at_) ∧ (w.alloc (.cells #[.int .i64 0, .int .i64 0, .bool false, .string ⟨#[]⟩, .slice none 0 0] 102)).drew.cell? ⟨bx, 4, none⟩ = some (.int .i64 x.key) ∧ (w.alloc (.cells #[.int .i64 0, .int .i64 0, .bool false, .string ⟨#[]⟩, .slice none 0 0] 102)).drew.cell? ⟨bx, 5, none⟩ = some (.int .i64 x.to_) ∧ (w.alloc (.cells #[.int .i64 0, .int .i64 0, .bool false, .string ⟨#[]⟩, .slice none 0 0] 102)).drew.cell? ⟨bx, 6, none⟩ = some (.int .i64 x.keep) ∧ (w.alloc (.cells #[.int .i64 0, .int .i64 0, .bool false, .string ⟨#[]⟩, .slice none 0 0] 102)).drew.cell? ⟨bx, 7, none⟩ = some (.string x.bytes) := ⟨KB.out.desk.1.cell 1, XB.out.1.cell 0, XB.out.1.cell 1, XB.out.1.cell 2, XB.out.1.cell 3, XB.out.1.cell 4, XB.out.1.cell 5, XB.out.1.cell 6, XB.out.1.cell 7⟩
       clear hA6 hdr hS0
       generalize (w.alloc (.cells #[.int .i64 0, .int .i64 0, .bool false, .string ⟨#[]⟩, .slice none 0 0] 102)).drew = wB at *
       generalize extc g w (q + 25) = gB at *
       generalize w.heap.size = be at *)
  try go_wp2_with fail
  refine hK.out _ _ ?_ (fun hH4 => ?_)
  · (try dsimp only); (first | assumption)
  clear hK K hH0
  try simp only [Act.put, List.setIfInBounds_toArray, List.set_cons_zero, List.set_cons_succ]
  refine wpAnyH_ready (rs := [5]) (by kernel_rfl) (by simp) ?_
  refine AllReadyH.cons (by simp only [List.getElem?_toArray, List.getElem?_cons_zero, List.getElem?_cons_succ]; rfl) (fun K hK => ?_) AllReadyH.nil
  go_simp
  go_at_call 41
  first
    | ((with_reducible refine (CDO.out g w.drew Kd.out.court).mono ?_)
       rintro e w5 ⟨a5, c5, g5, rfl, hC5, hE5, hs5, hn5, hq5⟩
       have K5 := hid (stepR Kd.out hq hE5 hC5)
       have X5 := hid (Xd.out.frame hE5 (by omega))
       have L5 := hid (show SliceAt w5 a5 (encEnts yl) ∧ ∀ ad, a5 = some ad → g5 ad.block = q + 1 + 22 ∧ ad.block < w5.heap.size from ⟨hs5, hq5⟩)
       have B5 := hid (show w0.heap.size ≤ w5.heap.size from K5.out.evo.size)
       have hS5 : w5.cell? ⟨d, 1, none⟩ = some (.pointer (some ⟨c, 0, none⟩)) ∧ w5.cell? ⟨bx, 0, none⟩ = some (.int .i64 x.kind) ∧ w5.cell? ⟨bx, 1, none⟩ = some (.int .i64 x.s) ∧ w5.cell? ⟨bx, 2, none⟩ = some (.int .i64 x.mode) ∧ w5.cell? ⟨bx, 3, none⟩ = some (.int .i64 x.at_) ∧ w5.cell? ⟨bx, 4, none⟩ = some (.int .i64 x.key) ∧ w5.cell? ⟨bx, 5, none⟩ = some (.int .i64 x.to_) ∧ w5.cell? ⟨bx, 6, none⟩ = some (.int .i64 x.keep) ∧ w5.cell? ⟨bx, 7, none⟩ = some (.string x.bytes) := ⟨K5.out.desk.1.cell 1, X5.out.1.cell 0, X5.out.1.cell 1, X5.out.1.cell 2, X5.out.1.cell 3, X5.out.1.cell 4, X5.out.1.cell 5, X5.out.1.cell 6, X5.out.1.cell 7⟩
       clear hC5 hE5 hs5 hn5 hq5 hS0)
    | ((with_reducible refine (CDO.out gB wB KB.out.court).mono ?_)
       rintro e wF ⟨a5, c5, gF, rfl, hC5, hE5, hs5, hn5, hq5⟩
       have KF := hid (stepR KB.out hq hE5 hC5)
       have XF := hid (XB.out.frame hE5 (by omega))
       have EF := hid (EB.out.frame hE5 (by omega))
       have LF := hid (show SliceAt wF a5 (encEnts yl) ∧ ∀ ad, a5 = some ad → gF ad.block = q + 1 + 22 ∧ ad.block < wF.heap.size from ⟨hs5, hq5⟩)
       have hSF : wF.cell? ⟨d, 1, none⟩ = some (.pointer (some ⟨c, 0, none⟩)) ∧ wF.cell? ⟨bx, 0, none⟩ = some (.int .i64 x.kind) ∧ wF.cell? ⟨bx, 1, none⟩ = some (.int .i64 x.s) ∧ wF.cell? ⟨bx, 2, none⟩ = some (.int .i64 x.mode) ∧ wF.cell? ⟨bx, 3, none⟩ = some (.int .i64 x.at_) ∧ wF.cell? ⟨bx, 4, none⟩ = some (.int .i64 x.key) ∧ wF.cell? ⟨bx, 5, none⟩ = some (.int .i64 x.to_) ∧ wF.cell? ⟨bx, 6, none⟩ = some (.int .i64 x.keep) ∧ wF.cell? ⟨bx, 7, none⟩ = some (.string x.bytes) := ⟨KF.out.desk.1.cell 1, XF.out.1.cell 0, XF.out.1.cell 1, XF.out.1.cell 2, XF.out.1.cell 3, XF.out.1.cell 4, XF.out.1.cell 5, XF.out.1.cell 6, XF.out.1.cell 7⟩
       have u0 := EF.out.1.cell 0; have u1 := EF.out.1.cell 1; have u2 := EF.out.1.cell 2; have u3 := EF.out.1.cell 3; have u4 := EF.out.1.cell 4
       have f0 := EF.out.1.free 0; have f1 := EF.out.1.free 1; have f2 := EF.out.1.free 2; have f3 := EF.out.1.free 3; have f4 := EF.out.1.free 4
       clear hC5 hE5 hs5 hn5 hq5)
  try go_wp2_with fail
  refine hK.out _ _ ?_ (fun hH5 => ?_)
  · (try dsimp only); (first | assumption)
  clear hK K hH4
  try simp only [Act.put, List.setIfInBounds_toArray, List.set_cons_zero, List.set_cons_succ]
  refine wpAnyH_ready (rs := [7]) (by kernel_rfl) (by simp) ?_
  refine AllReadyH.cons (by simp only [List.getElem?_toArray, List.getElem?_cons_zero, List.getElem?_cons_succ]; rfl) (fun K hK => ?_) AllReadyH.nil
  go_simp
  have EZ := hid (five_set EF.out (.int .i64 yc) (.int .i64 yn) (.bool yv.there) (.string yv.bytes) (.slice a5 yl.length c5))
  have hEv := evo_fiveR gF wF be (q + 25) EF.out.2 (.int .i64 yc) (.int .i64 yn) (.bool yv.there) (.string yv.bytes) (.slice a5 yl.length c5)
  have KZ := hid (KF.out.five EF.out.2 BF.out (.int .i64 yc) (.int .i64 yn) (.bool yv.there) (.string yv.bytes) (.slice a5 yl.length c5))
  have XZ := hid (XF.out.frame hEv (by omega))
  have LZ := hid (SliceAt.lift LF.out.1 (fun ad h => hEv.same ad.block (LF.out.2 ad h).2 (fun hh => by have h1 := (LF.out.2 ad h).1; have h2 := hh.1; have h3 := hh.2; omega)))
  have hSZ : (((((wF.setCell ⟨be, 0, none⟩ (.int .i64 yc)).setCell ⟨be, 1, none⟩ (.int .i64 yn)).setCell ⟨be, 2, none⟩ (.bool yv.there)).setCell ⟨be, 3, none⟩ (.string yv.bytes)).setCell ⟨be, 4, none⟩ (.slice a5 yl.length c5)).cell? ⟨d, 1, none⟩ = some (.pointer (some ⟨c, 0, none⟩)) ∧ (((((wF.setCell ⟨be, 0, none⟩ (.int .i64 yc)).setCell ⟨be, 1, none⟩ (.int .i64 yn)).setCell ⟨be, 2, none⟩ (.bool yv.there)).setCell ⟨be, 3, none⟩ (.string yv.bytes)).setCell ⟨be, 4, none⟩ (.slice a5 yl.length c5)).cell? ⟨bx, 0, none⟩ = some (.int .i64 x.kind) ∧ (((((wF.setCell ⟨be, 0, none⟩ (.int .i64 yc)).setCell ⟨be, 1, none⟩ (.int .i64 yn)).setCell ⟨be, 2, none⟩ (.bool yv.there)).setCell ⟨be, 3, none⟩ (.string yv.bytes)).setCell ⟨be, 4, none⟩ (.slice a5 yl.length c5)).cell? ⟨bx, 1, none⟩ = some (.int .i64 x.s) ∧ (((((wF.setCell ⟨be, 0, none⟩ (.int .i64 yc)).setCell ⟨be, 1, none⟩ (.int .i64 yn)).setCell ⟨be, 2, none⟩ (.bool yv.there)).setCell ⟨be, 3, none⟩ (.string yv.bytes)).setCell ⟨be, 4, none⟩ (.slice a5 yl.length c5)).cell? ⟨bx, 2, none⟩ = some (.int .i64 x.mode) ∧ (((((wF.setCell ⟨be, 0, none⟩ (.int .i64 yc)).setCell ⟨be, 1, none⟩ (.int .i64 yn)).setCell ⟨be, 2, none⟩ (.bool yv.there)).setCell ⟨be, 3, none⟩ (.string yv.bytes)).setCell ⟨be, 4, none⟩ (.slice a5 yl.length c5)).cell? ⟨bx, 3, none⟩ = some (.int .i64 x.at_) ∧ (((((wF.setCell ⟨be, 0, none⟩ (.int .i64 yc)).setCell ⟨be, 1, none⟩ (.int .i64 yn)).setCell ⟨be, 2, none⟩ (.bool yv.there)).setCell ⟨be, 3, none⟩ (.string yv.bytes)).setCell ⟨be, 4, none⟩ (.slice a5 yl.length c5)).cell? ⟨bx, 4, none⟩ = some (.int .i64 x.key) ∧ (((((wF.setCell ⟨be, 0, none⟩ (.int .i64 yc)).setCell ⟨be, 1, none⟩ (.int .i64 yn)).setCell ⟨be, 2, none⟩ (.bool yv.there)).setCell ⟨be, 3, none⟩ (.string yv.bytes)).setCell ⟨be, 4, none⟩ (.slice a5 yl.length c5)).cell? ⟨bx, 5, none⟩ = some (.int .i64 x.to_) ∧ (((((wF.setCell ⟨be, 0, none⟩ (.int .i64 yc)).setCell ⟨be, 1, none⟩ (.int .i64 yn)).setCell ⟨be, 2, none⟩ (.bool yv.there)).setCell ⟨be, 3, none⟩ (.string yv.bytes)).setCell ⟨be, 4, none⟩ (.slice a5 yl.length c5)).cell? ⟨bx, 6, none⟩ = some (.int .i64 x.keep) ∧ (((((wF.setCell ⟨be, 0, none⟩ (.int .i64 yc)).setCell ⟨be, 1, none⟩ (.int .i64 yn)).setCell ⟨be, 2, none⟩ (.bool yv.there)).setCell ⟨be, 3, none⟩ (.string yv.bytes)).setCell ⟨be, 4, none⟩ (.slice a5 yl.length c5)).cell? ⟨bx, 7, none⟩ = some (.string x.bytes) := ⟨KZ.out.desk.1.cell 1, XZ.out.1.cell 0, XZ.out.1.cell 1, XZ.out.1.cell 2, XZ.out.1.cell 3, XZ.out.1.cell 4, XZ.out.1.cell 5, XZ.out.1.cell 6, XZ.out.1.cell 7⟩
  clear hEv
  generalize ((((wF.setCell ⟨be, 0, none⟩ (.int .i64 yc)).setCell ⟨be, 1, none⟩ (.int .i64 yn)).setCell ⟨be, 2, none⟩ (.bool yv.there)).setCell ⟨be, 3, none⟩ (.string yv.bytes)).setCell ⟨be, 4, none⟩ (.slice a5 yl.length c5) = wZ at *
  clear u0 u1 u2 u3 u4 f0 f1 f2 f3 f4 hSF
  try go_wp2_with fail
  refine hK.out _ _ ?_ (fun hH6 => ?_)
  · (try dsimp only); (first | assumption)
  clear hK K hH5
  try simp only [Act.put, List.setIfInBounds_toArray, List.set_cons_zero, List.set_cons_succ]
  refine wpAnyH_done (by kernel_rfl) ?_ _
  refine NoPanic.normal ?_
  simp only [Exit.then]
  refine HKQ.out _ _ ?_
  exact rline_tell w0 wZ g0 gF q d c bx be (N + 8) t yH x ⟨yc, yn, yv, yl⟩ a5 c5 hq KZ XZ EZ LZ OK ht _ (by kernel_rfl) _ _ _ _ _ _ _ _ _ _ _ _ _ _ _ _ _ _ _ _ _ _ _ _ _ _ _ _ _ _ _ _ _ _ _ _ _ _ _ _ _ _ _ _ _ _ _ _ _ _ _ _ _ _ _ _ _ _ _ _ _ _ _ _ _ _ _ _ _ _ _ _ _ _ _ _ _ _ _ _ _ _ _ _ _ _ _ _ _ _ _ _ _ _ _ _ _ _ _ _ _ _ _ _ _ _ _ _ _ _ _ _ _ _ _ _ _ _ _ _ _ _ _ _ _ _ _ _ _ _ _ _ _ _ _ _ _ _ _ _ _ _ _ _ _ _ _ _ _ _ _ _ _ _ _ _ _ _ _ _ _ _ _ _ _ _ _ _ _ _ _ _ _ _ _ _ _ _ _ _ _ _ _ _ _ _ _ _ _ _ _ _ _ _ _ _ _ _ _ _ _ _ _ _ _ _ _ _ _ _ _ _ _ _ _ _ _ _ _ _ _ _ _ _ _ _ _ _ _ _ _ _ _ _ _ _ _ _ _ _ _ _ _ _ _ _ _ _ _ _ _ _ _ _ _ _ _ _ _ _ _ _ _ _ _ _ _ _ _ _ _ _ _ _ _ _ _ _ _ _ _ _ _ _ _ _ _ _ _ _ _ _ _ _ _ _ _ _ _ _ _ _ _ _ _ _ _ _ _ _ _ _ _ _ HQ.out
  -- END 56

end Go.Proofs.YtoiobhcgpajogaaGreatDoor
