/- The walk of VaultAgain. -/
import Derived.Test.YtoiobhcgpajogacHouseP
import Derived.Test.YtoiobhcgpajogacHouse11
import Derived.Test.YtoiobhcgpajogacReg
namespace Go.Proofs.Ytoiobhcgpajogac
open Go.RowKit

theorem Try.infoWld : (Try.prog.info? 80).map (fun i => (i.zero, i.size, i.bytes)) = some (some (.agg #[.bool false, .string ByteArray.empty, .bool false, .string ByteArray.empty, .bool false, .string ByteArray.empty, .bool false, .string ByteArray.empty, .bool false, .string ByteArray.empty, .bool false, .string ByteArray.empty, .bool false, .string ByteArray.empty, .bool false, .string ByteArray.empty]), 16, 192) := by kernel_rfl

theorem fill_vals (f : Nat → Val) (zs : List Value) : Instr.fill (fun i => some (i * 16, 16)) (Array.map (fun x => zs[x % 16]?.getD default) (Array.range 16)) [(0, .agg (vals8 f).toArray)] = some (vals8 f).toArray := by
  have r : Array.range 16 = #[0, 1, 2, 3, 4, 5, 6, 7, 8, 9, 10, 11, 12, 13, 14, 15] := by decide
  rw [r]
  simp [Instr.fill, vals8, Value.cells]

theorem run_build_vals (f : Nat → Val) (w : World) : (Instr.buildSlice 78 1 #[(0, .agg (vals8 f).toArray)]).run Try.prog w = .ok (.slice (some ⟨w.heap.size, 0, none⟩) 1 1) (w.alloc (.cells (vals8 f).toArray 80)) := by
  obtain ⟨i, hi, hz0, hz1, hz2⟩ := info_parts Try.infoWld
  simp [Instr.buildSlice, run_underlying Try.underlying78, sizeOf, typeInfo, hi, hz1, zeroValue, hz0, Value.cells]
  rw [fill_vals]
  simp [newRow]

/-- As one operation. -/
theorem wpList_build_vals {ops : Array Oper} {rest : List Oper} {o : Oper} {a : Act} {w : World} {Q : Exit → Act → World → Prop} (hw : Region.wanted o (yielded ops a.tmps) = true) (x : Operand) (ho : o.op = .buildSlice 78 1 #[(0, x)]) (f : Nat → Val) (hx : a.eval x = .agg (vals8 f).toArray)
    (hK : wpList Try.prog ops Q rest (a.put o.dst (.slice (some ⟨w.heap.size, 0, none⟩) 1 1)) (w.alloc (.cells (vals8 f).toArray 80))) : wpList Try.prog ops Q (o :: rest) a w :=
  wpList_step fun K hK' => by
    rw [if_pos hw]
    unfold Oper.wp execOp
    simp only [ho, List.map_toArray, List.map_cons, List.map_nil, hx, Sem.run_bind, run_build_vals, Result.andThen_ok]
    exact hK' _ _ hK

theorem vals8_ones (f : Nat → Val) : ∀ u ∈ vals8 f, u.oneCell' = true := by
  have := vals8_one f
  simpa using this

/-- What all keys had behind the commits from F on. -/
def wasC (T : Tab) (F : Nat) (j : Nat) : List Value := (List.range j).flatMap (fun (i : Nat) => vals8 (sheetT T ((F : Int) + (i : Int))))
theorem wasC_get (T : Tab) (F j q : Nat) (hq : q < j) (k : Nat) (hk : k < 16) : (wasC T F j)[q * 16 + k]? = (vals8 (sheetT T ((F : Int) + (q : Int))))[k]? := by
  unfold wasC
  have := flat_get (fun (i : Nat) => vals8 (sheetT T ((F : Int) + (i : Int)))) 16 (fun _ => rfl) (List.range j) q k (by simpa using hq) hk
  rw [this]
  simp

theorem yields_ne_vals {ops : Array Oper} {S : World → Prop} {o : Oper} {a : Act} (hw : Region.wanted o (yielded ops a.tmps) = true) (x y : Operand) (r : TypeId) (ho : o.op = .binOp .neq 80 x y r) (f : Nat → Val) (hx : a.eval x = .agg (vals8 f).toArray) (hy : a.eval y = .agg (vals8 f).toArray) : YieldsIf Try.prog ops S o (.bool false) a :=
  .inl ⟨hw, fun w _ => by
    unfold execOp
    simp only [ho, hx, hy, Sem.run_bind]
    rw [run_eqGuard_agg w .neq 80 x y _ _ (by kernel_rfl)]
    simp [run_neV]⟩

theorem wasC_succ (T : Tab) (F j : Nat) : wasC T F (j + 1) = wasC T F j ++ vals8 (sheetT T ((F : Int) + (j : Int))) := by
  unfold wasC
  rw [List.range_succ, List.flatMap_append]
  simp

set_option maxHeartbeats 8000000 in
set_option maxRecDepth 100000 in
theorem walk_VaultAgain (a : Option Addr) (cap : Nat) (l : List Vst) (w : World) (hl : l.length ≤ 9223372036854775807) (hA : VstepsAt w a l) :
    Calls Try.prog 5 #[.slice a l.length cap] w (TruePost w) := by
  have HA := hid hA
  clear hA
  go_enter Try.func5, Try.ntmps5
  go_wp2_with fail
  (with_reducible refine (law_vaultBegun w).mono ?_)
  rintro e w1 ⟨rfl, hb⟩
  have B1 := hid hb
  clear hb
  go_wp2_with fail
  (with_reducible refine (law_greatVault a cap l w1 hl (HA.out.below B1.out)).mono ?_)
  rintro e w' ⟨rfl, rfl⟩
  cases hg : greatV l with
  | true =>
    clear hg
    go_wp2
    go_ret
    exact ⟨rfl, B1.out⟩
  | false =>
  obtain ⟨h150, h100⟩ := greatV_false hg
  have H100 := hid h100
  have VA := hid (HA.out.below B1.out)
  clear hg h100 HA
  go_wp2_with fail
  (with_reducible refine (law_newHouse w1).mono ?_)
  rintro e w2 ⟨h, vp, c, g, rfl, hE, hH⟩
  have S2 : Hid (HouseAt w2 g 1 h 0 Vt.new) := hid ⟨vp, c, _, _, 41, 0, _, hH, fun i hi => by omega⟩
  have C2 := hid ((Base.start w1).step hE (by omega))
  have q0 := hH.loc.1.cell 0
  simp only [List.getElem?_cons_zero] at q0
  clear hE hH
  go_wp2_with fail
  go_loopw [4] (fun i wr => ∃ (k : Nat) (g : Nat → Nat) (V : Vt), k ≤ l.length ∧ i = .int .i64 k ∧ Hid (HouseAt wr g 1 h (8 * k) V) ∧ Hid (Base w1.heap.size w1 g wr) ∧ Hid V.Sound) (fun i _ => l.length - (intOf i).toNat)
  case atStart => exact ⟨0, g, Vt.new, Nat.zero_le _, rfl, S2, C2, hid Vt.new_sound⟩
  case round =>
    clear S2 C2 q0
    obtain ⟨k, g, V, hk, rfl, H, HB, HS⟩ := hrel
    by_cases hlt : k < l.length
    · obtain ⟨b, off, rfl, hbb, hv⟩ := VA.out.facts (by omega)
      obtain ⟨p0, p1, p2, p3, p4, p5, p6, p7, p8⟩ := hv k hlt
      have c0 := (HB.out.cell (p := ⟨b, _, none⟩) hbb).trans p0
      have c1 := (HB.out.cell (p := ⟨b, _, none⟩) hbb).trans p1
      have c2 := (HB.out.cell (p := ⟨b, _, none⟩) hbb).trans p2
      have c3 := (HB.out.cell (p := ⟨b, _, none⟩) hbb).trans p3
      have c4 := (HB.out.cell (p := ⟨b, _, none⟩) hbb).trans p4
      have c5 := (HB.out.cell (p := ⟨b, _, none⟩) hbb).trans p5
      have c6 := (HB.out.cell (p := ⟨b, _, none⟩) hbb).trans p6
      have c7 := (HB.out.cell (p := ⟨b, _, none⟩) hbb).trans p7
      have hki : (k : Int) < (l.length : Int) := by omega
      have hk0 : (0 : Int) ≤ (k : Int) := by omega
      generalize l[k] = y at *
      clear p0 p1 p2 p3 p4 p5 p6 p7 hv
      have ST := hid (house_step g 1 h (8 * k) V y wr (Nat.le_refl _) (by omega) p8 H.out)
      go_wp2_with fail
      refine ST.out.mono ?_
      rintro e w3 ⟨rfl, g3, V3, hH, hS, hK⟩
      have H3 : Hid (HouseAt w3 g3 1 h (8 * (k + 1)) V3) := hid hH
      have HS3 := hid (hS HS.out)
      have HB3 := hid (hK _ _ HB.out)
      clear hH hS hK ST H HS HB c0 c1 c2 c3 c4 c5 c6 c7
      go_wp2_with fail
      go_roundw
      case rel => exact ⟨k + 1, g3, V3, by omega, by go_num, H3, HB3, HS3⟩
      case measure => simp [intOf]; omega
    · have hki : (l.length : Int) ≤ (k : Int) := by omega
      obtain ⟨vp, c, vd, vw, nx, n, x, hC, -⟩ := H.out
      have hnx := hC.nxt
      have HL := hid hC.loc
      have q0 := hC.loc.1.cell 0
      simp only [List.getElem?_cons_zero] at q0
      obtain ⟨t, b, hV⟩ := hC.vault
      obtain ⟨q1, -, -, -⟩ := hV.cells
      have hOK := hV.1
      have hT := hV.2.2.1.1
      have HV := hid hV
      clear hC hV H VA
      have hlok := hOK.1
      have TOK := hid hT
      have VOK := hid hOK
      have h40 : (V.tab.last : Int) ≤ 40 := by have := hT.2; omega
      obtain ⟨F, hF⟩ : ∃ F : Nat, firstT V.tab = (F : Int) := ⟨(firstT V.tab).toNat, by have := first_pos (T := V.tab); omega⟩
      have hFle := firstT_le hT
      rw [hF] at hFle
      have LA := hid (fun W (hb : Below wr.heap.size wr W) => table_Last g (1 + 1 + 1) t V.tab W (HV.out.2.2.1.below hb))
      have FA := hid (fun W (hb : Below wr.heap.size wr W) => table_First g (1 + 1 + 1) t V.tab W (HV.out.2.2.1.below hb))
      have VL := hid (fun W (hb : Below wr.heap.size wr W) => vault_Log g (1 + 1) vp V W ⟨t, b, HV.out.below hb⟩)
      have KS := hid (fun W (hb : Below wr.heap.size wr W) => (⟨hb, (HL.out.below hb).1.cell 0, (HV.out.below hb).cells.1⟩ : Below wr.heap.size wr W ∧ W.cell? ⟨h, 0, none⟩ = some (.pointer (some ⟨vp, 0, none⟩)) ∧ W.cell? ⟨vp, 0, none⟩ = some (.pointer (some ⟨t, 0, none⟩))))
      have AS := hid (fun (a : Int) (h1 : (F : Int) ≤ a) (h2 : a ≤ V.tab.last) => again_sheet HS.out hT (by rw [hF]; exact h1) h2)
      have AL := hid (again_log hOK)
      have AN := hid (again_last HS.out)
      rw [hF] at FA
      generalize V.log.bytes = byt at *
      generalize hLL : V.tab.last = L at *
      have HLL := hid hLL
      clear hLL hOK hT hlok hF HS
      go_wp2_with fail
      -- REGION 13
      refine wp_region_noPanic ?_
      refine wp_region_held_drew (S := (fun W : World => Below wr.heap.size wr W ∧ W.cell? ⟨h, 0, none⟩ = some (.pointer (some ⟨vp, 0, none⟩)) ∧ W.cell? ⟨vp, 0, none⟩ = some (.pointer (some ⟨t, 0, none⟩)))) (by kernel_rfl) ?_ (fun hH0 => ?_)
      · (try dsimp only); (first | assumption | exact KS.out _ (Below.refl wr.heap.size wr).drew)
      refine wpAnyH_take (i := 0) (v := ?_) (by simp only [List.getElem?_toArray, List.getElem?_cons_zero]; rfl) (by kernel_rfl) (by kernel_rfl) (by kernel_rfl) (fun _ _ _ h => h) (Or.inl ⟨by rfl, ?_⟩) (by assumption) ?_
      rotate_left
      · intro w hSw; (try dsimp only at hSw); go_simp; (try with_reducible rfl)
      try simp only [Act.put, List.setIfInBounds_toArray, List.set_cons_zero, List.set_cons_succ]
      refine wpAnyH_take (i := 1) (v := ?_) (by simp only [List.getElem?_toArray, List.getElem?_cons_zero, List.getElem?_cons_succ]; rfl) (by kernel_rfl) (by kernel_rfl) (by kernel_rfl) (fun _ _ _ h => h) (Or.inl ⟨by rfl, ?_⟩) (by assumption) ?_
      rotate_left
      · intro w hSw; (try dsimp only at hSw); go_simp; (try with_reducible rfl)
      try simp only [Act.put, List.setIfInBounds_toArray, List.set_cons_zero, List.set_cons_succ]
      refine wpAnyH_take (i := 2) (v := ?_) (by simp only [List.getElem?_toArray, List.getElem?_cons_zero, List.getElem?_cons_succ]; rfl) (by kernel_rfl) (by kernel_rfl) (by kernel_rfl) (fun _ _ _ h => h) (Or.inl ⟨by rfl, ?_⟩) (by assumption) ?_
      rotate_left
      · intro w hSw; (try dsimp only at hSw); go_simp; (try with_reducible rfl)
      try simp only [Act.put, List.setIfInBounds_toArray, List.set_cons_zero, List.set_cons_succ]
      refine wpAnyH_take (i := 3) (v := ?_) (by simp only [List.getElem?_toArray, List.getElem?_cons_zero, List.getElem?_cons_succ]; rfl) (by kernel_rfl) (by kernel_rfl) (by kernel_rfl) (fun _ _ _ h => h) (Or.inl ⟨by rfl, ?_⟩) (by assumption) ?_
      rotate_left
      · intro w hSw; (try dsimp only at hSw); go_simp; (try with_reducible rfl)
      try simp only [Act.put, List.setIfInBounds_toArray, List.set_cons_zero, List.set_cons_succ]
      refine wpAnyH_take (i := 4) (v := ?_) (by simp only [List.getElem?_toArray, List.getElem?_cons_zero, List.getElem?_cons_succ]; rfl) (by kernel_rfl) (by kernel_rfl) (by kernel_rfl) (fun _ _ _ h => h) (Or.inl ⟨by rfl, ?_⟩) (by assumption) ?_
      rotate_left
      · intro w hSw; (try dsimp only at hSw); go_simp; (try with_reducible rfl)
      try simp only [Act.put, List.setIfInBounds_toArray, List.set_cons_zero, List.set_cons_succ]
      refine wpAnyH_take (i := 5) (v := ?_) (by simp only [List.getElem?_toArray, List.getElem?_cons_zero, List.getElem?_cons_succ]; rfl) (by kernel_rfl) (by kernel_rfl) (by kernel_rfl) (fun _ _ _ h => h) (Or.inl ⟨by rfl, ?_⟩) (by assumption) ?_
      rotate_left
      · intro w hSw; (try dsimp only at hSw); go_simp; (try with_reducible rfl)
      try simp only [Act.put, List.setIfInBounds_toArray, List.set_cons_zero, List.set_cons_succ]
      refine wpAnyH_take (i := 6) (v := ?_) (by simp only [List.getElem?_toArray, List.getElem?_cons_zero, List.getElem?_cons_succ]; rfl) (by kernel_rfl) (by kernel_rfl) (by kernel_rfl) (fun _ _ _ h => h) (Or.inl ⟨by rfl, ?_⟩) (by assumption) ?_
      rotate_left
      · intro w hSw; (try dsimp only at hSw); go_simp; (try with_reducible rfl)
      try simp only [Act.put, List.setIfInBounds_toArray, List.set_cons_zero, List.set_cons_succ]
      refine wpAnyH_take (i := 8) (v := ?_) (by simp only [List.getElem?_toArray, List.getElem?_cons_zero, List.getElem?_cons_succ]; rfl) (by kernel_rfl) (by kernel_rfl) (by kernel_rfl) (fun _ _ _ h => h) (Or.inl ⟨by rfl, ?_⟩) (by assumption) ?_
      rotate_left
      · intro w hSw; (try dsimp only at hSw); go_simp; (try with_reducible rfl)
      try simp only [Act.put, List.setIfInBounds_toArray, List.set_cons_zero, List.set_cons_succ]
      refine wpAnyH_take (i := 9) (v := ?_) (by simp only [List.getElem?_toArray, List.getElem?_cons_zero, List.getElem?_cons_succ]; rfl) (by kernel_rfl) (by kernel_rfl) (by kernel_rfl) (fun _ _ _ h => h) (Or.inl ⟨by rfl, ?_⟩) (by assumption) ?_
      rotate_left
      · intro w hSw; (try dsimp only at hSw); go_simp; (try with_reducible rfl)
      try simp only [Act.put, List.setIfInBounds_toArray, List.set_cons_zero, List.set_cons_succ]
      refine wpAnyH_take (i := 10) (v := ?_) (by simp only [List.getElem?_toArray, List.getElem?_cons_zero, List.getElem?_cons_succ]; rfl) (by kernel_rfl) (by kernel_rfl) (by kernel_rfl) (fun _ _ _ h => h) (Or.inl ⟨by rfl, ?_⟩) (by assumption) ?_
      rotate_left
      · intro w hSw; (try dsimp only at hSw); go_simp; (try with_reducible rfl)
      try simp only [Act.put, List.setIfInBounds_toArray, List.set_cons_zero, List.set_cons_succ]
      refine wpAnyH_take (i := 11) (v := ?_) (by simp only [List.getElem?_toArray, List.getElem?_cons_zero, List.getElem?_cons_succ]; rfl) (by kernel_rfl) (by kernel_rfl) (by kernel_rfl) (fun _ _ _ h => h) (Or.inl ⟨by rfl, ?_⟩) (by assumption) ?_
      rotate_left
      · intro w hSw; (try dsimp only at hSw); go_simp; (try with_reducible rfl)
      try simp only [Act.put, List.setIfInBounds_toArray, List.set_cons_zero, List.set_cons_succ]
      refine wpAnyH_take (i := 12) (v := ?_) (by simp only [List.getElem?_toArray, List.getElem?_cons_zero, List.getElem?_cons_succ]; rfl) (by kernel_rfl) (by kernel_rfl) (by kernel_rfl) (fun _ _ _ h => h) (Or.inl ⟨by rfl, ?_⟩) (by assumption) ?_
      rotate_left
      · intro w hSw; (try dsimp only at hSw); go_simp; (try with_reducible rfl)
      try simp only [Act.put, List.setIfInBounds_toArray, List.set_cons_zero, List.set_cons_succ]
      refine wpAnyH_take (i := 13) (v := ?_) (by simp only [List.getElem?_toArray, List.getElem?_cons_zero, List.getElem?_cons_succ]; rfl) (by kernel_rfl) (by kernel_rfl) (by kernel_rfl) (fun _ _ _ h => h) (Or.inl ⟨by rfl, ?_⟩) (by assumption) ?_
      rotate_left
      · intro w hSw; (try dsimp only at hSw); go_simp; (try with_reducible rfl)
      try simp only [Act.put, List.setIfInBounds_toArray, List.set_cons_zero, List.set_cons_succ]
      refine wpAnyH_take (i := 14) (v := ?_) (by simp only [List.getElem?_toArray, List.getElem?_cons_zero, List.getElem?_cons_succ]; rfl) (by kernel_rfl) (by kernel_rfl) (by kernel_rfl) (fun _ _ _ h => h) (Or.inl ⟨by rfl, ?_⟩) (by assumption) ?_
      rotate_left
      · intro w hSw; (try dsimp only at hSw); go_simp; (try with_reducible rfl)
      try simp only [Act.put, List.setIfInBounds_toArray, List.set_cons_zero, List.set_cons_succ]
      refine wpAnyH_take (i := 16) (v := ?_) (by simp only [List.getElem?_toArray, List.getElem?_cons_zero, List.getElem?_cons_succ]; rfl) (by kernel_rfl) (by kernel_rfl) (by kernel_rfl) (fun _ _ _ h => h) (Or.inl ⟨by rfl, ?_⟩) (by assumption) ?_
      rotate_left
      · intro w hSw; (try dsimp only at hSw); go_simp; (try with_reducible rfl)
      try simp only [Act.put, List.setIfInBounds_toArray, List.set_cons_zero, List.set_cons_succ]
      refine wpAnyH_take (i := 17) (v := ?_) (by simp only [List.getElem?_toArray, List.getElem?_cons_zero, List.getElem?_cons_succ]; rfl) (by kernel_rfl) (by kernel_rfl) (by kernel_rfl) (fun _ _ _ h => h) (Or.inl ⟨by rfl, ?_⟩) (by assumption) ?_
      rotate_left
      · intro w hSw; (try dsimp only at hSw); go_simp; (try with_reducible rfl)
      try simp only [Act.put, List.setIfInBounds_toArray, List.set_cons_zero, List.set_cons_succ]
      refine wpAnyH_take (i := 18) (v := ?_) (by simp only [List.getElem?_toArray, List.getElem?_cons_zero, List.getElem?_cons_succ]; rfl) (by kernel_rfl) (by kernel_rfl) (by kernel_rfl) (fun _ _ _ h => h) (Or.inl ⟨by rfl, ?_⟩) (by assumption) ?_
      rotate_left
      · intro w hSw; (try dsimp only at hSw); go_simp; (try with_reducible rfl)
      try simp only [Act.put, List.setIfInBounds_toArray, List.set_cons_zero, List.set_cons_succ]
      refine wpAnyH_take (i := 19) (v := ?_) (by simp only [List.getElem?_toArray, List.getElem?_cons_zero, List.getElem?_cons_succ]; rfl) (by kernel_rfl) (by kernel_rfl) (by kernel_rfl) (fun _ _ _ h => h) (Or.inl ⟨by rfl, ?_⟩) (by assumption) ?_
      rotate_left
      · intro w hSw; (try dsimp only at hSw); go_simp; (try with_reducible rfl)
      try simp only [Act.put, List.setIfInBounds_toArray, List.set_cons_zero, List.set_cons_succ]
      refine wpAnyH_ready (rs := [7]) (by kernel_rfl) (by simp) ?_
      refine AllReadyH.cons (by simp only [List.getElem?_toArray, List.getElem?_cons_zero, List.getElem?_cons_succ]; rfl) (fun K hK => ?_) AllReadyH.nil
      go_simp
      go_at_call 45
      have hS := (‹Below wr.heap.size wr _ ∧ _›).1
      (with_reducible refine (LA.out _ hS).mono ?_)
      rintro e w4 ⟨rfl, rfl⟩
      try go_wp2_with fail
      refine hK.out _ _ ?_ (fun hH1 => ?_)
      · (try dsimp only); (first | assumption | exact KS.out _ (Below.refl wr.heap.size wr).drew)
      clear hK K hH0
      try simp only [Act.put, List.setIfInBounds_toArray, List.set_cons_zero, List.set_cons_succ]
      refine wpAnyH_ready (rs := [15]) (by kernel_rfl) (by simp) ?_
      refine AllReadyH.cons (by simp only [List.getElem?_toArray, List.getElem?_cons_zero, List.getElem?_cons_succ]; rfl) (fun K hK => ?_) AllReadyH.nil
      go_simp
      go_at_call 46
      have hS := (‹Below wr.heap.size wr _ ∧ _›).1
      (with_reducible refine (FA.out _ hS).mono ?_)
      rintro e w4 ⟨rfl, hb4⟩
      have hS' := KS.out _ (hS.trans (hb4.mono hS.size))
      clear hb4 hS
      try go_wp2_with fail
      refine hK.out _ _ ?_ (fun hH2 => ?_)
      · (try dsimp only); (first | assumption | exact KS.out _ (Below.refl wr.heap.size wr).drew)
      clear hK K hH1
      try simp only [Act.put, List.setIfInBounds_toArray, List.set_cons_zero, List.set_cons_succ]
      refine wpAnyH_ready (rs := [20]) (by kernel_rfl) (by simp) ?_
      refine AllReadyH.cons (by simp only [List.getElem?_toArray, List.getElem?_cons_zero, List.getElem?_cons_succ]; rfl) (fun K hK => ?_) AllReadyH.nil
      go_simp
      go_at_call 47
      have hS := (‹Below wr.heap.size wr _ ∧ _›).1
      (with_reducible refine (VL.out _ hS).mono ?_)
      rintro e w5 ⟨a5, c5, rfl, hx5, hb5, -⟩
      have hc5 := conv_sliceAt w5 a5 c5 _ hx5.2
      have hS' := KS.out _ (hS.trans (hb5.mono hS.size))
      clear hx5 hb5 hS
      try go_wp2_with fail
      refine hK.out _ _ ?_ (fun hH3 => ?_)
      · (try dsimp only); (first | assumption | exact KS.out _ (Below.refl wr.heap.size wr).drew)
      clear hK K hH2
      try simp only [Act.put, List.setIfInBounds_toArray, List.set_cons_zero, List.set_cons_succ]
      refine wpAnyH_take (i := 22) (v := ?_) (by simp only [List.getElem?_toArray, List.getElem?_cons_zero, List.getElem?_cons_succ]; rfl) (by kernel_rfl) (by kernel_rfl) (by kernel_rfl) (fun _ _ _ h => h) (Or.inl ⟨by rfl, ?_⟩) (by assumption) ?_
      rotate_left
      · intro w hSw; (try dsimp only at hSw); go_simp; (try with_reducible rfl)
      try simp only [Act.put, List.setIfInBounds_toArray, List.set_cons_zero, List.set_cons_succ]
      refine wpAnyH_take (i := 23) (v := ?_) (by simp only [List.getElem?_toArray, List.getElem?_cons_zero, List.getElem?_cons_succ]; rfl) (by kernel_rfl) (by kernel_rfl) (by kernel_rfl) (fun _ _ _ h => h) (Or.inl ⟨by rfl, ?_⟩) (by assumption) ?_
      rotate_left
      · intro w hSw; (try dsimp only at hSw); go_simp; (try with_reducible rfl)
      try simp only [Act.put, List.setIfInBounds_toArray, List.set_cons_zero, List.set_cons_succ]
      refine wpAnyH_ready (rs := [21]) (by kernel_rfl) (by simp) ?_
      refine AllReadyH.cons (by simp only [List.getElem?_toArray, List.getElem?_cons_zero, List.getElem?_cons_succ]; rfl) (fun K hK => ?_) AllReadyH.nil
      go_simp
      refine hK.out _ _ ?_ (fun hH4 => ?_)
      · (try dsimp only); (first | assumption | exact KS.out _ (Below.refl wr.heap.size wr).drew)
      clear hK K hH3
      try simp only [Act.put, List.setIfInBounds_toArray, List.set_cons_zero, List.set_cons_succ]
      refine wpAnyH_take (i := 24) (v := ?_) (by simp only [List.getElem?_toArray, List.getElem?_cons_zero, List.getElem?_cons_succ]; rfl) (by kernel_rfl) (by kernel_rfl) (by kernel_rfl) (fun _ _ _ h => h) (Or.inl ⟨by rfl, ?_⟩) (by assumption) ?_
      rotate_left
      · intro w hSw; (try dsimp only at hSw); go_simp; (try with_reducible rfl)
      try simp only [Act.put, List.setIfInBounds_toArray, List.set_cons_zero, List.set_cons_succ]
      refine wpAnyH_done (by kernel_rfl) ?_ _
      refine NoPanic.normal ?_
      rotate_left
      -- END 13
      have hb13 := (‹Below wr.heap.size wr _ ∧ _›).1
      have B2 := hid (HB.out.below' hb13)
      have V2 := hid (HV.out.below hb13)
      have H2 := hid (HL.out.below hb13)
      clear LA FA VL KS HB HV HL q0 q1
      have R2 : Hid (RowC w5 g (nx + 5) 80 16 (.slice none 0 0) 0 (wasC V.tab F 0)) := hid ⟨World.ownsRow_nil _ 0 80 16, nofun⟩
      obtain ⟨iw, hiw, hzw0, hzw1, hzw2⟩ := info_parts Try.infoWld
      go_wp2_with fail
      go_loopw [8, 9] (fun v i wr => ∃ (j : Nat) (G : Nat → Nat), F + j ≤ L + 1 ∧ i = .int .i64 ((F : Int) + (j : Int)) ∧ Hid (Base w1.heap.size w1 G wr) ∧ Hid (VaultC wr G (1 + 1) vp t b V) ∧ Hid (LocC wr G 1 h 69 [.pointer (some ⟨vp, 0, none⟩), .pointer (some ⟨c, 0, none⟩), vd, vw]) ∧ Hid (RowC wr G (nx + 5) 80 16 v j (wasC V.tab F j))) (fun _ i _ => (L + 1) - (intOf i).toNat)
      case atStart => exact ⟨0, g, by omega, by simp, B2, V2, H2, R2⟩
      case round =>
        clear B2 V2 H2 R2
        obtain ⟨j, G, hj, rfl, HB, HV, HL, HR⟩ := hrel
        by_cases hjl : F + j ≤ L
        · have hji : (F : Int) + (j : Int) ≤ (L : Int) := by omega
          have hj0 : (0 : Int) ≤ (F : Int) + (j : Int) := by omega
          obtain ⟨s1, -, -⟩ := AS.out ((F : Int) + (j : Int)) (by omega) hji
          have SH := hid (show Calls Try.prog 48 #[.pointer (some ⟨t, 0, none⟩), .int .i64 ((F : Int) + (j : Int))] wr (SheetPost (sheetT V.tab ((F : Int) + (j : Int))) true wr) from (by
            have P := law_sheet G (1 + 1 + 1) t V.tab wr ((F : Int) + (j : Int)) HV.out.2.2.1
            rw [s1] at P
            exact P))
          have WS := hid (wasC_succ V.tab F j)
          have q0 := HL.out.1.cell 0
          simp only [List.getElem?_cons_zero] at q0
          have q1 := HV.out.cells.1
          generalize sheetT V.tab ((F : Int) + (j : Int)) = f at *
          generalize hwc : wasC V.tab F j = ws at *
          clear s1 hwc
          go_wp2_with fail
          (with_reducible refine SH.out.mono ?_)
          rintro e w3 ⟨rfl, hb⟩
          have B3 := hid (HB.out.below' hb)
          have V3 := hid (HV.out.below hb)
          have H3 := hid (HL.out.below hb)
          have R3 := hid (HR.out.below hb)
          clear hb SH HB HV HL HR q0 q1
          obtain ⟨aw, cw, hvw, -, -⟩ := ownsRow.sliceAt R3.out.1
          subst hvw
          go_upto_region 19 with (first
            | (refine wpList_new_vals w3 rfl (.tmp 10) (.tmp 77) rfl f rfl rfl ?_; intro w4 hLn hbn; have L4 := hid (show LocC w4 (extc G w3 (nx + 1)) (nx + 1) w3.heap.size 80 (vals8 f) from ⟨hLn, extc_new (Nat.le_refl _)⟩); have E4 := hid (Evo.of_below (lo := 0) (hi := 0) G (nx + 1) hbn); clear hLn hbn)
            | fail)
          have B4 := hid (B3.out.step E4.out (by omega))
          have V4 := hid (V3.out.frame E4.out (by omega))
          have H4 := hid (H3.out.frame E4.out (by omega))
          have R4 := hid (R3.out.frame E4.out (by omega))
          clear B3 V3 H3 R3 E4
          generalize extc G w3 (nx + 1) = G4 at *
          generalize w3.heap.size = b4 at *
          have EA := Evo.alloc G4 (nx + 2) w4 (.cells (vals8 f).toArray 80)
          have B5 := hid (B4.out.step EA (by omega))
          have V5 := hid (V4.out.frame EA (by omega))
          have H5 := hid (H4.out.frame EA (by omega))
          have R5 := hid (R4.out.frame EA (by omega))
          clear EA B4 V4 H4 R4
          have q1 : j + 1 ≤ maxLen := by unfold maxLen; omega
          have q2 : (j + 1) * 192 ≤ 140737488355328 := by omega
          go_wp2_with (first
            | refine wpList_load_vals rfl (.tmp 10) rfl b4 rfl f L4.out.1 ?_
            | refine wpList_build_vals rfl (.tmp 82) rfl f rfl ?_
            | (refine wpList_append2 rfl (.tmp 81) (.tmp 83) 78 rfl 80 iw (.agg #[.bool false, .string ByteArray.empty, .bool false, .string ByteArray.empty, .bool false, .string ByteArray.empty, .bool false, .string ByteArray.empty, .bool false, .string ByteArray.empty, .bool false, .string ByteArray.empty, .bool false, .string ByteArray.empty, .bool false, .string ByteArray.empty]) 16 192 Try.underlying78 hiw hzw0 hzw1 hzw2 rfl (by decide) (.slice aw j cw) j ws rfl R5.out.1 ⟨w4.heap.size, 0, none⟩ 1 1 (vals8 f) rfl rfl (cells_new w4 (vals8 f) 80) (vals8_ones f) q1 q2 ?_; intro v7 w7 ho hg hf; obtain ⟨G7, hR, hE7⟩ : ∃ G7, RowC w7 G7 (nx + 5) 80 16 v7 (j + 1) (ws ++ vals8 f) ∧ Evo (nx + 5) (nx + 5 + 1) (extc G4 w4 (nx + 2)) G7 (w4.alloc (.cells (vals8 f).toArray 80)) w7 := ⟨_, R5.out.grown ho hg hf⟩; have R7 := hid hR; have B7 := hid (B5.out.step hE7 (by omega)); have V7 := hid (V5.out.frame hE7 (by omega)); have H7 := hid (H5.out.frame hE7 (by omega)); clear ho hg hf hR hE7 q1 q2))
          go_roundw
          case rel => exact ⟨j + 1, G7, by omega, by go_num, B7, V7, H7, hid (by rw [WS.out]; exact R7.out)⟩
          case measure => simp [intOf]; omega
        · have hjn : F + j = L + 1 := by omega
          have hji : (L : Int) < (F : Int) + (j : Int) := by omega
          obtain ⟨aw, cw, hvw, -, -⟩ := ownsRow.sliceAt HR.out.1
          subst hvw
          go_wp2_with fail
          go_loopw [12] (fun i wr => ∃ (m : Nat) (G : Nat → Nat) (U : Vt), m ≤ 2 ∧ i = .int .i64 m ∧ Hid (Base w1.heap.size w1 G wr) ∧ Hid (VaultAt wr G (1 + 1) vp U) ∧ Hid (LocC wr G 1 h 69 [.pointer (some ⟨vp, 0, none⟩), .pointer (some ⟨c, 0, none⟩), vd, vw]) ∧ Hid (RowC wr G (nx + 5) 80 16 (.slice aw j cw) j (wasC V.tab F j)) ∧ Hid (crashV U.log = crashV V.log)) (fun i _ => 2 - (intOf i).toNat)
          case atStart => exact ⟨0, G, V, by omega, rfl, HB, hid ⟨t, b, HV.out⟩, HL, HR, hid rfl⟩
          case round =>
            clear HB HV HL HR
            obtain ⟨m, G, U, hm, rfl, HB, HV, HL, HR, HU⟩ := hrel
            by_cases hm2 : m < 2
            · have hmi : (m : Int) < 2 := by omega
              obtain ⟨tu, bu, hVU⟩ := HV.out
              have CR := hid (vault_Crash G (1 + 1) vp tu bu U.tab U.log wr hVU.l)
              rw [HU.out] at CR
              have q0 := HL.out.1.cell 0
              simp only [List.getElem?_cons_zero] at q0
              clear hVU
              have YF := hid (again_first V.log)
              have YT := hid (show crashV (crashV V.log).log = crashV V.log from rfl)
              generalize crashV V.log = Y at *
              go_wp2_with fail
              refine CR.out.mono ?_
              rintro e w2 ⟨rfl, g2, hV, hE⟩
              have B2 := hid (HB.out.step hE (by omega))
              have H2 := hid (HL.out.frame hE (by omega))
              have R2 := hid (HR.out.frame hE (by omega))
              obtain ⟨t2, b2, hV2⟩ := hV
              have V2 := hid hV2
              clear hE hV2 CR HB HV HL HR q0
              have q0 := H2.out.1.cell 0
              simp only [List.getElem?_cons_zero] at q0
              have q1 := V2.out.cells.1
              have LA := hid (table_Last g2 (1 + 1 + 1) t2 Y.tab w2 V2.out.2.2.1)
              have FA := hid (table_First g2 (1 + 1 + 1) t2 Y.tab w2 V2.out.2.2.1)
              rw [AN.out] at LA
              rw [YF.out] at FA
              go_wp2_with fail
              refine LA.out.mono ?_
              rintro e w' ⟨rfl, rfl⟩
              go_wp2_with fail
              refine FA.out.mono ?_
              rintro e w3 ⟨rfl, hb⟩
              have B3 := hid (B2.out.below' hb)
              have H3 := hid (H2.out.below hb)
              have R3 := hid (R2.out.below hb)
              have V3 := hid (V2.out.below hb)
              clear hb B2 H2 R2 V2 LA FA q0 q1
              have q0 := H3.out.1.cell 0
              simp only [List.getElem?_cons_zero] at q0
              have VL := hid (vault_Log g2 (1 + 1) vp Y w3 ⟨t2, b2, V3.out⟩)
              rw [AL.out] at VL
              go_wp2_with fail
              refine VL.out.mono ?_
              rintro e w4 ⟨a4, c4, rfl, hx4, hb, -⟩
              have hc4 := conv_sliceAt w4 a4 c4 _ hx4.2
              have B4 := hid (B3.out.below' hb)
              have H4 := hid (H3.out.below hb)
              have R4 := hid (R3.out.below hb)
              have V4 := hid (V3.out.below hb)
              clear hb hx4 B3 H3 R3 V3 VL q0
              go_wp2_with fail
              clear hc4
              go_loopw [13] (fun i wr => ∃ (q : Nat) (G : Nat → Nat), q ≤ j ∧ i = .int .i64 ((F : Int) + (q : Int)) ∧ Hid (Base w1.heap.size w1 G wr) ∧ Hid (VaultC wr G (1 + 1) vp t2 b2 Y) ∧ Hid (LocC wr G 1 h 69 [.pointer (some ⟨vp, 0, none⟩), .pointer (some ⟨c, 0, none⟩), vd, vw]) ∧ Hid (RowC wr G (nx + 5) 80 16 (.slice aw j cw) j (wasC V.tab F j))) (fun i _ => (L + 1) - (intOf i).toNat)
              case atStart => exact ⟨0, g2, by omega, by simp, B4, V4, H4, R4⟩
              case round =>
                clear B4 V4 H4 R4
                obtain ⟨q, G, hq, rfl, HB, HV, HL, HR⟩ := hrel
                by_cases hql : F + q ≤ L
                · have hqi : (F : Int) + (q : Int) ≤ (L : Int) := by omega
                  have hq0 : (0 : Int) ≤ (F : Int) + (q : Int) := by omega
                  have hqj : q < j := by omega
                  obtain ⟨-, s2, s3⟩ := AS.out ((F : Int) + (q : Int)) (by omega) hqi
                  have SH := hid (show Calls Try.prog 48 #[.pointer (some ⟨t2, 0, none⟩), .int .i64 ((F : Int) + (q : Int))] wr (SheetPost (sheetT V.tab ((F : Int) + (q : Int))) true wr) from (by
                    have P := law_sheet G (1 + 1 + 1) t2 Y.tab wr ((F : Int) + (q : Int)) HV.out.2.2.1
                    rw [s2, s3] at P
                    exact P))
                  have WG := hid (fun k hk => wasC_get V.tab F j q hqj k hk)
                  have q0 := HL.out.1.cell 0
                  simp only [List.getElem?_cons_zero] at q0
                  have q1 := HV.out.cells.1
                  generalize sheetT V.tab ((F : Int) + (q : Int)) = f at *
                  clear s2 s3
                  go_wp2_with fail
                  (with_reducible refine SH.out.mono ?_)
                  rintro e w3 ⟨rfl, hb⟩
                  have B3 := hid (HB.out.below' hb)
                  have V3 := hid (HV.out.below hb)
                  have H3 := hid (HL.out.below hb)
                  have R3 := hid (HR.out.below hb)
                  clear hb SH HB HV HL HR q0 q1
                  obtain ⟨rr, hrr⟩ : ∃ rr, aw = some ⟨rr, 0, none⟩ := by
                    obtain ⟨rr, cap, hv, -, -⟩ := ownsRow.some R3.out.1 (by omega)
                    cases hv; exact ⟨rr, rfl⟩
                  subst hrr
                  go_upto_region 32 with (first
                    | (refine wpList_new_vals w3 rfl (.tmp 14) (.tmp 141) rfl f rfl rfl ?_; intro w4 hLn hbn; have L4 := hid (show LocC w4 (extc G w3 (nx + 1)) (nx + 1) w3.heap.size 80 (vals8 f) from ⟨hLn, extc_new (Nat.le_refl _)⟩); have E4 := hid (Evo.of_below (lo := 0) (hi := 0) G (nx + 1) hbn); clear hLn hbn)
                    | fail)
                  have B4 := hid (B3.out.step E4.out (by omega))
                  have V4 := hid (V3.out.frame E4.out (by omega))
                  have H4 := hid (H3.out.frame E4.out (by omega))
                  have R4 := hid (R3.out.frame E4.out (by omega))
                  clear B3 V3 H3 R3 E4
                  generalize extc G w3 (nx + 1) = G4 at *
                  generalize w3.heap.size = b4 at *
                  have hS0 : w4.drew.rangeAt b4 0 (vals8 f) ∧ w4.drew.rangeAt rr (q * 16) (vals8 f) := ⟨L4.out.1.range, fun k u hu => by
                    have hk : k < 16 := (List.getElem?_eq_some_iff.1 hu).1
                    have h1 := WG.out k hk
                    rw [hu] at h1
                    have h2 := World.ownsRow.cellAt R4.out.1 (q * 16 + k) (by omega)
                    exact h2.trans h1⟩
                  have hsub : IntKind.i64.wrap ((F : Int) + (q : Int) - (F : Int)) = (q : Int) := by rw [show (F : Int) + (q : Int) - (F : Int) = (q : Int) by omega]; exact IntWalk.i64_in _ (by omega)
                  have hsub2 : IntKind.i64.wrap (q : Int) = (q : Int) := IntWalk.i64_in _ (by omega)
                  have hqj1 : (q : Int) < (j : Int) := by omega
                  have hqn : (0 : Int) ≤ (q : Int) := by omega
                  -- REGION 32
                  refine wp_region_noPanic ?_
                  refine wp_region_held_drew (S := (fun W : World => W.rangeAt b4 0 (vals8 f) ∧ W.rangeAt rr (q * 16) (vals8 f))) (by kernel_rfl) ?_ (fun hH0 => ?_)
                  · (try dsimp only); (first | assumption | exact hS0)
                  refine wpAnyH_take (i := 0) (v := ?_) (by simp only [List.getElem?_toArray, List.getElem?_cons_zero]; rfl) (by kernel_rfl) (by kernel_rfl) (by kernel_rfl) (fun _ _ _ h => h) (Or.inl ⟨by rfl, ?_⟩) (by assumption) ?_
                  rotate_left
                  · intro w hSw; (try dsimp only at hSw); go_simp; (try with_reducible rfl)
                  try simp only [Act.put, List.setIfInBounds_toArray, List.set_cons_zero, List.set_cons_succ]
                  refine wpAnyH_take (i := 1) (v := ?_) (by simp only [List.getElem?_toArray, List.getElem?_cons_zero, List.getElem?_cons_succ]; rfl) (by kernel_rfl) (by kernel_rfl) (by kernel_rfl) (fun _ _ _ h => h) (Or.inl ⟨by rfl, ?_⟩) (by assumption) ?_
                  rotate_left
                  · intro w hSw; (try dsimp only at hSw); go_simp; (try with_reducible rfl)
                  try simp only [Act.put, List.setIfInBounds_toArray, List.set_cons_zero, List.set_cons_succ]
                  refine wpAnyH_take (i := 2) (v := ?_) (by simp only [List.getElem?_toArray, List.getElem?_cons_zero, List.getElem?_cons_succ]; rfl) (by kernel_rfl) (by kernel_rfl) (by kernel_rfl) (fun _ _ _ h => h) (Or.inl ⟨by rfl, ?_⟩) (by assumption) ?_
                  rotate_left
                  · intro w hSw; (try dsimp only at hSw); go_simp; (try with_reducible rfl)
                  try simp only [Act.put, List.setIfInBounds_toArray, List.set_cons_zero, List.set_cons_succ]
                  refine wpAnyH_take (i := 3) (v := .agg (vals8 f).toArray) (by simp only [List.getElem?_toArray, List.getElem?_cons_zero, List.getElem?_cons_succ]; rfl) (by kernel_rfl) (by kernel_rfl) (by kernel_rfl) (fun _ _ _ h => h) (yieldsIf_load_mid (by rfl) 80 _ rfl b4 0 rfl (vals8 f) _ (fun w h => h.1) Try.underlying80 rfl Try.infoWorld) (by assumption) ?_
                  try simp only [Act.put, List.setIfInBounds_toArray, List.set_cons_zero, List.set_cons_succ]
                  refine wpAnyH_take (i := 4) (v := ?_) (by simp only [List.getElem?_toArray, List.getElem?_cons_zero, List.getElem?_cons_succ]; rfl) (by kernel_rfl) (by kernel_rfl) (by kernel_rfl) (fun _ _ _ h => h) (Or.inl ⟨by rfl, ?_⟩) (by assumption) ?_
                  rotate_left
                  · intro w hSw; (try dsimp only at hSw); go_simp; (try with_reducible rfl)
                  try simp only [Act.put, List.setIfInBounds_toArray, List.set_cons_zero, List.set_cons_succ]
                  refine wpAnyH_take (i := 5) (v := ?_) (by simp only [List.getElem?_toArray, List.getElem?_cons_zero, List.getElem?_cons_succ]; rfl) (by kernel_rfl) (by kernel_rfl) (by kernel_rfl) (fun _ _ _ h => h) (Or.inl ⟨by rfl, ?_⟩) (by assumption) ?_
                  rotate_left
                  · intro w hSw; (try dsimp only at hSw); go_simp; (try with_reducible rfl)
                  try simp only [Act.put, List.setIfInBounds_toArray, List.set_cons_zero, List.set_cons_succ]
                  refine wpAnyH_take (i := 6) (v := ?_) (by simp only [List.getElem?_toArray, List.getElem?_cons_zero, List.getElem?_cons_succ]; rfl) (by kernel_rfl) (by kernel_rfl) (by kernel_rfl) (fun _ _ _ h => h) (Or.inl ⟨by rfl, ?_⟩) (by assumption) ?_
                  rotate_left
                  · intro w hSw; (try dsimp only at hSw); go_simp; (try with_reducible rfl)
                  try simp only [Act.put, List.setIfInBounds_toArray, List.set_cons_zero, List.set_cons_succ]
                  refine wpAnyH_take (i := 7) (v := ?_) (by simp only [List.getElem?_toArray, List.getElem?_cons_zero, List.getElem?_cons_succ]; rfl) (by kernel_rfl) (by kernel_rfl) (by kernel_rfl) (fun _ _ _ h => h) (Or.inl ⟨by rfl, ?_⟩) (by assumption) ?_
                  rotate_left
                  · intro w hSw; (try dsimp only at hSw); go_simp; (try with_reducible rfl)
                  try simp only [Act.put, List.setIfInBounds_toArray, List.set_cons_zero, List.set_cons_succ]
                  refine wpAnyH_take (i := 8) (v := ?_) (by simp only [List.getElem?_toArray, List.getElem?_cons_zero, List.getElem?_cons_succ]; rfl) (by kernel_rfl) (by kernel_rfl) (by kernel_rfl) (fun _ _ _ h => h) (Or.inl ⟨by rfl, ?_⟩) (by assumption) ?_
                  rotate_left
                  · intro w hSw; (try dsimp only at hSw); go_simp; (try with_reducible rfl)
                  try simp only [Act.put, List.setIfInBounds_toArray, List.set_cons_zero, List.set_cons_succ]
                  refine wpAnyH_take (i := 9) (v := .agg (vals8 f).toArray) (by simp only [List.getElem?_toArray, List.getElem?_cons_zero, List.getElem?_cons_succ]; rfl) (by kernel_rfl) (by kernel_rfl) (by kernel_rfl) (fun _ _ _ h => h) (yieldsIf_load_mid (by rfl) 80 _ rfl rr (q * 16) rfl (vals8 f) _ (fun w h => h.2) Try.underlying80 rfl Try.infoWorld) (by assumption) ?_
                  try simp only [Act.put, List.setIfInBounds_toArray, List.set_cons_zero, List.set_cons_succ]
                  refine wpAnyH_take (i := 10) (v := .bool false) (by simp only [List.getElem?_toArray, List.getElem?_cons_zero, List.getElem?_cons_succ]; rfl) (by kernel_rfl) (by kernel_rfl) (by kernel_rfl) (fun _ _ _ h => h) (yields_ne_vals (by rfl) _ _ _ rfl f rfl rfl) (by assumption) ?_
                  try simp only [Act.put, List.setIfInBounds_toArray, List.set_cons_zero, List.set_cons_succ]
                  refine wpAnyH_take (i := 11) (v := ?_) (by simp only [List.getElem?_toArray, List.getElem?_cons_zero, List.getElem?_cons_succ]; rfl) (by kernel_rfl) (by kernel_rfl) (by kernel_rfl) (fun _ _ _ h => h) (Or.inl ⟨by rfl, ?_⟩) (by assumption) ?_
                  rotate_left
                  · intro w hSw; (try dsimp only at hSw); go_simp; (try with_reducible rfl)
                  try simp only [Act.put, List.setIfInBounds_toArray, List.set_cons_zero, List.set_cons_succ]
                  refine wpAnyH_done (by kernel_rfl) ?_ _
                  refine NoPanic.normal ?_
                  rotate_left
                  -- END 32
                  clear hS0 hsub hsub2
                  have HB4 := hid (B4.out.below' (Below.refl w4.heap.size w4).drew)
                  have HV4 := hid (V4.out.below (Below.refl w4.heap.size w4).drew)
                  have HL4 := hid (H4.out.below (Below.refl w4.heap.size w4).drew)
                  have HR4 := hid (R4.out.below (Below.refl w4.heap.size w4).drew)
                  go_wp2_with fail
                  go_roundw
                  case rel => exact ⟨q + 1, G4, by omega, by go_num, HB4, HV4, HL4, HR4⟩
                  case measure => simp [intOf]; omega
                · have hqi : (L : Int) < (F : Int) + (q : Int) := by omega
                  go_wp2_with fail
                  go_roundw
                  case rel => exact ⟨m + 1, G, Y, by omega, by go_num, HB, hid ⟨t2, b2, HV.out⟩, HL, HR, YT⟩
                  case measure => simp [intOf]; omega
            · have hmi : (2 : Int) ≤ (m : Int) := by omega
              go_wp2_with fail
              go_ret
              exact ⟨rfl, B1.out.trans (HB.out.below.mono B1.out.size)⟩

end Go.Proofs.Ytoiobhcgpajogac
