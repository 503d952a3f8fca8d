/- The walk of Serial's closure: what was read at a commit. -/
import Derived.Test.YtoiobhcgpajogadGreatBook10
namespace Go.Proofs.YtoiobhcgpajogadGreat
open Go.RowKit

section
variable {ops : Array Oper} {rest : List Oper} {o : Oper} {a : Act} {w : World} {Q : Exit → Act → World → Prop}

/-- A new variable gets what all keys have. -/
theorem wpList_new_valsS (w0 : World) (hgd : o.guard = none) (x y : Operand) (ho : o.op = .store 45 x y) (f : Nat → Val) (hx : a.eval x = .pointer (some ⟨w0.heap.size, 0, none⟩)) (hy : a.eval y = .agg (vals8 f).toArray)
    (hK : ∀ w', Loc w' w0.heap.size 45 (vals8 f) → Below w0.heap.size w0 w' → wpList Tryz.prog ops Q rest (a.put o.dst undef) w') :
    wpList Tryz.prog ops Q (o :: rest) a (w0.alloc (.cells (vals8 fun _ => Val.zero).toArray 45)) := by
  obtain ⟨h1, h2⟩ := new_all w0 45 (vals8 fun _ => Val.zero) (vals8 f) rfl
  exact wpList_store_mid hgd _ x y ho w0.heap.size 0 (vals8 f).toArray hx hy ((Loc.new w0 45 (vals8 fun _ => Val.zero)).there8 f) Tryz.infoSWorld (vals8_one f) (hK _ h1 h2)

theorem wpList_load_valsS (hw : Region.wanted o (yielded ops a.tmps) = true) (x : Operand) (ho : o.op = .load 45 x) (b : Nat) (hx : a.eval x = .pointer (some ⟨b, 0, none⟩)) (f : Nat → Val) (hL : Loc w b 45 (vals8 f))
    (hK : wpList Tryz.prog ops Q rest (a.put o.dst (.agg (vals8 f).toArray)) w) : wpList Tryz.prog ops Q (o :: rest) a w :=
  wpList_load_all hw _ x ho b 0 hx (vals8 f) _ hL.range Tryz.underlying45 rfl Tryz.infoSWorld hK

end

/-- What Serial holds: the box of the list, of the world, of the flag. -/
structure SerAt (w wr : World) (f : Nat → Val) (ok : Bool) (a : Option Addr) (cap n : Nat) : Prop where
  lst : Loc wr w.heap.size 27 [.slice a n cap]
  wor : Loc wr (w.heap.size + 1) 45 (vals8 f)
  okb : Loc wr (w.heap.size + 2) 4 [.bool ok]
  below : Below w.heap.size w wr

section
variable {w wr wv : World} {f : Nat → Val} {ok : Bool} {a : Option Addr} {cap n : Nat}
theorem SerAt.keep (h : SerAt w wr f ok a cap n) (k : Below wr.heap.size wr wv) : SerAt w wv f ok a cap n := ⟨h.lst.keep k, h.wor.keep k, h.okb.keep k, h.below.trans (k.mono h.below.size)⟩
theorem SerAt.flag (h : SerAt w wr f ok a cap n) (q : Bool) : SerAt w (wr.setCell ⟨w.heap.size + 2, 0, none⟩ (.bool q)) f q a cap n := ⟨h.lst.other (by simp) _, h.wor.other (by simp) _, h.okb.set 0 (.bool q), h.below.setCell (by simp) _⟩
theorem SerAt.put (h : SerAt w wr f ok a cap n) (g : Nat → Val) : SerAt w (wr.setCells (w.heap.size + 1) 0 (vals8 g).toArray.toList) g ok a cap n :=
  ⟨Loc.otherAll (by simp) _ 0 h.lst, h.wor.setAll (vs := (vals8 g).toArray.toList) rfl, Loc.otherAll (by simp) _ 0 h.okb, Below.setCells' (by omega) _ 0 h.below⟩
end

theorem lookS_cons (f : Nat → Val) (at_ : Int) (q : Bool) (d : Dn) (l : List Dn) : lookS f at_ q (d :: l) = lookS f at_ (if d.n = 0 ∧ d.at_ = at_ then q && (replay f d.acts).2 else q) l := rfl
theorem passS_cons (n : Int) (r : (Nat → Val) × Bool) (d : Dn) (l : List Dn) : passS n r (d :: l) = passS n (if d.n = n then ((replay r.1 d.acts).1, r.2 && ((replay r.1 d.acts).2 || !(d.mode == 2))) else r) l := rfl

def LookPost (w : World) (f : Nat → Val) (r : Bool) (a : Option Addr) (cap n : Nat) (e : Ending) (w' : World) : Prop := e = .returned (.tuple #[]) ∧ SerAt w w' f r a cap n

set_option maxHeartbeats 4000000 in
set_option maxRecDepth 100000 in
theorem serial_look (w wl : World) (f : Nat → Val) (ok : Bool) (a : Option Addr) (cap : Nat) (l : List Dnx) (at_ : Int) (hn : l.length ≤ 1000000) (hl : ∀ y ∈ l, y.acts.length ≤ 1000000 ∧ ∀ z ∈ y.acts, z.a.l.length ≤ 1000000) (hD : DonesF w a l) (hS : SerAt w wl f ok a cap l.length) :
    Calls Tryz.prog 31 #[.int .i64 at_, .pointer (some ⟨w.heap.size, 0, none⟩), .pointer (some ⟨w.heap.size + 1, 0, none⟩), .pointer (some ⟨w.heap.size + 2, 0, none⟩)] wl (LookPost w f (lookS f at_ ok (l.map Dnx.d)) a cap l.length) := by
  have HF := hid (fun r (hr : lookS f at_ ok (l.map Dnx.d) = r) w' (h : SerAt w w' f r a cap l.length) => (show LookPost w f (lookS f at_ ok (l.map Dnx.d)) a cap l.length (.returned (.tuple #[])) w' from ⟨rfl, by rw [hr]; exact h⟩))
  have HD := hid hD
  have HL := hid hl
  have HS := hid hS
  have HR : ∃ R, lookS f at_ ok (l.map Dnx.d) = R := ⟨_, rfl⟩
  obtain ⟨R, hR⟩ := HR
  have HR := hid hR.symm
  rw [hR] at HF ⊢
  have c1 := hS.lst.cell 0
  have hn63 : (l.length : Int) ≤ 9223372036854775807 := by omega
  clear hD hl hS hR
  go_enter Tryz.func31, Tryz.ntmps31
  go_wp2
  clear c1
  go_loopw [11] (fun i wr => ∃ (k : Nat) (q : Bool), k ≤ l.length ∧ i = .int .i64 k ∧ Hid (R = lookS f at_ q ((l.drop k).map Dnx.d)) ∧ Hid (SerAt w wr f q a cap l.length)) (fun i _ => l.length - (intOf i).toNat)
  case atStart => exact ⟨0, ok, Nat.zero_le _, rfl, HR, HS⟩
  case round =>
    clear HS HR
    obtain ⟨k, q, hk, rfl, HQ, H⟩ := hrel
    by_cases hlt : k < l.length
    · obtain ⟨sb, off, rfl, hsb, hf⟩ := (HD.out.below H.out.below).facts (by omega)
      obtain ⟨e0, e1, e2, e3, hA⟩ := hf k hlt
      have hst : R = lookS f at_ (if l[k].n = 0 ∧ l[k].at_ = at_ then q && (replay f (l[k].acts.map (·.a))).2 else q) ((l.drop (k + 1)).map Dnx.d) := by
        rw [HQ.out, List.drop_eq_getElem_cons hlt, List.map_cons, lookS_cons]; rfl
      have HZ := hid (HL.out l[k] (List.getElem_mem _))
      have HA := hid hA
      have HST := hid hst
      clear hf hA hst HQ
      generalize l[k] = y at *
      have hki : (k : Int) < (l.length : Int) := by omega
      have hk0 : (0 : Int) ≤ (k : Int) := by omega
      try simp only at H
      go_upto_region 3 with (fail)
      have hE := (Below.refl wr.heap.size wr).alloc (Nat.le_refl _) (.cells #[.int .i64 y.n, .int .i64 y.at_, .int .i64 y.mode, .slice y.ad y.acts.length y.cap] 36)
      have H1 := hid (H.out.keep hE)
      have A1 := hid (HA.out.below hE)
      have Z1 : Hid (Loc (wr.alloc (.cells #[.int .i64 y.n, .int .i64 y.at_, .int .i64 y.mode, .slice y.ad y.acts.length y.cap] 36)) wr.heap.size 36 (encDnx y)) := hid (Loc.new wr _ _)
      clear H HA e0 e1 e2 e3 hE
      generalize wr.alloc (.cells #[.int .i64 y.n, .int .i64 y.at_, .int .i64 y.mode, .slice y.ad y.acts.length y.cap] 36) = w1 at *
      generalize wr.heap.size = b6 at *
      obtain ⟨p0, p1, p2, p3⟩ : w1.cell? ⟨b6, 0, none⟩ = some (.int .i64 y.n) ∧ w1.cell? ⟨b6, 1, none⟩ = some (.int .i64 y.at_) ∧ w1.cell? ⟨b6, 2, none⟩ = some (.int .i64 y.mode) ∧ w1.cell? ⟨b6, 3, none⟩ = some (.slice y.ad y.acts.length y.cap) := ⟨Z1.out.cell 0, Z1.out.cell 1, Z1.out.cell 2, Z1.out.cell 3⟩
      by_cases h0 : y.n = 0
      · by_cases ha : y.at_ = at_
        · have HT := hid (show R = lookS f at_ (q && (replay f (y.acts.map (·.a))).2) ((l.drop (k + 1)).map Dnx.d) from by rw [HST.out, if_pos ⟨h0, ha⟩])
          rw [h0] at p0
          rw [ha] at p1
          clear h0 ha HST
          go_wp2_with (refine wpList_load_valsS rfl (.tmp 2) rfl (w.heap.size + 1) rfl f H1.out.wor ?_)
          refine (serial_Replay f y.ad y.cap y.acts w1 HZ.out.1 HZ.out.2 A1.out).mono ?_
          rintro e w2 ⟨rfl, hb⟩
          have H2 := hid (H1.out.keep hb)
          clear H1 A1 Z1 p0 p1 p2 p3 hb
          generalize replay f (y.acts.map (·.a)) = rr at *
          cases q
          all_goals (
            go_wp2_with (refine wpList_new_valsS w2 rfl (.tmp 7) (.tmp 29) rfl rr.1 rfl rfl ?_
                         intro w3 hL hb3
                         have H3 := hid (H2.out.keep hb3)
                         have c4 := H3.out.okb.cell 0
                         have f4 := H3.out.okb.free 0)
            go_roundw
            case rel => exact ⟨k + 1, _, by omega, by go_num, HT, hid (H3.out.flag _)⟩
            case measure => simp [intOf]; omega)
        · have HT := hid (show R = lookS f at_ q ((l.drop (k + 1)).map Dnx.d) from by rw [HST.out, if_neg (fun h => ha h.2)])
          have g1 : (y.at_ == at_) = false := by simpa using ha
          rw [h0] at p0
          clear h0 ha HST
          go_wp2
          go_roundw
          case rel => exact ⟨k + 1, q, by omega, by go_num, HT, H1⟩
          case measure => simp [intOf]; omega
      · have HT := hid (show R = lookS f at_ q ((l.drop (k + 1)).map Dnx.d) from by rw [HST.out, if_neg (fun h => h0 h.1)])
        have g1 : (y.n == 0) = false := by simpa using h0
        clear h0 HST
        go_wp2
        go_roundw
        case rel => exact ⟨k + 1, q, by omega, by go_num, HT, H1⟩
        case measure => simp [intOf]; omega
    · obtain rfl : k = l.length := by omega
      have HE := hid (show R = q from by rw [HQ.out, List.drop_length]; rfl)
      clear HQ
      go_wp2
      go_end0
      exact HF.out _ HE.out _ H.out

end Go.Proofs.YtoiobhcgpajogadGreat

/- The walk of Serial. -/
namespace Go.Proofs.YtoiobhcgpajogadGreat
open Go.RowKit

theorem serialGo_succ (l : List Dn) (n : Nat) : serialGo l (n + 1) = ((passS ((n : Int) + 1) (serialGo l n) l).1, lookS (passS ((n : Int) + 1) (serialGo l n) l).1 ((n : Int) + 1) (passS ((n : Int) + 1) (serialGo l n) l).2 l) := rfl

set_option maxHeartbeats 4000000 in
set_option maxRecDepth 100000 in
theorem serial_Serial (a : Option Addr) (cap : Nat) (l : List Dnx) (w : World) (hn : l.length ≤ 1000000) (hl : ∀ y ∈ l, y.acts.length ≤ 1000000 ∧ ∀ z ∈ y.acts, z.a.l.length ≤ 1000000) (hN : ∀ y ∈ l, y.n ≤ 1000000) (hD : DonesF w a l) :
    Calls Tryz.prog 14 #[.slice a l.length cap] w (BoolPost (serialS (l.map Dnx.d)) w) := by
  have HF := hid (fun r (hr : serialS (l.map Dnx.d) = r) w' (h : Below w.heap.size w w') => (show BoolPost (serialS (l.map Dnx.d)) w (.returned (.bool r)) w' from ⟨by rw [hr], h⟩))
  have HD := hid hD
  have HL := hid hl
  have HN := hid hN
  have HR := hid (show serialS (l.map Dnx.d) = (serialGo (l.map Dnx.d) (lastS (l.map Dnx.d)).toNat).2 from rfl)
  have HLa := hid (show lastS (l.map Dnx.d) = (l.map Dnx.d).foldl (fun m d => max m d.n) 0 from rfl)
  have hmf : ∀ (fn : Fn) (first cap : Array Value) (w : World), (Instr.makeFunc fn first cap).run Tryz.prog w = .ok (.func fn first cap) w := fun _ _ _ _ => rfl
  generalize serialS (l.map Dnx.d) = R at *
  generalize lastS (l.map Dnx.d) = last at *
  have hn63 : (l.length : Int) ≤ 9223372036854775807 := by omega
  have HS := hid (show SerAt w (((w.alloc (.cells #[.slice a l.length cap] 27)).alloc (.cells (vals8 fun _ => Val.zero).toArray 45)).alloc (.cells #[.bool true] 4)) (fun _ => Val.zero) true a cap l.length from
    ⟨(((Loc.new w _ [.slice a l.length cap]).alloc _).alloc _), (Loc.at (n := w.heap.size + 1) _ _ _ (by simp)).alloc _, Loc.at (n := w.heap.size + 2) _ _ _ (by simp), (((Below.refl w.heap.size w).alloc (Nat.le_refl _) _).alloc (by simp) _).alloc (by simp; omega) _⟩)
  have hc1 := HS.out.lst.cell 0
  clear hD hl hN
  go_enter Tryz.func14, Tryz.ntmps14
  go_wp2
  go_loopw [6, 17] (fun m i wr => ∃ (k : Nat) (x : Int), k ≤ l.length ∧ i = .int .i64 k ∧ m = .int .i64 x ∧ 0 ≤ x ∧ x ≤ 1000000 ∧ Hid (last = ((l.drop k).map Dnx.d).foldl (fun m d => max m d.n) x) ∧ Hid (SerAt w wr (fun _ => Val.zero) true a cap l.length)) (fun _ i _ => l.length - (intOf i).toNat)
  case atStart => exact ⟨0, 0, Nat.zero_le _, rfl, rfl, Int.le_refl _, by omega, HLa, HS⟩
  case round =>
    clear HS HLa hc1
    obtain ⟨k, x, hk, rfl, rfl, hx0, hx1, HQ, H⟩ := hrel
    by_cases hlt : k < l.length
    · obtain ⟨sb, off, rfl, hsb, hf⟩ := (HD.out.below H.out.below).facts (by omega)
      obtain ⟨e0, e1, e2, e3, hA⟩ := hf k hlt
      have hst : last = ((l.drop (k + 1)).map Dnx.d).foldl (fun m d => max m d.n) (max x l[k].n) := by
        rw [HQ.out, List.drop_eq_getElem_cons hlt, List.map_cons, List.foldl_cons]; rfl
      have hz := HN.out l[k] (List.getElem_mem _)
      have HST := hid hst
      clear hf hA hst HQ
      generalize l[k] = y at *
      have hki : (k : Int) < (l.length : Int) := by omega
      have hk0 : (0 : Int) ≤ (k : Int) := by omega
      try simp only at H
      by_cases hm : x < y.n
      · have HT := hid (show last = ((l.drop (k + 1)).map Dnx.d).foldl (fun m d => max m d.n) y.n from by rw [HST.out, Int.max_eq_right (by omega)])
        clear HST
        go_wp2
        all_goals (try omega)
        go_roundw
        case rel => exact ⟨k + 1, y.n, by omega, by go_num, rfl, by omega, hz, HT, hid (H.out.keep ((Below.refl wr.heap.size wr).alloc (Nat.le_refl _) (.cells #[.int .i64 y.n, .int .i64 y.at_, .int .i64 y.mode, .slice y.ad y.acts.length y.cap] 36)))⟩
        case measure => simp [intOf]; omega
      · have HT := hid (show last = ((l.drop (k + 1)).map Dnx.d).foldl (fun m d => max m d.n) x from by rw [HST.out, Int.max_eq_left (by omega)])
        clear HST
        go_wp2
        all_goals (try omega)
        go_roundw
        case rel => exact ⟨k + 1, x, by omega, by go_num, rfl, hx0, hx1, HT, hid (H.out.keep ((Below.refl wr.heap.size wr).alloc (Nat.le_refl _) (.cells #[.int .i64 y.n, .int .i64 y.at_, .int .i64 y.mode, .slice y.ad y.acts.length y.cap] 36)))⟩
        case measure => simp [intOf]; omega
    · obtain rfl : k = l.length := by omega
      obtain rfl : last = x := by rw [HQ.out, List.drop_length]; rfl
      obtain ⟨t, rfl⟩ : ∃ t : Nat, last = t := ⟨last.toNat, by omega⟩
      have ht63 : (t : Int) + 1 ≤ 9223372036854775807 := by omega
      have HR2 := hid (show R = (serialGo (l.map Dnx.d) t).2 from HR.out)
      clear HQ HR
      go_wp2_with (go_at_call 31
                   refine (serial_look w wr (fun _ => Val.zero) true a cap l 0 hn HL.out HD.out H.out).mono ?_
                   rintro e w1 ⟨rfl, hS⟩
                   have S1 := hid (show SerAt w w1 (serialGo (l.map Dnx.d) 0).1 (serialGo (l.map Dnx.d) 0).2 a cap l.length from hS)
                   clear hS)
      go_loopw [9] (fun i wr => ∃ n : Nat, n ≤ t ∧ i = .int .i64 ((n : Int) + 1) ∧ Hid (SerAt w wr (serialGo (l.map Dnx.d) n).1 (serialGo (l.map Dnx.d) n).2 a cap l.length)) (fun i _ => t + 1 - (intOf i).toNat)
      case atStart => exact ⟨0, Nat.zero_le _, by go_num, S1⟩
      case round =>
        clear S1 H
        obtain ⟨n, hnt, rfl, H⟩ := hrel
        by_cases hle : (n : Int) + 1 ≤ (t : Int)
        · have GO := hid (serialGo_succ (l.map Dnx.d) n)
          have hc1 := H.out.lst.cell 0
          generalize hp : serialGo (l.map Dnx.d) n = g at *
          clear hp
          obtain ⟨ps, hps⟩ : ∃ ps, passS ((n : Int) + 1) g (l.map Dnx.d) = ps := ⟨_, rfl⟩
          rw [hps] at GO
          have HP := hid hps.symm
          clear hps
          go_wp2
          clear hc1
          go_loopw [35] (fun i wr => ∃ (k : Nat) (r : (Nat → Val) × Bool), k ≤ l.length ∧ i = .int .i64 k ∧ Hid (ps = passS ((n : Int) + 1) r ((l.drop k).map Dnx.d)) ∧ Hid (SerAt w wr r.1 r.2 a cap l.length)) (fun i _ => l.length - (intOf i).toNat)
          case atStart => exact ⟨0, g, Nat.zero_le _, rfl, HP, H⟩
          case round =>
            clear HP H
            obtain ⟨k, ⟨rf, rb⟩, hk, rfl, HQ, H⟩ := hrel
            by_cases hlt : k < l.length
            · obtain ⟨sb, off, rfl, hsb, hf⟩ := (HD.out.below H.out.below).facts (by omega)
              obtain ⟨e0, e1, e2, e3, hA⟩ := hf k hlt
              have hst : ps = passS ((n : Int) + 1) (if l[k].n = (n : Int) + 1 then ((replay rf (l[k].acts.map (·.a))).1, rb && ((replay rf (l[k].acts.map (·.a))).2 || !(l[k].mode == 2))) else (rf, rb)) ((l.drop (k + 1)).map Dnx.d) := by
                rw [HQ.out, List.drop_eq_getElem_cons hlt, List.map_cons, passS_cons]; rfl
              have HZ := hid (HL.out l[k] (List.getElem_mem _))
              have HA := hid hA
              have HST := hid hst
              clear hf hA hst HQ
              generalize l[k] = y at *
              have hki : (k : Int) < (l.length : Int) := by omega
              have hk0 : (0 : Int) ≤ (k : Int) := by omega
              have hbl := H.out.okb.lt
              try simp only at H
              go_upto_region 17 with (fail)
              have hE := (Below.refl wr.heap.size wr).alloc (Nat.le_refl _) (.cells #[.int .i64 y.n, .int .i64 y.at_, .int .i64 y.mode, .slice y.ad y.acts.length y.cap] 36)
              have H1 := hid (H.out.keep hE)
              have A1 := hid (HA.out.below hE)
              have Z1 : Hid (Loc (wr.alloc (.cells #[.int .i64 y.n, .int .i64 y.at_, .int .i64 y.mode, .slice y.ad y.acts.length y.cap] 36)) wr.heap.size 36 (encDnx y)) := hid (Loc.new wr _ _)
              clear H HA e0 e1 e2 e3 hE
              generalize wr.alloc (.cells #[.int .i64 y.n, .int .i64 y.at_, .int .i64 y.mode, .slice y.ad y.acts.length y.cap] 36) = w1 at *
              generalize wr.heap.size = b6 at *
              obtain ⟨p0, p1, p2, p3⟩ : w1.cell? ⟨b6, 0, none⟩ = some (.int .i64 y.n) ∧ w1.cell? ⟨b6, 1, none⟩ = some (.int .i64 y.at_) ∧ w1.cell? ⟨b6, 2, none⟩ = some (.int .i64 y.mode) ∧ w1.cell? ⟨b6, 3, none⟩ = some (.slice y.ad y.acts.length y.cap) := ⟨Z1.out.cell 0, Z1.out.cell 1, Z1.out.cell 2, Z1.out.cell 3⟩
              by_cases h0 : y.n = (n : Int) + 1
              · have HT := hid (show ps = passS ((n : Int) + 1) ((replay rf (y.acts.map (·.a))).1, rb && ((replay rf (y.acts.map (·.a))).2 || !(y.mode == 2))) ((l.drop (k + 1)).map Dnx.d) from by rw [HST.out, if_pos h0])
                rw [h0] at p0
                clear h0 HST p1
                go_wp2_with (refine wpList_load_valsS rfl (.tmp 3) rfl (w.heap.size + 1) rfl rf H1.out.wor ?_)
                refine (serial_Replay rf y.ad y.cap y.acts w1 HZ.out.1 HZ.out.2 A1.out).mono ?_
                rintro e w2 ⟨rfl, hb⟩
                have H2 := hid (H1.out.keep hb)
                have Z2 := hid (Z1.out.keep hb)
                clear H1 A1 Z1 p0 p2 p3 hb
                generalize replay rf (y.acts.map (·.a)) = rr at *
                obtain ⟨gf, gb⟩ := rr
                cases rb
                all_goals (
                  cases gb
                  all_goals (
                    go_wp2_with (first
                      | refine wpList_load_valsS rfl (.tmp 12) rfl w2.heap.size rfl gf L3.out ?_
                      | (refine wpList_store_mid rfl 45 (.tmp 3) (.tmp 50) rfl (w.heap.size + 1) 0 (vals8 gf).toArray rfl rfl (H3.out.wor.there8 _) Tryz.infoSWorld (vals8_one _) ?_
                         have H4 := hid (H3.out.put gf)
                         have Z4 := hid (Loc.otherAll (b' := b6) (b := w.heap.size + 1) (by omega) (vals8 gf).toArray.toList 0 Z3.out)
                         generalize w3.setCells (w.heap.size + 1) 0 (vals8 gf).toArray.toList = w4 at *
                         have c4 := H4.out.okb.cell 0
                         have f4 := H4.out.okb.free 0
                         have p2 : w4.cell? ⟨b6, 2, none⟩ = some (.int .i64 y.mode) := Z4.out.cell 2)
                      | (refine wpList_new_valsS w2 rfl (.tmp 12) (.tmp 48) rfl gf rfl rfl ?_
                         intro w3 hL hb3
                         have L3 := hid hL
                         have H3 := hid (H2.out.keep hb3)
                         have Z3 := hid (Z2.out.keep hb3)
                         clear hL hb3))
                    go_roundw
                    case rel => exact ⟨k + 1, (gf, _), by omega, by go_num, HT, hid (H4.out.flag _)⟩
                    case measure => simp [intOf]; omega))
              · have HT := hid (show ps = passS ((n : Int) + 1) (rf, rb) ((l.drop (k + 1)).map Dnx.d) from by rw [HST.out, if_neg h0])
                have g1 : (y.n != (n : Int) + 1) = true := by simpa using h0
                clear h0 HST
                go_wp2
                go_roundw
                case rel => exact ⟨k + 1, (rf, rb), by omega, by go_num, HT, H1⟩
                case measure => simp [intOf]; omega
            · obtain rfl : k = l.length := by omega
              obtain rfl : ps = (rf, rb) := by rw [HQ.out, List.drop_length]; rfl
              clear HQ
              simp only at H GO
              go_wp2_with (go_at_call 31
                           refine (serial_look w wr rf rb a cap l ((n : Int) + 1) hn HL.out HD.out H.out).mono ?_
                           rintro e w1 ⟨rfl, hS⟩
                           have S1 := hid (show SerAt w w1 (serialGo (l.map Dnx.d) (n + 1)).1 (serialGo (l.map Dnx.d) (n + 1)).2 a cap l.length from by rw [GO.out]; exact hS)
                           clear hS)
              go_roundw
              case rel => exact ⟨n + 1, by omega, by go_num, S1⟩
              case measure => simp [intOf]; omega
        · obtain rfl : n = t := by omega
          have c4 := H.out.okb.cell 0
          go_wp2
          go_ret
          exact HF.out _ HR2.out _ H.out.below

end Go.Proofs.YtoiobhcgpajogadGreat

/- The walk of serialBegun. -/
namespace Go.Proofs.YtoiobhcgpajogadGreat
open Go.RowKit

def sbL : List St := [⟨1, 0, 2, 0, 0, 0, 0, ⟨#[]⟩⟩, ⟨3, 0, 0, 0, 1, 0, 0, ⟨#[120]⟩⟩, ⟨2, 0, 0, 0, 1, 0, 0, ⟨#[]⟩⟩, ⟨6, 0, 0, 0, 0, 0, 0, ⟨#[]⟩⟩, ⟨1, 0, 3, 0, 0, 0, 0, ⟨#[]⟩⟩, ⟨2, 0, 0, 0, 1, 0, 0, ⟨#[]⟩⟩, ⟨6, 0, 0, 0, 0, 0, 0, ⟨#[]⟩⟩]
def sbX : Val := ⟨true, ⟨#[120]⟩⟩
def sbA : List Ac := [⟨3, 1, 0, sbX, []⟩, ⟨2, 1, 0, sbX, []⟩]
def sbB : List Ac := [⟨2, 1, 0, Val.zero, []⟩]
def zeroF : Nat → Val := fun _ => Val.zero

theorem sb_noted : notedS sbL = [⟨1, 0, 2, sbA⟩, ⟨0, 0, 3, sbB⟩] := by kernel_rfl
theorem sb_serial : serialS [⟨1, 0, 2, sbA⟩, ⟨0, 0, 3, sbB⟩] = true := by kernel_rfl
theorem sb_one : (replay zeroF sbA).2 = true := by kernel_rfl
theorem sb_two : (replay zeroF (sbA.drop 1)).2 = false := by kernel_rfl
theorem encActs_take (l : List Acx) (k : Nat) : encActs (l.take k) = (encActs l).take (k * 6) := by
  unfold encActs
  induction l generalizing k with
  | nil => simp
  | cons x l ih =>
    cases k with
    | zero => simp
    | succ k =>
      rw [List.take_succ_cons, List.flatMap_cons, List.flatMap_cons, ih, List.take_append]
      rw [List.take_of_length_le (show (encAcx x).length ≤ (k + 1) * 6 by show 6 ≤ _; omega)]
      congr 2
      show k * 6 = (k + 1) * 6 - 6
      omega

theorem encActs_drop (l : List Acx) (k : Nat) : encActs (l.drop k) = (encActs l).drop (k * 6) := by
  unfold encActs
  induction l generalizing k with
  | nil => simp
  | cons x l ih =>
    cases k with
    | zero => simp
    | succ k =>
      rw [List.drop_succ_cons, List.flatMap_cons, ih, List.drop_append]
      rw [List.drop_of_length_le (show (encAcx x).length ≤ (k + 1) * 6 by show 6 ≤ _; omega)]
      rw [List.nil_append]
      congr 1
      show k * 6 = (k + 1) * 6 - 6
      omega

theorem ActsF.take {w : World} {b off : Nat} {l : List Acx} (h : ActsF w (some ⟨b, off, none⟩) l) (k : Nat) : ActsF w (some ⟨b, off, none⟩) (l.take k) := by
  refine ⟨?_, fun z hz => h.2 z (List.mem_of_mem_take hz)⟩
  rw [encActs_take]
  rcases h.1 with e | ⟨b', off', e, hc⟩
  · rw [e]; exact .inl (by simp)
  · cases e
    refine .inr ⟨b, off, rfl, fun j u hu => ?_⟩
    rw [List.getElem?_take] at hu
    split at hu
    · exact hc j u hu
    · cases hu

theorem ActsF.drop {w : World} {b off : Nat} {l : List Acx} (h : ActsF w (some ⟨b, off, none⟩) l) (k : Nat) : ActsF w (some ⟨b, off + k * 6, none⟩) (l.drop k) := by
  refine ⟨?_, fun z hz => h.2 z (List.mem_of_mem_drop hz)⟩
  rw [encActs_drop]
  rcases h.1 with e | ⟨b', off', e, hc⟩
  · rw [e]; exact .inl (by simp)
  · cases e
    refine .inr ⟨b, off + k * 6, rfl, fun j u hu => ?_⟩
    rw [List.getElem?_drop] at hu
    rw [Nat.add_assoc]
    exact hc _ u hu

set_option maxHeartbeats 4000000 in
set_option maxRecDepth 100000 in
theorem law_serialBegun (w : World) : Calls Tryz.prog 4 #[] w (TruePost w) := by
  go_enter Tryz.func4, Tryz.ntmps4
  go_wp2_with fail
  refine (law_noted (some ⟨w.heap.size, 0, none⟩) 7 sbL _ (by decide) (fun x hx => by have : ∀ x ∈ sbL, x.bytes.size ≤ 1 := by decide
                                                                                      have := this x hx
                                                                                      unfold maxLen; omega) ⟨.inr ⟨w.heap.size, 0, rfl, fun j v hv => Loc.range (cs := encSts sbL) (Loc.new w 55 (encSts sbL)) j v hv⟩, fun x hx => by
    have : ∀ x ∈ sbL, x.bytes.size ≤ 1 := by decide
    have := this x hx
    unfold maxLen; omega⟩).mono ?_
  rintro e w1 ⟨ad, c, M, rfl, hD, hM, hb, -, hl8, hcp, -⟩
  rw [sb_noted] at hM
  have B1 := hid (((Below.refl w.heap.size w).alloc (Nat.le_refl _) (.cells (encSts sbL).toArray 55)).trans (hb.mono (by simp)))
  clear hb
  obtain ⟨m0, M1, rfl, h0, hM1⟩ := List.map_eq_cons_iff.1 hM
  obtain ⟨m1, M2, rfl, h1, hM2⟩ := List.map_eq_cons_iff.1 hM1
  obtain rfl := List.map_eq_nil_iff.1 hM2
  clear hM1 hM2
  have SE := hid (fun W (h : Below w1.heap.size w1 W) => (show Calls Tryz.prog 14 #[.slice ad 2 c] W (BoolPost true W) from by
    have := serial_Serial ad c [m0, m1] W (by simp) (fun y hy => ⟨by have := (hl8 y hy).1; simp [sbL] at this; omega, fun z hz => by have := (hl8 y hy).2 z hz; omega⟩) (fun y hy => by
      have e0 : m0.n = 1 := congrArg Dn.n h0
      have e1 : m1.n = 0 := congrArg Dn.n h1
      rcases List.mem_cons.1 hy with rfl | hy
      · omega
      · rw [List.mem_singleton] at hy; subst hy; omega) (hD.below h)
    rw [hM, sb_serial] at this
    exact this))
  have L8 := hid (fun (z : Acx) (hz : z ∈ m0.acts) => (show z.a.l.length ≤ 1000000 from by have := (hl8 m0 (List.mem_cons_self ..)).2 z hz; omega))
  have hcp0 := hcp m0 (List.mem_cons_self ..)
  clear hl8 hM hcp
  obtain ⟨n0, t0, o0, A0, ad0, cp0, q0⟩ := m0
  obtain ⟨n1, t1, o1, A1, ad1, cp1, q1⟩ := m1
  simp only [Dnx.d, Dn.mk.injEq] at h0 h1
  obtain ⟨rfl, rfl, rfl, hA0⟩ := h0
  obtain ⟨rfl, rfl, rfl, hA1⟩ := h1
  have l0 : A0.length = 2 := by have := congrArg List.length hA0; simpa [sbA] using this
  have hcp2 : 2 ≤ cp0 := by have : A0.length ≤ cp0 := hcp0; omega
  clear hcp0
  have l1 : A1.length = 1 := by have := congrArg List.length hA1; simpa [sbB] using this
  obtain ⟨sb, off, rfl, hsb, hf⟩ := hD.facts (by simp)
  have p0 : w1.cell? ⟨sb, off, none⟩ = some (.int .i64 1) := by simpa using (hf 0 (by simp)).1
  have p3 : w1.cell? ⟨sb, off + 3, none⟩ = some (.slice ad0 2 cp0) := by have := (hf 0 (by simp)).2.2.2.1; rw [show ([⟨1, 0, 2, A0, ad0, cp0, q0⟩, ⟨0, 0, 3, A1, ad1, cp1, q1⟩] : List Dnx)[0].acts.length = 2 from l0] at this; simpa using this
  have r0 : w1.cell? ⟨sb, off + 4, none⟩ = some (.int .i64 0) := by simpa using (hf 1 (by simp)).1
  have r3 : w1.cell? ⟨sb, off + 4 + 3, none⟩ = some (.slice ad1 1 cp1) := by have := (hf 1 (by simp)).2.2.2.1; rw [show ([⟨1, 0, 2, A0, ad0, cp0, q0⟩, ⟨0, 0, 3, A1, ad1, cp1, q1⟩] : List Dnx)[1].acts.length = 1 from l1] at this; simpa using this
  have hAF : ActsF w1 ad0 A0 := (hf 0 (by simp)).2.2.2.2
  clear hf hD
  obtain ⟨ab, ao, rfl, -, -⟩ := hAF.facts (by omega)
  have RP := hid (fun W (h : Below w1.heap.size w1 W) => (show Calls Tryz.prog 11 #[.agg (vals8 zeroF).toArray, .slice (some ⟨ab, ao, none⟩) 2 cp0] W (SheetPost (replay zeroF sbA).1 true W) from by
    have := serial_Replay zeroF (some ⟨ab, ao, none⟩) cp0 A0 W (by omega) L8.out (hAF.below h)
    rw [hA0, sb_one, l0] at this
    exact this))
  have RQ := hid (fun W (h : Below w1.heap.size w1 W) cq => (show Calls Tryz.prog 11 #[.agg (vals8 zeroF).toArray, .slice (some ⟨ab, ao + 6, none⟩) 1 cq] W (SheetPost (replay zeroF (sbA.drop 1)).1 false W) from by
    have := serial_Replay zeroF (some ⟨ab, ao + 1 * 6, none⟩) cq (A0.drop 1) W (by rw [List.length_drop]; omega) (fun z hz => L8.out z (List.mem_of_mem_drop hz)) ((hAF.below h).drop 1)
    rw [List.map_drop, hA0, sb_two, List.length_drop, l0] at this
    exact this))
  have HP := hid (show w1.cell? ⟨sb, off, none⟩ = some (.int .i64 1) ∧ w1.cell? ⟨sb, off + 3, none⟩ = some (.slice (some ⟨ab, ao, none⟩) 2 cp0) ∧ w1.cell? ⟨sb, off + 4, none⟩ = some (.int .i64 0) from ⟨p0, p3, r0⟩)
  clear hAF hA0 hA1 l0 l1 L8 p0 r0
  go_wp2_with fail
  refine (RP.out w1 (Below.refl _ _)).mono ?_
  rintro e w2 ⟨rfl, hb⟩
  have HB2 := hid hb
  clear hb RP p3 r3
  go_wp2_with (refine wpList_new_valsS w2 rfl (.tmp 2) (.tmp 41) rfl (replay zeroF sbA).1 rfl rfl ?_
               intro w3 hL hb3
               have L3 := hid hL
               have HB3 := hid (HB2.out.trans (hb3.mono HB2.out.size))
               have p3 := (below_cell HB3.out hsb).trans HP.out.2.1
               have ne1 : (cp0 == 1) = false := by rw [beq_eq_false_iff_ne]; omega)
  all_goals (try omega)
  refine (RQ.out w3 HB3.out _).mono ?_
  rintro e w4 ⟨rfl, hb⟩
  have HB4 := hid (HB3.out.trans (hb.mono HB3.out.size))
  have L4 := hid (L3.out.keep hb)
  clear hb p3 RQ L3 HB3 HB2
  go_upto_region 6 with (refine wpList_new_valsS w4 rfl (.tmp 4) (.tmp 51) rfl (replay zeroF (sbA.drop 1)).1 rfl rfl ?_; intro w5 hL hb5; have L5 := hid (L4.out.keep hb5); have HB5 := hid (HB4.out.trans (hb5.mono HB4.out.size)))
  have hb2 := L5.out.lt
  have KS := hid (fun W (h : Below w5.heap.size w5 W) => (show Below w5.heap.size w5 W ∧ W.cell? ⟨sb, off, none⟩ = some (.int .i64 1) ∧ W.cell? ⟨sb, off + 4, none⟩ = some (.int .i64 0) ∧ W.cell? ⟨w2.heap.size, 2, none⟩ = some (.bool true) ∧ W.cell? ⟨w2.heap.size, 3, none⟩ = some (.string ⟨#[120]⟩) from by
    have hsb5 : sb < w5.heap.size := Nat.lt_of_lt_of_le hsb HB5.out.size
    refine ⟨h, (below_cell h hsb5).trans ((below_cell HB5.out hsb).trans HP.out.1), (below_cell h hsb5).trans ((below_cell HB5.out hsb).trans HP.out.2.2), ?_, ?_⟩
    · exact (below_cell h hb2).trans (L5.out.cell 2)
    · exact (below_cell h hb2).trans (L5.out.cell 3)))
  have SE2 := hid (fun W (h : Below w5.heap.size w5 W) => SE.out W (HB5.out.trans (h.mono HB5.out.size)))
  have B5 := hid (B1.out.trans (HB5.out.mono B1.out.size))
  clear SE L4 L5 HB4 HB5 HP hsb hb2
  generalize w2.heap.size = b2 at *
  -- REGION 6
  refine wp_region_noPanic ?_
  refine wp_region_held_drew (S := (fun W : World => Below w5.heap.size w5 W ∧ W.cell? ⟨sb, off, none⟩ = some (.int .i64 1) ∧ W.cell? ⟨sb, off + 4, none⟩ = some (.int .i64 0) ∧ W.cell? ⟨b2, 2, none⟩ = some (.bool true) ∧ W.cell? ⟨b2, 3, none⟩ = some (.string ⟨#[120]⟩))) (by kernel_rfl) ?_ (fun hH0 => ?_)
  · (try dsimp only); (first | assumption | exact KS.out _ (Below.refl w5.heap.size w5).drew)
  refine wpAnyH_take (i := 0) (v := ?_) (by simp only [List.getElem?_toArray, List.getElem?_cons_zero]; rfl) (by kernel_rfl) (by kernel_rfl) (by kernel_rfl) (fun _ _ _ h => h) (Or.inl ⟨by rfl, ?_⟩) (by assumption) ?_
  rotate_left
  · intro w hSw; (try dsimp only at hSw); go_simp; (try with_reducible rfl)
  try simp only [Act.put, List.setIfInBounds_toArray, List.set_cons_zero, List.set_cons_succ]
  refine wpAnyH_take (i := 1) (v := ?_) (by simp only [List.getElem?_toArray, List.getElem?_cons_zero, List.getElem?_cons_succ]; rfl) (by kernel_rfl) (by kernel_rfl) (by kernel_rfl) (fun _ _ _ h => h) (Or.inl ⟨by rfl, ?_⟩) (by assumption) ?_
  rotate_left
  · intro w hSw; (try dsimp only at hSw); go_simp; (try with_reducible rfl)
  try simp only [Act.put, List.setIfInBounds_toArray, List.set_cons_zero, List.set_cons_succ]
  refine wpAnyH_take (i := 2) (v := ?_) (by simp only [List.getElem?_toArray, List.getElem?_cons_zero, List.getElem?_cons_succ]; rfl) (by kernel_rfl) (by kernel_rfl) (by kernel_rfl) (fun _ _ _ h => h) (Or.inl ⟨by rfl, ?_⟩) (by assumption) ?_
  rotate_left
  · intro w hSw; (try dsimp only at hSw); go_simp; (try with_reducible rfl)
  try simp only [Act.put, List.setIfInBounds_toArray, List.set_cons_zero, List.set_cons_succ]
  refine wpAnyH_take (i := 3) (v := ?_) (by simp only [List.getElem?_toArray, List.getElem?_cons_zero, List.getElem?_cons_succ]; rfl) (by kernel_rfl) (by kernel_rfl) (by kernel_rfl) (fun _ _ _ h => h) (Or.inl ⟨by rfl, ?_⟩) (by assumption) ?_
  rotate_left
  · intro w hSw; (try dsimp only at hSw); go_simp; (try with_reducible rfl)
  try simp only [Act.put, List.setIfInBounds_toArray, List.set_cons_zero, List.set_cons_succ]
  refine wpAnyH_take (i := 4) (v := ?_) (by simp only [List.getElem?_toArray, List.getElem?_cons_zero, List.getElem?_cons_succ]; rfl) (by kernel_rfl) (by kernel_rfl) (by kernel_rfl) (fun _ _ _ h => h) (Or.inl ⟨by rfl, ?_⟩) (by assumption) ?_
  rotate_left
  · intro w hSw; (try dsimp only at hSw); go_simp; (try with_reducible rfl)
  try simp only [Act.put, List.setIfInBounds_toArray, List.set_cons_zero, List.set_cons_succ]
  refine wpAnyH_take (i := 5) (v := ?_) (by simp only [List.getElem?_toArray, List.getElem?_cons_zero, List.getElem?_cons_succ]; rfl) (by kernel_rfl) (by kernel_rfl) (by kernel_rfl) (fun _ _ _ h => h) (Or.inl ⟨by rfl, ?_⟩) (by assumption) ?_
  rotate_left
  · intro w hSw; (try dsimp only at hSw); go_simp; (try with_reducible rfl)
  try simp only [Act.put, List.setIfInBounds_toArray, List.set_cons_zero, List.set_cons_succ]
  refine wpAnyH_take (i := 6) (v := ?_) (by simp only [List.getElem?_toArray, List.getElem?_cons_zero, List.getElem?_cons_succ]; rfl) (by kernel_rfl) (by kernel_rfl) (by kernel_rfl) (fun _ _ _ h => h) (Or.inl ⟨by rfl, ?_⟩) (by assumption) ?_
  rotate_left
  · intro w hSw; (try dsimp only at hSw); go_simp; (try with_reducible rfl)
  try simp only [Act.put, List.setIfInBounds_toArray, List.set_cons_zero, List.set_cons_succ]
  refine wpAnyH_take (i := 7) (v := ?_) (by simp only [List.getElem?_toArray, List.getElem?_cons_zero, List.getElem?_cons_succ]; rfl) (by kernel_rfl) (by kernel_rfl) (by kernel_rfl) (fun _ _ _ h => h) (Or.inl ⟨by rfl, ?_⟩) (by assumption) ?_
  rotate_left
  · intro w hSw; (try dsimp only at hSw); go_simp; (try with_reducible rfl)
  try simp only [Act.put, List.setIfInBounds_toArray, List.set_cons_zero, List.set_cons_succ]
  refine wpAnyH_ready (rs := [8]) (by kernel_rfl) (by simp) ?_
  refine AllReadyH.cons (by simp only [List.getElem?_toArray, List.getElem?_cons_zero, List.getElem?_cons_succ]; rfl) (fun K hK => ?_) AllReadyH.nil
  go_simp
  go_at_call 16
  have hS := (‹Below w5.heap.size w5 _ ∧ _›).1
  refine (law_has _ _).mono ?_
  rintro e w' ⟨rfl, hb⟩
  have hS' := KS.out _ (hS.trans (hb.mono hS.size))
  clear hb hS
  try go_wp2_with fail
  refine hK.out _ _ ?_ (fun hH1 => ?_)
  · (try dsimp only); (first | assumption | exact KS.out _ (Below.refl w5.heap.size w5).drew)
  clear hK K hH0
  try simp only [Act.put, List.setIfInBounds_toArray, List.set_cons_zero, List.set_cons_succ]
  refine wpAnyH_take (i := 9) (v := ?_) (by simp only [List.getElem?_toArray, List.getElem?_cons_zero, List.getElem?_cons_succ]; rfl) (by kernel_rfl) (by kernel_rfl) (by kernel_rfl) (fun _ _ _ h => h) (Or.inl ⟨by rfl, ?_⟩) (by assumption) ?_
  rotate_left
  · intro w hSw; (try dsimp only at hSw); go_simp; (try with_reducible rfl)
  try simp only [Act.put, List.setIfInBounds_toArray, List.set_cons_zero, List.set_cons_succ]
  refine wpAnyH_take (i := 10) (v := ?_) (by simp only [List.getElem?_toArray, List.getElem?_cons_zero, List.getElem?_cons_succ]; rfl) (by kernel_rfl) (by kernel_rfl) (by kernel_rfl) (fun _ _ _ h => h) (Or.inl ⟨by rfl, ?_⟩) (by assumption) ?_
  rotate_left
  · intro w hSw; (try dsimp only at hSw); go_simp; (try with_reducible rfl)
  try simp only [Act.put, List.setIfInBounds_toArray, List.set_cons_zero, List.set_cons_succ]
  refine wpAnyH_take (i := 11) (v := ?_) (by simp only [List.getElem?_toArray, List.getElem?_cons_zero, List.getElem?_cons_succ]; rfl) (by kernel_rfl) (by kernel_rfl) (by kernel_rfl) (fun _ _ _ h => h) (Or.inl ⟨by rfl, ?_⟩) (by assumption) ?_
  rotate_left
  · intro w hSw; (try dsimp only at hSw); go_simp; (try with_reducible rfl)
  try simp only [Act.put, List.setIfInBounds_toArray, List.set_cons_zero, List.set_cons_succ]
  refine wpAnyH_take (i := 12) (v := ?_) (by simp only [List.getElem?_toArray, List.getElem?_cons_zero, List.getElem?_cons_succ]; rfl) (by kernel_rfl) (by kernel_rfl) (by kernel_rfl) (fun _ _ _ h => h) (Or.inl ⟨by rfl, ?_⟩) (by assumption) ?_
  rotate_left
  · intro w hSw; (try dsimp only at hSw); go_simp; (try with_reducible rfl)
  try simp only [Act.put, List.setIfInBounds_toArray, List.set_cons_zero, List.set_cons_succ]
  refine wpAnyH_take (i := 13) (v := ?_) (by simp only [List.getElem?_toArray, List.getElem?_cons_zero, List.getElem?_cons_succ]; rfl) (by kernel_rfl) (by kernel_rfl) (by kernel_rfl) (fun _ _ _ h => h) (Or.inl ⟨by rfl, ?_⟩) (by assumption) ?_
  rotate_left
  · intro w hSw; (try dsimp only at hSw); go_simp; (try with_reducible rfl)
  try simp only [Act.put, List.setIfInBounds_toArray, List.set_cons_zero, List.set_cons_succ]
  refine wpAnyH_take (i := 14) (v := ?_) (by simp only [List.getElem?_toArray, List.getElem?_cons_zero, List.getElem?_cons_succ]; rfl) (by kernel_rfl) (by kernel_rfl) (by kernel_rfl) (fun _ _ _ h => h) (Or.inl ⟨by rfl, ?_⟩) (by assumption) ?_
  rotate_left
  · intro w hSw; (try dsimp only at hSw); go_simp; (try with_reducible rfl)
  try simp only [Act.put, List.setIfInBounds_toArray, List.set_cons_zero, List.set_cons_succ]
  refine wpAnyH_take (i := 15) (v := ?_) (by simp only [List.getElem?_toArray, List.getElem?_cons_zero, List.getElem?_cons_succ]; rfl) (by kernel_rfl) (by kernel_rfl) (by kernel_rfl) (fun _ _ _ h => h) (Or.inl ⟨by rfl, ?_⟩) (by assumption) ?_
  rotate_left
  · intro w hSw; (try dsimp only at hSw); go_simp; (try with_reducible rfl)
  try simp only [Act.put, List.setIfInBounds_toArray, List.set_cons_zero, List.set_cons_succ]
  refine wpAnyH_take (i := 16) (v := ?_) (by simp only [List.getElem?_toArray, List.getElem?_cons_zero, List.getElem?_cons_succ]; rfl) (by kernel_rfl) (by kernel_rfl) (by kernel_rfl) (fun _ _ _ h => h) (Or.inl ⟨by rfl, ?_⟩) (by assumption) ?_
  rotate_left
  · intro w hSw; (try dsimp only at hSw); go_simp; (try with_reducible rfl)
  try simp only [Act.put, List.setIfInBounds_toArray, List.set_cons_zero, List.set_cons_succ]
  refine wpAnyH_take (i := 17) (v := ?_) (by simp only [List.getElem?_toArray, List.getElem?_cons_zero, List.getElem?_cons_succ]; rfl) (by kernel_rfl) (by kernel_rfl) (by kernel_rfl) (fun _ _ _ h => h) (Or.inl ⟨by rfl, ?_⟩) (by assumption) ?_
  rotate_left
  · intro w hSw; (try dsimp only at hSw); go_simp; (try with_reducible rfl)
  try simp only [Act.put, List.setIfInBounds_toArray, List.set_cons_zero, List.set_cons_succ]
  refine wpAnyH_take (i := 18) (v := ?_) (by simp only [List.getElem?_toArray, List.getElem?_cons_zero, List.getElem?_cons_succ]; rfl) (by kernel_rfl) (by kernel_rfl) (by kernel_rfl) (fun _ _ _ h => h) (Or.inl ⟨by rfl, ?_⟩) (by assumption) ?_
  rotate_left
  · intro w hSw; (try dsimp only at hSw); go_simp; (try with_reducible rfl)
  try simp only [Act.put, List.setIfInBounds_toArray, List.set_cons_zero, List.set_cons_succ]
  refine wpAnyH_take (i := 19) (v := ?_) (by simp only [List.getElem?_toArray, List.getElem?_cons_zero, List.getElem?_cons_succ]; rfl) (by kernel_rfl) (by kernel_rfl) (by kernel_rfl) (fun _ _ _ h => h) (Or.inl ⟨by rfl, ?_⟩) (by assumption) ?_
  rotate_left
  · intro w hSw; (try dsimp only at hSw); go_simp; (try with_reducible rfl)
  try simp only [Act.put, List.setIfInBounds_toArray, List.set_cons_zero, List.set_cons_succ]
  refine wpAnyH_take (i := 20) (v := ?_) (by simp only [List.getElem?_toArray, List.getElem?_cons_zero, List.getElem?_cons_succ]; rfl) (by kernel_rfl) (by kernel_rfl) (by kernel_rfl) (fun _ _ _ h => h) (Or.inl ⟨by rfl, ?_⟩) (by assumption) ?_
  rotate_left
  · intro w hSw; (try dsimp only at hSw); go_simp; (try with_reducible rfl)
  try simp only [Act.put, List.setIfInBounds_toArray, List.set_cons_zero, List.set_cons_succ]
  refine wpAnyH_take (i := 21) (v := ?_) (by simp only [List.getElem?_toArray, List.getElem?_cons_zero, List.getElem?_cons_succ]; rfl) (by kernel_rfl) (by kernel_rfl) (by kernel_rfl) (fun _ _ _ h => h) (Or.inl ⟨by rfl, ?_⟩) (by assumption) ?_
  rotate_left
  · intro w hSw; (try dsimp only at hSw); go_simp; (try with_reducible rfl)
  try simp only [Act.put, List.setIfInBounds_toArray, List.set_cons_zero, List.set_cons_succ]
  refine wpAnyH_take (i := 22) (v := ?_) (by simp only [List.getElem?_toArray, List.getElem?_cons_zero, List.getElem?_cons_succ]; rfl) (by kernel_rfl) (by kernel_rfl) (by kernel_rfl) (fun _ _ _ h => h) (Or.inl ⟨by rfl, ?_⟩) (by assumption) ?_
  rotate_left
  · intro w hSw; (try dsimp only at hSw); go_simp; (try with_reducible rfl)
  try simp only [Act.put, List.setIfInBounds_toArray, List.set_cons_zero, List.set_cons_succ]
  refine wpAnyH_take (i := 23) (v := ?_) (by simp only [List.getElem?_toArray, List.getElem?_cons_zero, List.getElem?_cons_succ]; rfl) (by kernel_rfl) (by kernel_rfl) (by kernel_rfl) (fun _ _ _ h => h) (Or.inl ⟨by rfl, ?_⟩) (by assumption) ?_
  rotate_left
  · intro w hSw; (try dsimp only at hSw); go_simp; (try with_reducible rfl)
  try simp only [Act.put, List.setIfInBounds_toArray, List.set_cons_zero, List.set_cons_succ]
  refine wpAnyH_take (i := 24) (v := ?_) (by simp only [List.getElem?_toArray, List.getElem?_cons_zero, List.getElem?_cons_succ]; rfl) (by kernel_rfl) (by kernel_rfl) (by kernel_rfl) (fun _ _ _ h => h) (Or.inl ⟨by rfl, ?_⟩) (by assumption) ?_
  rotate_left
  · intro w hSw; (try dsimp only at hSw); go_simp; (try with_reducible rfl)
  try simp only [Act.put, List.setIfInBounds_toArray, List.set_cons_zero, List.set_cons_succ]
  refine wpAnyH_take (i := 25) (v := ?_) (by simp only [List.getElem?_toArray, List.getElem?_cons_zero, List.getElem?_cons_succ]; rfl) (by kernel_rfl) (by kernel_rfl) (by kernel_rfl) (fun _ _ _ h => h) (Or.inl ⟨by rfl, ?_⟩) (by assumption) ?_
  rotate_left
  · intro w hSw; (try dsimp only at hSw); go_simp; (try with_reducible rfl)
  try simp only [Act.put, List.setIfInBounds_toArray, List.set_cons_zero, List.set_cons_succ]
  refine wpAnyH_take (i := 26) (v := ?_) (by simp only [List.getElem?_toArray, List.getElem?_cons_zero, List.getElem?_cons_succ]; rfl) (by kernel_rfl) (by kernel_rfl) (by kernel_rfl) (fun _ _ _ h => h) (Or.inl ⟨by rfl, ?_⟩) (by assumption) ?_
  rotate_left
  · intro w hSw; (try dsimp only at hSw); go_simp; (try with_reducible rfl)
  try simp only [Act.put, List.setIfInBounds_toArray, List.set_cons_zero, List.set_cons_succ]
  refine wpAnyH_ready (rs := [27]) (by kernel_rfl) (by simp) ?_
  refine AllReadyH.cons (by simp only [List.getElem?_toArray, List.getElem?_cons_zero, List.getElem?_cons_succ]; rfl) (fun K hK => ?_) AllReadyH.nil
  go_simp
  go_at_call 14
  have hS := (‹Below w5.heap.size w5 _ ∧ _›).1
  (with_reducible refine (SE2.out _ hS).mono ?_)
  rintro e w' ⟨rfl, hb⟩
  have hS' := KS.out _ (hS.trans (hb.mono hS.size))
  clear hb hS
  try go_wp2_with fail
  refine hK.out _ _ ?_ (fun hH2 => ?_)
  · (try dsimp only); (first | assumption | exact KS.out _ (Below.refl w5.heap.size w5).drew)
  clear hK K hH1
  try simp only [Act.put, List.setIfInBounds_toArray, List.set_cons_zero, List.set_cons_succ]
  refine wpAnyH_take (i := 28) (v := ?_) (by simp only [List.getElem?_toArray, List.getElem?_cons_zero, List.getElem?_cons_succ]; rfl) (by kernel_rfl) (by kernel_rfl) (by kernel_rfl) (fun _ _ _ h => h) (Or.inl ⟨by rfl, ?_⟩) (by assumption) ?_
  rotate_left
  · intro w hSw; (try dsimp only at hSw); go_simp; (try with_reducible rfl)
  try simp only [Act.put, List.setIfInBounds_toArray, List.set_cons_zero, List.set_cons_succ]
  refine wpAnyH_take (i := 29) (v := ?_) (by simp only [List.getElem?_toArray, List.getElem?_cons_zero, List.getElem?_cons_succ]; rfl) (by kernel_rfl) (by kernel_rfl) (by kernel_rfl) (fun _ _ _ h => h) (Or.inl ⟨by rfl, ?_⟩) (by assumption) ?_
  rotate_left
  · intro w hSw; (try dsimp only at hSw); go_simp; (try with_reducible rfl)
  try simp only [Act.put, List.setIfInBounds_toArray, List.set_cons_zero]
  refine wpAnyH_done (by kernel_rfl) ?_ _
  refine NoPanic.normal ?_
  go_wp2
  go_ret
  exact ⟨rfl, B5.out.trans ((‹Below w5.heap.size w5 _ ∧ _›).1.mono B5.out.size)⟩
  -- END 6

end Go.Proofs.YtoiobhcgpajogadGreat
