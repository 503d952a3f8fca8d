/- The walk of HallFirst. -/
import Derived.Test.YtoiobhcgpajogacLaw07a
import Derived.Test.YtoiobhcgpajogacHallU
import Derived.Test.YtoiobhcgpajogacWork3
import Derived.Test.YtoiobhcgpajogacHallV
import Derived.Test.YtoiobhcgpajogacReg
namespace Go.Proofs.Ytoiobhcgpajogac
open Go.RowKit

/-- A slice of numbers that lies in memory of the colour q. -/
def IntSl (w : World) (g : Nat → Nat) (q : Nat) (v : Value) (l : List Nat) : Prop :=
  ∃ a cap, v = .slice a l.length cap ∧ SliceAt w a (encI l) ∧ ∀ ad, a = some ad → ad.block < w.heap.size ∧ g ad.block = q

theorem IntSl.frame {lo hi : Nat} {g g' : Nat → Nat} {w w' : World} {q : Nat} {v : Value} {l : List Nat} (h : IntSl w g q v l) (k : Evo lo hi g g' w w') (hc : q < lo ∨ hi ≤ q) : IntSl w' g' q v l := by
  obtain ⟨a, cap, h1, h2, h3⟩ := h
  refine ⟨a, cap, h1, h2.lift (fun ad e => k.same _ (h3 ad e).1 (by have := (h3 ad e).2; omega)), fun ad e => ?_⟩
  obtain ⟨i1, i2⟩ := h3 ad e
  exact ⟨Nat.lt_of_lt_of_le i1 k.size, (k.col _ i1).trans i2⟩

def IntSls (w : World) (g : Nat → Nat) (q : Nat) : List Value → List (List Nat) → Prop
  | [], [] => True
  | v :: vs, l :: ls => IntSl w g q v l ∧ IntSls w g q vs ls
  | _, _ => False

theorem IntSls.frame {lo hi : Nat} {g g' : Nat → Nat} {w w' : World} {q : Nat} (k : Evo lo hi g g' w w') (hc : q < lo ∨ hi ≤ q) : ∀ {vs : List Value} {ls : List (List Nat)}, IntSls w g q vs ls → IntSls w' g' q vs ls
  | [], [], _ => trivial
  | _ :: _, _ :: _, ⟨h1, h2⟩ => ⟨h1.frame k hc, IntSls.frame k hc h2⟩

theorem IntSls.snoc {w : World} {g : Nat → Nat} {q : Nat} {v : Value} {l : List Nat} (h0 : IntSl w g q v l) : ∀ {vs : List Value} {ls : List (List Nat)}, IntSls w g q vs ls → IntSls w g q (vs ++ [v]) (ls ++ [l])
  | [], [], _ => ⟨h0, trivial⟩
  | _ :: _, _ :: _, ⟨h1, h2⟩ => ⟨h1, IntSls.snoc h0 h2⟩

theorem IntSls.length {w : World} {g : Nat → Nat} {q : Nat} : ∀ {vs : List Value} {ls : List (List Nat)}, IntSls w g q vs ls → vs.length = ls.length
  | [], [], _ => rfl
  | _ :: _, _ :: _, ⟨_, h2⟩ => by simp [IntSls.length h2]

theorem IntSls.get {w : World} {g : Nat → Nat} {q : Nat} : ∀ {vs : List Value} {ls : List (List Nat)}, IntSls w g q vs ls → ∀ i (hi : i < ls.length), ∃ v, vs[i]? = some v ∧ IntSl w g q v ls[i]
  | [], [], _, i, hi => by cases hi
  | v :: vs, l :: ls, ⟨h1, h2⟩, i, hi => by
    cases i with
    | zero => exact ⟨v, rfl, h1⟩
    | succ i =>
      obtain ⟨u, h3, h4⟩ := IntSls.get h2 i (by simpa using hi)
      exact ⟨u, by simpa using h3, by simpa using h4⟩

theorem Try.infoIs : (Try.prog.info? 34).map (fun i => (i.zero, i.size, i.bytes)) = some (some (.slice none 0 0), 1, 24) := by kernel_rfl

/-- The two lists that the law keeps: of each commit a number, and the keys that it wrote. -/
structure FirstS (w : World) (g : Nat → Nat) (va vk : Value) (kl : List (List Nat)) : Prop where
  row : ∃ xs, RowC w g 40 3 1 va kl.length xs
  keys : ∃ svs, RowC w g 41 34 1 vk kl.length svs ∧ IntSls w g 42 svs kl

theorem FirstS.frame {lo hi : Nat} {g g' : Nat → Nat} {w w' : World} {va vk : Value} {kl : List (List Nat)} (h : FirstS w g va vk kl) (k : Evo lo hi g g' w w') (hc : 43 ≤ lo ∨ hi ≤ 40) : FirstS w' g' va vk kl := by
  obtain ⟨⟨xs, h1⟩, svs, h2, h3⟩ := h
  exact ⟨⟨xs, h1.frame k (by omega)⟩, svs, h2.frame k (by omega), h3.frame k (by omega)⟩

structure FInv (H : Ht) (kl : List (List Nat)) : Prop where
  len : kl.length = H.v.tab.last + 1
  at_ : ∀ n (h : n < kl.length), ∀ j ∈ kl[n], j < 8 ∧ (n : Int) ≤ lastN (H.v.tab.l j)
  short : ∀ n (h : n < kl.length), kl[n].length ≤ 8

theorem FInv.start : FInv Ht.new [[]] := by
  refine ⟨rfl, fun n h j hj => ?_, fun n h => ?_⟩
  · have h0 : n = 0 := by simpa using h
    subst h0; cases hj
  · have h0 : n = 0 := by simpa using h
    subst h0; exact Nat.zero_le _

theorem FInv.same {H H' : Ht} {kl : List (List Nat)} (h : FInv H kl) (h1 : H'.v.tab.last = H.v.tab.last) (h2 : ∀ k, k < 8 → lastN (H.v.tab.l k) ≤ lastN (H'.v.tab.l k)) : FInv H' kl :=
  ⟨by rw [h1]; exact h.len, fun n hn j hj => by
    obtain ⟨i1, i2⟩ := h.at_ n hn j hj
    exact ⟨i1, Int.le_trans i2 (h2 j i1)⟩, h.short⟩

def keysOf (l : List Ent) : List Nat := l.map (fun x => x.n.toNat)

theorem FInv.more {H H' : Ht} {kl : List (List Nat)} (h : FInv H kl) {l : List Ent} (hl8 : l.length ≤ 8) (h0 : ∀ z ∈ l, z.n.toNat < 8) (h1 : H'.v.tab.last = H.v.tab.last + 1) (h2 : ∀ k, k < 8 → lastN (H.v.tab.l k) ≤ lastN (H'.v.tab.l k)) (h3 : ∀ z ∈ l, lastN (H'.v.tab.l z.n.toNat) = (H.v.tab.last : Int) + 1) : FInv H' (kl ++ [keysOf l]) := by
  have hl := h.len
  refine ⟨by rw [List.length_append, h1, hl]; rfl, fun n hn j hj => ?_, fun n hn => ?_⟩
  rotate_left
  · by_cases e : n < kl.length
    · rw [List.getElem_append_left e]; exact h.short n e
    · have en : n = kl.length := by simp at hn; omega
      subst en
      rw [List.getElem_append_right (Nat.le_refl _)]
      simpa [keysOf] using hl8
  by_cases e : n < kl.length
  · rw [List.getElem_append_left e] at hj
    obtain ⟨i1, i2⟩ := h.at_ n e j hj
    exact ⟨i1, Int.le_trans i2 (h2 j i1)⟩
  · have en : n = kl.length := by simp at hn; omega
    subst en
    rw [List.getElem_append_right (Nat.le_refl _)] at hj
    simp only [Nat.sub_self, List.getElem_cons_zero] at hj
    obtain ⟨z, hz, rfl⟩ := List.mem_map.1 hj
    exact ⟨h0 z hz, by rw [h3 z hz, hl]; omega⟩

theorem FInv.apart {H : Ht} {kl : List (List Nat)} (h : FInv H kl) {b : Int} {n : Nat} (hn : n < kl.length) (hb : b < n) {j : Nat} (hj : lastN (H.v.tab.l j) ≤ b) : kl[n].any (fun (y : Nat) => (y : Int) == (j : Int)) = false := by
  rw [List.any_eq_false]
  intro y hy
  obtain ⟨-, i2⟩ := h.at_ n hn y hy
  intro e
  have : y = j := by have := beq_iff_eq.1 e; omega
  subst this
  omega

theorem encK_take (l : List Ent) (k : Nat) (h : k < l.length) (hn : l[k].n = (l[k].n.toNat : Nat)) : encI (keysOf (l.take (k + 1))) = encI (keysOf (l.take k)) ++ [.int .i64 l[k].n] := by
  rw [List.take_succ_eq_append_getElem h]
  unfold keysOf
  rw [List.map_append, encI_append, hn]
  simp [encI]

theorem owns_lit1 (w : World) (T : TypeId) (u : Value) : (w.alloc (.cells #[u] T)).ownsRow 0 T 1 (.slice (some ⟨w.heap.size, 0, none⟩) 1 1) 1 [u] :=
  ⟨rfl, .inr ⟨w.heap.size, 1, #[u], rfl, Nat.zero_le _, heap_alloc_new _ _, Nat.le_refl _, by unfold maxLen; omega, rfl, rfl⟩⟩

theorem deed_beg {H : Ht} (hT : H.v.tab.Ok) (hB : BegsH H) {n : Nat} (hn : n < 5) {D : Ded} (hD : H.seats n = some D) : ∃ b : Nat, D.beg = b ∧ b ≤ H.v.tab.last := by
  have h1 := (hB n hn D hD).1 0 (by omega)
  have h2 := (hT.1 0).1.2.2
  have h3 := (hB n hn D hD).2
  exact ⟨D.beg.toNat, by omega, by omega⟩

theorem HallAt.deedsOk {w : World} {g : Nat → Nat} {p h : Nat} {H : Ht} (k : HallAt w g p h H) : ∀ s, s < 5 → ∀ D, H.seats s = some D → D.Ok := by
  obtain ⟨vp, ds, k⟩ := k
  exact fun s hs D hD => (k.deed s hs D hD).1

theorem seatB_nat {s : Nat} (h : s < 5) : isSeatB (s : Int) = true := by unfold isSeatB; simp; omega

theorem keysOf_len (l : List Ent) : (keysOf l).length = l.length := by simp [keysOf]

theorem keysOf_get (l : List Ent) (k : Nat) (h : k < l.length) : (encI (keysOf l))[k]? = some (.int .i64 (l[k].n.toNat : Nat)) := by
  simp [keysOf, encI, h]

set_option maxHeartbeats 3000000 in
set_option maxRecDepth 100000 in
theorem walk_HallFirst (a : Option Addr) (cap : Nat) (l : List St) (w : World) (hl : l.length ≤ 9223372036854775807) (hA : StepsAt w a l) :
    Calls Try.prog 9 #[.slice a l.length cap] w (TruePost w) := by
  have HA := hid hA
  clear hA
  go_enter Try.func9, Try.ntmps9
  go_wp2_with fail
  (with_reducible refine (law_hallBegun w).mono ?_)
  rintro e w1 ⟨rfl, hb⟩
  have B1 := hid hb
  clear hb
  go_wp2_with fail
  (with_reducible refine (law_greatSteps a cap l w1 hl (HA.out.below B1.out)).mono ?_)
  rintro e w1' ⟨rfl, rfl⟩
  cases hg : greatS l with
  | true =>
    clear hg
    go_wp2
    go_ret
    exact ⟨rfl, B1.out⟩
  | false =>
  obtain ⟨h200, h100⟩ := greatS_false hg
  have H100 := hid h100
  have SA := hid (HA.out.below B1.out)
  clear hg h100 HA
  go_wp2_with fail
  refine (hall_New (fun _ => 0) 1 w1).mono ?_
  rintro e w2 ⟨h, g2, rfl, hE, -, hH⟩
  have B2 := hid ((Base.start w1).step hE (by omega))
  have H2 := hid hH
  clear hE hH
  try go_upto_region 8 with (fail)
  have hE3 := (Evo.alloc g2 40 w2 (.cells #[.int .i64 0] 3)).trans (Evo.alloc (extc g2 w2 40) 41 (w2.alloc (.cells #[.int .i64 0] 3)) (.cells #[.slice none 0 0] 34))
  have S3 : Hid (FirstS ((w2.alloc (.cells #[.int .i64 0] 3)).alloc (.cells #[.slice none 0 0] 34)) (extc (extc g2 w2 40) (w2.alloc (.cells #[.int .i64 0] 3)) 41) (.slice (some ⟨w2.heap.size, 0, none⟩) 1 1) (.slice (some ⟨w2.heap.size + 1, 0, none⟩) 1 1) [[]]) := hid (by
    have r1 : RowC (w2.alloc (.cells #[.int .i64 0] 3)) (extc g2 w2 40) 40 3 1 (.slice (some ⟨w2.heap.size, 0, none⟩) 1 1) 1 [.int .i64 0] := ⟨owns_lit1 w2 _ _, fun r hr => by cases hr; exact extc_new (Nat.le_refl _)⟩
    have o2 := owns_lit1 (w2.alloc (.cells #[.int .i64 0] 3)) 34 (.slice none 0 0)
    rw [World.size_alloc] at o2
    exact ⟨⟨_, r1.frame (Evo.alloc (extc g2 w2 40) 41 _ _) (by omega)⟩, _, ⟨o2, fun r hr => by cases hr; exact extc_new (by simp)⟩, ⟨none, 0, rfl, .inl rfl, nofun⟩, trivial⟩)
  have H3 := hid (H2.out.frame hE3 (by omega))
  have B3 := hid (B2.out.step hE3 (by omega))
  clear hE3 H2 B2
  generalize (w2.alloc (.cells #[.int .i64 0] 3)).alloc (.cells #[.slice none 0 0] 34) = w3 at *
  generalize extc (extc g2 w2 40) (w2.alloc (.cells #[.int .i64 0] 3)) 41 = g3 at *
  generalize w2.heap.size = bs at *
  go_wp2_with fail
  go_loopw [4, 5, 6] (fun va vk i wr => ∃ (k : Nat) (g : Nat → Nat) (H : Ht) (kl : List (List Nat)), k ≤ l.length ∧ i = .int .i64 k ∧ Hid (HallAt wr g 1 h H) ∧ Hid (Base w1.heap.size w1 g wr) ∧ Hid H.v.Sound ∧ Hid (BegsH H) ∧ Hid (FirstS wr g va vk kl) ∧ Hid (FInv H kl)) (fun _ _ i _ => l.length - (intOf i).toNat)
  case atStart => exact ⟨0, g3, Ht.new, [[]], Nat.zero_le _, rfl, H3, B3, hid Vt.new_sound, hid BegsH.start, S3, hid FInv.start⟩
  case round =>
    clear H3 B3 S3
    obtain ⟨k, g, H, kl, hk, rfl, HH, HB, HS, HBe, SS, FI⟩ := hrel
    obtain ⟨aa, ca, rfl⟩ : ∃ a c, u4 = .slice a kl.length c := by
      obtain ⟨⟨xs, hrow⟩, -⟩ := SS.out
      obtain ⟨a, c, h, -⟩ := ownsRow.sliceAt hrow.1
      exact ⟨a, c, h⟩
    obtain ⟨ak, ck, rfl⟩ : ∃ a c, u5 = .slice a kl.length c := by
      obtain ⟨-, svs, hrow, -⟩ := SS.out
      obtain ⟨a, c, h, -⟩ := ownsRow.sliceAt hrow.1
      exact ⟨a, c, h⟩
    have hkl := FI.out.len
    have h40 := HH.out.ok.2.2
    have hkl41 : kl.length ≤ 41 := by omega
    have HKL := hid hkl
    clear hkl
    by_cases hlt : k < l.length
    · as_aux_lemma =>
      obtain ⟨b1, o1, rfl, hbb, v1⟩ := SA.out.facts (by omega)
      obtain ⟨p0, p1, p2, p3, p4, p5, p6, p7, -⟩ := v1 k hlt
      have hx100 := H100.out l[k] (List.getElem_mem _)
      have P0 := (HB.out.cell (p := ⟨b1, _, none⟩) hbb).trans p0
      have P1 := (HB.out.cell (p := ⟨b1, _, none⟩) hbb).trans p1
      have P2 := (HB.out.cell (p := ⟨b1, _, none⟩) hbb).trans p2
      have P3 := (HB.out.cell (p := ⟨b1, _, none⟩) hbb).trans p3
      have P4 := (HB.out.cell (p := ⟨b1, _, none⟩) hbb).trans p4
      have P5 := (HB.out.cell (p := ⟨b1, _, none⟩) hbb).trans p5
      have P6 := (HB.out.cell (p := ⟨b1, _, none⟩) hbb).trans p6
      have P7 := (HB.out.cell (p := ⟨b1, _, none⟩) hbb).trans p7
      have hki : (k : Int) < (l.length : Int) := by omega
      have hk0 : (0 : Int) ≤ (k : Int) := by omega
      generalize l[k] = x at *
      have hxm : x.bytes.size ≤ maxLen := by unfold maxLen; omega
      clear v1 p0 p1 p2 p3 p4 p5 p6 p7
      try go_upto_region 12 with (fail)
      have hA4 := Evo.alloc g 43 wr (.cells #[.int .i64 x.kind, .int .i64 x.s, .int .i64 x.mode, .int .i64 x.at_, .int .i64 x.key, .int .i64 x.to_, .int .i64 x.keep, .string x.bytes] 101)
      have Lw4 : Hid (LocC (wr.alloc (.cells #[.int .i64 x.kind, .int .i64 x.s, .int .i64 x.mode, .int .i64 x.at_, .int .i64 x.key, .int .i64 x.to_, .int .i64 x.keep, .string x.bytes] 101)) (extc g wr 43) 43 wr.heap.size 101 [.int .i64 x.kind, .int .i64 x.s, .int .i64 x.mode, .int .i64 x.at_, .int .i64 x.key, .int .i64 x.to_, .int .i64 x.keep, .string x.bytes]) := hid (LocC.new g 43 wr 101 [.int .i64 x.kind, .int .i64 x.s, .int .i64 x.mode, .int .i64 x.at_, .int .i64 x.key, .int .i64 x.to_, .int .i64 x.keep, .string x.bytes])
      have Hw4 := hid (HH.out.frame hA4 (by omega))
      have Bw4 := hid (HB.out.step hA4 (by omega))
      have Sw4 := hid (SS.out.frame hA4 (by omega))
      clear hA4 HH HB SS P0 P1 P2 P3 P4 P5 P6 P7
      generalize wr.alloc (.cells #[.int .i64 x.kind, .int .i64 x.s, .int .i64 x.mode, .int .i64 x.at_, .int .i64 x.key, .int .i64 x.to_, .int .i64 x.keep, .string x.bytes] 101) = w4 at *
      generalize extc g wr 43 = g4 at *
      generalize wr.heap.size = b7 at *
      have c1 : w4.cell? ⟨b7, 1, none⟩ = some (.int .i64 x.s) := Lw4.out.1.cell 1
      obtain ⟨vp, ds, hC⟩ := Hw4.out
      have DE := hid (hall_Deed g4 1 h vp ds H x.s w4 hC)
      by_cases hex : ∃ n D, n < 5 ∧ x.s = (n : Nat) ∧ H.seats n = some D
      · obtain ⟨n, D, hn, hxs, hD⟩ := hex
        have hDA := hC.deed n hn D hD
        have ATC := hid (deed_At g4 (1 + 12 + n) (ds n) D w4 hDA)
        have WRC := hid (deed_Writes g4 (1 + 12 + n) (ds n) D w4 hDA)
        have hDok := hDA.1
        have hWL := writesTo_length D 8
        obtain ⟨bg, hbg, hbl⟩ := deed_beg Hw4.out.ok.2 HBe.out hn hD
        have HBG := hid hbg
        have HDD := hid hD
        have HXS := hid hxs
        have HWN := hid (fun (j : Nat) (hj : j < (writesD D).length) => (ckPs_rise (writesD_ck hDok)).1 (writesD D)[j] (List.getElem_mem _))
        rw [show (if isSeatB x.s = true then seatP ds H.seats x.s.toNat else Value.pointer none) = .pointer (some ⟨ds n, 0, none⟩) by rw [hxs, seatB_nat hn, if_pos rfl, Int.toNat_natCast]; unfold seatP; rw [hD]] at DE
        rw [hbg] at ATC
        clear hC hDA hD hxs hbg
        go_wp2_with fail
        refine DE.out.mono ?_
        rintro e w' ⟨rfl, rfl⟩
        go_wp2_with fail
        refine ATC.out.mono ?_
        rintro e w' ⟨rfl, rfl⟩
        go_wp2_with fail
        (with_reducible refine WRC.out.mono ?_)
        rintro e w5 ⟨a5, c5, rfl, hs5, hb5, -, -⟩
        clear c1 DE ATC WRC
        generalize hwd : writesD D = wd at *
        have HWD := hid hwd
        have hwl8 : wd.length ≤ 8 := by rw [← hwd]; exact hWL
        clear hwd hWL
        have S5 := hid hs5
        have HB5 := hid hb5
        clear hs5 hb5
        obtain ⟨i0, hi, hz0, hz1, hz2⟩ := info_parts Try.infoInt
        have N0 := hid (World.ownsRow_nil w5 w5.heap.size 3 1)
        go_wp2_with fail
        go_loopw [9, 12] (fun o i wr2 => ∃ j : Nat, j ≤ wd.length ∧ i = .int .i64 j ∧ Hid (wr2.ownsRow w5.heap.size 3 1 o j (encI (keysOf (wd.take j)))) ∧ Hid (Below w5.heap.size w5 wr2)) (fun _ i _ => wd.length - (intOf i).toNat)
        case atStart => exact ⟨0, Nat.zero_le _, rfl, N0, hid (Below.refl _ _)⟩
        case round =>
          clear N0
          obtain ⟨j, hj, rfl, HO, HB6⟩ := hrel
          have S6 := hid (sliceAt_below S5.out HB6.out)
          by_cases hjl : j < wd.length
          · obtain ⟨b5, o5, rfl, hv5⟩ := S6.out.ents (by omega)
            obtain ⟨p0, -, -⟩ := hv5 j hjl
            have hjn := HWN.out j hjl
            have hst := hid (encK_take wd j hjl (by omega))
            have hji : (j : Int) < (wd.length : Int) := by omega
            have hj0 : (0 : Int) ≤ (j : Int) := by omega
            generalize wd[j].n = zn at *
            obtain ⟨ao, co, rfl, -, -⟩ := ownsRow.sliceAt HO.out
            have hxl : (encI (keysOf (wd.take j))).length = j := by have := HO.out.1; omega
            generalize encI (keysOf (wd.take j)) = outc at *
            have q1 : j + 1 ≤ maxLen := by unfold maxLen; omega
            have q2 : (j + 1) * 8 ≤ 140737488355328 := by omega
            have hwz := HB6.out.size
            clear hv5 hjn hxl
            go_wp2_with (refine wpList_append_own _ rfl (.tmp 50) (.tmp 56) 34 rfl w5.heap.size 3 i0 (.int .i64 0) 1 8 Try.underlying34 hi hz0 hz1 hz2 rfl (by decide) (.slice ao j co) j outc rfl (HO.out.alloc _) ⟨wr.heap.size, 0, none⟩ 1 1 [.int .i64 zn] rfl rfl ?c1 ?c2 q1 q2 ?c5 ?_)
            case c1 => exact cells_new wr [.int .i64 zn] 3
            case c2 => intro u hu; simp at hu; subst hu; rfl
            case c5 => simp; omega
            intro v' w6 hown' hgrow _
            have HB7 := hid ((HB6.out.alloc HB6.out.size (.cells #[.int .i64 zn] 3)).grown hgrow (by simp; omega) (fun j hj => (HO.out.lt j hj).1))
            have HO7 := hid hown'
            clear hown' hgrow p0
            go_wp2
            go_roundw
            case rel => exact ⟨j + 1, by omega, by go_num, hid (by rw [hst.out]; exact HO7.out), HB7⟩
            case measure => simp [intOf]; omega
          · obtain rfl : j = wd.length := by omega
            rw [List.take_length] at HO
            generalize wr = w6 at *
            have hB6 := HB5.out.trans (HB6.out.mono HB5.out.size)
            have hE6 := Evo.of_below (lo := 0) (hi := 0) g4 42 hB6
            have Hw6 := hid (Hw4.out.frame hE6 (by omega))
            have Bw6 := hid (Bw4.out.step hE6 (by omega))
            have Sw6 := hid (Sw4.out.frame hE6 (by omega))
            have Lw6 := hid (Lw4.out.frame hE6 (by omega))
            obtain ⟨ao, co, rfl, hso, hoo⟩ := ownsRow.sliceAt HO.out
            have WSw6 : Hid (IntSl w6 (extc g4 w4 42) 42 (.slice ao wd.length co) (keysOf wd)) := hid ⟨ao, co, by rw [keysOf_len], hso, fun ad e => ⟨(HO.out.lt _ (hoo ad e)).2, extc_new (Nat.le_trans HB5.out.size (HO.out.lt _ (hoo ad e)).1)⟩⟩
            clear hB6 hE6 hso hoo HO HB6 HB5 S5 Hw4 Bw4 Sw4 Lw4
            generalize extc g4 w4 42 = g6 at *
            obtain ⟨vp, ds, hC⟩ := Hw6.out
            obtain ⟨r0, t, tb, hV⟩ := hC.top
            have r1 := hV.cells.1
            have LA := hid (table_Last g6 (1 + 1 + 1) t H.v.tab w6 hV.2.2.1)
            have FC := hid (doH_first Hw6.out.ok.1 Hw6.out.ok.2 HS.out Hw6.out.deedsOk x)
            have SN := hid (doH_sound Hw6.out.ok.1 Hw6.out.ok.2 HS.out x)
            have BN := hid (doH_begs Hw6.out.ok.1 Hw6.out.ok.2 HS.out HBe.out Hw6.out.deedsOk x)
            clear hC hV
            go_wp2_with fail
            (with_reducible refine LA.out.mono ?_)
            rintro e w' ⟨rfl, rfl⟩
            clear r0 r1 LA
            obtain ⟨c0, c1, c2, c3, c4, c5, c6, c7⟩ : w6.cell? ⟨b7, 0, none⟩ = some (.int .i64 x.kind) ∧ w6.cell? ⟨b7, 1, none⟩ = some (.int .i64 x.s) ∧ w6.cell? ⟨b7, 2, none⟩ = some (.int .i64 x.mode) ∧ w6.cell? ⟨b7, 3, none⟩ = some (.int .i64 x.at_) ∧ w6.cell? ⟨b7, 4, none⟩ = some (.int .i64 x.key) ∧ w6.cell? ⟨b7, 5, none⟩ = some (.int .i64 x.to_) ∧ w6.cell? ⟨b7, 6, none⟩ = some (.int .i64 x.keep) ∧ w6.cell? ⟨b7, 7, none⟩ = some (.string x.bytes) := ⟨Lw6.out.1.cell 0, Lw6.out.1.cell 1, Lw6.out.1.cell 2, Lw6.out.1.cell 3, Lw6.out.1.cell 4, Lw6.out.1.cell 5, Lw6.out.1.cell 6, Lw6.out.1.cell 7⟩
            go_wp2_with fail
            refine (hall_Do g6 1 h H x w6 hxm Hw6.out).mono ?_
            rintro e w7 ⟨a7, c7', g7, rfl, hH7, hE7, -, -⟩
            have H7 := hid hH7
            have B7 := hid (Bw6.out.step hE7 (by omega))
            have S7 := hid (Sw6.out.frame hE7 (by omega))
            have L7 := hid (Lw6.out.frame hE7 (by omega))
            have WS7 := hid (WSw6.out.frame hE7 (by omega))
            clear hH7 hE7 c0 c1 c2 c3 c4 c5 c6 c7
            generalize doH H x = y at *
            obtain ⟨⟨yc, yn, yv, yl⟩, Y2⟩ := y
            go_upto_region 24 with (fail)
            have hA8 := Evo.alloc g7 43 w7 (.cells #[.int .i64 yc, .int .i64 yn, .bool yv.there, .string yv.bytes, .slice a7 yl.length c7'] 103)
            have E8 : Hid (LocC (w7.alloc (.cells #[.int .i64 yc, .int .i64 yn, .bool yv.there, .string yv.bytes, .slice a7 yl.length c7'] 103)) (extc g7 w7 43) 43 w7.heap.size 103 [.int .i64 yc, .int .i64 yn, .bool yv.there, .string yv.bytes, .slice a7 yl.length c7']) := hid (LocC.new g7 43 w7 103 _)
            have H8 := hid (H7.out.frame hA8 (by omega))
            have B8 := hid (B7.out.step hA8 (by omega))
            have S8 := hid (S7.out.frame hA8 (by omega))
            have L8 := hid (L7.out.frame hA8 (by omega))
            have WS8 := hid (WS7.out.frame hA8 (by omega))
            clear hA8 H7 B7 S7 L7
            generalize w7.alloc (.cells #[.int .i64 yc, .int .i64 yn, .bool yv.there, .string yv.bytes, .slice a7 yl.length c7'] 103) = w8 at *
            generalize extc g7 w7 43 = g8 at *
            generalize w7.heap.size = b14 at *
            obtain ⟨vp8, ds8, hC8⟩ := H8.out
            obtain ⟨r0, t8, tb8, hV8⟩ := hC8.top
            have r1 := hV8.cells.1
            have LA8 := hid (table_Last g8 (1 + 1 + 1) t8 Y2.v.tab w8 hV8.2.2.1)
            clear hC8 hV8
            rcases FC.out with ⟨h1, h2⟩ | ⟨n2, D2, hn2, hs2, hD2, hk2, h1, he, hb, h2, h3⟩
            · have ql : ((Y2.v.tab.last : Int) == (H.v.tab.last : Int)) = true := by rw [h1]; simp
              have FI2 := hid (FI.out.same h1 h2)
              clear h1 h2 FI FC
              go_wp2_with fail
              (with_reducible refine LA8.out.mono ?_)
              rintro e w' ⟨rfl, rfl⟩
              go_wp2
              go_roundw
              case rel => exact ⟨k + 1, g8, Y2, kl, by omega, by go_num, H8, B8, SN, BN, S8, FI2⟩
              case measure => simp [intOf]; omega
            · obtain rfl : n2 = n := by have := HXS.out; omega
              obtain rfl : D2 = D := Option.some.inj (hD2.symm.trans HDD.out)
              rw [HWD.out, HBG.out] at hb
              rw [HWD.out] at h3
              have HWB := hid hb
              have FI2 := hid (FI.out.more (l := wd) hwl8 (fun z hz => by
                obtain ⟨i, hi, rfl⟩ := List.getElem_of_mem hz
                have := HWN.out i hi
                omega) h1 h2 h3)
              have ql : ((Y2.v.tab.last : Int) == (H.v.tab.last : Int)) = false := by rw [h1, beq_eq_false_iff_ne]; omega
              have ql1 : ((Y2.v.tab.last : Int) != (H.v.tab.last : Int) + 1) = false := by rw [h1]; simp
              have qn1 : (yn != (H.v.tab.last : Int) + 1) = false := by simp only at he; rw [he]; simp
              have e1 : w8.cell? ⟨b14, 1, none⟩ = some (.int .i64 yn) := E8.out.1.cell 1
              have k0 : w8.cell? ⟨b7, 0, none⟩ = some (.int .i64 x.kind) := L8.out.1.cell 0
              have hkk : ((x.kind != 6) = false) ∨ ((x.kind != 6) = true ∧ (x.kind != 10) = false) := by
                rcases hk2 with hk2 | hk2
                · left; rw [hk2]; rfl
                · right; rw [hk2]; exact ⟨rfl, rfl⟩
              have FIK := hid FI.out
              clear hn2 hs2 hD2 hk2 h1 he hb h2 h3 FC FI
              rcases hkk with q6 | ⟨q6, q10⟩
              all_goals
                go_wp2_with fail
                (with_reducible refine LA8.out.mono ?_)
                rintro e w' ⟨rfl, rfl⟩
                go_wp2_with fail
                (with_reducible refine LA8.out.mono ?_)
                rintro e w' ⟨rfl, rfl⟩
                clear LA8 ql
                go_wp2_with fail
                clear r0 r1 e1 k0 E8 L8
                go_loopw [15] (fun i wr3 => ∃ m : Nat, bg < m ∧ i = .int .i64 m ∧ Hid (Below w8.heap.size w8 wr3)) (fun i _ => kl.length - (intOf i).toNat)
                case atStart => exact ⟨bg + 1, by omega, by go_num, hid (Below.refl _ _)⟩
                case round =>
                  obtain ⟨m, hbm, rfl, HB9⟩ := hrel
                  generalize wr = w9 at *
                  by_cases hmk : m < kl.length
                  · have hmi : (m : Int) < (kl.length : Int) := by omega
                    have hm0 : (0 : Int) ≤ (m : Int) := by omega
                    go_wp2_with fail
                    go_loopw [16] (fun i wr4 => ∃ j : Nat, j ≤ wd.length ∧ i = .int .i64 j ∧ Hid (Below w8.heap.size w8 wr4)) (fun i _ => wd.length - (intOf i).toNat)
                    case atStart => exact ⟨0, Nat.zero_le _, rfl, HB9⟩
                    case round =>
                      obtain ⟨j, hj, rfl, HB10⟩ := hrel
                      by_cases hjl : j < wd.length
                      · have hji : (j : Int) < (wd.length : Int) := by omega
                        have hj0 : (0 : Int) ≤ (j : Int) := by omega
                        obtain ⟨-, svs, hkrow, hsls⟩ := S8.out
                        obtain ⟨vm, hvm, am, cm, rfl, hsm, -⟩ := hsls.get m hmk
                        obtain ⟨rk, ck', hvk, -, hrk⟩ := ownsRow.some hkrow.1 (by omega)
                        obtain ⟨rfl, -, rfl⟩ := Value.slice.inj hvk
                        have hsvl : svs.length = kl.length := hsls.length
                        have kc := hkrow.1.cellAt m (by omega)
                        rw [hvm] at kc
                        have KC := (below_cell HB10.out (show (⟨rk, m, none⟩ : Addr).block < w8.heap.size from hrk)).trans kc
                        obtain ⟨aw', cw', hwv, hws, -⟩ := WS8.out
                        obtain ⟨rfl, -, rfl⟩ := Value.slice.inj hwv
                        have hws2 := sliceAt_below hws HB10.out
                        obtain ⟨rw', ow', rfl, WCA⟩ : ∃ r o, ao = some ⟨r, o, none⟩ ∧ ∀ i u, (encI (keysOf wd))[i]? = some u → wr.cell? ⟨r, o + i, none⟩ = some u := by
                          rcases hws2 with h | ⟨b, o, e, h⟩
                          · have e := congrArg List.length h; rw [encI_length, keysOf_len, List.length_nil] at e; omega
                          · exact ⟨b, o, e, h⟩
                        have wc := WCA j _ (keysOf_get wd j hjl)
                        have INQ := hid (fun mm => ref_InQ am cm kl[m] (wd[j].n.toNat : Nat) wr mm (Nat.le_trans (FIK.out.short m hmk) (by omega)) (sliceAt_below hsm HB10.out))
                        rw [FIK.out.apart hmk (by omega) (HWB.out _ (List.getElem_mem _))] at INQ
                        generalize wd[j].n.toNat = zk at wc INQ
                        clear hkrow hsls hsm hvk hws hwv hws2 WCA kc hsvl hvm
                        go_wp2_with fail
                        go_quiet ((go_at_call 64; exact INQ.out _))
                        go_wp2
                        go_roundw
                        case rel => exact ⟨j + 1, by omega, by go_num, hid (below_dN HB10.out _)⟩
                        case measure => simp [intOf]; omega
                      · obtain rfl : j = wd.length := by omega
                        go_wp2
                        go_roundw
                        case rel => exact ⟨m + 1, by omega, by go_num, HB10⟩
                        case measure => simp [intOf]; omega
                  · have hge : (kl.length : Int) ≤ (m : Int) := by omega
                    have H9 := hid (H8.out.below HB9.out)
                    have B9 := hid (B8.out.below' HB9.out)
                    have S9 := hid (S8.out.frame (Evo.of_same (lo := 0) (hi := 0) HB9.out) (by omega))
                    have WS9 := hid (WS8.out.frame (Evo.of_same (lo := 0) (hi := 0) HB9.out) (by omega))
                    obtain ⟨⟨xs, hrow⟩, svs, hkrow, hsls⟩ := S9.out
                    obtain ⟨ia, hia, hza0, hza1, hza2⟩ := info_parts Try.infoInt
                    obtain ⟨ib, hib, hzb0, hzb1, hzb2⟩ := info_parts Try.infoIs
                    have q1 : kl.length + 1 ≤ maxLen := by unfold maxLen; omega
                    have q2 : (kl.length + 1) * 8 ≤ 140737488355328 := by omega
                    have q3 : (kl.length + 1) * 24 ≤ 140737488355328 := by omega
                    have hEa := Evo.alloc g8 43 w9 (.cells #[.int .i64 bg] 3)
                    have RA := hid (hrow.frame hEa (by omega))
                    have RK := hid (hkrow.frame hEa (by omega))
                    have SL := hid (hsls.frame hEa (by omega))
                    have WS := hid (WS9.out.frame hEa (by omega))
                    have HHa := hid (H9.out.frame hEa (by omega))
                    have BBa := hid (B9.out.step hEa (by omega))
                    clear hEa hrow hkrow hsls S9 WS9 H9 B9 hbm hmk
                    generalize extc g8 w9 43 = g9 at *
                    go_wp2_with (first
                      | (refine wpList_append2 rfl (.tmp 130) (.tmp 132) 34 rfl 3 ia (.int .i64 0) 1 8 Try.underlying34 hia hza0 hza1 hza2 rfl (by decide) (.slice aa kl.length ca) kl.length xs rfl RA.out.1 ⟨w9.heap.size, 0, none⟩ 1 1 [.int .i64 bg] rfl rfl (cells_new w9 [.int .i64 bg] 3) (fun u hu => by simp at hu; subst hu; rfl) q1 q2 ?_; intro va2 w10 ho10 hg10 hf10; obtain ⟨hR10, hE10⟩ := RA.out.grown ho10 hg10 hf10; have hEb := Evo.alloc (extc g9 (w9.alloc (.cells #[.int .i64 bg] 3)) 40) 43 w10 (.cells #[.slice ao wd.length co] 34); have RA2 := hid (hR10.frame hEb (by omega)); have RK2 := hid ((RK.out.frame hE10 (by omega)).frame hEb (by omega)); have SL2 := hid ((SL.out.frame hE10 (by omega)).frame hEb (by omega)); have WS2 := hid ((WS.out.frame hE10 (by omega)).frame hEb (by omega)); have HH2 := hid ((HHa.out.frame hE10 (by omega)).frame hEb (by omega)); have BB2 := hid ((BBa.out.step hE10 (by omega)).step hEb (by omega)); clear ho10 hg10 hf10 hR10 hE10 hEb RA RK SL WS HHa BBa; generalize extc (extc g9 (w9.alloc (.cells #[.int .i64 bg] 3)) 40) w10 43 = g11 at *)
                      | (refine wpList_append2 rfl (.tmp 134) (.tmp 136) 110 rfl 34 ib (.slice none 0 0) 1 24 Try.underlying110 hib hzb0 hzb1 hzb2 rfl (by decide) (.slice ak kl.length ck) kl.length svs rfl RK2.out.1 ⟨w10.heap.size, 0, none⟩ 1 1 [.slice ao wd.length co] rfl rfl (cells_new w10 [.slice ao wd.length co] 34) (fun u hu => by simp at hu; subst hu; rfl) q1 q3 ?_; intro vk2 w12 ho12 hg12 hf12; obtain ⟨hR12, hE12⟩ := RK2.out.grown ho12 hg12 hf12; have RK3 := hid hR12; have RA3 := hid (RA2.out.frame hE12 (by omega)); have SL3 := hid (SL2.out.frame hE12 (by omega)); have WS3 := hid (WS2.out.frame hE12 (by omega)); have HH3 := hid (HH2.out.frame hE12 (by omega)); have BB3 := hid (BB2.out.step hE12 (by omega)); clear ho12 hg12 hf12 hR12 hE12 RK2 RA2 SL2 WS2 HH2 BB2))
                    go_roundw
                    case rel => exact ⟨k + 1, _, Y2, kl ++ [keysOf wd], by omega, by go_num, HH3, BB3, SN, BN, hid ⟨⟨_, by rw [List.length_append]; exact RA3.out⟩, _, by rw [List.length_append]; exact RK3.out, SL3.out.snoc WS3.out⟩, FI2⟩
                    case measure => simp [intOf]; omega
      · have DE2 : (if isSeatB x.s = true then seatP ds H.seats x.s.toNat else Value.pointer none) = .pointer none := by
          cases hsb : isSeatB x.s with
          | false => rfl
          | true =>
            obtain ⟨n, hn, hxs⟩ := seat_nat hsb
            rw [if_pos rfl, hxs, Int.toNat_natCast]
            unfold seatP
            cases hd : H.seats n with
            | none => rfl
            | some D => exact absurd ⟨n, D, hn, hxs, hd⟩ hex
        rw [DE2] at DE
        have HEX := hid hex
        clear hex DE2 hC
        go_wp2_with fail
        refine DE.out.mono ?_
        rintro e w' ⟨rfl, rfl⟩
        clear c1 DE
        obtain ⟨vp, ds, hC⟩ := Hw4.out
        obtain ⟨r0, t, tb, hV⟩ := hC.top
        have r1 := hV.cells.1
        have LA := hid (table_Last g4 (1 + 1 + 1) t H.v.tab w4 hV.2.2.1)
        have FC := hid (doH_first Hw4.out.ok.1 Hw4.out.ok.2 HS.out Hw4.out.deedsOk x)
        have SN := hid (doH_sound Hw4.out.ok.1 Hw4.out.ok.2 HS.out x)
        have BN := hid (doH_begs Hw4.out.ok.1 Hw4.out.ok.2 HS.out HBe.out Hw4.out.deedsOk x)
        clear hC hV
        go_wp2_with fail
        (with_reducible refine LA.out.mono ?_)
        rintro e w' ⟨rfl, rfl⟩
        clear r0 r1 LA
        obtain ⟨c0, c1, c2, c3, c4, c5, c6, c7⟩ : w4.cell? ⟨b7, 0, none⟩ = some (.int .i64 x.kind) ∧ w4.cell? ⟨b7, 1, none⟩ = some (.int .i64 x.s) ∧ w4.cell? ⟨b7, 2, none⟩ = some (.int .i64 x.mode) ∧ w4.cell? ⟨b7, 3, none⟩ = some (.int .i64 x.at_) ∧ w4.cell? ⟨b7, 4, none⟩ = some (.int .i64 x.key) ∧ w4.cell? ⟨b7, 5, none⟩ = some (.int .i64 x.to_) ∧ w4.cell? ⟨b7, 6, none⟩ = some (.int .i64 x.keep) ∧ w4.cell? ⟨b7, 7, none⟩ = some (.string x.bytes) := ⟨Lw4.out.1.cell 0, Lw4.out.1.cell 1, Lw4.out.1.cell 2, Lw4.out.1.cell 3, Lw4.out.1.cell 4, Lw4.out.1.cell 5, Lw4.out.1.cell 6, Lw4.out.1.cell 7⟩
        go_wp2_with fail
        refine (hall_Do g4 1 h H x w4 hxm Hw4.out).mono ?_
        rintro e w7 ⟨a7, c7', g7, rfl, hH7, hE7, -, -⟩
        have H7 := hid hH7
        have B7 := hid (Bw4.out.step hE7 (by omega))
        have S7 := hid (Sw4.out.frame hE7 (by omega))
        have L7 := hid (Lw4.out.frame hE7 (by omega))
        clear hH7 hE7 c0 c1 c2 c3 c4 c5 c6 c7
        generalize doH H x = y at *
        obtain ⟨⟨yc, yn, yv, yl⟩, Y2⟩ := y
        go_upto_region 24 with (fail)
        have hA8 := Evo.alloc g7 43 w7 (.cells #[.int .i64 yc, .int .i64 yn, .bool yv.there, .string yv.bytes, .slice a7 yl.length c7'] 103)
        have E8 : Hid (LocC (w7.alloc (.cells #[.int .i64 yc, .int .i64 yn, .bool yv.there, .string yv.bytes, .slice a7 yl.length c7'] 103)) (extc g7 w7 43) 43 w7.heap.size 103 [.int .i64 yc, .int .i64 yn, .bool yv.there, .string yv.bytes, .slice a7 yl.length c7']) := hid (LocC.new g7 43 w7 103 _)
        have H8 := hid (H7.out.frame hA8 (by omega))
        have B8 := hid (B7.out.step hA8 (by omega))
        have S8 := hid (S7.out.frame hA8 (by omega))
        have L8 := hid (L7.out.frame hA8 (by omega))
        clear hA8 H7 B7 S7 L7
        generalize w7.alloc (.cells #[.int .i64 yc, .int .i64 yn, .bool yv.there, .string yv.bytes, .slice a7 yl.length c7'] 103) = w8 at *
        generalize extc g7 w7 43 = g8 at *
        generalize w7.heap.size = b14 at *
        obtain ⟨vp8, ds8, hC8⟩ := H8.out
        obtain ⟨r0, t8, tb8, hV8⟩ := hC8.top
        have r1 := hV8.cells.1
        have LA8 := hid (table_Last g8 (1 + 1 + 1) t8 Y2.v.tab w8 hV8.2.2.1)
        clear hC8 hV8
        rcases FC.out with ⟨h1, h2⟩ | ⟨n, D, hn, hs, hD, hk, h1, he, hb, h2, h3⟩
        · have ql : ((Y2.v.tab.last : Int) == (H.v.tab.last : Int)) = true := by rw [h1]; simp
          have FI2 := hid (FI.out.same h1 h2)
          clear h1 h2 FI FC
          go_wp2_with fail
          (with_reducible refine LA8.out.mono ?_)
          rintro e w' ⟨rfl, rfl⟩
          go_wp2
          go_roundw
          case rel => exact ⟨k + 1, g8, Y2, kl, by omega, by go_num, H8, B8, SN, BN, S8, FI2⟩
          case measure => simp [intOf]; omega
        · exact absurd ⟨n, D, hn, hs, hD⟩ HEX.out
    · as_aux_lemma =>
      have hge : (l.length : Int) ≤ (k : Int) := by omega
      clear SA
      obtain ⟨vp, ds, hC⟩ := HH.out
      obtain ⟨r0, t, tb, hV⟩ := hC.top
      have r1 := hV.cells.1
      have LA := hid (table_Last g (1 + 1 + 1) t H.v.tab wr hV.2.2.1)
      have hfin : ((kl.length : Int) == (H.v.tab.last : Int) + 1) = true := by rw [HKL.out]; simp
      clear hC hV
      go_wp2_with fail
      (with_reducible refine LA.out.mono ?_)
      rintro e w' ⟨rfl, rfl⟩
      go_wp2
      go_ret
      exact ⟨rfl, B1.out.trans (HB.out.below.mono B1.out.size)⟩

end Go.Proofs.Ytoiobhcgpajogac
