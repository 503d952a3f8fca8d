/- The walk of VaultDoes. -/
import Derived.Test.YtoiobhcgpajogacHouse11
import Derived.Test.YtoiobhcgpajogacHouse12
namespace Go.Proofs.Ytoiobhcgpajogac
open Go.RowKit

set_option maxHeartbeats 4000000 in
set_option maxRecDepth 100000 in
theorem walk_VaultDoes (a : Option Addr) (cap : Nat) (l : List Vst) (w : World) (hl : l.length ≤ 9223372036854775807) (hA : VstepsAt w a l) :
    Calls Try.prog 4 #[.slice a l.length cap] w (TruePost w) := by
  have HA := hid hA
  clear hA
  go_enter Try.func4, Try.ntmps4
  go_wp2_with fail
  (with_reducible refine (law_vaultBegun w).mono ?_)
  rintro e w1 ⟨rfl, hb⟩
  have B1 := hid hb
  clear hb
  go_wp2_with fail
  (with_reducible refine (law_greatVault a cap l w1 hl (HA.out.below B1.out)).mono ?_)
  rintro e w' ⟨rfl, rfl⟩
  cases hg : greatV l with
  | true =>
    clear hg
    go_wp2
    go_ret
    exact ⟨rfl, B1.out⟩
  | false =>
  obtain ⟨h150, h100⟩ := greatV_false hg
  have H100 := hid h100
  have VA := hid (HA.out.below B1.out)
  clear hg h100 HA
  go_wp2_with fail
  (with_reducible refine (law_newHouse w1).mono ?_)
  rintro e w2 ⟨h, vp, c, g, rfl, hE, hH⟩
  have S2 : Hid (HouseAt w2 g 1 h 0 Vt.new) := hid ⟨vp, c, _, _, 41, 0, _, hH, fun i hi => by omega⟩
  have C2 := hid ((Base.start w1).step hE (by omega))
  have q0 := hH.loc.1.cell 0
  simp only [List.getElem?_cons_zero] at q0
  clear hE hH
  go_wp2_with fail
  go_loopw [4] (fun i wr => ∃ (k : Nat) (g : Nat → Nat) (V : Vt), k ≤ l.length ∧ i = .int .i64 k ∧ Hid (HouseAt wr g 1 h (8 * k) V) ∧ Hid (Base w1.heap.size w1 g wr) ∧ Hid V.Sound) (fun i _ => l.length - (intOf i).toNat)
  case atStart => exact ⟨0, g, Vt.new, Nat.zero_le _, rfl, S2, C2, hid Vt.new_sound⟩
  case round =>
    clear S2 C2 q0
    obtain ⟨k, g, V, hk, rfl, H, HB, HS⟩ := hrel
    by_cases hlt : k < l.length
    · obtain ⟨b, off, rfl, hbb, hv⟩ := VA.out.facts (by omega)
      obtain ⟨p0, p1, p2, p3, p4, p5, p6, p7, p8⟩ := hv k hlt
      have c0 := (HB.out.cell (p := ⟨b, _, none⟩) hbb).trans p0
      have c1 := (HB.out.cell (p := ⟨b, _, none⟩) hbb).trans p1
      have c2 := (HB.out.cell (p := ⟨b, _, none⟩) hbb).trans p2
      have c3 := (HB.out.cell (p := ⟨b, _, none⟩) hbb).trans p3
      have c4 := (HB.out.cell (p := ⟨b, _, none⟩) hbb).trans p4
      have c5 := (HB.out.cell (p := ⟨b, _, none⟩) hbb).trans p5
      have c6 := (HB.out.cell (p := ⟨b, _, none⟩) hbb).trans p6
      have c7 := (HB.out.cell (p := ⟨b, _, none⟩) hbb).trans p7
      have hki : (k : Int) < (l.length : Int) := by omega
      have hk0 : (0 : Int) ≤ (k : Int) := by omega
      generalize l[k] = y at *
      clear p0 p1 p2 p3 p4 p5 p6 p7 hv
      have ST := hid (house_step g 1 h (8 * k) V y wr (Nat.le_refl _) (by omega) p8 H.out)
      go_wp2_with fail
      refine ST.out.mono ?_
      rintro e w3 ⟨rfl, g3, V3, hH, hS, hK⟩
      have H3 := hid hH
      have HS3 := hid (hS HS.out)
      have HB3 := hid (hK _ _ HB.out)
      clear hH hS hK ST H HS HB c0 c1 c2 c3 c4 c5 c6 c7
      by_cases hm : k % 4 = 0
      · have hm1 : (k : Int) % 4 = 0 := by omega
        obtain ⟨vp, c, vd, vw, nx, n, x, hC, -⟩ := H3.out
        obtain ⟨t, s, hT⟩ := hC.toT
        have SM := hid (house_same g3 1 h vp c t s vd vw nx _ n V3 x w3 hT)
        clear hC hT
        go_wp2_with fail
        refine SM.out.mono ?_
        rintro e w4 ⟨rfl, hb⟩
        have H4 : Hid (HouseAt w4 g3 1 h (8 * (k + 1)) V3) := hid (by
          obtain ⟨vp, c, vd, vw, nx, n, x, hC, hDE⟩ := H3.out
          exact ⟨vp, c, vd, vw, nx, n, x, (hC.below hb).moreN (by omega), hDE⟩)
        have HB4 := hid (HB3.out.below' hb)
        clear hb H3 HB3
        go_wp2_with fail
        go_roundw
        case rel => exact ⟨k + 1, g3, V3, by omega, by go_num, H4, HB4, HS3⟩
        case measure => simp [intOf]; omega
      · have hm1 : (k : Int) % 4 ≠ 0 := by omega
        have hm2 : ((k : Int) % 4 == 0) = false := by simpa using hm1
        go_wp2_with fail
        go_roundw
        case rel => exact ⟨k + 1, g3, V3, by omega, by go_num, (by exact H3), HB3, HS3⟩
        case measure => simp [intOf]; omega
    · have hki : (l.length : Int) ≤ (k : Int) := by omega
      obtain ⟨vp, c, vd, vw, nx, n, x, hC, -⟩ := H.out
      obtain ⟨t, s, hT⟩ := hC.toT
      have SM := hid (house_same g 1 h vp c t s vd vw nx _ n V x wr hT)
      clear hC hT
      go_wp2_with fail
      refine SM.out.mono ?_
      rintro e w4 ⟨rfl, hb⟩
      have B4 := hid (B1.out.trans ((HB.out.below' hb).below.mono B1.out.size))
      clear hb
      go_wp2_with fail
      go_ret
      exact ⟨rfl, B4.out⟩

end Go.Proofs.Ytoiobhcgpajogac
