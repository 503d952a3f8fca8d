/- A desk, in plain words: what a line asks for, and what is told. -/
import Derived.Test.YtoiobhcgpajogabGreatDoorHall5
import Derived.Test.YtoiobhcgpajogabGreatDoorText1
import Derived.Lib.AtoiAll
import Derived.Lib.Itoa
import Derived.Lib.Split
import Derived.Test.YtoiobhcgpajogabGreatDoorHall6
import Derived.Lib.ItoaLen
namespace Go.Proofs.YtoiobhcgpajogabGreatDoor
open Go.RowKit

def b_get : List UInt8 := [103, 101, 116]
def b_drop : List UInt8 := [100, 114, 111, 112]
def b_list : List UInt8 := [108, 105, 115, 116]
def b_commit : List UInt8 := [99, 111, 109, 109, 105, 116]
def b_abort : List UInt8 := [97, 98, 111, 114, 116]
def b_clear : List UInt8 := [99, 108, 101, 97, 114]
def b_crash : List UInt8 := [99, 114, 97, 115, 104]
def b_tear : List UInt8 := [116, 101, 97, 114]
def b_put : List UInt8 := [112, 117, 116]
def b_shot : List UInt8 := [115, 104, 111, 116]
def b_sure : List UInt8 := [115, 117, 114, 101]
def b_look : List UInt8 := [108, 111, 111, 107]
def b_last : List UInt8 := [108, 97, 115, 116]
def b_what : List UInt8 := [119, 104, 97, 116]
def b_no : List UInt8 := [110, 111]
def b_ok : List UInt8 := [111, 107]
def b_has : List UInt8 := [104, 97, 115]
def b_all : List UInt8 := [97, 108, 108]

/-- The words of a line. -/
def wordsD (s : List UInt8) : List (List UInt8) := (Lib.split s [32]).filter (fun w => decide (w ≠ []))

def numD (s : List UInt8) : Option Int := match Lib.atoiAll s with | .ok v => if Lib.itoa v = s then some v else none | _ => none

def numsD : List (List UInt8) → Option (List Int)
  | [] => some []
  | s :: l => match numD s with | none => none | some v => (numsD l).map (v :: ·)

/-- A word of a kind of steps: the kind, how many numbers it has. -/
def wordD (w : List UInt8) : Int × Nat :=
  if w = b_get then (2, 2) else if w = b_drop then (4, 2) else if w = b_list then (5, 3) else if w = b_commit then (6, 1) else if w = b_abort then (7, 1)
  else if w = b_clear then (8, 0) else if w = b_crash then (9, 0) else if w = b_tear then (10, 2) else (0, 0)

def stepD (w : List UInt8) (n : List Int) : Option St :=
  if (wordD w).1 = 0 ∨ n.length ≠ (wordD w).2 then none
  else some (if (wordD w).1 = 10 then ⟨10, n.getD 0 0, 0, 0, 0, 0, n.getD 1 0, ByteArray.empty⟩ else ⟨(wordD w).1, n.getD 0 0, 0, 0, n.getD 1 0, n.getD 2 0, 0, ByteArray.empty⟩)

def modeD (w : List UInt8) : Int := if w = [] then 0 else if w = b_shot then 1 else if w = b_sure then 2 else if w = b_look then 3 else -1

def beginD (w : List UInt8) (n : List Int) : Option St :=
  if modeD w = 3 ∧ n.length = 2 then some ⟨1, n.getD 0 0, 3, n.getD 1 0, 0, 0, 0, ByteArray.empty⟩
  else if 0 < modeD w ∧ modeD w ≠ 3 ∧ n.length = 1 then some ⟨1, n.getD 0 0, modeD w, 0, 0, 0, 0, ByteArray.empty⟩
  else none

/-- What is behind a word 'put'. -/
def putD3 (l : List (List UInt8)) : Option St :=
  match l with
  | [a, b, c] =>
    match numsD [a, b] with
    | some [s, k] => if c.head? = some 61 then (meanL c.tail).map (fun v => ⟨3, s, 0, 0, k, 0, 0, ⟨v.toArray⟩⟩) else none
    | _ => none
  | _ => none

inductive AskD where
  | nothing
  | what
  | last
  | step (x : St)

def askD : List (List UInt8) → AskD
  | [] => .nothing
  | w :: r =>
    match (if w = b_put then putD3 r else none) with
    | some x => .step x
    | none =>
      match numsD r with
      | none => .what
      | some n =>
        match stepD w n with
        | some x => .step x
        | none =>
          match beginD w n with
          | some x => .step x
          | none => if w = b_last ∧ n = [] then .last else .what

def pairsD (l : List Ent) : List UInt8 := l.flatMap (fun p => 32 :: (Lib.itoa p.n ++ valL p.v))

/-- What a step tells. -/
def tellD (x : St) (e : Evt) : List UInt8 :=
  if e.code ≠ 0 then b_no ++ 32 :: Lib.itoa e.code
  else if x.kind = 2 then b_has ++ 32 :: valL e.v
  else if x.kind = 5 then b_all ++ pairsD e.l
  else if x.kind = 6 ∨ x.kind = 8 ∨ x.kind = 10 then b_ok ++ 32 :: Lib.itoa e.n
  else b_ok

/-- A line: what is told, and the hall behind it. -/
def lineD (H : Ht) (s : List UInt8) : List UInt8 × Ht :=
  match askD (wordsD s) with
  | .nothing => ([], H)
  | .what => (b_what ++ [10], H)
  | .last => (b_last ++ 32 :: (Lib.itoa H.v.tab.last ++ 32 :: (Lib.itoa (firstT H.v.tab) ++ 32 :: (Lib.itoa (leastH H) ++ [10]))), H)
  | .step x => (tellD x (doH H x).1 ++ [10], (doH H x).2)

def linesD (r : List UInt8 × Ht) (l : List (List UInt8)) : List UInt8 × Ht := l.foldl (fun r s => (r.1 ++ (lineD r.2 s).1, (lineD r.2 s).2)) r

theorem linesD_append (r : List UInt8 × Ht) (l m : List (List UInt8)) : linesD r (l ++ m) = linesD (linesD r l) m := List.foldl_append ..

theorem linesD_told (H : Ht) (t : List UInt8) (l : List (List UInt8)) : linesD (t, H) l = (t ++ (linesD ([], H) l).1, (linesD ([], H) l).2) := by
  induction l generalizing H t with
  | nil => simp [linesD]
  | cons s l ih =>
    show linesD (t ++ (lineD H s).1, (lineD H s).2) l = (t ++ (linesD ([] ++ (lineD H s).1, (lineD H s).2) l).1, (linesD ([] ++ (lineD H s).1, (lineD H s).2) l).2)
    rw [ih (lineD H s).2 (t ++ (lineD H s).1), ih (lineD H s).2 ([] ++ (lineD H s).1)]
    simp

end Go.Proofs.YtoiobhcgpajogabGreatDoor

/- A desk, plain laws: what an event may hold, how much a line tells. -/
namespace Go.Proofs.YtoiobhcgpajogabGreatDoor
open Go.RowKit

/-- All values may be. -/
def SmallT (T : Tab) : Prop := ∀ k, ∀ x ∈ T.l k, ckV x.v = 0

theorem ckV_val0 : ckV Val.zero = 0 := by simp [ckV, Val.zero]

theorem lastLe_small (a : Int) : ∀ (l : List Ent) (o : Val), (∀ x ∈ l, ckV x.v = 0) → ckV o = 0 → ckV (l.foldl (fun o v => if v.n ≤ a then v.v else o) o) = 0
  | [], o, _, ho => ho
  | x :: l, o, h, ho => by
    rw [List.foldl_cons]
    refine lastLe_small a l _ (fun y hy => h y (List.mem_cons_of_mem _ hy)) ?_
    split
    · exact h x List.mem_cons_self
    · exact ho

theorem readC_small {l : List Ent} (h : ∀ x ∈ l, ckV x.v = 0) (a : Int) : ckV (readC l a).1 = 0 ∧ 0 ≤ (readC l a).2 ∧ (readC l a).2 ≤ 16 := by
  unfold readC
  split
  · exact ⟨ckV_val0, by simp, by simp⟩
  · split
    · exact ⟨ckV_val0, by simp, by simp⟩
    · exact ⟨lastLe_small a l _ h ckV_val0, by simp, by simp⟩

theorem readT_small {T : Tab} (h : SmallT T) (k a : Int) : ckV (readT T k a).1 = 0 ∧ 0 ≤ (readT T k a).2 ∧ (readT T k a).2 ≤ 16 := by
  unfold readT
  split
  · exact ⟨ckV_val0, by simp, by simp⟩
  · exact readC_small (h _) a

theorem getD_small {T : Tab} (h : SmallT T) {D : Ded} (hD : D.Ok) (k : Int) : ckV (getD D T k).1.1 = 0 ∧ 0 ≤ (getD D T k).1.2 ∧ (getD D T k).1.2 ≤ 16 := by
  unfold getD
  split
  · exact ⟨ckV_val0, by simp, by simp⟩
  · split
    · rename_i v hv
      exact ⟨hD.1 _ v hv, by simp, by simp⟩
    · exact readT_small h k D.beg

theorem ckV_range (v : Val) : 0 ≤ ckV v ∧ ckV v ≤ 16 := by rcases ckV_cases v with h | h | h <;> rw [h] <;> simp

theorem ckPs_rng : ∀ (w : List Ent) (p : Int), 0 ≤ ckPs p w ∧ ckPs p w ≤ 16
  | [], _ => by simp [ckPs]
  | x :: w, p => by
    unfold ckPs
    split
    · simp
    · split
      · simp
      · split
        · exact ckV_range _
        · exact ckPs_rng w _

theorem putD_range (D : Ded) (k : Int) (v : Val) : 0 ≤ (putD D k v).1 ∧ (putD D k v).1 ≤ 16 := by
  unfold putD
  split
  · simp
  · split
    · simp
    · split
      · exact ckV_range _
      · simp

theorem listDGo_small {T : Tab} (h : SmallT T) : ∀ (ks : List Nat) {D : Ded}, D.Ok → ∀ out : List Ent, (∀ k ∈ ks, k < 8) → (∀ x ∈ out, 0 ≤ x.n ∧ x.n < 8 ∧ ckV x.v = 0) →
    (∀ x ∈ (listDGo T ks D out).1.1, 0 ≤ x.n ∧ x.n < 8 ∧ ckV x.v = 0) ∧ 0 ≤ (listDGo T ks D out).1.2 ∧ (listDGo T ks D out).1.2 ≤ 16
  | [], D, _, out, _, ho => ⟨ho, by simp [listDGo], by simp [listDGo]⟩
  | k :: ks, D, hD, out, hk, ho => by
    have g := getD_small h hD k
    rw [listDGo]
    split
    · exact ⟨nofun, g.2⟩
    · refine listDGo_small h ks (getD_ok hD T k) _ (fun j hj => hk j (List.mem_cons_of_mem _ hj)) ?_
      have hk8 := hk k List.mem_cons_self
      split
      · intro x hx
        rcases List.mem_append.1 hx with hx | hx
        · exact ho x hx
        · rw [List.mem_singleton] at hx; subst hx
          exact ⟨by simp, by simp only; omega, g.1⟩
      · exact ho

theorem listD_small {T : Tab} (h : SmallT T) {D : Ded} (hD : D.Ok) (f t : Int) :
    (∀ x ∈ (listD D T f t).1.1, 0 ≤ x.n ∧ x.n < 8 ∧ ckV x.v = 0) ∧ 0 ≤ (listD D T f t).1.2 ∧ (listD D T f t).1.2 ≤ 16 := by
  unfold listD
  split
  · exact ⟨nofun, by simp, by simp⟩
  · refine listDGo_small h _ hD _ (fun k hk => ?_) nofun
    have := List.mem_range.1 (List.mem_of_mem_drop hk)
    omega

theorem listDGo_few (T : Tab) : ∀ (ks : List Nat) (D : Ded) (out : List Ent), (listDGo T ks D out).1.1.length ≤ out.length + ks.length
  | [], _, _ => by simp [listDGo]
  | k :: ks, D, out => by
    rw [listDGo]
    split
    · simp
    · refine Nat.le_trans (listDGo_few T ks _ _) ?_
      split <;> simp <;> omega

theorem listD_few (D : Ded) (T : Tab) (f t : Int) : (listD D T f t).1.1.length ≤ 8 := by
  unfold listD
  split
  · simp
  · have := listDGo_few T ((List.range (t.toNat + 1)).drop f.toNat) D []
    simp only [List.length_drop, List.length_range, List.length_nil] at this
    omega

theorem putC_small {l : List Ent} (h : ∀ x ∈ l, ckV x.v = 0) (n : Int) (v : Val) : ∀ x ∈ (putC l n v).2, ckV x.v = 0 := by
  unfold putC
  split
  · exact h
  · rename_i hv
    split
    · exact h
    · intro x hx
      rcases List.mem_append.1 hx with hx | hx
      · exact h x hx
      · rw [List.mem_singleton] at hx; subst hx; simpa using hv

theorem puts_small (n : Int) : ∀ (w : List Ent) (l : Nat → List Ent), (∀ k, ∀ x ∈ l k, ckV x.v = 0) → ∀ k, ∀ x ∈ putsT n l w k, ckV x.v = 0
  | [], _, h => h
  | y :: w, l, h => by
    refine puts_small n w _ (fun k x hx => ?_)
    replace hx : x ∈ upd l y.n.toNat (putC (l y.n.toNat) n y.v).2 k := hx
    by_cases e : k = y.n.toNat
    · subst e
      rw [upd_same] at hx
      exact putC_small (h _) n y.v x hx
    · rw [upd_other _ _ e] at hx
      exact h k x hx

theorem write_small {T : Tab} (h : SmallT T) (w : List Ent) : SmallT (writeT T w).2 := by
  unfold writeT
  split
  · exact h
  · split
    · exact h
    · exact puts_small _ w _ h

theorem writeAll_small : ∀ (L : List (List Ent)) {T : Tab}, SmallT T → SmallT (writeAll T L)
  | [], _, h => h
  | w :: L, _, h => writeAll_small L (write_small h w)

theorem new_small : SmallT Tab.new := by
  intro k x hx
  simp only [Tab.new, List.mem_singleton] at hx
  subst hx
  exact ckV_val0

theorem clearGo_small (least : Int) : ∀ (ks : List Nat) (x : Nat × Tab), SmallT x.2 → SmallT (ks.foldl (fun x k => (x.1 + clearK least (x.2.l k), (⟨upd x.2.l k ((x.2.l k).drop (clearK least (x.2.l k))), x.2.last⟩ : Tab))) x).2
  | [], _, h => h
  | k :: ks, x, h => by
    refine clearGo_small least ks _ (fun j y hy => ?_)
    simp only at hy
    by_cases e : j = k
    · subst e
      rw [upd_same] at hy
      exact h j y (List.mem_of_mem_drop hy)
    · rw [upd_other _ _ e] at hy
      exact h j y hy

theorem clear_small {T : Tab} (h : SmallT T) (least : Int) : SmallT (clearT T least).2 := clearGo_small least _ _ h

theorem commit_small {V : Vt} (h : SmallT V.tab) (D : Ded) : SmallT (commitV V D).2.tab := by
  unfold commitV
  split
  · exact h
  · split
    · exact h
    · split
      · exact h
      · exact write_small h _

theorem crash_small (G : Lg) : SmallT (crashV G).tab := writeAll_small _ new_small

theorem doH_small {H : Ht} (h : SmallT H.v.tab) (x : St) : SmallT (doH H x).2.v.tab := by
  unfold doH
  split
  · exact h
  · split
    · exact clear_small h _
    · split
      · exact crash_small _
      · split
        · exact h
        · split
          · unfold beginH
            split
            · exact h
            · split <;> exact h
          · unfold deedO
            split
            · exact h
            · unfold deedH
              split
              · exact h
              · split
                · exact h
                · split
                  · exact h
                  · split
                    · exact h
                    · split
                      · exact commit_small h _
                      · split
                        · exact crash_small _
                        · exact h

/-- What an event may hold. -/
structure EvOk (e : Evt) : Prop where
  c0 : 0 ≤ e.code
  c1 : e.code ≤ 16
  n0 : 0 ≤ e.n
  n1 : e.n ≤ 1000
  v : ckV e.v = 0
  l8 : e.l.length ≤ 8
  l : ∀ x ∈ e.l, 0 ≤ x.n ∧ x.n < 8 ∧ ckV x.v = 0

theorem EvOk.of {c n : Int} (h0 : 0 ≤ c) (h1 : c ≤ 16) (h2 : 0 ≤ n) (h3 : n ≤ 1000) : EvOk (Evt.of c n) := ⟨h0, h1, h2, h3, ckV_val0, by simp [Evt.of], nofun⟩

theorem mayD_range (D : Ded) (T : Tab) : 0 ≤ mayD D T ∧ mayD D T ≤ 16 := by
  unfold mayD
  split
  · simp
  · split <;> simp

theorem putG_range (G : Lg) (w : List Ent) : 0 ≤ (putG G w).1 ∧ (putG G w).1 ≤ 16 := by
  unfold putG
  split
  · exact ckPs_rng _ _
  · split <;> simp

theorem writeT_range (T : Tab) (w : List Ent) : 0 ≤ (writeT T w).1.2 ∧ (writeT T w).1.2 ≤ 16 ∧ 0 ≤ (writeT T w).1.1 ∧ (writeT T w).1.1 ≤ 40 := by
  unfold writeT
  split
  · have := ckPs_rng w (-1); exact ⟨this.1, this.2, by simp, by simp⟩
  · split
    · simp
    · refine ⟨by simp, by simp, ?_, ?_⟩
      · simp only; omega
      · simp only; omega

theorem commitV_range (V : Vt) (D : Ded) : 0 ≤ (commitV V D).1.2 ∧ (commitV V D).1.2 ≤ 16 ∧ 0 ≤ (commitV V D).1.1 ∧ (commitV V D).1.1 ≤ 40 := by
  unfold commitV
  split
  · have := mayD_range D V.tab; exact ⟨this.1, this.2, by simp, by simp⟩
  · split
    · simp
    · split
      · have := putG_range V.log (writesD D); exact ⟨this.1, this.2, by simp, by simp⟩
      · exact writeT_range _ _

theorem tearG_range (G : Lg) (w : List Ent) (keep : Int) : 0 ≤ (tearG G w keep).1 ∧ (tearG G w keep).1 ≤ 16 := by
  unfold tearG
  split
  · exact putG_range _ _
  · split <;> simp

theorem tearV_range {V : Vt} (h : V.Ok) (D : Ded) (keep : Int) : 0 ≤ (tearV V D keep).1.2 ∧ (tearV V D keep).1.2 ≤ 16 ∧ 0 ≤ (tearV V D keep).1.1 ∧ (tearV V D keep).1.1 ≤ 40 := by
  have hk := (tornV_ok h D keep).2.1
  have hc : 0 ≤ (tornV V D keep).1 ∧ (tornV V D keep).1 ≤ 16 := by
    unfold tornV
    split
    · exact tearG_range _ _ _
    · exact mayD_range _ _
  unfold tearV
  refine ⟨hc.1, hc.2, ?_, ?_⟩
  · show 0 ≤ (if (tornV V D keep).2.l.length = V.tab.last then (0 : Int) else ((tornV V D keep).2.l.length : Int)); split <;> omega
  · show (if (tornV V D keep).2.l.length = V.tab.last then (0 : Int) else ((tornV V D keep).2.l.length : Int)) ≤ 40; split <;> omega

theorem doH_evok {H : Ht} (hV : H.v.Ok) (hT : H.v.tab.Ok) (hS : SmallT H.v.tab) (hDs : ∀ s, s < 5 → ∀ D, H.seats s = some D → D.Ok) (x : St) : EvOk (doH H x).1 := by
  unfold doH
  split
  · exact .of (by simp) (by simp) (by simp) (by simp)
  · split
    · have := (clearGo_ok hT (leastH H) (List.range 8)).2
      simp only [List.length_range] at this
      refine .of (by simp) (by simp) (by simp) ?_
      show (((clearGo (leastH H) H.v.tab (List.range 8)).1 : Nat) : Int) ≤ 1000
      omega
    · split
      · exact .of (by simp) (by simp) (by simp) (by simp)
      · split
        · exact .of (by simp) (by simp) (by simp) (by simp)
        · rename_i hs
          have hs' : isSeatB x.s = true := by simpa using hs
          obtain ⟨n, hn, hxn⟩ := seat_nat hs'
          split
          · unfold beginH
            split
            · exact .of (by simp) (by simp) (by simp) (by simp)
            · have hb : 0 ≤ (beginV H.v.tab x.mode x.at_).2 ∧ (beginV H.v.tab x.mode x.at_).2 ≤ 16 := by
                unfold beginV
                repeat' split
                all_goals exact ⟨of_decide_eq_true rfl, of_decide_eq_true rfl⟩
              split
              · rename_i c he; rw [he] at hb; exact .of hb.1 hb.2 (by simp) (by simp)
              · rename_i D c he; rw [he] at hb; exact .of hb.1 hb.2 (by simp) (by simp)
          · unfold deedO
            split
            · exact .of (by simp) (by simp) (by simp) (by simp)
            · rename_i D hD
              have hDo : D.Ok := hDs n hn D (by rw [hxn] at hD; exact hD)
              unfold deedH
              split
              · have g := getD_small hS hDo x.key
                exact ⟨g.2.1, g.2.2, by simp, by simp, g.1, by simp, nofun⟩
              · split
                · have g := putD_range D x.key ⟨true, x.bytes⟩; exact .of g.1 g.2 (by simp) (by simp)
                · split
                  · have g := putD_range D x.key Val.zero; exact .of g.1 g.2 (by simp) (by simp)
                  · split
                    · have g := listD_small hS hDo x.key x.to_
                      exact ⟨g.2.1, g.2.2, by simp, by simp, ckV_val0, listD_few _ _ _ _, g.1⟩
                    · split
                      · have g := commitV_range H.v D; exact .of g.1 g.2.1 g.2.2.1 (by have := g.2.2.2; omega)
                      · split
                        · have g := tearV_range hV D x.keep; exact .of g.1 g.2.1 g.2.2.1 (by have := g.2.2.2; omega)
                        · exact .of (by simp) (by simp) (by simp) (by simp)

theorem size12 {v : Val} (h : ckV v = 0) : v.bytes.size ≤ 12 := (ckV_zero h).1

theorem itoa_le21 {n : Int} (h0 : 0 ≤ n) (h1 : n ≤ 1000000) : (Lib.itoa n).length ≤ 21 := Lib.itoa_length_le n (by omega) (by omega)

theorem valL_le {v : Val} (h : ckV v = 0) : (valL v).length ≤ 37 := by
  have h1 := size12 h
  have h2 := (showL_length v.bytes.data.toList).2
  have h3 : v.bytes.data.toList.length = v.bytes.size := by simp
  unfold valL
  split <;> simp <;> omega

theorem pairsD_le : ∀ (l : List Ent), (∀ x ∈ l, 0 ≤ x.n ∧ x.n < 8 ∧ ckV x.v = 0) → (pairsD l).length ≤ 59 * l.length
  | [], _ => by simp [pairsD]
  | x :: l, h => by
    have hx := h x List.mem_cons_self
    have ih := pairsD_le l (fun y hy => h y (List.mem_cons_of_mem _ hy))
    have h1 := itoa_le21 hx.1 (by omega)
    have h2 := valL_le hx.2.2
    have e : pairsD (x :: l) = 32 :: (Lib.itoa x.n ++ valL x.v) ++ pairsD l := by simp [pairsD]
    rw [e]
    simp only [List.length_append, List.length_cons]
    omega

theorem tellD_le {e : Evt} (h : EvOk e) (x : St) : (tellD x e).length ≤ 700 := by
  have h1 := itoa_le21 h.c0 (by have := h.c1; omega)
  have h2 := itoa_le21 h.n0 (by have := h.n1; omega)
  have h3 := valL_le h.v
  have h4 := pairsD_le e.l h.l
  have h5 := h.l8
  unfold tellD
  split
  · simp [b_no]; omega
  · split
    · simp [b_has]; omega
    · split
      · simp [b_all]; omega
      · split
        · simp [b_ok]; omega
        · simp [b_ok]

end Go.Proofs.YtoiobhcgpajogabGreatDoor
