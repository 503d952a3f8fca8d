/- A desk, in plain words: what a line asks for, and what is told. -/
import Derived.Test.YtoiobhcgpajogabGreatDoorHall5
import Derived.Test.YtoiobhcgpajogabGreatDoorText7
import Derived.Lib.AtoiAll
import Derived.Lib.Itoa
import Derived.Lib.Split
namespace Go.Proofs.YtoiobhcgpajogabGreatDoor
open Go.RowKit

def b_get : List UInt8 := [103, 101, 116]
def b_drop : List UInt8 := [100, 114, 111, 112]
def b_list : List UInt8 := [108, 105, 115, 116]
def b_commit : List UInt8 := [99, 111, 109, 109, 105, 116]
def b_abort : List UInt8 := [97, 98, 111, 114, 116]
def b_clear : List UInt8 := [99, 108, 101, 97, 114]
def b_crash : List UInt8 := [99, 114, 97, 115, 104]
def b_tear : List UInt8 := [116, 101, 97, 114]
def b_put : List UInt8 := [112, 117, 116]
def b_shot : List UInt8 := [115, 104, 111, 116]
def b_sure : List UInt8 := [115, 117, 114, 101]
def b_look : List UInt8 := [108, 111, 111, 107]
def b_last : List UInt8 := [108, 97, 115, 116]
def b_what : List UInt8 := [119, 104, 97, 116]
def b_no : List UInt8 := [110, 111]
def b_ok : List UInt8 := [111, 107]
def b_has : List UInt8 := [104, 97, 115]
def b_all : List UInt8 := [97, 108, 108]

/-- The words of a line. -/
def wordsD (s : List UInt8) : List (List UInt8) := (Lib.split s [32]).filter (fun w => decide (w ≠ []))

def numD (s : List UInt8) : Option Int := match Lib.atoiAll s with | .ok v => if Lib.itoa v = s then some v else none | _ => none

def numsD : List (List UInt8) → Option (List Int)
  | [] => some []
  | s :: l => match numD s with | none => none | some v => (numsD l).map (v :: ·)

/-- A word of a kind of steps: the kind, how many numbers it has. -/
def wordD (w : List UInt8) : Int × Nat :=
  if w = b_get then (2, 2) else if w = b_drop then (4, 2) else if w = b_list then (5, 3) else if w = b_commit then (6, 1) else if w = b_abort then (7, 1)
  else if w = b_clear then (8, 0) else if w = b_crash then (9, 0) else if w = b_tear then (10, 2) else (0, 0)

def stepD (w : List UInt8) (n : List Int) : Option St :=
  if (wordD w).1 = 0 ∨ n.length ≠ (wordD w).2 then none
  else some (if (wordD w).1 = 10 then ⟨10, n.getD 0 0, 0, 0, 0, 0, n.getD 1 0, ByteArray.empty⟩ else ⟨(wordD w).1, n.getD 0 0, 0, 0, n.getD 1 0, n.getD 2 0, 0, ByteArray.empty⟩)

def modeD (w : List UInt8) : Int := if w = [] then 0 else if w = b_shot then 1 else if w = b_sure then 2 else if w = b_look then 3 else -1

def beginD (w : List UInt8) (n : List Int) : Option St :=
  if modeD w = 3 ∧ n.length = 2 then some ⟨1, n.getD 0 0, 3, n.getD 1 0, 0, 0, 0, ByteArray.empty⟩
  else if 0 < modeD w ∧ modeD w ≠ 3 ∧ n.length = 1 then some ⟨1, n.getD 0 0, modeD w, 0, 0, 0, 0, ByteArray.empty⟩
  else none

/-- What is behind a word 'put'. -/
def putD3 (l : List (List UInt8)) : Option St :=
  match l with
  | [a, b, c] =>
    match numsD [a, b] with
    | some [s, k] => if c.head? = some 61 then (meanL c.tail).map (fun v => ⟨3, s, 0, 0, k, 0, 0, ⟨v.toArray⟩⟩) else none
    | _ => none
  | _ => none

inductive AskD where
  | nothing
  | what
  | last
  | step (x : St)

def askD : List (List UInt8) → AskD
  | [] => .nothing
  | w :: r =>
    match (if w = b_put then putD3 r else none) with
    | some x => .step x
    | none =>
      match numsD r with
      | none => .what
      | some n =>
        match stepD w n with
        | some x => .step x
        | none =>
          match beginD w n with
          | some x => .step x
          | none => if w = b_last ∧ n = [] then .last else .what

def pairsD (l : List Ent) : List UInt8 := l.flatMap (fun p => 32 :: (Lib.itoa p.n ++ valL p.v))

/-- What a step tells. -/
def tellD (x : St) (e : Evt) : List UInt8 :=
  if e.code ≠ 0 then b_no ++ 32 :: Lib.itoa e.code
  else if x.kind = 2 then b_has ++ 32 :: valL e.v
  else if x.kind = 5 then b_all ++ pairsD e.l
  else if x.kind = 6 ∨ x.kind = 8 ∨ x.kind = 10 then b_ok ++ 32 :: Lib.itoa e.n
  else b_ok

/-- A line: what is told, and the hall behind it. -/
def lineD (H : Ht) (s : List UInt8) : List UInt8 × Ht :=
  match askD (wordsD s) with
  | .nothing => ([], H)
  | .what => (b_what ++ [10], H)
  | .last => (b_last ++ 32 :: (Lib.itoa H.v.tab.last ++ 32 :: (Lib.itoa (firstT H.v.tab) ++ 32 :: (Lib.itoa (leastH H) ++ [10]))), H)
  | .step x => (tellD x (doH H x).1 ++ [10], (doH H x).2)

def linesD (r : List UInt8 × Ht) (l : List (List UInt8)) : List UInt8 × Ht := l.foldl (fun r s => (r.1 ++ (lineD r.2 s).1, (lineD r.2 s).2)) r

theorem linesD_append (r : List UInt8 × Ht) (l m : List (List UInt8)) : linesD r (l ++ m) = linesD (linesD r l) m := List.foldl_append ..

theorem linesD_told (H : Ht) (t : List UInt8) (l : List (List UInt8)) : linesD (t, H) l = (t ++ (linesD ([], H) l).1, (linesD ([], H) l).2) := by
  induction l generalizing H t with
  | nil => simp [linesD]
  | cons s l ih =>
    show linesD (t ++ (lineD H s).1, (lineD H s).2) l = (t ++ (linesD ([] ++ (lineD H s).1, (lineD H s).2) l).1, (linesD ([] ++ (lineD H s).1, (lineD H s).2) l).2)
    rw [ih (lineD H s).2 (t ++ (lineD H s).1), ih (lineD H s).2 ([] ++ (lineD H s).1)]
    simp

end Go.Proofs.YtoiobhcgpajogabGreatDoor
