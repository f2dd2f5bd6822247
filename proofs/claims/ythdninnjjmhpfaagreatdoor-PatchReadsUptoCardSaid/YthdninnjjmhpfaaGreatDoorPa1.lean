/- Paths: plain words: valid steps, the text of a path, and how the program reads a text. No program in sight. Conditions: none. -/
import Derived.Test.YthdninnjjmhpfaaGreatDoorVal
import Derived.Lib.Atoi
import Derived.Lib.ItoaNum
namespace Go.Proofs.YthdninnjjmhpfaaGreatDoor
open Go.RowKit
set_option maxHeartbeats 1000000
set_option maxRecDepth 100000

/-- A step: by index, its key, its index. -/
abbrev St := Bool × ByteArray × Int
def okSt (s : St) : Bool := if s.1 then decide (s.2.1.size = 0 ∧ 0 ≤ s.2.2 ∧ s.2.2 ≤ 65536) else decide (s.2.2 = 0 ∧ s.2.1.size ≤ 1024 ∧ badL (L s.2.1) = (L s.2.1).length)
def validP (l : List St) : Bool := decide (l.length ≤ 48) && l.all okSt

def nmc (b : UInt8) : Bool := alpha b || decide (b.toNat = 95)
def nmL : List UInt8 → Nat
  | [] => 0
  | b :: t => if nmc b || dig b then nmL t + 1 else 0
def folL : List UInt8 → Nat
  | [] => 0
  | b :: t => if nmc b then nmL t + 1 else 0
theorem nmL_le : ∀ l : List UInt8, nmL l ≤ l.length
  | [] => Nat.le_refl _
  | b :: t => by
    have := nmL_le t
    unfold nmL
    rw [List.length_cons]
    split <;> omega
theorem folL_le : ∀ l : List UInt8, folL l ≤ l.length
  | [] => Nat.le_refl _
  | b :: t => by
    have := nmL_le t
    simp only [folL]
    rw [List.length_cons]
    split <;> omega
def isName (k : List UInt8) : Bool := decide (k ≠ [] ∧ folL k = k.length)

def hx (n : Nat) : UInt8 := if n < 10 then UInt8.ofNat (48 + n) else UInt8.ofNat (87 + n)
def hexT (n : Nat) : List UInt8 := if n < 16 then [hx n] else [hx (n / 16), hx (n % 16)]
/-- How a byte is written in quotation marks. -/
def sgn (b : UInt8) : List UInt8 :=
  if b.toNat = 34 then [92, 34] else if b.toNat = 92 then [92, 92] else if b.toNat = 10 then [92, 110] else if b.toNat = 9 then [92, 116] else if b.toNat = 13 then [92, 114]
  else if b.toNat < 32 ∨ b.toNat = 127 then 92 :: 117 :: 123 :: (hexT b.toNat ++ [125]) else [b]
def stepT (s : St) : List UInt8 :=
  if s.1 then 91 :: (Lib.itoa s.2.2 ++ [93]) else if isName (L s.2.1) then 46 :: L s.2.1 else 46 :: 34 :: ((L s.2.1).flatMap sgn ++ [34])
def preT (p : List St) : List UInt8 := match p with
  | s :: _ => if s.1 then [46] else []
  | [] => []
def textL (p : List St) : List UInt8 := if p.isEmpty then [46] else preT p ++ p.flatMap stepT

/-! How the program reads. -/
def hexd1 (b : UInt8) : Option Nat := if 48 ≤ b.toNat ∧ b.toNat ≤ 57 then some (b.toNat - 48) else if 97 ≤ b.toNat ∧ b.toNat ≤ 102 then some (b.toNat - 87) else if 65 ≤ b.toNat ∧ b.toNat ≤ 70 then some (b.toNat - 55) else none
def hexs : List UInt8 → Option Nat
  | [a] => hexd1 a
  | [a, b] => match hexd1 a with
    | some x => match hexd1 b with
      | some y => some (16 * x + y)
      | none => none
    | none => none
  | _ => none
def ues (t : List UInt8) : Nat × Nat :=
  match (if t[0]? = some 123 ∧ t[2]? = some 125 then hexs ((t.drop 1).take 1) else none) with
  | some c => (c, 4)
  | none => match (if t[0]? = some 123 ∧ t[3]? = some 125 then hexs ((t.drop 1).take 2) else none) with
    | some c => (c, 5)
    | none => (0, 0)
def escI : List UInt8 → Nat × Nat
  | [] => (0, 0)
  | b :: t => if b.toNat = 34 ∨ b.toNat = 92 then (b.toNat, 1) else if b.toNat = 110 then (10, 1) else if b.toNat = 116 then (9, 1) else if b.toNat = 114 then (13, 1) else if b.toNat = 117 then ues t else (0, 0)
def unqF : Nat → List UInt8 → Option (List UInt8 × Nat)
  | 0, _ => none
  | _ + 1, [] => none
  | f + 1, b :: t => if b.toNat = 34 then some ([], 1) else if b.toNat = 92 then (if (escI t).2 = 0 then none else (unqF f (t.drop (escI t).2)).map fun r => (UInt8.ofNat (escI t).1 :: r.1, r.2 + 1 + (escI t).2)) else (unqF f t).map fun r => (b :: r.1, r.2 + 1)
def idx93 : List UInt8 → Nat
  | [] => 0
  | b :: t => if b.toNat = 93 then 0 else idx93 t + 1
theorem idx93_le : ∀ l : List UInt8, idx93 l ≤ l.length
  | [] => Nat.le_refl _
  | b :: t => by
    have := idx93_le t
    unfold idx93
    rw [List.length_cons]
    split <;> omega
def stepI : List UInt8 → Option (St × List UInt8)
  | [] => none
  | c :: t => if c.toNat = 91 then
      (if idx93 t = 0 ∨ 6 < idx93 t ∨ idx93 t = t.length then none else match Lib.atoi (t.take (idx93 t)) with
        | some i => some ((true, ⟨#[]⟩, i), t.drop (idx93 t + 1))
        | none => none)
    else if c.toNat = 46 ∧ t.head? = some 34 then match unqF t.length (t.drop 1) with
      | some r => some ((false, ⟨r.1.toArray⟩, 0), t.drop (r.2 + 1))
      | none => none
    else if c.toNat = 46 ∧ 0 < folL t then some ((false, ⟨(t.take (folL t)).toArray⟩, 0), t.drop (folL t)) else none
theorem stepI_cons (c : UInt8) (t : List UInt8) : stepI (c :: t) = if c.toNat = 91 then
      (if idx93 t = 0 ∨ 6 < idx93 t ∨ idx93 t = t.length then none else match Lib.atoi (t.take (idx93 t)) with
        | some i => some ((true, ⟨#[]⟩, i), t.drop (idx93 t + 1))
        | none => none)
    else if c.toNat = 46 ∧ t.head? = some 34 then match unqF t.length (t.drop 1) with
      | some r => some ((false, ⟨r.1.toArray⟩, 0), t.drop (r.2 + 1))
      | none => none
    else if c.toNat = 46 ∧ 0 < folL t then some ((false, ⟨(t.take (folL t)).toArray⟩, 0), t.drop (folL t)) else none := rfl
theorem unqF_cons (f : Nat) (b : UInt8) (t : List UInt8) : unqF (f + 1) (b :: t) = if b.toNat = 34 then some ([], 1) else if b.toNat = 92 then (if (escI t).2 = 0 then none else (unqF f (t.drop (escI t).2)).map fun r => (UInt8.ofNat (escI t).1 :: r.1, r.2 + 1 + (escI t).2)) else (unqF f t).map fun r => (b :: r.1, r.2 + 1) := rfl
theorem escI_cons (b : UInt8) (t : List UInt8) : escI (b :: t) = if b.toNat = 34 ∨ b.toNat = 92 then (b.toNat, 1) else if b.toNat = 110 then (10, 1) else if b.toNat = 116 then (9, 1) else if b.toNat = 114 then (13, 1) else if b.toNat = 117 then ues t else (0, 0) := rfl
def loopI : Nat → Nat → List UInt8 → Option (List St)
  | 0, _, _ => some []
  | f + 1, k, l => if l = [] ∨ 48 < k then some [] else match stepI l with
    | some r => (loopI f (k + 1) r.2).map fun p => r.1 :: p
    | none => none
def strip (l : List UInt8) : List UInt8 := if l.take 2 = [46, 91] then l.drop 1 else l
def accept (s : List UInt8) (o : Option (List St)) : List St × Nat := match o with
  | some p => if p ≠ [] ∧ validP p = true ∧ textL p = s then (p, 0) else ([], 3)
  | none => ([], 3)
def parseL (s : List UInt8) : List St × Nat :=
  if badL s ≠ s.length then ([], 5) else if s = [46] then ([], 0) else accept s (loopI 49 0 (strip s))
end Go.Proofs.YthdninnjjmhpfaaGreatDoor
