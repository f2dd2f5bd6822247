/- What is wrong with a change, and with a list of changes: plain words, no program in sight. Conditions: none. -/
import Derived.Test.YthdninnjjmhpfaaDoorCh
import Derived.Test.YthdninnjjmhpfaaDoorTk
namespace Go.Proofs.YthdninnjjmhpfaaDoor
open Go.RowKit
set_option maxRecDepth 100000
set_option maxHeartbeats 1000000

/-- Are all parts of a value zero? -/
def zeroV : V → Bool
  | .mk h l f => decide (h.kind = 0 ∧ h.bool = false ∧ (h.neg = false ∧ h.ds.toList = [] ∧ h.exp = 0) ∧ (h.tk = 0 ∧ h.day = 0 ∧ h.nano = 0 ∧ h.off = 0) ∧ h.text.toList = [] ∧ h.bytes.length = 0 ∧ l.length = 0 ∧ f.length = 0)
/-- Is the last step a key? -/
def lastK (p : List St) : Bool := decide (0 < p.length) && !(p.getD (p.length - 1) (false, ⟨#[]⟩, 0)).1
def movB (op : Int) : Bool := decide (op = 2 ∨ op = 3)
def oldB (op : Int) : Bool := decide (op = 1 ∨ op = 3 ∨ op = 4)
def newB (op : Int) : Bool := decide (op = 1 ∨ op = 2)
/-- The first question, and the second one. -/
def arg1 (x : Ch) : Bool := !((!oldB x.op && !newB x.op) || (!validP x.p || (decide (x.p.length = 0) && movB x.op)))
def arg2 (x : Ch) : Bool := !(decide (x.pos < 0) || (decide (65536 < x.pos) || ((decide (x.pos ≠ 0) && !(movB x.op && lastK x.p)) || ((!oldB x.op && !zeroV x.o) || (!newB x.op && !zeroV x.n)))))
def oneC (x : Ch) : Nat :=
  if arg1 x = false then 1 else if arg2 x = false then 1 else if oldB x.op = true ∧ checkV x.o ≠ 0 then checkV x.o else if newB x.op = true then checkV x.n else 0
/-- The place of the first change that is not valid, and its error. -/
def firstC : List Ch → Nat → Nat × Nat
  | [], _ => (0, 0)
  | x :: t, i => if oneC x ≠ 0 then (i, oneC x) else firstC t (i + 1)
def checkL (xs : List Ch) : Nat := if 4096 < xs.length then 10 else (firstC xs 0).2
theorem firstC_drop (xs : List Ch) (k : Nat) (h : k < xs.length) (i : Nat) : firstC (xs.drop k) i = if oneC xs[k] ≠ 0 then (i, oneC xs[k]) else firstC (xs.drop (k + 1)) (i + 1) := by
  rw [List.drop_eq_getElem_cons h, firstC]
end Go.Proofs.YthdninnjjmhpfaaDoor
