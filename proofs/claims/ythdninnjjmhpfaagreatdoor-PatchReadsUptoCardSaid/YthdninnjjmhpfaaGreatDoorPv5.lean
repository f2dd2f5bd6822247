/- The packages path and datakitref08, walked: Cmp. Conditions: none. -/
import Derived.Test.YthdninnjjmhpfaaGreatDoorPv4
namespace Go.Proofs.YthdninnjjmhpfaaGreatDoor
open Go.RowKit
set_option maxHeartbeats 1000000
set_option maxRecDepth 100000

def cmpI (x y : Int) : Int := if x < y then -1 else if y < x then 1 else 0
def cmpS (x y : ByteArray) : Int := if Op.bytesLess x.toList y.toList = true then -1 else if x = y then 0 else 1
theorem toList_ne {x y : ByteArray} : (x.toList == y.toList) = decide (x = y) := by
  rw [toList_L, toList_L]
  by_cases h : x = y
  · subst h; simp
  · rw [decide_eq_false h, beq_eq_false_iff_ne]
    exact fun h' => h (L_inj h')
def stepC (s t : St) : Int := if s.1 && t.1 then cmpI s.2.2 t.2.2 else if s.1 then -1 else if t.1 then 1 else cmpS s.2.1 t.2.1
def cmpP : List St → List St → Int
  | x :: a, y :: b => if x = y then cmpP a b else stepC x y
  | a, b => cmpI a.length b.length
theorem cmpP_drop (l m : List St) (k : Nat) (h1 : k < l.length) (h2 : k < m.length) : cmpP (l.drop k) (m.drop k) = if l[k] = m[k] then cmpP (l.drop (k + 1)) (m.drop (k + 1)) else stepC l[k] m[k] := by
  rw [List.drop_eq_getElem_cons h1, List.drop_eq_getElem_cons h2]
  rfl
theorem cmpP_end (l m : List St) (k : Nat) (h : k = l.length ∧ k ≤ m.length ∨ k = m.length ∧ k ≤ l.length) : cmpP (l.drop k) (m.drop k) = cmpI l.length m.length := by
  have e : cmpP (l.drop k) (m.drop k) = cmpI (l.drop k).length (m.drop k).length := by
    rcases h with ⟨h, _⟩ | ⟨h, _⟩
    · rw [List.drop_of_length_le (l := l) (by omega)]
      cases m.drop k <;> rfl
    · rw [List.drop_of_length_le (l := m) (by omega)]
      cases l.drop k <;> rfl
  have e2 : ∀ x y : Int, cmpI (x - k) (y - k) = cmpI x y := by
    intro x y
    unfold cmpI
    repeat' split
    all_goals omega
  rw [e, List.length_drop, List.length_drop, Int.ofNat_sub (by omega), Int.ofNat_sub (by omega), e2]
end Go.Proofs.YthdninnjjmhpfaaGreatDoor
