/- The package datakitref08, walked: steps, Cmp. Conditions: none. -/
import Derived.Test.YtemiihkmpojpgaaGreatDoorZq9
import Derived.StillTailTactics
namespace Go.Proofs.YtemiihkmpojpgaaGreatDoor
open Go.RowKit
set_option maxHeartbeats 1000000
set_option maxRecDepth 100000

def stpV (s : St) : Value := .agg #[.bool s.1, .string s.2.1, .int .i64 s.2.2]
def stepsR (s t : St) : Int := if s = t then 0 else
  if s.1 then (if t.1 then (if s.2.2 < t.2.2 then -1 else 1) else -1) else (if t.1 then 1 else if Op.bytesLess s.2.1.toList t.2.1.toList = true then -1 else 1)
def cmpR : List St → List St → Int
  | x :: a, y :: b => if stepsR x y = 0 then cmpR a b else stepsR x y
  | a, b => cmpI a.length b.length
theorem bytesLess_irr (l : List UInt8) : Op.bytesLess l l = false := by
  induction l with
  | nil => rfl
  | cons b l ih => simp [Op.bytesLess, ih]
theorem steps_ok (s t : St) (hs : okSt s = true) (ht : okSt t = true) (h : s ≠ t) : stepsR s t = stepC s t ∧ stepC s t ≠ 0 := by
  obtain ⟨x0, x1, x2⟩ := s
  obtain ⟨y0, y1, y2⟩ := t
  unfold stepsR stepC
  rw [if_neg h]
  cases x0 <;> cases y0 <;> simp only [okSt_true, okSt_false, decide_eq_true_eq] at hs ht
  · obtain ⟨rfl, _⟩ := hs
    obtain ⟨rfl, _⟩ := ht
    have hne : x1 ≠ y1 := fun e => h (by rw [e])
    simp only [Bool.false_and, Bool.false_eq_true, if_false, cmpS, if_neg hne]
    cases Op.bytesLess x1.toList y1.toList <;> simp
  · simp
  · simp
  · have e1 : x1 = ⟨#[]⟩ := L_inj (List.length_eq_zero_iff.1 (by rw [L_len]; exact hs.1))
    have e2 : y1 = ⟨#[]⟩ := L_inj (List.length_eq_zero_iff.1 (by rw [L_len]; exact ht.1))
    have hne : x2 ≠ y2 := fun e => h (by rw [e, e1, e2])
    simp only [Bool.and_self, if_true, cmpI]
    by_cases h1 : x2 < y2
    · simp [h1]
    · have h2 : y2 < x2 := by omega
      simp [h1, h2]
theorem cmp_same : ∀ (l m : List St), l.all okSt = true → m.all okSt = true → cmpR l m = cmpP l m
  | [], m, _, _ => by cases m <;> rfl
  | x :: a, [], _, _ => rfl
  | x :: a, y :: b, hl, hm => by
    simp only [List.all_cons, Bool.and_eq_true] at hl hm
    have ih := cmp_same a b hl.2 hm.2
    show (if stepsR x y = 0 then cmpR a b else stepsR x y) = if x = y then cmpP a b else stepC x y
    by_cases he : x = y
    · subst he
      rw [if_pos rfl, if_pos (by unfold stepsR; rw [if_pos rfl]), ih]
    · obtain ⟨h1, h2⟩ := steps_ok x y hl.1 hm.1 he
      rw [if_neg he, if_neg (by rw [h1]; exact h2), h1]
theorem cmpR_drop (l m : List St) (k : Nat) (h1 : k < l.length) (h2 : k < m.length) : cmpR (l.drop k) (m.drop k) = if stepsR l[k] m[k] = 0 then cmpR (l.drop (k + 1)) (m.drop (k + 1)) else stepsR l[k] m[k] := by
  rw [List.drop_eq_getElem_cons h1, List.drop_eq_getElem_cons h2]
  rfl
theorem cmpR_end (l m : List St) (k : Nat) (h : k = l.length ∧ k ≤ m.length ∨ k = m.length ∧ k ≤ l.length) : cmpR (l.drop k) (m.drop k) = cmpI l.length m.length := by
  rw [← cmpP_end l m k h]
  rcases h with ⟨h, _⟩ | ⟨h, _⟩
  · rw [List.drop_of_length_le (l := l) (by omega)]
    cases m.drop k <;> rfl
  · rw [List.drop_of_length_le (l := m) (by omega)]
    cases l.drop k <;> rfl
end Go.Proofs.YtemiihkmpojpgaaGreatDoor
