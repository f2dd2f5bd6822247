/- Which texts are numbers, by both readers: plain. Conditions: none. -/
import Derived.Test.YtgddhkanfcpipaaGreatDoorZk4
import Derived.Test.YtgddhkanfcpipaaGreatDoorZk5
namespace Go.Proofs.YtgddhkanfcpipaaGreatDoor
open Go.RowKit

theorem norm_err (ng : Bool) (l : List UInt8) (e : Int) : (normL ng l e).err ≠ 3 := by
  unfold normL normS
  by_cases h : zl l = []
  · rw [if_pos h]; decide
  rw [if_neg h]
  by_cases h2 : 400 < e + tz (zl l) ∨ e + tz (zl l) < -400 ∨ 120 < (zl l).length - tz (zl l)
  · rw [if_pos h2]; decide
  · rw [if_neg h2]
    exact fun h => by cases h
theorem pre1 (b : UInt8) (t : List UInt8) (c : UInt8) : pre (b :: t) [c] = decide (b.toNat = c.toNat) := by
  unfold pre
  rw [Bool.eq_iff_iff]
  simp [UInt8.toNat_inj]
theorem exs_drop (t : List UInt8) : exsS t = dropSign t := by
  cases t with
  | nil => rfl
  | cons d u =>
    unfold exsS
    rw [pre1, pre1]
    show (if (decide (d.toNat = 45) || decide (d.toNat = 43)) = true then u else d :: u) = if sgn d then u else d :: u
    have : sgn d = (decide (d.toNat = 45) || decide (d.toNat = 43)) := by
      unfold sgn
      rw [Bool.eq_iff_iff]
      simp only [Bool.or_eq_true, beq_iff_eq, decide_eq_true_eq]
      exact Or.comm
    rw [this]
theorem expT_err (num : List UInt8 → Int) (ng : Bool) (all : List UInt8) (e : Int) (t : List UInt8) : (expT num ng all e t).err = 3 ↔ ¬ (dropSign t ≠ [] ∧ runL (dropSign t) = (dropSign t).length) := by
  unfold expT
  rw [exs_drop]
  by_cases h : dropSign t = [] ∨ runL (dropSign t) ≠ (dropSign t).length
  · rw [if_pos h]
    exact ⟨fun _ h' => h.elim h'.1 (fun hx => hx h'.2), fun _ => rfl⟩
  · rw [if_neg h]
    refine ⟨fun hx => absurd hx (norm_err _ _ _), fun hx => absurd ⟨fun h1 => h (.inl h1), ?_⟩ hx⟩
    exact Decidable.byContradiction fun h1 => h (.inr h1)
theorem expo_err (num : List UInt8 → Int) (ng : Bool) (all : List UInt8) (e : Int) (l : List UInt8) : (expoP num ng all e l).err = 3 ↔ expB l = false := by
  cases l with
  | nil => exact ⟨fun hx => absurd hx (norm_err _ _ _), fun h => by cases h⟩
  | cons c t =>
    show (if c.toNat = 101 ∨ c.toNat = 69 then expT num ng all e t else badR 3).err = 3 ↔ ((c.toNat == 101 || c.toNat == 69) && (decide (dropSign t ≠ []) && decide (runL (dropSign t) = (dropSign t).length))) = false
    by_cases hc : c.toNat = 101 ∨ c.toNat = 69
    · have hc' : (c.toNat == 101 || c.toNat == 69) = true := by simpa using hc
      rw [if_pos hc, expT_err, hc', Bool.true_and, ← Bool.not_eq_true, Bool.and_eq_true, decide_eq_true_eq, decide_eq_true_eq]
    · have hc' : (c.toNat == 101 || c.toNat == 69) = false := by
        rw [Bool.eq_false_iff]; intro h; exact hc (by simpa using h)
      rw [if_neg hc, hc', Bool.false_and]
      exact ⟨fun _ => rfl, fun _ => rfl⟩
theorem frac_err (num : List UInt8 → Int) (ng : Bool) (all l : List UInt8) : (fracP num ng all l).err = 3 ↔ fracB l = false := by
  unfold fracP fracB
  cases hp : pre l [46]
  · exact expo_err _ _ _ _ _
  · rw [if_pos rfl, if_pos rfl]
    by_cases h : runL (l.drop 1) = 0
    · rw [if_pos h, if_pos h]
      exact ⟨fun _ => rfl, fun _ => rfl⟩
    · rw [if_neg h, if_neg h, Nat.add_comm 1]
      exact expo_err _ _ _ _ _
theorem dec_err (num : List UInt8 → Int) (l : List UInt8) : (decP num l).err = 3 ↔ numB l = false := by
  unfold decP numB intP intB
  generalize (if pre l [45] then l.drop 1 else l) = m
  by_cases h : runL m = 0 ∨ (1 < runL m ∧ zero0 m)
  · rw [if_pos h, if_pos h]
    exact ⟨fun _ => rfl, fun _ => rfl⟩
  · rw [if_neg h, if_neg h]
    exact frac_err _ _ _ _
end Go.Proofs.YtgddhkanfcpipaaGreatDoor
