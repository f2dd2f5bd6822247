/- Zeros ahead and behind: plain words. Conditions: none. -/
import Derived.Test.YthdninnjjmhpfaaGreatDoorStr
namespace Go.Proofs.YthdninnjjmhpfaaGreatDoor
open Go.RowKit

/-- Without the zeros ahead. -/
def zl : List UInt8 → List UInt8
  | [] => []
  | b :: t => if b.toNat = 48 then zl t else b :: t
/-- The zeros behind. -/
def tz : List UInt8 → Nat
  | [] => 0
  | b :: t => if b.toNat = 48 ∧ tz t = t.length then tz t + 1 else tz t
theorem zl_le : ∀ l : List UInt8, (zl l).length ≤ l.length
  | [] => Nat.le_refl _
  | b :: t => by
    have := zl_le t
    unfold zl
    split <;> simp <;> omega
theorem tz_le : ∀ l : List UInt8, tz l ≤ l.length
  | [] => Nat.le_refl _
  | b :: t => by
    have := tz_le t
    unfold tz
    split <;> simp <;> omega
theorem zl_all : ∀ l : List UInt8, (∀ b ∈ l, dig b = true) → ∀ b ∈ zl l, dig b = true
  | [], _, b, hb => by cases hb
  | c :: t, h, b, hb => by
    unfold zl at hb
    split at hb
    · exact zl_all t (fun x hx => h x (List.mem_cons_of_mem _ hx)) b hb
    · exact h b hb
theorem tz_snoc : ∀ (l : List UInt8) (b : UInt8), tz (l ++ [b]) = if b.toNat = 48 then tz l + 1 else 0
  | [], b => by
    by_cases h : b.toNat = 48
    · simp [tz, h]
    · simp [tz, h]
  | c :: t, b => by
    have ih := tz_snoc t b
    have := tz_le t
    rw [List.cons_append, tz, ih]
    by_cases h : b.toNat = 48
    · simp only [if_pos h, List.length_append, List.length_cons, List.length_nil]
      by_cases h2 : c.toNat = 48 ∧ tz t = t.length
      · rw [if_pos ⟨h2.1, by omega⟩, tz, if_pos h2]
      · rw [if_neg (fun h3 => h2 ⟨h3.1, by omega⟩), tz, if_neg h2]
    · simp only [if_neg h, List.length_append, List.length_cons, List.length_nil]
      rw [if_neg (by rintro ⟨_, h3⟩; omega)]
end Go.Proofs.YthdninnjjmhpfaaGreatDoor
