/- Which texts are numbers, by both readers: plain. Conditions: none. -/
import Derived.Test.YtlnpfpjncnkekaaGreatDoorZt5
import Derived.Test.YtlnpfpjncnkekaaGreatDoorZt3
import Derived.Lib.Atoi
namespace Go.Proofs.YtlnpfpjncnkekaaGreatDoor
open Go.RowKit

/-- A decimal's sign, digits and exponent, and the error. -/
structure DecR where
  neg : Bool
  ds : List UInt8
  e : Int
  err : Nat
def badR (n : Nat) : DecR := ⟨false, [], 0, n⟩
def normS (neg : Bool) (s : List UInt8) (e : Int) : DecR :=
  if s = [] then badR 0 else if 400 < e + tz s ∨ e + tz s < -400 ∨ 120 < s.length - tz s then badR 2 else ⟨neg, s.take (s.length - tz s), e + tz s, 0⟩
def normL (neg : Bool) (l : List UInt8) (e : Int) : DecR := normS neg (zl l) e
/-- The number of digits. -/
def valL (acc : Nat) : List UInt8 → Nat
  | [] => acc
  | b :: t => valL (10 * acc + (b.toNat - 48)) t
def numP (u : List UInt8) : Int := if (zl u).length ≤ 12 then (valL 0 (zl u) : Int) else 1099511627776
def movE (e : Int) (less : Bool) (n : Int) : Int := if less then e - n else e + n
/-- Behind the e: without the sign. -/
def exsS (t : List UInt8) : List UInt8 := if pre t [45] || pre t [43] then t.drop 1 else t
def expT (num : List UInt8 → Int) (ng : Bool) (all : List UInt8) (e : Int) (t : List UInt8) : DecR :=
  if exsS t = [] ∨ runL (exsS t) ≠ (exsS t).length then badR 3 else normL ng all (movE e (pre t [45]) (num (exsS t)))
def expoP (num : List UInt8 → Int) (ng : Bool) (all : List UInt8) (e : Int) : List UInt8 → DecR
  | [] => normL ng all e
  | b :: t => if b.toNat = 101 ∨ b.toNat = 69 then expT num ng all e t else badR 3
def fracP (num : List UInt8 → Int) (ng : Bool) (all l : List UInt8) : DecR :=
  if pre l [46] then (if runL (l.drop 1) = 0 then badR 3 else expoP num ng (all ++ (l.drop 1).take (runL (l.drop 1))) (-(runL (l.drop 1) : Int)) (l.drop (runL (l.drop 1) + 1)))
  else expoP num ng all 0 l
def intP (num : List UInt8 → Int) (ng : Bool) (l : List UInt8) : DecR :=
  if runL l = 0 ∨ (1 < runL l ∧ zero0 l) then badR 3 else fracP num ng (l.take (runL l)) (l.drop (runL l))
def decP (num : List UInt8 → Int) (l : List UInt8) : DecR := intP num (pre l [45]) (if pre l [45] then l.drop 1 else l)

/-! The two ways to read an exponent give one decimal. -/
theorem zl_head (l : List UInt8) (b : UInt8) (t : List UInt8) (h : zl l = b :: t) : b.toNat ≠ 48 := by
  induction l with
  | nil => cases h
  | cons c u ih =>
    unfold zl at h
    split at h
    · exact ih h
    · cases h; assumption
theorem runL_all : ∀ l : List UInt8, ∀ b ∈ l.take (runL l), dig b = true
  | [], b, hb => by cases hb
  | c :: t, b, hb => by
    unfold runL at hb
    split at hb
    · rename_i hc
      rw [List.take_succ_cons] at hb
      rcases List.mem_cons.1 hb with rfl | hb
      · exact hc
      · exact runL_all t b hb
    · cases hb
end Go.Proofs.YtlnpfpjncnkekaaGreatDoor

namespace Go.Proofs.YtlnpfpjncnkekaaGreatDoor
open Go.RowKit

theorem norm_err (ng : Bool) (l : List UInt8) (e : Int) : (normL ng l e).err ≠ 3 := by
  unfold normL normS
  by_cases h : zl l = []
  · rw [if_pos h]; decide
  rw [if_neg h]
  by_cases h2 : 400 < e + tz (zl l) ∨ e + tz (zl l) < -400 ∨ 120 < (zl l).length - tz (zl l)
  · rw [if_pos h2]; decide
  · rw [if_neg h2]
    exact fun h => by cases h
theorem pre1 (b : UInt8) (t : List UInt8) (c : UInt8) : pre (b :: t) [c] = decide (b.toNat = c.toNat) := by
  unfold pre
  rw [Bool.eq_iff_iff]
  simp [UInt8.toNat_inj]
theorem exs_drop (t : List UInt8) : exsS t = dropSign t := by
  cases t with
  | nil => rfl
  | cons d u =>
    unfold exsS
    rw [pre1, pre1]
    show (if (decide (d.toNat = 45) || decide (d.toNat = 43)) = true then u else d :: u) = if sgn d then u else d :: u
    have : sgn d = (decide (d.toNat = 45) || decide (d.toNat = 43)) := by
      unfold sgn
      rw [Bool.eq_iff_iff]
      simp only [Bool.or_eq_true, beq_iff_eq, decide_eq_true_eq]
      exact Or.comm
    rw [this]
theorem expT_err (num : List UInt8 → Int) (ng : Bool) (all : List UInt8) (e : Int) (t : List UInt8) : (expT num ng all e t).err = 3 ↔ ¬ (dropSign t ≠ [] ∧ runL (dropSign t) = (dropSign t).length) := by
  unfold expT
  rw [exs_drop]
  by_cases h : dropSign t = [] ∨ runL (dropSign t) ≠ (dropSign t).length
  · rw [if_pos h]
    exact ⟨fun _ h' => h.elim h'.1 (fun hx => hx h'.2), fun _ => rfl⟩
  · rw [if_neg h]
    refine ⟨fun hx => absurd hx (norm_err _ _ _), fun hx => absurd ⟨fun h1 => h (.inl h1), ?_⟩ hx⟩
    exact Decidable.byContradiction fun h1 => h (.inr h1)
theorem expo_err (num : List UInt8 → Int) (ng : Bool) (all : List UInt8) (e : Int) (l : List UInt8) : (expoP num ng all e l).err = 3 ↔ expB l = false := by
  cases l with
  | nil => exact ⟨fun hx => absurd hx (norm_err _ _ _), fun h => by cases h⟩
  | cons c t =>
    show (if c.toNat = 101 ∨ c.toNat = 69 then expT num ng all e t else badR 3).err = 3 ↔ ((c.toNat == 101 || c.toNat == 69) && (decide (dropSign t ≠ []) && decide (runL (dropSign t) = (dropSign t).length))) = false
    by_cases hc : c.toNat = 101 ∨ c.toNat = 69
    · have hc' : (c.toNat == 101 || c.toNat == 69) = true := by simpa using hc
      rw [if_pos hc, expT_err, hc', Bool.true_and, ← Bool.not_eq_true, Bool.and_eq_true, decide_eq_true_eq, decide_eq_true_eq]
    · have hc' : (c.toNat == 101 || c.toNat == 69) = false := by
        rw [Bool.eq_false_iff]; intro h; exact hc (by simpa using h)
      rw [if_neg hc, hc', Bool.false_and]
      exact ⟨fun _ => rfl, fun _ => rfl⟩
theorem frac_err (num : List UInt8 → Int) (ng : Bool) (all l : List UInt8) : (fracP num ng all l).err = 3 ↔ fracB l = false := by
  unfold fracP fracB
  cases hp : pre l [46]
  · exact expo_err _ _ _ _ _
  · rw [if_pos rfl, if_pos rfl]
    by_cases h : runL (l.drop 1) = 0
    · rw [if_pos h, if_pos h]
      exact ⟨fun _ => rfl, fun _ => rfl⟩
    · rw [if_neg h, if_neg h, Nat.add_comm 1]
      exact expo_err _ _ _ _ _
theorem dec_err (num : List UInt8 → Int) (l : List UInt8) : (decP num l).err = 3 ↔ numB l = false := by
  unfold decP numB intP intB
  generalize (if pre l [45] then l.drop 1 else l) = m
  by_cases h : runL m = 0 ∨ (1 < runL m ∧ zero0 m)
  · rw [if_pos h, if_pos h]
    exact ⟨fun _ => rfl, fun _ => rfl⟩
  · rw [if_neg h, if_neg h]
    exact frac_err _ _ _ _
end Go.Proofs.YtlnpfpjncnkekaaGreatDoor
