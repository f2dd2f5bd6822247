/- Decimals out of texts: plain words, no program in sight. Conditions: none. -/
import Derived.Test.YtgddhkanfcpipaaGreatDoorZk4
import Derived.Test.YtgddhkanfcpipaaGreatDoorZk2
import Derived.Lib.Atoi
namespace Go.Proofs.YtgddhkanfcpipaaGreatDoor
open Go.RowKit

/-- A decimal's sign, digits and exponent, and the error. -/
structure DecR where
  neg : Bool
  ds : List UInt8
  e : Int
  err : Nat
def badR (n : Nat) : DecR := ⟨false, [], 0, n⟩
def normS (neg : Bool) (s : List UInt8) (e : Int) : DecR :=
  if s = [] then badR 0 else if 400 < e + tz s ∨ e + tz s < -400 ∨ 120 < s.length - tz s then badR 2 else ⟨neg, s.take (s.length - tz s), e + tz s, 0⟩
def normL (neg : Bool) (l : List UInt8) (e : Int) : DecR := normS neg (zl l) e
/-- The number of digits. -/
def valL (acc : Nat) : List UInt8 → Nat
  | [] => acc
  | b :: t => valL (10 * acc + (b.toNat - 48)) t
def numP (u : List UInt8) : Int := if (zl u).length ≤ 12 then (valL 0 (zl u) : Int) else 1099511627776
def numR (u : List UInt8) : Int := if 9 < (zl u).length then 1000000000 else (valL 0 (zl u) : Int)
def movE (e : Int) (less : Bool) (n : Int) : Int := if less then e - n else e + n
/-- Behind the e: without the sign. -/
def exsS (t : List UInt8) : List UInt8 := if pre t [45] || pre t [43] then t.drop 1 else t
def expT (num : List UInt8 → Int) (ng : Bool) (all : List UInt8) (e : Int) (t : List UInt8) : DecR :=
  if exsS t = [] ∨ runL (exsS t) ≠ (exsS t).length then badR 3 else normL ng all (movE e (pre t [45]) (num (exsS t)))
def expoP (num : List UInt8 → Int) (ng : Bool) (all : List UInt8) (e : Int) : List UInt8 → DecR
  | [] => normL ng all e
  | b :: t => if b.toNat = 101 ∨ b.toNat = 69 then expT num ng all e t else badR 3
def fracP (num : List UInt8 → Int) (ng : Bool) (all l : List UInt8) : DecR :=
  if pre l [46] then (if runL (l.drop 1) = 0 then badR 3 else expoP num ng (all ++ (l.drop 1).take (runL (l.drop 1))) (-(runL (l.drop 1) : Int)) (l.drop (runL (l.drop 1) + 1)))
  else expoP num ng all 0 l
def intP (num : List UInt8 → Int) (ng : Bool) (l : List UInt8) : DecR :=
  if runL l = 0 ∨ (1 < runL l ∧ zero0 l) then badR 3 else fracP num ng (l.take (runL l)) (l.drop (runL l))
def decP (num : List UInt8 → Int) (l : List UInt8) : DecR := intP num (pre l [45]) (if pre l [45] then l.drop 1 else l)

/-! The two ways to read an exponent give one decimal. -/
theorem valL_lo (l : List UInt8) : ∀ acc : Nat, acc * 10 ^ l.length ≤ valL acc l := by
  induction l with
  | nil => intro acc; exact Nat.le_of_eq (Nat.mul_one acc)
  | cons b t ih =>
    intro acc
    unfold valL
    refine Nat.le_trans ?_ (ih _)
    rw [List.length_cons, Nat.pow_succ]
    calc acc * (10 ^ t.length * 10) = (10 * acc) * 10 ^ t.length := by rw [Nat.mul_comm (10 ^ t.length) 10, ← Nat.mul_assoc, Nat.mul_comm acc 10]
      _ ≤ _ := Nat.mul_le_mul_right _ (by omega)
theorem zl_head (l : List UInt8) (b : UInt8) (t : List UInt8) (h : zl l = b :: t) : b.toNat ≠ 48 := by
  induction l with
  | nil => cases h
  | cons c u ih =>
    unfold zl at h
    split at h
    · exact ih h
    · cases h; assumption
theorem valL_big (u : List UInt8) (h : ∀ b ∈ u, dig b = true) (hl : 9 < (zl u).length) : 1000000000 ≤ valL 0 (zl u) := by
  have ha := zl_all u h
  rcases hz : zl u with _ | ⟨b, t⟩
  · rw [hz] at hl; simp at hl
  have hb := zl_head u b t hz
  have hd : dig b = true := ha b (by rw [hz]; exact List.mem_cons_self)
  have hd2 : 49 ≤ b.toNat := by unfold dig at hd; simp at hd; omega
  rw [hz] at hl
  simp only [List.length_cons] at hl
  have h1 := valL_lo t (10 * 0 + (b.toNat - 48))
  have h2 : 1000000000 ≤ 10 ^ t.length := by
    have h4 : (10 : Nat) ^ 9 ≤ 10 ^ t.length := Nat.pow_le_pow_right (by omega) (by omega)
    generalize 10 ^ t.length = X at *
    omega
  have h3 : 10 ^ t.length ≤ (10 * 0 + (b.toNat - 48)) * 10 ^ t.length := Nat.le_mul_of_pos_left _ (by omega)
  have h5 : valL 0 (b :: t) = valL (10 * 0 + (b.toNat - 48)) t := rfl
  rw [h5]
  generalize valL (10 * 0 + (b.toNat - 48)) t = V at *
  generalize (10 * 0 + (b.toNat - 48)) * 10 ^ t.length = Y at *
  omega
theorem num_far (u : List UInt8) (h : ∀ b ∈ u, dig b = true) : numP u = numR u ∨ (1000000000 ≤ numP u ∧ 1000000000 ≤ numR u) := by
  unfold numP numR
  by_cases h9 : 9 < (zl u).length
  · right
    have := valL_big u h h9
    split <;> omega
  · left
    rw [if_pos (by omega), if_neg h9]
theorem norm_far (ng : Bool) (all : List UInt8) (e n m : Int) (less : Bool) (h0 : -100000 ≤ e) (h1 : e ≤ 0) (hl : all.length ≤ 100000) (h : n = m ∨ (1000000000 ≤ n ∧ 1000000000 ≤ m)) :
    normL ng all (movE e less n) = normL ng all (movE e less m) := by
  rcases h with rfl | ⟨hn, hm⟩
  · rfl
  have h2 := tz_le (zl all)
  have h3 := zl_le all
  unfold normL normS
  by_cases hz : zl all = []
  · rw [if_pos hz, if_pos hz]
  rw [if_neg hz, if_neg hz]
  have f : ∀ k : Int, 1000000000 ≤ k → (400 < movE e less k + (tz (zl all) : Int) ∨ movE e less k + (tz (zl all) : Int) < -400 ∨ 120 < (zl all).length - tz (zl all)) := by
    intro k hk
    unfold movE
    cases less
    · left; simp only [Bool.false_eq_true, if_false]; omega
    · right; left; simp only [if_true]; omega
  rw [if_pos (f n hn), if_pos (f m hm)]
theorem runL_all : ∀ l : List UInt8, ∀ b ∈ l.take (runL l), dig b = true
  | [], b, hb => by cases hb
  | c :: t, b, hb => by
    unfold runL at hb
    split at hb
    · rename_i hc
      rw [List.take_succ_cons] at hb
      rcases List.mem_cons.1 hb with rfl | hb
      · exact hc
      · exact runL_all t b hb
    · cases hb
theorem expo_same (ng : Bool) (all : List UInt8) (e : Int) (l : List UInt8) (h0 : -100000 ≤ e) (h1 : e ≤ 0) (hl : all.length ≤ 100000) : expoP numP ng all e l = expoP numR ng all e l := by
  rcases l with _ | ⟨b, t⟩
  · rfl
  show (if b.toNat = 101 ∨ b.toNat = 69 then expT numP ng all e t else badR 3) = if b.toNat = 101 ∨ b.toNat = 69 then expT numR ng all e t else badR 3
  have : expT numP ng all e t = expT numR ng all e t := by
    unfold expT
    generalize exsS t = u
    split
    · rfl
    · rename_i hu
      rw [not_or] at hu
      have hr := Classical.not_not.1 hu.2
      have ha : ∀ b ∈ u, dig b = true := by
        have := runL_all u
        rw [hr, List.take_length] at this
        exact this
      exact norm_far ng all e _ _ _ h0 h1 hl (num_far u ha)
  rw [this]
theorem dec_same (l : List UInt8) (hl : l.length ≤ 100000) : decP numP l = decP numR l := by
  unfold decP
  generalize hu : (if pre l [45] then l.drop 1 else l) = u
  have hul : u.length ≤ l.length := by rw [← hu]; split <;> simp
  unfold intP
  have hr := runL_le u
  split
  · rfl
  unfold fracP
  have hr2 := runL_le ((u.drop (runL u)).drop 1)
  rw [List.length_drop, List.length_drop] at hr2
  split
  · split
    · rfl
    · refine expo_same _ _ _ _ (by omega) (by omega) ?_
      rw [List.length_append, List.length_take, List.length_take]
      omega
  · refine expo_same _ _ _ _ (by omega) (by omega) ?_
    rw [List.length_take]
    omega
end Go.Proofs.YtgddhkanfcpipaaGreatDoor
