/- Plain: the reference's way to read a number, and that it is the program's. Conditions: none. -/
import Derived.Test.YtmafggfonapmpaaDoorBlP
namespace Go.Proofs.YtmafggfonapmpaaDoor
open Go.RowKit

def expN : List UInt8 → Bool × Bool
  | [] => (true, true)
  | c :: t => if c.toNat = 101 ∨ c.toNat = 69 then (if runL (dropSign t) = 0 then (false, (dropSign t).isEmpty) else (((dropSign t).drop (runL (dropSign t))).isEmpty, ((dropSign t).drop (runL (dropSign t))).isEmpty)) else (false, false)
def fracN (l : List UInt8) : Bool × Bool :=
  if pre l [46] then (if runL (l.drop 1) = 0 then (false, (l.drop 1).isEmpty) else expN (l.drop (1 + runL (l.drop 1)))) else expN l
def intN (l : List UInt8) : Bool × Bool :=
  if l = [] then (false, true) else if runL l = 0 ∨ (zero0 l ∧ 1 < runL l) then (false, false) else fracN (l.drop (runL l))
/-- Is it a number, and is it the beginning of one? -/
def isN (l : List UInt8) : Bool × Bool := intN (if pre l [45] then l.drop 1 else l)

theorem drop_run_empty (l : List UInt8) : (l.drop (runL l)).isEmpty = decide (runL l = l.length) := by
  have := runL_le l
  rw [Bool.eq_iff_iff]
  simp
  omega
theorem expN_fst (l : List UInt8) : (expN l).1 = expB l := by
  rcases l with _ | ⟨c, t⟩
  · rfl
  simp only [expN, expB]
  by_cases hc : c.toNat = 101 ∨ c.toNat = 69
  · rw [if_pos hc]
    have hc' : (c.toNat == 101 || c.toNat == 69) = true := by simpa using hc
    rw [hc', Bool.true_and]
    by_cases hz : runL (dropSign t) = 0
    · rw [if_pos hz]
      cases hd : dropSign t with
      | nil => rfl
      | cons a u =>
        rw [hd] at hz
        simp [hz]
    · rw [if_neg hz]
      rw [drop_run_empty]
      have : dropSign t ≠ [] := by intro h; rw [h] at hz; exact hz rfl
      simp [this]
  · rw [if_neg hc]
    have hc' : (c.toNat == 101 || c.toNat == 69) = false := by
      rw [Bool.eq_false_iff]; intro h; exact hc (by simpa using h)
    rw [hc']; rfl
theorem fracN_fst (l : List UInt8) : (fracN l).1 = fracB l := by
  unfold fracN fracB
  cases hp : pre l [46]
  · exact expN_fst l
  · simp only [if_true]
    split
    · rfl
    · exact expN_fst _
theorem intN_fst (l : List UInt8) : (intN l).1 = intB l := by
  unfold intN intB
  by_cases hl : l = []
  · subst hl; rfl
  rw [if_neg hl]
  by_cases h : runL l = 0 ∨ (zero0 l = true ∧ 1 < runL l)
  · rw [if_pos h, if_pos (h.imp id And.symm)]
  · rw [if_neg h, if_neg (fun h' => h (h'.imp id And.symm))]
    exact fracN_fst _
theorem isN_fst (l : List UInt8) : (isN l).1 = numB l := intN_fst _

theorem runL_snoc (l : List UInt8) : runL (l ++ [48]) = if runL l = l.length then runL l + 1 else runL l := by
  induction l with
  | nil => rfl
  | cons b t ih =>
    have e1 : runL (b :: t) = if dig b then runL t + 1 else 0 := rfl
    have e2 : runL (b :: t ++ [48]) = if dig b then runL (t ++ [48]) + 1 else 0 := rfl
    by_cases hd : dig b = true
    · rw [if_pos hd] at e1 e2
      rw [e2, ih, e1, List.length_cons]
      by_cases h : runL t = t.length
      · rw [if_pos h, if_pos (by omega)]
      · rw [if_neg h, if_neg (by omega)]
    · rw [if_neg hd] at e1 e2
      rw [e2, e1, List.length_cons, if_neg (by omega)]
theorem dropSign_snoc (t : List UInt8) : dropSign (t ++ [48]) = dropSign t ++ [48] := by
  cases t with
  | nil => rfl
  | cons d u =>
    simp only [List.cons_append, dropSign]
    split <;> rfl
theorem pre_snoc (l : List UInt8) (c : UInt8) (h : l ≠ []) : pre (l ++ [48]) [c] = pre l [c] := by
  cases l with
  | nil => exact absurd rfl h
  | cons a t => simp [pre]
theorem expN_snd (l : List UInt8) (hl : l ≠ []) (h : expB l = false) : (expN l).2 = expB (l ++ [48]) := by
  rcases l with _ | ⟨c, t⟩
  · exact absurd rfl hl
  rw [← expN_fst] at h
  simp only [List.cons_append, expN, expB] at h ⊢
  by_cases hc : c.toNat = 101 ∨ c.toNat = 69
  · rw [if_pos hc] at h ⊢
    have hc' : (c.toNat == 101 || c.toNat == 69) = true := by simpa using hc
    rw [hc', Bool.true_and, dropSign_snoc, runL_snoc]
    by_cases hz : runL (dropSign t) = 0
    · rw [if_pos hz]
      cases hd : dropSign t with
      | nil => rfl
      | cons a u =>
        rw [hd] at hz
        simp [hz]
    · rw [if_neg hz] at h ⊢
      simp only at h ⊢
      rw [drop_run_empty] at h ⊢
      have hne : ¬ runL (dropSign t) = (dropSign t).length := by simpa using h
      have hle := runL_le (dropSign t)
      rw [if_neg hne, decide_eq_false hne]
      have : ¬ runL (dropSign t) = (dropSign t).length + 1 := by omega
      simp [this]
  · rw [if_neg hc]
    have hc' : (c.toNat == 101 || c.toNat == 69) = false := by
      rw [Bool.eq_false_iff]; intro h; exact hc (by simpa using h)
    rw [hc']; rfl
theorem fracN_snd (l : List UInt8) (hl : l ≠ []) (h : fracB l = false) : (fracN l).2 = fracB (l ++ [48]) := by
  unfold fracN fracB at *
  rw [pre_snoc l 46 hl]
  cases hp : pre l [46]
  · rw [hp] at h
    exact expN_snd l hl h
  · rw [hp] at h
    simp only [if_true] at h ⊢
    have hlen : 1 ≤ l.length := by cases l with
      | nil => exact absurd rfl hl
      | cons a t => simp
    rw [List.drop_append_of_le_length hlen, runL_snoc]
    by_cases hz : runL (l.drop 1) = 0
    · rw [if_pos hz]
      by_cases he : l.drop 1 = []
      · rw [he]
        have : l.length = 1 := by
          have := congrArg List.length he
          rw [List.length_drop] at this
          simp at this; omega
        have hd : (l ++ [48]).drop (1 + 1) = [] := List.drop_eq_nil_of_le (by simp; omega)
        simp [runL, hd, expB]
      · have : ¬ runL (l.drop 1) = (l.drop 1).length := by
          rw [hz]; intro h0; exact he (List.eq_nil_of_length_eq_zero h0.symm)
        rw [if_neg this, if_pos hz]
        cases hd : l.drop 1 with
        | nil => exact absurd hd he
        | cons a u => rfl
    · rw [if_neg hz] at h ⊢
      have hle := runL_le (l.drop 1)
      rw [List.length_drop] at hle
      by_cases he : runL (l.drop 1) = (l.drop 1).length
      · have hd : l.drop (1 + runL (l.drop 1)) = [] := List.drop_eq_nil_of_le (by rw [List.length_drop] at he; omega)
        rw [hd] at h
        exact absurd h (by decide)
      · rw [if_neg he, if_neg hz]
        have hlt : 1 + runL (l.drop 1) < l.length := by
          rw [List.length_drop] at he; omega
        rw [List.drop_append_of_le_length (Nat.le_of_lt hlt)]
        refine expN_snd _ ?_ h
        intro h0
        have := congrArg List.length h0
        rw [List.length_drop, List.length_nil] at this
        omega
theorem zero0_snoc (l : List UInt8) (h : l ≠ []) : zero0 (l ++ [48]) = zero0 l := by
  cases l with
  | nil => exact absurd rfl h
  | cons a t => rfl
theorem intN_snd (l : List UInt8) (h : intB l = false) : (intN l).2 = intB (l ++ [48]) := by
  by_cases hl : l = []
  · subst hl; rfl
  unfold intN intB at *
  rw [if_neg hl, zero0_snoc l hl, runL_snoc]
  by_cases hc : runL l = 0 ∨ (zero0 l = true ∧ 1 < runL l)
  · rw [if_pos hc]
    have hle := runL_le l
    rcases hc with h0 | ⟨hz, h1⟩
    · have : ¬ runL l = l.length := by
        rw [h0]; intro h'; exact hl (List.eq_nil_of_length_eq_zero h'.symm)
      rw [if_neg this, if_pos (.inl h0)]
    · rw [if_pos (.inr ⟨by split <;> omega, hz⟩)]
  · rw [if_neg hc]
    have hc' : ¬ (runL l = 0 ∨ (1 < runL l ∧ zero0 l = true)) := fun h' => hc (h'.imp id And.symm)
    rw [if_neg hc'] at h
    have hle := runL_le l
    by_cases he : runL l = l.length
    · rw [he, List.drop_length] at h
      exact absurd h (by decide)
    · rw [if_neg he, if_neg hc', List.drop_append_of_le_length hle]
      refine fracN_snd _ ?_ h
      intro h0
      have := congrArg List.length h0
      rw [List.length_drop] at this
      simp at this; omega
theorem isN_snd (l : List UInt8) (h : numB l = false) : (isN l).2 = numB (l ++ [48]) := by
  unfold isN numB at *
  by_cases hl : l = []
  · subst hl; rfl
  rw [pre_snoc l 45 hl]
  cases hp : pre l [45]
  · rw [hp] at h
    exact intN_snd l h
  · rw [hp] at h
    have hlen : 1 ≤ l.length := by cases l with
      | nil => exact absurd rfl hl
      | cons a t => simp
    simp only [if_true] at h ⊢
    rw [List.drop_append_of_le_length hlen]
    exact intN_snd _ h
end Go.Proofs.YtmafggfonapmpaaDoor
