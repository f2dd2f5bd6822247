/- A number that is cut off is a number or begins one: plain laws. Conditions: none. -/
import Derived.Test.YtmafggfonapmpaaN1
namespace Go.Proofs.Ytmafggfonapmpaa
open Go.RowKit

theorem runL_app : ∀ (a b : List UInt8), runL (a ++ b) = if runL a = a.length then a.length + runL b else runL a
  | [], b => by simp [runL]
  | c :: a, b => by
    have ih := runL_app a b
    have e1 : ∀ t, runL (c :: t) = if dig c then runL t + 1 else 0 := fun _ => rfl
    show runL (c :: (a ++ b)) = _
    rw [e1, e1]
    by_cases hc : dig c = true
    · rw [if_pos hc, if_pos hc, ih, List.length_cons]
      by_cases h : runL a = a.length
      · rw [if_pos h, if_pos (by omega)]; omega
      · rw [if_neg h, if_neg (by omega)]
    · rw [if_neg hc, if_neg hc, if_neg (by rw [List.length_cons]; omega)]
theorem run_all (a b : List UInt8) (h : runL (a ++ b) = (a ++ b).length) : runL a = a.length := by
  rw [runL_app, List.length_append] at h
  have := runL_le a
  by_cases h1 : runL a = a.length
  · exact h1
  · rw [if_neg h1] at h; omega
theorem drop_app (a b : List UInt8) (n : Nat) (h : n ≤ a.length) : (a ++ b).drop n = a.drop n ++ b := by
  rw [List.drop_append_of_le_length h]
theorem expB_cut (a b : List UInt8) (h : expB (a ++ b) = true) : expB a = true ∨ expB (a ++ [48]) = true := by
  rcases a with _ | ⟨c, a⟩
  · exact .inl rfl
  have h' : ((c.toNat == 101 || c.toNat == 69) && (decide (dropSign (a ++ b) ≠ []) && decide (runL (dropSign (a ++ b)) = (dropSign (a ++ b)).length))) = true := h
  simp only [Bool.and_eq_true, decide_eq_true_eq] at h'
  obtain ⟨hc, hne, hr⟩ := h'
  have mk : ∀ t : List UInt8, dropSign t ≠ [] → runL (dropSign t) = (dropSign t).length → expB (c :: t) = true := by
    intro t h1 h2
    show ((c.toNat == 101 || c.toNat == 69) && (decide (dropSign t ≠ []) && decide (runL (dropSign t) = (dropSign t).length))) = true
    simp only [Bool.and_eq_true, decide_eq_true_eq]
    exact ⟨hc, h1, h2⟩
  rcases a with _ | ⟨d, a⟩
  · right
    exact mk [48] (by decide) (by decide)
  by_cases hd : sgn d = true
  · have e1 : ∀ t, dropSign (d :: t) = t := fun t => by show (if sgn d then t else d :: t) = t; rw [if_pos hd]
    show expB (c :: d :: a) = true ∨ expB (c :: d :: (a ++ [48])) = true
    have hr' : runL (a ++ b) = (a ++ b).length := by
      have := hr
      rw [show d :: a ++ b = d :: (a ++ b) from rfl, e1] at this
      exact this
    have ha := run_all a b hr'
    rcases a with _ | ⟨e, a⟩
    · right
      exact mk [d, 48] (by rw [e1]; decide) (by rw [e1]; decide)
    · left
      exact mk (d :: e :: a) (by rw [e1]; simp) (by rw [e1]; exact ha)
  · have e1 : ∀ t, dropSign (d :: t) = d :: t := fun t => by show (if sgn d then t else d :: t) = d :: t; rw [if_neg hd]
    left
    refine mk (d :: a) (by rw [e1]; simp) ?_
    rw [e1]
    rw [show d :: a ++ b = d :: (a ++ b) from rfl, e1] at hr
    exact run_all (d :: a) b hr
theorem fracB_dot (t : List UInt8) : fracB (46 :: t) = if runL t = 0 then false else expB (t.drop (runL t)) := by
  unfold fracB
  rw [if_pos (by simp [pre])]
  show (if runL t = 0 then false else expB ((46 :: t).drop (1 + runL t))) = _
  rw [Nat.add_comm, List.drop_succ_cons]
theorem fracB_other (c : UInt8) (t : List UInt8) (h : c ≠ 46) : fracB (c :: t) = expB (c :: t) := by
  unfold fracB
  rw [if_neg (by simp [pre, h])]
theorem fracB_cut (a b : List UInt8) (h : fracB (a ++ b) = true) : fracB a = true ∨ fracB (a ++ [48]) = true := by
  rcases a with _ | ⟨c, a⟩
  · exact .inl rfl
  by_cases hc : c = 46
  · subst hc
    rw [show (46 :: a) ++ b = 46 :: (a ++ b) from rfl, fracB_dot] at h
    rw [show (46 :: a) ++ [48] = 46 :: (a ++ [48]) from rfl, fracB_dot, fracB_dot]
    by_cases h0 : runL (a ++ b) = 0
    · rw [if_pos h0] at h; cases h
    rw [if_neg h0] at h
    have hl := runL_le a
    by_cases hall : runL a = a.length
    · rcases a with _ | ⟨d, a⟩
      · right; decide
      · left
        rw [if_neg (by rw [hall]; simp), hall, List.drop_length]
        rfl
    · rw [runL_app, if_neg hall] at h0 h
      rw [runL_app, if_neg hall, if_neg h0, drop_app _ _ _ hl]
      rw [drop_app _ _ _ hl] at h
      rw [if_neg h0]
      exact expB_cut _ _ h
  · rw [show (c :: a) ++ b = c :: (a ++ b) from rfl, fracB_other _ _ hc] at h
    rw [show (c :: a) ++ [48] = c :: (a ++ [48]) from rfl, fracB_other _ _ hc, fracB_other _ _ hc]
    exact expB_cut (c :: a) b h
theorem intB_cut (a b : List UInt8) (ha : a ≠ []) (h : intB (a ++ b) = true) : intB a = true ∨ intB (a ++ [48]) = true := by
  unfold intB at h ⊢
  have hz : zero0 (a ++ b) = zero0 a ∧ zero0 (a ++ [48]) = zero0 a := by
    rcases a with _ | ⟨c, a⟩
    · exact absurd rfl ha
    · exact ⟨rfl, rfl⟩
  rw [hz.1] at h
  rw [hz.2]
  have hl := runL_le a
  by_cases hbad : runL (a ++ b) = 0 ∨ 1 < runL (a ++ b) ∧ zero0 a = true
  · rw [if_pos hbad] at h; cases h
  rw [if_neg hbad] at h
  by_cases hall : runL a = a.length
  · left
    rw [runL_app, if_pos hall] at hbad
    have hp : 0 < a.length := by cases a <;> simp at ha ⊢
    rw [if_neg (by rw [hall]; intro hx; rcases hx with hx | ⟨hx, hy⟩; · omega
                   · exact hbad (.inr ⟨by omega, hy⟩)), hall, List.drop_length]
    rfl
  · rw [runL_app, if_neg hall] at hbad h
    rw [runL_app, if_neg hall, if_neg hbad, drop_app _ _ _ hl]
    rw [drop_app _ _ _ hl] at h
    rw [if_neg hbad]
    exact fracB_cut _ _ h
/-- A number, cut off. -/
theorem numB_cut (a b : List UInt8) (ha : a ≠ []) (h : numB (a ++ b) = true) : numB a = true ∨ numB (a ++ [48]) = true := by
  rcases a with _ | ⟨c, a⟩
  · exact absurd rfl ha
  unfold numB at h ⊢
  by_cases hc : c = 45
  · subst hc
    have e : ∀ t : List UInt8, pre (45 :: t) [45] = true := fun t => by simp [pre]
    rw [show (45 :: a) ++ b = 45 :: (a ++ b) from rfl, if_pos (e _)] at h
    rw [show (45 :: a) ++ [48] = 45 :: (a ++ [48]) from rfl, if_pos (e _), if_pos (e _)]
    rcases a with _ | ⟨d, a⟩
    · right; decide
    · exact intB_cut (d :: a) b (by simp) h
  · have e : ∀ t : List UInt8, ¬ pre (c :: t) [45] = true := fun t => by simp [pre, hc]
    rw [show (c :: a) ++ b = c :: (a ++ b) from rfl, if_neg (e _)] at h
    rw [show (c :: a) ++ [48] = c :: (a ++ [48]) from rfl, if_neg (e _), if_neg (e _)]
    exact intB_cut (c :: a) b (by simp) h
end Go.Proofs.Ytmafggfonapmpaa
