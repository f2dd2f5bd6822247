/- A token that is cut off between two characters: plain laws. Conditions: none. -/
import Derived.Test.YtmafggfonapmpaaCu3
import Derived.Test.YtmafggfonapmpaaBl10
namespace Go.Proofs.Ytmafggfonapmpaa
open Go.RowKit
set_option maxHeartbeats 1000000
set_option maxRecDepth 100000

theorem wordLen_take : ∀ (l : List UInt8) (m : Nat), wordLen (l.take m) = min m (wordLen l)
  | [], m => by simp [wordLen]
  | b :: t, 0 => by simp [wordLen]
  | b :: t, m + 1 => by
    have ih := wordLen_take t m
    have e1 : ∀ v, wordLen (b :: v) = if wordb b then wordLen v + 1 else 0 := fun _ => rfl
    rw [List.take_succ_cons, e1, e1, ih]
    by_cases hb : wordb b = true
    · rw [if_pos hb, if_pos hb]; omega
    · rw [if_neg hb, if_neg hb]; omega
theorem spaceLen_take : ∀ (l : List UInt8) (m : Nat), spaceLen (l.take m) = min m (spaceLen l)
  | [], m => by simp [spaceLen]
  | b :: t, 0 => by simp [spaceLen]
  | b :: t, m + 1 => by
    have ih := spaceLen_take t m
    have e1 : ∀ v, spaceLen (b :: v) = if blank b then spaceLen v + 1 else 0 := fun _ => rfl
    rw [List.take_succ_cons, e1, e1, ih]
    by_cases hb : blank b = true
    · rw [if_pos hb, if_pos hb]; omega
    · rw [if_neg hb, if_neg hb]; omega
theorem bareL_cut (a b : List UInt8) (ha : a ≠ []) (h : bareL (a ++ b) = true) : bareL a = true := by
  rcases a with _ | ⟨c, a⟩
  · exact absurd rfl ha
  have h' : (bare0 c && (a ++ b).all fun c => bare0 c || dig c) = true := h
  show (bare0 c && a.all fun c => bare0 c || dig c) = true
  rw [List.all_append] at h'
  simp only [Bool.and_eq_true] at h' ⊢
  exact ⟨h'.1, h'.2.1⟩
theorem wordL_cut (l : List UInt8) (m : Nat) (h : (wordL l).2 = 0) (hm : 0 < m) (hl : m ≤ l.length) : (wordL (l.take m)).2 = 4 ∨ ((wordL (l.take m)).2 = 0 ∧ ((wordL (l.take m)).1 = m ∨ ((wordL (l.take m)).1 = (wordL l).1 ∧ (wordL l).1 ≤ m))) := by
  have hw : (wordL l).1 = wordLen l ∧ (numB (l.take (wordLen l)) || bareL (l.take (wordLen l))) = true := by
    unfold wordL at h ⊢
    by_cases h1 : (numB (l.take (wordLen l)) || bareL (l.take (wordLen l))) = true
    · rw [if_pos h1]; exact ⟨rfl, h1⟩
    · rw [if_neg h1] at h
      split at h
      · exact absurd h (by simp)
      · exact absurd h (by simp)
  rw [hw.1]
  have ht : wordLen (l.take m) = min m (wordLen l) := wordLen_take l m
  by_cases hn : wordLen l ≤ m
  · right
    rw [Nat.min_eq_right hn] at ht
    have E : wordL (l.take m) = (wordLen l, 0) := by
      unfold wordL
      rw [ht, List.take_take, Nat.min_eq_left hn, if_pos hw.2]
    rw [E]
    exact ⟨rfl, .inr ⟨rfl, hn⟩⟩
  · rw [Nat.min_eq_left (by omega)] at ht
    have hlen : (l.take m).length = m := by rw [List.length_take]; omega
    have hne : l.take m ≠ [] := by
      intro h0
      rw [h0] at hlen
      simp at hlen
      omega
    have hsp : l.take (wordLen l) = l.take m ++ (l.take (wordLen l)).drop m := by
      have := List.take_append_drop m (l.take (wordLen l))
      rw [List.take_take, Nat.min_eq_left (by omega)] at this
      exact this.symm
    have hgood : numB (l.take m) = true ∨ numB (l.take m ++ [48]) = true ∨ bareL (l.take m) = true := by
      have h2 := hw.2
      rw [Bool.or_eq_true, hsp] at h2
      rcases h2 with h2 | h2
      · rcases numB_cut _ _ hne h2 with h3 | h3
        · exact .inl h3
        · exact .inr (.inl h3)
      · exact .inr (.inr (bareL_cut _ _ hne h2))
    unfold wordL
    rw [ht, List.take_take, Nat.min_self]
    by_cases h1 : (numB (l.take m) || bareL (l.take m)) = true
    · rw [if_pos h1]
      exact .inr ⟨rfl, .inl rfl⟩
    · rw [if_neg h1]
      left
      rw [Bool.or_eq_true] at h1
      rw [if_pos ⟨hlen.symm, by rcases hgood with h3 | h3 | h3; exact absurd (.inl h3) h1; exact h3; exact absurd (.inr h3) h1⟩]

theorem tok_cut (k k' : Nat) (x y : Nat × Nat) (m : Nat) (hy : (tok k y).2.2 = 0) (hx : y.2 = 0 → x.2 = 4 ∨ (x.2 = 0 ∧ (x.1 = m ∨ (x.1 = y.1 ∧ y.1 ≤ m)))) : (tok k' x).2.2 = 4 ∨ ((tok k' x).2.2 = 0 ∧ ((tok k' x).2.1 = m ∨ ((tok k' x).2.1 = (tok k y).2.1 ∧ (tok k y).2.1 ≤ m))) := by
  have hy0 : y.2 = 0 := by
    unfold tok at hy
    by_cases h : y.2 ≠ 0
    · rw [if_pos h] at hy; exact absurd hy h
    · simpa using h
  have ey : tok k y = (k, y.1, 0) := by unfold tok; rw [if_neg (by rw [hy0]; simp)]
  rw [ey]
  rcases hx hy0 with h | ⟨h, h2⟩
  · left
    unfold tok
    rw [if_pos (by rw [h]; decide)]
    exact h
  · right
    have ex : tok k' x = (k', x.1, 0) := by unfold tok; rw [if_neg (by rw [h]; simp)]
    rw [ex]
    exact ⟨rfl, h2⟩
/-- A token, cut off between two characters. -/
theorem one_cut (c : UInt8) (t : List UInt8) (j : Nat) (h : (oneL (c :: t)).2.2 = 0) (hc : cutOK (c :: t) (j + 1)) (hl : j ≤ t.length) : (oneL (c :: t.take j)).2.2 = 4 ∨ ((oneL (c :: t.take j)).2.2 = 0 ∧ ((oneL (c :: t.take j)).2.1 = j + 1 ∨ ((oneL (c :: t.take j)).2.1 = (oneL (c :: t)).2.1 ∧ (oneL (c :: t)).2.1 ≤ j + 1))) := by
  have hc1 := cutOK_tail hc
  have hspace := spaceLen_take (c :: t) (j + 1)
  have hword := wordL_cut (c :: t) (j + 1)
  rw [List.take_succ_cons] at hspace hword
  simp only [oneL] at h ⊢
  by_cases h1 : blank c = true
  · rw [if_pos h1, if_pos h1, hspace]
    right
    refine ⟨rfl, ?_⟩
    show min (j + 1) (spaceLen (c :: t)) = j + 1 ∨ (min (j + 1) (spaceLen (c :: t)) = spaceLen (c :: t) ∧ spaceLen (c :: t) ≤ j + 1)
    omega
  rw [if_neg h1] at h ⊢
  rw [if_neg h1]
  by_cases h2 : c.toNat = 10 ∨ c.toNat = 13
  · rw [if_pos h2] at h ⊢
    rw [if_pos h2]
    refine tok_cut _ _ _ _ _ h (fun hy => ?_)
    rcases t with _ | ⟨d, t⟩
    · rw [List.take_nil]
      exact .inr ⟨hy, .inr ⟨rfl, by have := lineL_le [c]; simp at this; omega⟩⟩
    rcases j with _ | j
    · rw [List.take_zero]
      by_cases h10 : c.toNat = 10
      · right; simp [lineL, h10]
      · left; simp [lineL, h10]
    · rw [List.take_succ_cons]
      right
      have e : lineL (c :: d :: t.take j) = lineL (c :: d :: t) := rfl
      rw [e]
      refine ⟨hy, .inr ⟨rfl, ?_⟩⟩
      simp only [lineL]
      repeat' split
      all_goals simp
  rw [if_neg h2] at h ⊢
  rw [if_neg h2]
  by_cases h3 : c.toNat = 47
  · rw [if_pos h3] at h ⊢
    rw [if_pos h3]
    refine tok_cut _ _ _ _ _ h (fun hy => ?_)
    rcases t with _ | ⟨d, t⟩
    · exact absurd hy (by simp [comL])
    rcases j with _ | j
    · exact .inl rfl
    rw [List.take_succ_cons]
    rw [comL_eq] at hy
    rw [comL_eq, comL_eq]
    have hc2 := cutOK_tail hc1
    by_cases h47 : d.toNat = 47
    · rw [if_pos h47] at hy ⊢
      rw [if_pos h47]
      obtain ⟨q1, q2⟩ := comFin_err _ _ hy
      have := comG_line_cut t.length t j (Nat.le_refl _) q1 hc2 (by simp only [List.length_cons] at hl; omega)
      rw [comFin_ok _ _ this.1, comFin_ok _ _ q1]
      right
      refine ⟨rfl, ?_⟩
      rcases this.2 with h5 | ⟨h5, h6⟩
      · left; show 2 + _ = _; omega
      · right; exact ⟨by show 2 + _ = 2 + _; rw [h5], by show 2 + _ ≤ _; omega⟩
    rw [if_neg h47] at hy ⊢
    rw [if_neg h47]
    by_cases h42 : d.toNat = 42
    · rw [if_pos h42] at hy ⊢
      rw [if_pos h42]
      obtain ⟨q1, q2⟩ := comFin_err _ _ hy
      have := comG_block_cut t.length t j (Nat.le_refl _) q1 hc2
      by_cases hk : (comG true t).1 ≤ j
      · rw [this.1 hk, comFin_ok _ _ q1]
        exact .inr ⟨rfl, .inr ⟨rfl, by show 2 + _ ≤ _; omega⟩⟩
      · exact .inl (comFin_four _ _ (this.2 (by omega)))
    · rw [if_neg h42] at hy; exact absurd hy (by simp)
  rw [if_neg h3] at h ⊢
  rw [if_neg h3]
  by_cases h4 : punct c = true
  · rw [if_pos h4, if_pos h4]
    exact .inr ⟨rfl, .inr ⟨rfl, by simp⟩⟩
  rw [if_neg h4] at h ⊢
  rw [if_neg h4]
  by_cases h5 : c.toNat = 34
  · rw [if_pos h5] at h ⊢
    rw [if_pos h5]
    refine tok_cut _ _ _ _ _ h (fun hy => ?_)
    have := quotL_cut t.length t j (Nat.le_refl _) hy hc1
    by_cases hk : (quotL t).2.1 ≤ j
    · obtain ⟨i1, i2⟩ := this.1 hk
      exact .inr ⟨i2, .inr ⟨by show 1 + _ = 1 + _; rw [i1], by show 1 + _ ≤ _; omega⟩⟩
    · exact .inl (this.2 (by omega))
  rw [if_neg h5] at h ⊢
  rw [if_neg h5]
  by_cases h6 : (c.toNat = 116 ∨ c.toNat = 98) ∧ pre t [34] = true
  · rw [if_pos h6] at h ⊢
    rcases t with _ | ⟨d, t⟩
    · exact absurd h6.2 (by simp [pre])
    rcases j with _ | j
    · have hw : wordb c = true := by rcases h6.1 with h7 | h7 <;> simp [wordb, alpha, h7]
      have hb : wordL [c] = (1, 0) := by
        have hb0 : bare0 c = true := by rcases h6.1 with h7 | h7 <;> simp [bare0, alpha, h7]
        have hn : wordLen [c] = 1 := by simp [wordLen, hw]
        have hbb : bareL [c] = true := by simp [bareL, hb0]
        unfold wordL
        rw [hn]
        simp [hbb]
      rw [List.take_zero, if_neg (by simp [pre]), if_pos hw, hb]
      right
      exact ⟨rfl, .inl rfl⟩
    · rw [List.take_succ_cons, if_pos ⟨h6.1, by have := h6.2; simpa [pre] using this⟩]
      refine tok_cut _ _ _ _ _ h (fun hy => ?_)
      simp only [List.drop_succ_cons, List.drop_zero] at hy ⊢
      have := quotL_cut t.length t j (Nat.le_refl _) hy (cutOK_tail hc1)
      by_cases hk : (quotL t).2.1 ≤ j
      · obtain ⟨i1, i2⟩ := this.1 hk
        exact .inr ⟨i2, .inr ⟨by show 2 + _ = 2 + _; rw [i1], by show 2 + _ ≤ _; omega⟩⟩
      · exact .inl (this.2 (by omega))
  rw [if_neg h6] at h ⊢
  have h6' : ¬ ((c.toNat = 116 ∨ c.toNat = 98) ∧ pre (t.take j) [34] = true) := by
    rintro ⟨q1, q2⟩
    rcases j with _ | j
    · simp [pre] at q2
    · rw [pre_take _ _ _ (by simp)] at q2; exact h6 ⟨q1, q2⟩
  rw [if_neg h6']
  by_cases h7 : wordb c = true
  · rw [if_pos h7] at h ⊢
    rw [if_pos h7]
    exact tok_cut _ _ _ _ _ h (fun hy => hword hy (by omega) (by simp only [List.length_cons]; omega))
  · rw [if_neg h7] at h; exact absurd h (by simp)
end Go.Proofs.Ytmafggfonapmpaa
