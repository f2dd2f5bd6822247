/- Valid UTF-8, plain laws: no program in sight. Conditions: none. -/
import Derived.Test.YthdninnjjmhpfaaGreatDoorDec
namespace Go.Proofs.YthdninnjjmhpfaaGreatDoor
open Go.RowKit
set_option maxHeartbeats 1000000
set_option maxRecDepth 100000

/-! A character is read from its own bytes alone. -/
theorem cont_congr : ∀ (n r : Nat) (l m : List UInt8), l.take n = m.take n → n ≤ l.length → n ≤ m.length → cont n r l = cont n r m
  | 0, _, _, _, _, _, _ => rfl
  | n + 1, _, [], _, _, h, _ => by simp at h
  | n + 1, _, _ :: _, [], _, _, h => by simp at h
  | n + 1, r, b :: t, c :: u, h, h1, h2 => by
    simp only [List.take_succ_cons, List.cons.injEq] at h
    obtain ⟨rfl, h⟩ := h
    unfold cont
    rw [cont_congr n _ t u h (by simpa using h1) (by simpa using h2)]
theorem dec_hd (b : UInt8) (t : List UInt8) (h : (dec (b :: t)).2 ≠ 0) : (dec (b :: t)).2 = (hd b.toNat).1 := by
  simp only [dec] at h ⊢
  split at h
  · exact absurd rfl h
  rename_i hc
  rw [if_neg hc]
  split
  · rename_i he; rw [he] at h; exact absurd rfl h
  · rename_i r he
    rw [he] at h
    simp only [] at h ⊢
    split at h
    · rename_i hs; rw [if_pos hs]
    · exact absurd rfl h
theorem dec_congr (l m : List UInt8) (h : (dec l).2 ≠ 0) (ht : l.take (dec l).2 = m.take (dec l).2) : dec m = dec l := by
  have hle := dec_le l
  rcases l with _ | ⟨b, t⟩
  · exact absurd rfl h
  have hml : (dec (b :: t)).2 ≤ m.length := by
    have := congrArg List.length ht
    rw [List.length_take, List.length_take] at this
    omega
  rcases m with _ | ⟨c, u⟩
  · simp at hml; exact absurd hml h
  have hh := dec_hd b t h
  generalize (dec (b :: t)).2 = n at *
  obtain ⟨k, rfl⟩ : ∃ k, n = k + 1 := ⟨n - 1, by omega⟩
  simp only [List.take_succ_cons, List.cons.injEq] at ht
  obtain ⟨rfl, ht⟩ := ht
  simp only [List.length_cons] at hle hml
  simp only [dec]
  rw [← hh, if_neg (by omega), if_neg (by omega), Nat.add_sub_cancel, cont_congr k _ u t ht.symm (by omega) (by omega)]
theorem dec_app (l t : List UInt8) (h : (dec l).2 ≠ 0) : dec (l ++ t) = dec l :=
  dec_congr l (l ++ t) h (by rw [List.take_append_of_le_length (dec_le l)])
theorem dec_ascii (b : UInt8) (t : List UInt8) (h : b.toNat < 128) : dec (b :: t) = (b.toNat, 1) := by
  have hd1 : hd b.toNat = (1, b.toNat) := by unfold hd; rw [if_pos h]
  simp only [dec]
  rw [hd1, if_neg (by simp)]
  simp only [Nat.sub_self, cont]
  rw [if_pos ⟨by simp [scal]; omega, by unfold wid; rw [if_pos h]⟩]

/-! Valid lists. -/
theorem valid_cons (l : List UInt8) (h : badL l = l.length) : l = [] ∨ ((dec l).2 ≠ 0 ∧ badL (l.drop (dec l).2) = (l.drop (dec l).2).length) := by
  rcases l with _ | ⟨b, t⟩
  · exact .inl rfl
  right
  rw [badL_eq] at h
  by_cases h0 : (dec (b :: t)).2 = 0
  · rw [if_pos h0] at h; simp at h
  · rw [if_neg h0] at h
    have := dec_le (b :: t)
    rw [List.length_drop]
    exact ⟨h0, by omega⟩
theorem valid_step (l : List UInt8) (h0 : (dec l).2 ≠ 0) (h : badL (l.drop (dec l).2) = (l.drop (dec l).2).length) : badL l = l.length := by
  have := dec_le l
  rw [badL_eq, if_neg h0, h, List.length_drop]
  omega
theorem valid_ascii (b : UInt8) (t : List UInt8) (hb : b.toNat < 128) (h : badL t = t.length) : badL (b :: t) = (b :: t).length := by
  have hd := dec_ascii b t hb
  exact valid_step (b :: t) (by rw [hd]; simp) (by rw [hd]; exact h)

/-- The bytes of a character of many bytes. -/
theorem high_bytes (l : List UInt8) (h0 : (dec l).2 ≠ 0) (h1 : (dec l).2 ≠ 1) : ∀ c ∈ l.take (dec l).2, 128 ≤ c.toNat := by
  rcases dec_cases l with h | ⟨r, n, h, hs, hw, _, _, _, he⟩
  · rw [h] at h0; exact absurd rfl h0
  rw [h] at h1 ⊢
  simp only [] at h1 ⊢
  rw [← he]
  have hr : r < 2097152 := by simp [scal] at hs; omega
  unfold wid at hw
  unfold enc
  intro c hc
  by_cases c1 : r < 128
  · rw [if_pos c1] at hw; omega
  rw [if_neg c1] at hc
  by_cases c2 : r < 2048
  · rw [if_pos c2] at hc
    simp only [List.mem_cons, List.not_mem_nil, or_false] at hc
    rcases hc with rfl | rfl <;> simp <;> omega
  rw [if_neg c2] at hc
  by_cases c3 : r < 65536
  · rw [if_pos c3] at hc
    simp only [List.mem_cons, List.not_mem_nil, or_false] at hc
    rcases hc with rfl | rfl | rfl <;> simp <;> omega
  · rw [if_neg c3] at hc
    simp only [List.mem_cons, List.not_mem_nil, or_false] at hc
    rcases hc with rfl | rfl | rfl | rfl <;> simp <;> omega
theorem dec_one (b : UInt8) (t : List UInt8) (h : (dec (b :: t)).2 = 1) : b.toNat < 128 := by
  rcases dec_cases (b :: t) with h' | ⟨r, n, h', _, hw, _, _, _, he⟩
  · rw [h'] at h; cases h
  rw [h'] at h
  simp only [] at h
  subst h
  rw [List.take_succ_cons, List.take_zero] at he
  have hr : r < 128 := by
    unfold wid at hw
    by_cases c1 : r < 128
    · exact c1
    · rw [if_neg c1] at hw
      repeat' split at hw
      all_goals omega
  unfold enc at he
  rw [if_pos hr, List.cons.injEq] at he
  rw [← he.1]
  simp
  omega

theorem enc_small (b : UInt8) (h : b.toNat < 128) : enc b.toNat = [b] := by
  unfold enc
  rw [if_pos h, UInt8.ofNat_toNat]
end Go.Proofs.YthdninnjjmhpfaaGreatDoor
