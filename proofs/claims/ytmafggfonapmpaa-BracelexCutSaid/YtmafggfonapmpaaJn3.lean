/- The tokens of a source make it up: plain laws. Conditions: none. -/
import Derived.Test.YtmafggfonapmpaaJn2
namespace Go.Proofs.Ytmafggfonapmpaa
open Go.RowKit
set_option maxHeartbeats 1000000
set_option maxRecDepth 100000

/-- Tokens that stand one behind the other, from an offset to the end. -/
def chain (s : ByteArray) : Nat → List (Nat × ByteArray × Nat) → Prop
  | k, [] => k = s.size
  | k, x :: T => ∃ n, 1 ≤ n ∧ k + n ≤ s.size ∧ oneL ((L s).drop k) = (x.1, n, 0) ∧ x = (x.1, s.extract k (k + n), k) ∧ chain s (k + n) T
theorem tokens_chain (s : ByteArray) : ∀ (f k : Nat), s.size - k ≤ f → k ≤ s.size → (tokensG s k).2.2 = 0 → chain s k (tokensG s k).1 := by
  intro f
  induction f with
  | zero =>
    intro k h1 h2 _
    rw [tokensG_end s k (by omega)]
    show k = s.size
    omega
  | succ f ih =>
    intro k h1 h2 h3
    by_cases hk : k < s.size
    case neg =>
      rw [tokensG_end s k (by omega)]
      show k = s.size
      omega
    rw [tokensG_step s k hk] at h3 ⊢
    have hle := oneL_le ((L s).drop k)
    rw [List.length_drop, L_len] at hle
    have hpos : (oneL ((L s).drop k)).2.2 = 0 → 1 ≤ (oneL ((L s).drop k)).2.1 := by rw [L_drop s k hk]; exact oneL_pos _ _
    have heta : oneL ((L s).drop k) = ((oneL ((L s).drop k)).1, (oneL ((L s).drop k)).2.1, (oneL ((L s).drop k)).2.2) := rfl
    by_cases h4 : (oneL ((L s).drop k)).2.2 = 4
    · rw [if_pos h4] at h3; exact absurd h3 (by simp)
    rw [if_neg h4] at h3 ⊢
    by_cases h0 : (oneL ((L s).drop k)).2.2 ≠ 0
    · rw [if_pos h0] at h3; exact absurd h3 h0
    rw [if_neg h0] at h3 ⊢
    have h0' : (oneL ((L s).drop k)).2.2 = 0 := by simpa using h0
    have hp := hpos h0'
    unfold tokFin at h3 ⊢
    by_cases hz : (tokensG s (k + (oneL ((L s).drop k)).2.1)).2.2 ≠ 0
    · rw [if_pos hz] at h3; exact absurd h3 hz
    rw [if_neg hz]
    have hch := ih (k + (oneL ((L s).drop k)).2.1) (by omega) (by omega) (by simpa using hz)
    exact ⟨(oneL ((L s).drop k)).2.1, hp, by omega, by rw [← h0'], rfl, hch⟩
theorem chain_txts (s : ByteArray) : ∀ (T : List (Nat × ByteArray × Nat)) (k : Nat), k ≤ s.size → chain s k T → txts T = (L s).drop k
  | [], k, _, h => by
    have h : k = s.size := h
    rw [h, L_drop_nil s _ (Nat.le_refl _)]
    rfl
  | x :: T, k, hk, h => by
    obtain ⟨n, h1, h2, _, hx, h3⟩ := h
    have ih := chain_txts s T (k + n) h2 h3
    show (x :: T).flatMap (fun x => L x.2.1) = _
    rw [List.flatMap_cons]
    show L x.2.1 ++ txts T = _
    rw [ih, hx]
    show L (s.extract k (k + n)) ++ _ = _
    rw [L_extract, Nat.add_sub_cancel_left, ← List.drop_drop, List.take_append_drop]
theorem tok_kind (k : Nat) (x : Nat × Nat) (h : (tok k x).2.2 = 0) : (tok k x).1 = k := by
  unfold tok at h ⊢
  by_cases hx : x.2 ≠ 0
  · rw [if_pos hx] at h; exact absurd h hx
  · rw [if_neg hx]
theorem one_kind (c : UInt8) (t : List UInt8) (h : (oneL (c :: t)).2.2 = 0) : 1 ≤ (oneL (c :: t)).1 ∧ (oneL (c :: t)).1 ≤ 6 := by
  simp only [oneL] at h ⊢
  by_cases h1 : blank c = true
  · rw [if_pos h1]; simp
  rw [if_neg h1] at h ⊢
  by_cases h2 : c.toNat = 10 ∨ c.toNat = 13
  · rw [if_pos h2] at h ⊢; rw [tok_kind _ _ h]; simp
  rw [if_neg h2] at h ⊢
  by_cases h3 : c.toNat = 47
  · rw [if_pos h3] at h ⊢; rw [tok_kind _ _ h]; simp
  rw [if_neg h3] at h ⊢
  by_cases h4 : punct c = true
  · rw [if_pos h4]; simp
  rw [if_neg h4] at h ⊢
  by_cases h5 : c.toNat = 34
  · rw [if_pos h5] at h ⊢; rw [tok_kind _ _ h]; simp
  rw [if_neg h5] at h ⊢
  by_cases h6 : (c.toNat = 116 ∨ c.toNat = 98) ∧ pre t [34] = true
  · rw [if_pos h6] at h ⊢; rw [tok_kind _ _ h]; simp
  rw [if_neg h6] at h ⊢
  by_cases h7 : wordb c = true
  · rw [if_pos h7] at h ⊢; rw [tok_kind _ _ h]; simp
  · rw [if_neg h7] at h; exact absurd h (by simp)
/-- What the tokens of a source are, where there is no error. -/
theorem tok_chain (s : ByteArray) (h : (tokR s).2.2 = 0) : chain s 0 (tokR s).1 := by
  unfold tokR at h ⊢
  by_cases h1 : 1048576 < s.size
  · rw [if_pos h1] at h; exact absurd h (by simp)
  rw [if_neg h1] at h ⊢
  by_cases h2 : badL (L s) ≠ s.size
  · rw [if_pos h2] at h; exact absurd h (by simp)
  rw [if_neg h2] at h ⊢
  exact tokens_chain s s.size 0 (by omega) (Nat.zero_le _) h
theorem tok_none (s : ByteArray) (h : (tokR s).2.2 ≠ 0) : (tokR s).1 = [] := by
  unfold tokR at h ⊢
  by_cases h1 : 1048576 < s.size
  · rw [if_pos h1]
  rw [if_neg h1] at h ⊢
  by_cases h2 : badL (L s) ≠ s.size
  · rw [if_pos h2]
  rw [if_neg h2] at h ⊢
  have := tokensF_err s (s.size - 0 + 1) 0 h
  show (tokensF s (s.size - 0 + 1) 0).1 = []
  rw [this]
end Go.Proofs.Ytmafggfonapmpaa
