/- A source that is cut off between two characters: plain law. Conditions: none. -/
import Derived.Test.YtmafggfonapmpaaCu4
import Derived.Test.YtmafggfonapmpaaJn3
namespace Go.Proofs.Ytmafggfonapmpaa
open Go.RowKit
set_option maxHeartbeats 1000000
set_option maxRecDepth 100000

theorem fin_cut (acc : List (Nat × ByteArray × Nat)) (y : List (Nat × ByteArray × Nat) × Nat × Nat) (m : Nat) (h : y.2.2 = 0 ∨ (y.2.2 = 4 ∧ y.2.1 = m)) : (tokFin acc y).2.2 = 0 ∨ ((tokFin acc y).2.2 = 4 ∧ (tokFin acc y).2.1 = m) := by
  unfold tokFin
  rcases h with h | ⟨h, h2⟩
  · rw [if_neg (by rw [h]; simp)]; exact .inl rfl
  · rw [if_pos (by rw [h]; decide)]; exact .inr ⟨h, h2⟩
theorem chain_cut (s p : ByteArray) (m : Nat) (hp : L p = (L s).take m) (hm : m ≤ s.size) : ∀ (T : List (Nat × ByteArray × Nat)) (k : Nat), k ≤ m → chain s k T → cutOK ((L s).drop k) (m - k) → (tokensG p k).2.2 = 0 ∨ ((tokensG p k).2.2 = 4 ∧ (tokensG p k).2.1 = m) := by
  have hps : p.size = m := by rw [← L_len, hp, List.length_take, L_len]; omega
  intro T
  induction T with
  | nil =>
    intro k hk h _
    have h : k = s.size := h
    rw [tokensG_end p k (by omega)]
    exact .inl rfl
  | cons x T ih =>
    intro k hk h hc
    obtain ⟨n, hn1, hn2, hone, _, hch⟩ := h
    by_cases hkm : m ≤ k
    · rw [tokensG_end p k (by omega)]
      exact .inl rfl
    have hks : k < s.size := by omega
    have hsd := L_drop s k hks
    have hpd : (L p).drop k = s[k] :: ((L s).drop (k + 1)).take (m - k - 1) := by
      rw [hp, List.drop_take, hsd, show m - k = (m - k - 1) + 1 by omega, List.take_succ_cons]
      rfl
    have hcut := one_cut s[k] ((L s).drop (k + 1)) (m - k - 1) (by rw [← hsd, hone]) (by rw [← hsd, show m - k - 1 + 1 = m - k by omega]; exact hc) (by rw [List.length_drop, L_len]; omega)
    rw [← hpd, ← hsd, hone] at hcut
    rw [tokensG_step p k (by omega)]
    rcases hcut with h4 | ⟨h0, hn⟩
    · rw [if_pos h4]
      exact .inr ⟨rfl, hps⟩
    rw [if_neg (by rw [h0]; decide), if_neg (by rw [h0]; simp)]
    refine fin_cut _ _ _ ?_
    rcases hn with hn | ⟨hn, hle⟩
    · rw [hn, tokensG_end p _ (by omega)]
      exact .inl rfl
    · have hn' : (oneL ((L p).drop k)).2.1 = n := hn
      have hle' : n ≤ m - k - 1 + 1 := hle
      rw [hn']
      refine ih (k + n) (by omega) hch ?_
      have := cutOK_drop hc (n := n) (by omega)
      rw [List.drop_drop] at this
      rw [show m - (k + n) = m - k - n by omega]
      exact this
/-- The prefix of a valid list, cut between two characters, is valid. -/
theorem valid_cut : ∀ (f : Nat) (l : List UInt8) (m : Nat), l.length ≤ f → badL l = l.length → cutOK l m → m ≤ l.length → badL (l.take m) = (l.take m).length := by
  intro f
  induction f with
  | zero =>
    intro l m hl _ _ _
    have : l = [] := List.eq_nil_of_length_eq_zero (by omega)
    subst this
    simp; rfl
  | succ f ih =>
    intro l m hl hv hc hm
    rcases valid_cons _ hv with h | ⟨h0, hv'⟩
    · subst h; simp; rfl
    rcases m with _ | m
    · simp; rfl
    have hle := dec_le l
    have hk : (dec l).2 ≤ m + 1 := by
      rcases Nat.lt_or_ge (m + 1) (dec l).2 with hlt | hge
      · exact (dec_mid l (m + 1) (by omega) hlt hc).elim
      · exact hge
    have hdt := dec_take l (m + 1) h0 hk
    refine valid_step _ (by rw [hdt]; exact h0) ?_
    rw [hdt, List.drop_take]
    exact ih (l.drop (dec l).2) (m + 1 - (dec l).2) (by rw [List.length_drop]; omega) hv' (cutOK_drop hc hk) (by rw [List.length_drop]; omega)
theorem tok_cut_any (s p : ByteArray) (m : Nat) (hp : L p = (L s).take m) (hm : m ≤ s.size) (h : (tokR s).2.2 = 0) (hc : cutOK (L s) m) : (tokR p).2.2 = 0 ∨ ((tokR p).2.2 = 4 ∧ (tokR p).2.1 = m) := by
  have hch := tok_chain s h
  have hps : p.size = m := by rw [← L_len, hp, List.length_take, L_len]; omega
  unfold tokR at h
  by_cases h1 : 1048576 < s.size
  · rw [if_pos h1] at h; exact absurd h (by simp)
  rw [if_neg h1] at h
  by_cases h2 : badL (L s) ≠ s.size
  · rw [if_pos h2] at h; exact absurd h (by simp)
  have hv : badL (L p) = p.size := by
    rw [hp, ← L_len p, hp]
    exact valid_cut (L s).length (L s) m (Nat.le_refl _) (by rw [L_len]; simpa using h2) hc (by rw [L_len]; exact hm)
  unfold tokR
  rw [if_neg (by omega), if_neg (by simpa using hv)]
  exact chain_cut s p m hp hm (tokR s).1 0 (Nat.zero_le _) hch (by simpa using hc)
end Go.Proofs.Ytmafggfonapmpaa
