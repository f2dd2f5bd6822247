/- plain: Go's own decoding of strings. Conditions: none. -/
import Derived.Test.YtmafggfonapmpaaDoorDec
import Derived.WalkSpells
import Derived.WalkLawsBesides
namespace Go.Proofs.YtmafggfonapmpaaDoor
open Go.RowKit
set_option maxHeartbeats 1000000
set_option maxRecDepth 100000

theorem get_bang (s : ByteArray) (i : Nat) (h : i < s.size) : s.get! i = s[i] := by
  simp [ByteArray.get!, getElem!_pos, h]
  rfl
/-- Go's own decoding of a string is dec, but for what is no character. -/
theorem utf8_dec (s : ByteArray) (k : Nat) (h : k < s.size) : Utf8.decode s k = if (dec ((L s).drop k)).2 = 0 then (65533, 1) else dec ((L s).drop k) := by
  rw [L_drop s k h]
  have hb := s[k].toNat_lt
  unfold Utf8.decode
  simp only [Nat.add_zero, get_bang s k h]
  generalize hbk : s[k] = b at *
  by_cases h1 : b.toNat < 128
  · have e2 : hd b.toNat = (1, b.toNat) := by unfold hd; rw [if_pos h1]
    have e4 : scal b.toNat = true := by simp [scal]; omega
    have e5 : wid b.toNat = 1 := by unfold wid; rw [if_pos h1]
    simp [dec, e2, cont, e4, e5, h1]
  rw [if_neg (by omega)]
  have drop1 : ∀ h : k + 1 < s.size, (L s).drop (k + 1) = s[k + 1] :: (L s).drop (k + 2) := fun h => L_drop s (k + 1) h
  have drop2 : ∀ h : k + 2 < s.size, (L s).drop (k + 2) = s[k + 2] :: (L s).drop (k + 3) := fun h => L_drop s (k + 2) h
  have drop3 : ∀ h : k + 3 < s.size, (L s).drop (k + 3) = s[k + 3] :: (L s).drop (k + 4) := fun h => L_drop s (k + 3) h
  have nil1 : ¬ k + 1 < s.size → (L s).drop (k + 1) = [] := fun h => L_drop_nil s _ (by omega)
  have nil2 : ¬ k + 2 < s.size → (L s).drop (k + 2) = [] := fun h => L_drop_nil s _ (by omega)
  have nil3 : ¬ k + 3 < s.size → (L s).drop (k + 3) = [] := fun h => L_drop_nil s _ (by omega)
  have q2 : ∀ x : Nat, (x + 1 + 1 < 2) = False := fun x => eq_false (by omega)
  have q3 : ∀ x : Nat, (x + 1 + 1 + 1 < 3) = False := fun x => eq_false (by omega)
  have q4 : ∀ x : Nat, (x + 1 + 1 + 1 + 1 < 4) = False := fun x => eq_false (by omega)
  by_cases h2 : b.toNat < 192
  · have e2 : hd b.toNat = (0, 0) := by unfold hd; rw [if_neg h1, if_neg (by omega), if_neg (by omega), if_neg (by omega)]
    have a1 : (b.toNat / 32 == 6) = false := by rw [beq_eq_false_iff_ne]; omega
    have a2 : (b.toNat / 16 == 14) = false := by rw [beq_eq_false_iff_ne]; omega
    have a3 : (b.toNat / 8 == 30) = false := by rw [beq_eq_false_iff_ne]; omega
    simp [dec, e2, a1, a2, a3, Utf8.runeError]
  by_cases h3 : b.toNat < 224
  · have e2 : hd b.toNat = (2, b.toNat % 32) := by unfold hd; rw [if_neg h1, if_pos (by omega)]
    have a1 : (b.toNat / 32 == 6) = true := by rw [beq_iff_eq]; omega
    have a2 : (b.toNat / 16 == 14) = false := by rw [beq_eq_false_iff_ne]; omega
    have a3 : (b.toNat / 8 == 30) = false := by rw [beq_eq_false_iff_ne]; omega
    by_cases k1 : k + 1 < s.size
    · rw [drop1 k1, get_bang s _ k1]
      generalize s[k + 1] = c
      have hc := c.toNat_lt
      by_cases hc2 : c.toNat / 64 = 2
      · by_cases hr : 128 ≤ b.toNat % 32 * 64 + c.toNat % 64
        · have w1 : wid (b.toNat % 32 * 64 + c.toNat % 64) = 2 := by unfold wid; rw [if_neg (by omega), if_pos (by omega)]
          have s1 : scal (b.toNat % 32 * 64 + c.toNat % 64) = true := by simp [scal]; omega
          simp [dec, e2, a1, k1, hc2, cont, hr, w1, s1, q2]
        · have w1 : wid (b.toNat % 32 * 64 + c.toNat % 64) = 1 := by unfold wid; rw [if_pos (by omega)]
          simp [dec, e2, a1, k1, hc2, cont, hr, w1, Utf8.runeError]
      · simp [dec, e2, a1, a2, a3, k1, hc2, cont, Utf8.runeError]
    · rw [nil1 k1]
      simp [dec, e2, a1, a2, a3, k1, Utf8.runeError]
  by_cases h4 : b.toNat < 240
  · have e2 : hd b.toNat = (3, b.toNat % 16) := by unfold hd; rw [if_neg h1, if_neg (by omega), if_pos (by omega)]
    have a1 : (b.toNat / 32 == 6) = false := by rw [beq_eq_false_iff_ne]; omega
    have a2 : (b.toNat / 16 == 14) = true := by rw [beq_iff_eq]; omega
    have a3 : (b.toNat / 8 == 30) = false := by rw [beq_eq_false_iff_ne]; omega
    by_cases k1 : k + 1 < s.size
    · by_cases k2 : k + 2 < s.size
      · rw [drop1 k1, drop2 k2, get_bang s _ k1, get_bang s _ k2]
        generalize s[k + 1] = c
        generalize s[k + 2] = d
        have hc := c.toNat_lt
        have hd' := d.toNat_lt
        by_cases hc2 : c.toNat / 64 = 2
        · by_cases hd2 : d.toNat / 64 = 2
          · have ea : (b.toNat % 16 * 64 + c.toNat % 64) * 64 + d.toNat % 64 = b.toNat % 16 * 4096 + c.toNat % 64 * 64 + d.toNat % 64 := by omega
            by_cases hr : 2048 ≤ b.toNat % 16 * 4096 + c.toNat % 64 * 64 + d.toNat % 64
            · have w1 : wid (b.toNat % 16 * 4096 + c.toNat % 64 * 64 + d.toNat % 64) = 3 := by unfold wid; rw [if_neg (by omega), if_neg (by omega), if_pos (by omega)]
              have hv : Utf8.valid ((b.toNat % 16 * 4096 + c.toNat % 64 * 64 + d.toNat % 64 : Nat) : Int) = scal (b.toNat % 16 * 4096 + c.toNat % 64 * 64 + d.toNat % 64) := by
                rw [Bool.eq_iff_iff]; simp [Utf8.valid, scal]; omega
              simp only [e2, a1, a2, k1, k2, hc2, hd2, hv, dec, cont, ea]
              cases hs : scal (b.toNat % 16 * 4096 + c.toNat % 64 * 64 + d.toNat % 64) <;> simp [hs, hr, w1, Utf8.runeError, q3]
            · have w1 : wid (b.toNat % 16 * 4096 + c.toNat % 64 * 64 + d.toNat % 64) ≠ 3 := by unfold wid; split <;> (try split) <;> (try split) <;> omega
              simp [dec, e2, a1, a2, k1, k2, hc2, hd2, cont, ea, hr, w1, Utf8.runeError]
          · simp [dec, e2, a1, a2, a3, k1, k2, hc2, hd2, cont, Utf8.runeError]
        · simp [dec, e2, a1, a2, a3, k1, hc2, cont, Utf8.runeError]
      · rw [drop1 k1, nil2 k2]
        simp [dec, e2, a1, a2, a3, k2, Utf8.runeError]
    · rw [nil1 k1]
      simp [dec, e2, a1, a2, a3, k1, Utf8.runeError]
  have a1 : (b.toNat / 32 == 6) = false := by rw [beq_eq_false_iff_ne]; omega
  have a2 : (b.toNat / 16 == 14) = false := by rw [beq_eq_false_iff_ne]; omega
  by_cases h5 : b.toNat < 248
  · have e2 : hd b.toNat = (4, b.toNat % 8) := by unfold hd; rw [if_neg h1, if_neg (by omega), if_neg (by omega), if_pos (by omega)]
    have a3 : (b.toNat / 8 == 30) = true := by rw [beq_iff_eq]; omega
    by_cases k1 : k + 1 < s.size
    · by_cases k2 : k + 2 < s.size
      · by_cases k3 : k + 3 < s.size
        · rw [drop1 k1, drop2 k2, drop3 k3, get_bang s _ k1, get_bang s _ k2, get_bang s _ k3]
          generalize s[k + 1] = c
          generalize s[k + 2] = d
          generalize s[k + 3] = e
          have hc := c.toNat_lt
          have hd' := d.toNat_lt
          have he' := e.toNat_lt
          by_cases hc2 : c.toNat / 64 = 2
          · by_cases hd2 : d.toNat / 64 = 2
            · by_cases he2 : e.toNat / 64 = 2
              · have ea : ((b.toNat % 8 * 64 + c.toNat % 64) * 64 + d.toNat % 64) * 64 + e.toNat % 64 = b.toNat % 8 * 262144 + c.toNat % 64 * 4096 + d.toNat % 64 * 64 + e.toNat % 64 := by omega
                by_cases hr : 65536 ≤ b.toNat % 8 * 262144 + c.toNat % 64 * 4096 + d.toNat % 64 * 64 + e.toNat % 64
                · have w1 : wid (b.toNat % 8 * 262144 + c.toNat % 64 * 4096 + d.toNat % 64 * 64 + e.toNat % 64) = 4 := by unfold wid; rw [if_neg (by omega), if_neg (by omega), if_neg (by omega)]
                  have hv : Utf8.valid ((b.toNat % 8 * 262144 + c.toNat % 64 * 4096 + d.toNat % 64 * 64 + e.toNat % 64 : Nat) : Int) = scal (b.toNat % 8 * 262144 + c.toNat % 64 * 4096 + d.toNat % 64 * 64 + e.toNat % 64) := by
                    rw [Bool.eq_iff_iff]; simp [Utf8.valid, scal]; omega
                  simp only [e2, a1, a2, a3, k1, k2, k3, hc2, hd2, he2, hv, dec, cont, ea]
                  generalize hx : b.toNat % 8 * 262144 + c.toNat % 64 * 4096 + d.toNat % 64 * 64 + e.toNat % 64 = x at *
                  cases hs : scal x <;> simp [hs, hr, w1, Utf8.runeError, q4]
                · have w1 : wid (b.toNat % 8 * 262144 + c.toNat % 64 * 4096 + d.toNat % 64 * 64 + e.toNat % 64) ≠ 4 := by unfold wid; split <;> (try split) <;> (try split) <;> omega
                  simp only [dec, e2, a1, a2, a3, k1, k2, k3, hc2, hd2, he2, cont, ea]
                  generalize hx : b.toNat % 8 * 262144 + c.toNat % 64 * 4096 + d.toNat % 64 * 64 + e.toNat % 64 = x at *
                  simp [hr, w1, Utf8.runeError]
              · simp [dec, e2, a1, a2, a3, k1, k2, k3, hc2, hd2, he2, cont, Utf8.runeError]
            · simp [dec, e2, a1, a2, a3, k1, k2, hc2, hd2, cont, Utf8.runeError]
          · simp [dec, e2, a1, a2, a3, k1, hc2, cont, Utf8.runeError]
        · rw [drop1 k1, drop2 k2, nil3 k3]
          simp [dec, e2, a1, a2, a3, k3, Utf8.runeError]
      · rw [drop1 k1, nil2 k2]
        simp [dec, e2, a1, a2, a3, k2, Utf8.runeError]
    · rw [nil1 k1]
      simp [dec, e2, a1, a2, a3, k1, Utf8.runeError]
  · have e2 : hd b.toNat = (0, 0) := by unfold hd; rw [if_neg h1, if_neg (by omega), if_neg (by omega), if_neg (by omega)]
    have a3 : (b.toNat / 8 == 30) = false := by rw [beq_eq_false_iff_ne]; omega
    simp [dec, e2, a1, a2, a3, Utf8.runeError]
end Go.Proofs.YtmafggfonapmpaaDoor
