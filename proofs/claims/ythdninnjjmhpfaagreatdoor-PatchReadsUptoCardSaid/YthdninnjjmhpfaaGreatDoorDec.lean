/- The reference's way to decode a character, and that it is the same: plain, no program in sight. Conditions: none. -/
import Derived.Test.YthdninnjjmhpfaaGreatDoorStr
namespace Go.Proofs.YthdninnjjmhpfaaGreatDoor
open Go.RowKit

theorem ofNat_eq {x : Nat} {c : UInt8} (h : x < 256) : UInt8.ofNat x = c ↔ x = c.toNat := by
  constructor
  · rintro rfl
    simp [UInt8.toNat_ofNat']
    omega
  · rintro rfl
    simp

def hdR (b : Nat) : Nat × Nat := if 240 ≤ b then (4, b % 8) else if 224 ≤ b then (3, b % 16) else if 192 ≤ b then (2, b % 32) else (1, b)
def contR : Nat → Nat → List UInt8 → Nat
  | 0, r, _ => r
  | n + 1, r, b :: t => contR n (r * 64 + b.toNat % 64) t
  | _ + 1, r, [] => r
def decR : List UInt8 → Nat × Nat
  | [] => (0, 0)
  | b :: t =>
    if t.length + 1 < (hdR b.toNat).1 then (0, 0)
    else if scal (contR ((hdR b.toNat).1 - 1) (hdR b.toNat).2 t) ∧ enc (contR ((hdR b.toNat).1 - 1) (hdR b.toNat).2 t) = (b :: t).take (hdR b.toNat).1 then (contR ((hdR b.toNat).1 - 1) (hdR b.toNat).2 t, (hdR b.toNat).1)
    else (0, 0)

theorem enc_two (b c : UInt8) (r : Nat) (hb : 192 ≤ b.toNat) (hb2 : b.toNat < 224) (hr : r = b.toNat % 32 * 64 + c.toNat % 64) : enc r = [b, c] ↔ c.toNat / 64 = 2 ∧ wid r = 2 := by
  have hc := c.toNat_lt
  have hb3 := b.toNat_lt
  constructor
  · intro h
    have hl := congrArg List.length h
    rw [enc_len] at hl
    simp only [List.length_cons, List.length_nil] at hl
    refine ⟨?_, hl⟩
    have h2 : 128 ≤ r ∧ r < 2048 := by unfold wid at hl; repeat' split at hl
                                       all_goals omega
    unfold enc at h
    rw [if_neg (by omega), if_pos h2.2] at h
    simp only [List.cons.injEq, and_true] at h
    rw [ofNat_eq (by omega), ofNat_eq (by omega)] at h
    omega
  · rintro ⟨h1, hl⟩
    have h2 : 128 ≤ r ∧ r < 2048 := by unfold wid at hl; repeat' split at hl
                                       all_goals omega
    unfold enc
    rw [if_neg (by omega), if_pos h2.2]
    simp only [List.cons.injEq, and_true]
    rw [ofNat_eq (by omega), ofNat_eq (by omega)]
    omega
theorem enc_three (b c d : UInt8) (r : Nat) (hb : 224 ≤ b.toNat) (hb2 : b.toNat < 240) (hr : r = (b.toNat % 16 * 64 + c.toNat % 64) * 64 + d.toNat % 64) : enc r = [b, c, d] ↔ (c.toNat / 64 = 2 ∧ d.toNat / 64 = 2) ∧ wid r = 3 := by
  have hc := c.toNat_lt
  have hd := d.toNat_lt
  have hb3 := b.toNat_lt
  constructor
  · intro h
    have hl := congrArg List.length h
    rw [enc_len] at hl
    simp only [List.length_cons, List.length_nil] at hl
    refine ⟨?_, hl⟩
    have h2 : 2048 ≤ r ∧ r < 65536 := by unfold wid at hl; repeat' split at hl
                                         all_goals omega
    unfold enc at h
    rw [if_neg (by omega), if_neg (by omega), if_pos h2.2] at h
    simp only [List.cons.injEq, and_true] at h
    rw [ofNat_eq (by omega), ofNat_eq (by omega), ofNat_eq (by omega)] at h
    omega
  · rintro ⟨h1, hl⟩
    have h2 : 2048 ≤ r ∧ r < 65536 := by unfold wid at hl; repeat' split at hl
                                         all_goals omega
    unfold enc
    rw [if_neg (by omega), if_neg (by omega), if_pos h2.2]
    simp only [List.cons.injEq, and_true]
    rw [ofNat_eq (by omega), ofNat_eq (by omega), ofNat_eq (by omega)]
    omega
theorem enc_four (b c d e : UInt8) (r : Nat) (hb : 240 ≤ b.toNat) (hr : r = ((b.toNat % 8 * 64 + c.toNat % 64) * 64 + d.toNat % 64) * 64 + e.toNat % 64) : enc r = [b, c, d, e] ↔ (b.toNat < 248 ∧ c.toNat / 64 = 2 ∧ d.toNat / 64 = 2 ∧ e.toNat / 64 = 2) ∧ wid r = 4 := by
  have hc := c.toNat_lt
  have hd := d.toNat_lt
  have he := e.toNat_lt
  have hb3 := b.toNat_lt
  constructor
  · intro h
    have hl := congrArg List.length h
    rw [enc_len] at hl
    simp only [List.length_cons, List.length_nil] at hl
    refine ⟨?_, hl⟩
    have h2 : 65536 ≤ r := by unfold wid at hl; repeat' split at hl
                              all_goals omega
    unfold enc at h
    rw [if_neg (by omega), if_neg (by omega), if_neg (by omega)] at h
    simp only [List.cons.injEq, and_true] at h
    rw [ofNat_eq (by omega), ofNat_eq (by omega), ofNat_eq (by omega), ofNat_eq (by omega)] at h
    omega
  · rintro ⟨h1, hl⟩
    have h2 : 65536 ≤ r := by unfold wid at hl; repeat' split at hl
                              all_goals omega
    unfold enc
    rw [if_neg (by omega), if_neg (by omega), if_neg (by omega)]
    simp only [List.cons.injEq, and_true]
    rw [ofNat_eq (by omega), ofNat_eq (by omega), ofNat_eq (by omega), ofNat_eq (by omega)]
    omega

theorem decR_eq (l : List UInt8) : decR l = dec l := by
  rcases l with _ | ⟨b, t⟩
  · rfl
  have hb3 := b.toNat_lt
  unfold decR dec
  by_cases h1 : b.toNat < 128
  · have e1 : hdR b.toNat = (1, b.toNat) := by unfold hdR; simp (disch := omega) only [if_neg]
    have e2 : hd b.toNat = (1, b.toNat) := by unfold hd; simp (disch := omega) only [if_pos]
    have e3 : enc b.toNat = [b] := by unfold enc; rw [if_pos h1]; simp
    have e4 : scal b.toNat = true := by simp [scal]; omega
    have e5 : wid b.toNat = 1 := by unfold wid; rw [if_pos h1]
    simp only [e1, e2]
    simp [contR, cont, e3, e4, e5]
  by_cases h2 : b.toNat < 192
  · have e1 : hdR b.toNat = (1, b.toNat) := by unfold hdR; simp (disch := omega) only [if_neg]
    have e2 : hd b.toNat = (0, 0) := by unfold hd; rw [if_neg h1, if_neg (by omega), if_neg (by omega), if_neg (by omega)]
    have e3 : (enc b.toNat).length = 2 := by rw [enc_len]; unfold wid; simp (disch := omega) only [if_pos, if_neg]
    simp only [e1, e2]
    rw [if_neg (by omega), if_neg, if_pos (.inl trivial)]
    rintro ⟨_, h⟩
    have := congrArg List.length h
    simp [contR, e3] at this
  by_cases h3 : b.toNat < 224
  · have e1 : hdR b.toNat = (2, b.toNat % 32) := by unfold hdR; rw [if_neg (by omega), if_neg (by omega), if_pos (by omega)]
    have e2 : hd b.toNat = (2, b.toNat % 32) := by unfold hd; rw [if_neg h1, if_pos (by omega)]
    simp only [e1, e2]
    rcases t with _ | ⟨c, t⟩
    · simp
    rw [if_neg (by simp), if_neg (show ¬ ((2 : Nat) = 0 ∨ (c :: t).length + 1 < 2) by simp)]
    have hk := enc_two b c _ (by omega) h3 rfl
    simp only [contR, cont, List.take_succ_cons, List.take_zero, hk, show 2 - 1 = 0 + 1 from rfl]
    by_cases hc : c.toNat / 64 = 2
    · simp [hc]
    · simp [hc]
  by_cases h4 : b.toNat < 240
  · have e1 : hdR b.toNat = (3, b.toNat % 16) := by unfold hdR; rw [if_neg (by omega), if_pos (by omega)]
    have e2 : hd b.toNat = (3, b.toNat % 16) := by unfold hd; rw [if_neg h1, if_neg (by omega), if_pos (by omega)]
    simp only [e1, e2]
    rcases t with _ | ⟨c, _ | ⟨d, t⟩⟩
    · simp
    · simp
    rw [if_neg (by simp), if_neg (show ¬ ((3 : Nat) = 0 ∨ (c :: d :: t).length + 1 < 3) by simp)]
    have hk := enc_three b c d _ (by omega) h4 rfl
    simp only [contR, cont, List.take_succ_cons, List.take_zero, hk, show 3 - 1 = 0 + 1 + 1 from rfl]
    by_cases hc : c.toNat / 64 = 2
    · by_cases hd : d.toNat / 64 = 2
      · simp [hc, hd]
      · simp [hc, hd]
    · simp [hc]
  · have e1 : hdR b.toNat = (4, b.toNat % 8) := by unfold hdR; rw [if_pos (by omega)]
    simp only [e1]
    by_cases h5 : b.toNat < 248
    · have e2 : hd b.toNat = (4, b.toNat % 8) := by unfold hd; rw [if_neg h1, if_neg (by omega), if_neg (by omega), if_pos (by omega)]
      simp only [e2]
      rcases t with _ | ⟨c, _ | ⟨d, _ | ⟨e, t⟩⟩⟩
      · simp
      · simp
      · simp
      rw [if_neg (by simp), if_neg (show ¬ ((4 : Nat) = 0 ∨ (c :: d :: e :: t).length + 1 < 4) by simp)]
      have hk := enc_four b c d e _ (by omega) rfl
      simp only [contR, cont, List.take_succ_cons, List.take_zero, hk, show 4 - 1 = 0 + 1 + 1 + 1 from rfl]
      by_cases hc : c.toNat / 64 = 2
      · by_cases hd : d.toNat / 64 = 2
        · by_cases he : e.toNat / 64 = 2
          · simp [hc, hd, he, h5]
          · simp [hc, hd, he]
        · simp [hc, hd]
      · simp [hc]
    · have e2 : hd b.toNat = (0, 0) := by unfold hd; rw [if_neg h1, if_neg (by omega), if_neg (by omega), if_neg (by omega)]
      simp only [e2]
      rw [if_pos (show True ∨ t.length + 1 < 0 from .inl trivial)]
      rcases t with _ | ⟨c, _ | ⟨d, _ | ⟨e, t⟩⟩⟩
      · simp
      · simp
      · simp
      have hk := enc_four b c d e _ (by omega) rfl
      simp only [contR, List.take_succ_cons, List.take_zero, hk, show 4 - 1 = 0 + 1 + 1 + 1 from rfl]
      simp [h5]

/-! What dec gives. -/
theorem cont_len : ∀ (n r : Nat) (l : List UInt8) (x : Nat), cont n r l = some x → n ≤ l.length
  | 0, _, _, _, _ => Nat.zero_le _
  | n + 1, r, [], x, h => by simp [cont] at h
  | n + 1, r, b :: t, x, h => by
    unfold cont at h
    split at h
    · have := cont_len n _ t x h
      simp; omega
    · cases h
theorem dec_cases (l : List UInt8) : dec l = (0, 0) ∨ ∃ r n, dec l = (r, n) ∧ scal r = true ∧ wid r = n ∧ 1 ≤ n ∧ n ≤ 4 ∧ n ≤ l.length ∧ enc r = l.take n := by
  rw [← decR_eq]
  rcases l with _ | ⟨b, t⟩
  · exact .inl rfl
  simp only [decR]
  generalize hr : contR ((hdR b.toNat).1 - 1) (hdR b.toNat).2 t = r
  have hn : 1 ≤ (hdR b.toNat).1 ∧ (hdR b.toNat).1 ≤ 4 := by
    unfold hdR
    repeat' split
    all_goals simp
  generalize (hdR b.toNat).1 = n at *
  by_cases h1 : t.length + 1 < n
  · rw [if_pos h1]; exact .inl rfl
  rw [if_neg h1]
  by_cases h2 : scal r = true ∧ enc r = (b :: t).take n
  · rw [if_pos h2]
    refine .inr ⟨_, _, rfl, h2.1, ?_, hn.1, hn.2, by simp; omega, h2.2⟩
    have := congrArg List.length h2.2
    rw [enc_len, List.length_take] at this
    rw [this, List.length_cons]
    omega
  · rw [if_neg h2]; exact .inl rfl
theorem dec_le (l : List UInt8) : (dec l).2 ≤ l.length := by
  rcases dec_cases l with h | ⟨r, n, h, _, _, _, _, hn, _⟩ <;> rw [h]
  · exact Nat.zero_le _
  · exact hn
theorem dec_scal (l : List UInt8) : scal (dec l).1 = true := by
  rcases dec_cases l with h | ⟨r, n, h, hs, _⟩ <;> rw [h]
  · decide
  · exact hs
theorem dec_zero (l : List UInt8) (h : (dec l).2 = 0) : dec l = (0, 0) := by
  rcases dec_cases l with h' | ⟨r, n, h', _, _, hn, _⟩
  · exact h'
  · rw [h'] at h; simp at h; omega

/-- The tail of the boundaries, from an offset on (with fuel), and the place of the first byte at which no character begins. -/
def bt : Nat → Nat → List UInt8 → List Nat
  | 0, _, _ => []
  | f + 1, off, l => if (dec l).2 = 0 then [] else (off + (dec l).2) :: bt f (off + (dec l).2) (l.drop (dec l).2)
def bad : Nat → List UInt8 → Nat
  | 0, _ => 0
  | f + 1, l => if (dec l).2 = 0 then 0 else (dec l).2 + bad f (l.drop (dec l).2)
theorem dec_nil : dec [] = (0, 0) := rfl
theorem bt_fuel : ∀ (f g off : Nat) (l : List UInt8), l.length ≤ f → l.length ≤ g → bt f off l = bt g off l
  | 0, 0, _, _, _, _ => rfl
  | 0, g + 1, off, l, h, _ => by
    have : l = [] := List.eq_nil_of_length_eq_zero (by omega)
    subst this
    simp [bt, dec_nil]
  | f + 1, 0, off, l, _, h => by
    have : l = [] := List.eq_nil_of_length_eq_zero (by omega)
    subst this
    simp [bt, dec_nil]
  | f + 1, g + 1, off, l, h1, h2 => by
    unfold bt
    by_cases h : (dec l).2 = 0
    · rw [if_pos h, if_pos h]
    · rw [if_neg h, if_neg h]
      congr 1
      refine bt_fuel f g _ _ ?_ ?_ <;> (rw [List.length_drop]; omega)
theorem bad_fuel : ∀ (f g : Nat) (l : List UInt8), l.length ≤ f → l.length ≤ g → bad f l = bad g l
  | 0, 0, _, _, _ => rfl
  | 0, g + 1, l, h, _ => by
    have : l = [] := List.eq_nil_of_length_eq_zero (by omega)
    subst this
    simp [bad, dec_nil]
  | f + 1, 0, l, _, h => by
    have : l = [] := List.eq_nil_of_length_eq_zero (by omega)
    subst this
    simp [bad, dec_nil]
  | f + 1, g + 1, l, h1, h2 => by
    unfold bad
    by_cases h : (dec l).2 = 0
    · rw [if_pos h, if_pos h]
    · rw [if_neg h, if_neg h]
      congr 1
      refine bad_fuel f g _ ?_ ?_ <;> (rw [List.length_drop]; omega)
/-- The place of the first byte at which no character begins, and whether there is none. -/
def badL (l : List UInt8) : Nat := bad l.length l
def btL (off : Nat) (l : List UInt8) : List Nat := bt l.length off l
def validL (l : List UInt8) : Bool := decide (badL l = l.length)
theorem badL_eq (l : List UInt8) : badL l = if (dec l).2 = 0 then 0 else (dec l).2 + badL (l.drop (dec l).2) := by
  by_cases h : (dec l).2 = 0
  · rw [if_pos h]
    unfold badL
    rcases hl : l.length with _ | n
    · rfl
    · unfold bad; rw [if_pos h]
  · rw [if_neg h]
    have hle := dec_le l
    unfold badL
    rw [show l.length = (l.length - 1) + 1 by omega]
    rw [bad, if_neg h]
    congr 1
    refine bad_fuel _ _ _ ?_ (Nat.le_refl _)
    rw [List.length_drop]; omega
theorem btL_eq (off : Nat) (l : List UInt8) : btL off l = if (dec l).2 = 0 then [] else (off + (dec l).2) :: btL (off + (dec l).2) (l.drop (dec l).2) := by
  by_cases h : (dec l).2 = 0
  · rw [if_pos h]
    unfold btL
    rcases hl : l.length with _ | n
    · rfl
    · unfold bt; rw [if_pos h]
  · rw [if_neg h]
    have hle := dec_le l
    unfold btL
    rw [show l.length = (l.length - 1) + 1 by omega]
    rw [bt, if_neg h]
    congr 1
    refine bt_fuel _ _ _ _ ?_ (Nat.le_refl _)
    rw [List.length_drop]; omega
theorem bad_le : ∀ (f : Nat) (l : List UInt8), bad f l ≤ l.length
  | 0, _ => Nat.zero_le _
  | f + 1, l => by
    unfold bad
    have h1 := dec_le l
    have h2 := bad_le f (l.drop (dec l).2)
    rw [List.length_drop] at h2
    split <;> omega
theorem bt_last : ∀ (f off : Nat) (l : List UInt8), (off :: bt f off l).getLast (by simp) = off + bad f l
  | 0, off, l => by simp [bt, bad]
  | f + 1, off, l => by
    by_cases h : (dec l).2 = 0
    · simp [bt, bad, h]
    · have ih := bt_last f (off + (dec l).2) (l.drop (dec l).2)
      simp only [bt, bad, if_neg h]
      rw [List.getLast_cons (by simp), ih]
      omega
theorem bt_len : ∀ (f off : Nat) (l : List UInt8), (bt f off l).length ≤ l.length
  | 0, off, l => by simp [bt]
  | f + 1, off, l => by
    by_cases h : (dec l).2 = 0
    · simp [bt, h]
    · have ih := bt_len f (off + (dec l).2) (l.drop (dec l).2)
      have h1 := dec_le l
      rw [List.length_drop] at ih
      simp only [bt, if_neg h, List.length_cons]
      omega
end Go.Proofs.YthdninnjjmhpfaaGreatDoor
