/- Base64 digit by digit and bit by bit: plain. Conditions: none. -/
import Derived.Test.YtlnpfpjncnkekaaGreatDoorRows
import Derived.WalkKit
import Derived.Lib.Hide
namespace Go.Proofs.YtlnpfpjncnkekaaGreatDoor
open Go.RowKit

/-- The bytes of a string. -/
def L (s : ByteArray) : List UInt8 := s.data.toList
theorem L_len (s : ByteArray) : (L s).length = s.size := by
  unfold L
  rw [Array.length_toList, ByteArray.size_data]
theorem L_get (s : ByteArray) (k : Nat) (h : k < s.size) : (L s)[k]'(by rw [L_len]; exact h) = s[k] := rfl
theorem L_drop (s : ByteArray) (k : Nat) (h : k < s.size) : (L s).drop k = s[k] :: (L s).drop (k + 1) := by
  rw [List.drop_eq_getElem_cons (by rw [L_len]; exact h), L_get]
theorem L_drop_nil (s : ByteArray) (k : Nat) (h : s.size ≤ k) : (L s).drop k = [] :=
  List.drop_eq_nil_of_le (by rw [L_len]; exact h)
theorem L_mk (l : List UInt8) : L ⟨l.toArray⟩ = l := rfl
theorem mk_L (s : ByteArray) : (⟨(L s).toArray⟩ : ByteArray) = s := rfl
theorem L_inj {s t : ByteArray} (h : L s = L t) : s = t := by
  rw [← mk_L s, ← mk_L t, h]
theorem L_extract (s : ByteArray) (a b : Nat) : L (s.extract a b) = ((L s).drop a).take (b - a) := by
  unfold L
  rw [ByteArray.data_extract, Array.toList_extract, List.extract_eq_take_drop]
theorem L_from (s : ByteArray) (a : Nat) : L (s.extract a s.size) = (L s).drop a := by
  rw [L_extract]
  exact List.take_of_length_le (by rw [List.length_drop, L_len]; omega)
theorem L_upto (s : ByteArray) (b : Nat) : L (s.extract 0 b) = (L s).take b := by
  rw [L_extract]; rfl
theorem L_append (s t : ByteArray) : L (s ++ t) = L s ++ L t := by
  unfold L
  rw [ByteArray.data_append, Array.toList_append]
theorem toList_L (s : ByteArray) : s.toList = L s := ByteArray.toList_eq s
theorem toList_ext (s : ByteArray) (a n : Nat) : (s.extract a (a + n)).toList = ((L s).drop a).take n := by
  rw [toList_L, L_extract, Nat.add_sub_cancel_left]
theorem beq_true {l m : List UInt8} (h : l = m) : (l == m) = true := by rw [h]; simp
theorem beq_false {l m : List UInt8} (h : ¬ l = m) : (l == m) = false := by simpa using h
theorem L_take_succ (s : ByteArray) (k : Nat) (h : k < s.size) : (L s).take (k + 1) = (L s).take k ++ [s[k]] := by
  rw [List.take_succ_eq_append_getElem (by rw [L_len]; exact h), L_get]

/-! Classes of bytes. -/
def dig (b : UInt8) : Bool := decide (48 ≤ b.toNat ∧ b.toNat ≤ 57)
def alpha (b : UInt8) : Bool := decide (97 ≤ b.toNat ∧ b.toNat ≤ 122 ∨ 65 ≤ b.toNat ∧ b.toNat ≤ 90)

/-- The digits that a list begins with. -/
def runL : List UInt8 → Nat
  | [] => 0
  | b :: t => if dig b then runL t + 1 else 0
theorem runL_le : ∀ l : List UInt8, runL l ≤ l.length
  | [] => Nat.le_refl _
  | b :: t => by
    have := runL_le t
    unfold runL
    split <;> simp <;> omega

/-! UTF-8. -/
def hd (b : Nat) : Nat × Nat :=
  if b < 128 then (1, b) else if 192 ≤ b ∧ b < 224 then (2, b % 32) else if 224 ≤ b ∧ b < 240 then (3, b % 16) else if 240 ≤ b ∧ b < 248 then (4, b % 8) else (0, 0)
def cont : Nat → Nat → List UInt8 → Option Nat
  | 0, r, _ => some r
  | n + 1, r, b :: t => if b.toNat / 64 = 2 then cont n (r * 64 + b.toNat % 64) t else none
  | _ + 1, _, [] => none
def scal (r : Nat) : Bool := decide (r ≤ 1114111 ∧ (r < 55296 ∨ 57343 < r))
def wid (r : Nat) : Nat := if r < 128 then 1 else if r < 2048 then 2 else if r < 65536 then 3 else 4
/-- The character that a list begins with, and the number of its bytes. -/
def dec : List UInt8 → Nat × Nat
  | [] => (0, 0)
  | b :: t =>
    if (hd b.toNat).1 = 0 ∨ t.length + 1 < (hd b.toNat).1 then (0, 0)
    else match cont ((hd b.toNat).1 - 1) (hd b.toNat).2 t with
      | none => (0, 0)
      | some r => if scal r ∧ wid r = (hd b.toNat).1 then (r, (hd b.toNat).1) else (0, 0)
/-- The bytes of a character. -/
def enc (r : Nat) : List UInt8 :=
  if r < 128 then [UInt8.ofNat r]
  else if r < 2048 then [UInt8.ofNat (192 + r / 64), UInt8.ofNat (128 + r % 64)]
  else if r < 65536 then [UInt8.ofNat (224 + r / 4096), UInt8.ofNat (128 + r / 64 % 64), UInt8.ofNat (128 + r % 64)]
  else [UInt8.ofNat (240 + r / 262144), UInt8.ofNat (128 + r / 4096 % 64), UInt8.ofNat (128 + r / 64 % 64), UInt8.ofNat (128 + r % 64)]
theorem enc_len (r : Nat) : (enc r).length = wid r := by
  unfold enc wid
  repeat' split
  all_goals rfl

/-! Bits. -/
theorem wraps_i64' (n : Int) (h0 : 0 ≤ n) (h1 : n < 2 ^ 63) : IntKind.i64.wrap n = n := by rw [IntKind.wrap_i64]; omega
theorem or_join (i : Nat) (x y : Int) (hx₀ : 0 ≤ x) (hx : x % 2 ^ i = 0) (hx₁ : x < 2 ^ 63) (hy₀ : 0 ≤ y) (hy : y < 2 ^ i) (hy₁ : y < 2 ^ 63) : bits .or .i64 x y = x + y :=
  bits_join .i64 63 (by decide) wraps_i64' i x y hx₀ hx hx₁ hy₀ hy hy₁
theorem or64 (r b : Nat) (hr : r < 100000000) : bits .or .i64 (wrap64 ((r : Int) * 64)) ((b : Int) % 64) = ((r * 64 + b % 64 : Nat) : Int) := by
  rw [IntWalk.wrap64_in _ (by omega), or_join 6 _ _ (by omega) (by omega) (by omega) (by omega) (by omega) (by omega)]
  omega
theorem and63 (r : Nat) (h : r < 2097152) : bits .and .i64 (r : Int) 63 = ((r % 64 : Nat) : Int) := by
  have := bits_mask .i64 63 (by decide) wraps_i64' 6 (by decide) (r : Int) (by omega) (by omega)
  exact this
theorem and31 (r : Nat) (h : r < 2097152) : bits .and .i64 (r : Int) 31 = ((r % 32 : Nat) : Int) :=
  bits_mask .i64 63 (by decide) wraps_i64' 5 (by decide) (r : Int) (by omega) (by omega)
theorem and15 (r : Nat) (h : r < 2097152) : bits .and .i64 (r : Int) 15 = ((r % 16 : Nat) : Int) :=
  bits_mask .i64 63 (by decide) wraps_i64' 4 (by decide) (r : Int) (by omega) (by omega)
theorem and7 (r : Nat) (h : r < 2097152) : bits .and .i64 (r : Int) 7 = ((r % 8 : Nat) : Int) :=
  bits_mask .i64 63 (by decide) wraps_i64' 3 (by decide) (r : Int) (by omega) (by omega)
theorem byte_mid (r : Nat) (h : r < 2097152) : UInt8.ofNat (bits .or .i64 128 (bits .and .i64 (r : Int) 63) % 256).toNat = UInt8.ofNat (128 + r % 64) := by
  rw [and63 r h, or_join 6 _ _ (by omega) (by omega) (by omega) (by omega) (by omega) (by omega)]
  congr 1
  omega
theorem byte_two (x : Nat) (h : x < 32) : UInt8.ofNat (bits .or .i64 192 (x : Int) % 256).toNat = UInt8.ofNat (192 + x) := by
  rw [or_join 6 _ _ (by omega) (by omega) (by omega) (by omega) (by omega) (by omega)]
  congr 1
  omega
theorem byte_three (x : Nat) (h : x < 16) : UInt8.ofNat (bits .or .i64 224 (x : Int) % 256).toNat = UInt8.ofNat (224 + x) := by
  rw [or_join 5 _ _ (by omega) (by omega) (by omega) (by omega) (by omega) (by omega)]
  congr 1
  omega
theorem byte_four (x : Nat) (h : x < 8) : UInt8.ofNat (bits .or .i64 240 (x : Int) % 256).toNat = UInt8.ofNat (240 + x) := by
  rw [or_join 4 _ _ (by omega) (by omega) (by omega) (by omega) (by omega) (by omega)]
  congr 1
  omega
theorem enc1 (r : Nat) (h : r < 128) : [UInt8.ofNat ((r : Int) % 256).toNat] = enc r := by
  unfold enc
  rw [if_pos h]
  congr 2
  omega
theorem enc2 (r : Nat) (h1 : 128 ≤ r) (h : r < 2048) : [UInt8.ofNat (bits .or .i64 192 ((r / 64 : Nat) : Int) % 256).toNat, UInt8.ofNat (bits .or .i64 128 (bits .and .i64 (r : Int) 63) % 256).toNat] = enc r := by
  rw [byte_mid r (by omega), byte_two _ (by omega)]
  unfold enc
  rw [if_neg (by omega), if_pos h]
theorem enc3 (r : Nat) (h1 : 2048 ≤ r) (h : r < 65536) : [UInt8.ofNat (bits .or .i64 224 ((r / 4096 : Nat) : Int) % 256).toNat, UInt8.ofNat (bits .or .i64 128 (bits .and .i64 ((r / 64 : Nat) : Int) 63) % 256).toNat, UInt8.ofNat (bits .or .i64 128 (bits .and .i64 (r : Int) 63) % 256).toNat] = enc r := by
  rw [byte_mid r (by omega), byte_mid (r / 64) (by omega), byte_three _ (by omega)]
  unfold enc
  rw [if_neg (by omega), if_neg (by omega), if_pos h]
theorem enc4 (r : Nat) (h1 : 65536 ≤ r) (h : r < 2097152) : [UInt8.ofNat (bits .or .i64 240 ((r / 262144 : Nat) : Int) % 256).toNat, UInt8.ofNat (bits .or .i64 128 (bits .and .i64 ((r / 4096 : Nat) : Int) 63) % 256).toNat, UInt8.ofNat (bits .or .i64 128 (bits .and .i64 ((r / 64 : Nat) : Int) 63) % 256).toNat, UInt8.ofNat (bits .or .i64 128 (bits .and .i64 (r : Int) 63) % 256).toNat] = enc r := by
  rw [byte_mid r (by omega), byte_mid (r / 64) (by omega), byte_mid (r / 4096) (by omega), byte_four _ (by omega)]
  unfold enc
  rw [if_neg (by omega), if_neg (by omega), if_neg (by omega)]
theorem wid_cases (r : Nat) (h : scal r = true) : (wid r = 1 ∧ r < 128) ∨ (wid r = 2 ∧ 128 ≤ r ∧ r < 2048) ∨ (wid r = 3 ∧ 2048 ≤ r ∧ r < 65536) ∨ (wid r = 4 ∧ 65536 ≤ r ∧ r < 2097152) := by
  simp only [scal, decide_eq_true_eq] at h
  unfold wid
  repeat' split
  all_goals omega
theorem or64' (r b : Nat) (hr : r < 100000000) (hb : b < 256) : bits .or .i64 (wrap64 ((r : Int) * 64)) (bits .and .i64 (b : Int) 63) = ((r * 64 + b % 64 : Nat) : Int) := by
  rw [and63 b (by omega), IntWalk.wrap64_in _ (by omega), or_join 6 _ _ (by omega) (by omega) (by omega) (by omega) (by omega) (by omega)]
  omega
theorem and192 (b : UInt8) : (bits BinOp.and IntKind.u8 (b.toNat : Int) 192 != 128) = !(b.toNat / 64 == 2) := by
  have h : ∀ n : Fin 256, (bits BinOp.and IntKind.u8 ((n.val : Nat) : Int) 192 != 128) = !(n.val / 64 == 2) := by decide +kernel
  exact h ⟨b.toNat, b.toNat_lt⟩
end Go.Proofs.YtlnpfpjncnkekaaGreatDoor

namespace Go.Proofs.YtlnpfpjncnkekaaGreatDoor
open Go.RowKit

theorem ofNat_eq {x : Nat} {c : UInt8} (h : x < 256) : UInt8.ofNat x = c ↔ x = c.toNat := by
  constructor
  · rintro rfl
    simp [UInt8.toNat_ofNat']
    omega
  · rintro rfl
    simp

def hdR (b : Nat) : Nat × Nat := if 240 ≤ b then (4, b % 8) else if 224 ≤ b then (3, b % 16) else if 192 ≤ b then (2, b % 32) else (1, b)
def contR : Nat → Nat → List UInt8 → Nat
  | 0, r, _ => r
  | n + 1, r, b :: t => contR n (r * 64 + b.toNat % 64) t
  | _ + 1, r, [] => r
def decR : List UInt8 → Nat × Nat
  | [] => (0, 0)
  | b :: t =>
    if t.length + 1 < (hdR b.toNat).1 then (0, 0)
    else if scal (contR ((hdR b.toNat).1 - 1) (hdR b.toNat).2 t) ∧ enc (contR ((hdR b.toNat).1 - 1) (hdR b.toNat).2 t) = (b :: t).take (hdR b.toNat).1 then (contR ((hdR b.toNat).1 - 1) (hdR b.toNat).2 t, (hdR b.toNat).1)
    else (0, 0)

theorem enc_two (b c : UInt8) (r : Nat) (hb : 192 ≤ b.toNat) (hb2 : b.toNat < 224) (hr : r = b.toNat % 32 * 64 + c.toNat % 64) : enc r = [b, c] ↔ c.toNat / 64 = 2 ∧ wid r = 2 := by
  have hc := c.toNat_lt
  have hb3 := b.toNat_lt
  constructor
  · intro h
    have hl := congrArg List.length h
    rw [enc_len] at hl
    simp only [List.length_cons, List.length_nil] at hl
    refine ⟨?_, hl⟩
    have h2 : 128 ≤ r ∧ r < 2048 := by unfold wid at hl; repeat' split at hl
                                       all_goals omega
    unfold enc at h
    rw [if_neg (by omega), if_pos h2.2] at h
    simp only [List.cons.injEq, and_true] at h
    rw [ofNat_eq (by omega), ofNat_eq (by omega)] at h
    omega
  · rintro ⟨h1, hl⟩
    have h2 : 128 ≤ r ∧ r < 2048 := by unfold wid at hl; repeat' split at hl
                                       all_goals omega
    unfold enc
    rw [if_neg (by omega), if_pos h2.2]
    simp only [List.cons.injEq, and_true]
    rw [ofNat_eq (by omega), ofNat_eq (by omega)]
    omega
theorem enc_three (b c d : UInt8) (r : Nat) (hb : 224 ≤ b.toNat) (hb2 : b.toNat < 240) (hr : r = (b.toNat % 16 * 64 + c.toNat % 64) * 64 + d.toNat % 64) : enc r = [b, c, d] ↔ (c.toNat / 64 = 2 ∧ d.toNat / 64 = 2) ∧ wid r = 3 := by
  have hc := c.toNat_lt
  have hd := d.toNat_lt
  have hb3 := b.toNat_lt
  constructor
  · intro h
    have hl := congrArg List.length h
    rw [enc_len] at hl
    simp only [List.length_cons, List.length_nil] at hl
    refine ⟨?_, hl⟩
    have h2 : 2048 ≤ r ∧ r < 65536 := by unfold wid at hl; repeat' split at hl
                                         all_goals omega
    unfold enc at h
    rw [if_neg (by omega), if_neg (by omega), if_pos h2.2] at h
    simp only [List.cons.injEq, and_true] at h
    rw [ofNat_eq (by omega), ofNat_eq (by omega), ofNat_eq (by omega)] at h
    omega
  · rintro ⟨h1, hl⟩
    have h2 : 2048 ≤ r ∧ r < 65536 := by unfold wid at hl; repeat' split at hl
                                         all_goals omega
    unfold enc
    rw [if_neg (by omega), if_neg (by omega), if_pos h2.2]
    simp only [List.cons.injEq, and_true]
    rw [ofNat_eq (by omega), ofNat_eq (by omega), ofNat_eq (by omega)]
    omega
theorem enc_four (b c d e : UInt8) (r : Nat) (hb : 240 ≤ b.toNat) (hr : r = ((b.toNat % 8 * 64 + c.toNat % 64) * 64 + d.toNat % 64) * 64 + e.toNat % 64) : enc r = [b, c, d, e] ↔ (b.toNat < 248 ∧ c.toNat / 64 = 2 ∧ d.toNat / 64 = 2 ∧ e.toNat / 64 = 2) ∧ wid r = 4 := by
  have hc := c.toNat_lt
  have hd := d.toNat_lt
  have he := e.toNat_lt
  have hb3 := b.toNat_lt
  constructor
  · intro h
    have hl := congrArg List.length h
    rw [enc_len] at hl
    simp only [List.length_cons, List.length_nil] at hl
    refine ⟨?_, hl⟩
    have h2 : 65536 ≤ r := by unfold wid at hl; repeat' split at hl
                              all_goals omega
    unfold enc at h
    rw [if_neg (by omega), if_neg (by omega), if_neg (by omega)] at h
    simp only [List.cons.injEq, and_true] at h
    rw [ofNat_eq (by omega), ofNat_eq (by omega), ofNat_eq (by omega), ofNat_eq (by omega)] at h
    omega
  · rintro ⟨h1, hl⟩
    have h2 : 65536 ≤ r := by unfold wid at hl; repeat' split at hl
                              all_goals omega
    unfold enc
    rw [if_neg (by omega), if_neg (by omega), if_neg (by omega)]
    simp only [List.cons.injEq, and_true]
    rw [ofNat_eq (by omega), ofNat_eq (by omega), ofNat_eq (by omega), ofNat_eq (by omega)]
    omega

theorem decR_eq (l : List UInt8) : decR l = dec l := by
  rcases l with _ | ⟨b, t⟩
  · rfl
  have hb3 := b.toNat_lt
  unfold decR dec
  by_cases h1 : b.toNat < 128
  · have e1 : hdR b.toNat = (1, b.toNat) := by unfold hdR; simp (disch := omega) only [if_neg]
    have e2 : hd b.toNat = (1, b.toNat) := by unfold hd; simp (disch := omega) only [if_pos]
    have e3 : enc b.toNat = [b] := by unfold enc; rw [if_pos h1]; simp
    have e4 : scal b.toNat = true := by simp [scal]; omega
    have e5 : wid b.toNat = 1 := by unfold wid; rw [if_pos h1]
    simp only [e1, e2]
    simp [contR, cont, e3, e4, e5]
  by_cases h2 : b.toNat < 192
  · have e1 : hdR b.toNat = (1, b.toNat) := by unfold hdR; simp (disch := omega) only [if_neg]
    have e2 : hd b.toNat = (0, 0) := by unfold hd; rw [if_neg h1, if_neg (by omega), if_neg (by omega), if_neg (by omega)]
    have e3 : (enc b.toNat).length = 2 := by rw [enc_len]; unfold wid; simp (disch := omega) only [if_pos, if_neg]
    simp only [e1, e2]
    rw [if_neg (by omega), if_neg, if_pos (.inl trivial)]
    rintro ⟨_, h⟩
    have := congrArg List.length h
    simp [contR, e3] at this
  by_cases h3 : b.toNat < 224
  · have e1 : hdR b.toNat = (2, b.toNat % 32) := by unfold hdR; rw [if_neg (by omega), if_neg (by omega), if_pos (by omega)]
    have e2 : hd b.toNat = (2, b.toNat % 32) := by unfold hd; rw [if_neg h1, if_pos (by omega)]
    simp only [e1, e2]
    rcases t with _ | ⟨c, t⟩
    · simp
    rw [if_neg (by simp), if_neg (show ¬ ((2 : Nat) = 0 ∨ (c :: t).length + 1 < 2) by simp)]
    have hk := enc_two b c _ (by omega) h3 rfl
    simp only [contR, cont, List.take_succ_cons, List.take_zero, hk, show 2 - 1 = 0 + 1 from rfl]
    by_cases hc : c.toNat / 64 = 2
    · simp [hc]
    · simp [hc]
  by_cases h4 : b.toNat < 240
  · have e1 : hdR b.toNat = (3, b.toNat % 16) := by unfold hdR; rw [if_neg (by omega), if_pos (by omega)]
    have e2 : hd b.toNat = (3, b.toNat % 16) := by unfold hd; rw [if_neg h1, if_neg (by omega), if_pos (by omega)]
    simp only [e1, e2]
    rcases t with _ | ⟨c, _ | ⟨d, t⟩⟩
    · simp
    · simp
    rw [if_neg (by simp), if_neg (show ¬ ((3 : Nat) = 0 ∨ (c :: d :: t).length + 1 < 3) by simp)]
    have hk := enc_three b c d _ (by omega) h4 rfl
    simp only [contR, cont, List.take_succ_cons, List.take_zero, hk, show 3 - 1 = 0 + 1 + 1 from rfl]
    by_cases hc : c.toNat / 64 = 2
    · by_cases hd : d.toNat / 64 = 2
      · simp [hc, hd]
      · simp [hc, hd]
    · simp [hc]
  · have e1 : hdR b.toNat = (4, b.toNat % 8) := by unfold hdR; rw [if_pos (by omega)]
    simp only [e1]
    by_cases h5 : b.toNat < 248
    · have e2 : hd b.toNat = (4, b.toNat % 8) := by unfold hd; rw [if_neg h1, if_neg (by omega), if_neg (by omega), if_pos (by omega)]
      simp only [e2]
      rcases t with _ | ⟨c, _ | ⟨d, _ | ⟨e, t⟩⟩⟩
      · simp
      · simp
      · simp
      rw [if_neg (by simp), if_neg (show ¬ ((4 : Nat) = 0 ∨ (c :: d :: e :: t).length + 1 < 4) by simp)]
      have hk := enc_four b c d e _ (by omega) rfl
      simp only [contR, cont, List.take_succ_cons, List.take_zero, hk, show 4 - 1 = 0 + 1 + 1 + 1 from rfl]
      by_cases hc : c.toNat / 64 = 2
      · by_cases hd : d.toNat / 64 = 2
        · by_cases he : e.toNat / 64 = 2
          · simp [hc, hd, he, h5]
          · simp [hc, hd, he]
        · simp [hc, hd]
      · simp [hc]
    · have e2 : hd b.toNat = (0, 0) := by unfold hd; rw [if_neg h1, if_neg (by omega), if_neg (by omega), if_neg (by omega)]
      simp only [e2]
      rw [if_pos (show True ∨ t.length + 1 < 0 from .inl trivial)]
      rcases t with _ | ⟨c, _ | ⟨d, _ | ⟨e, t⟩⟩⟩
      · simp
      · simp
      · simp
      have hk := enc_four b c d e _ (by omega) rfl
      simp only [contR, List.take_succ_cons, List.take_zero, hk, show 4 - 1 = 0 + 1 + 1 + 1 from rfl]
      simp [h5]

/-! What dec gives. -/
theorem dec_cases (l : List UInt8) : dec l = (0, 0) ∨ ∃ r n, dec l = (r, n) ∧ scal r = true ∧ wid r = n ∧ 1 ≤ n ∧ n ≤ 4 ∧ n ≤ l.length ∧ enc r = l.take n := by
  rw [← decR_eq]
  rcases l with _ | ⟨b, t⟩
  · exact .inl rfl
  simp only [decR]
  generalize hr : contR ((hdR b.toNat).1 - 1) (hdR b.toNat).2 t = r
  have hn : 1 ≤ (hdR b.toNat).1 ∧ (hdR b.toNat).1 ≤ 4 := by
    unfold hdR
    repeat' split
    all_goals simp
  generalize (hdR b.toNat).1 = n at *
  by_cases h1 : t.length + 1 < n
  · rw [if_pos h1]; exact .inl rfl
  rw [if_neg h1]
  by_cases h2 : scal r = true ∧ enc r = (b :: t).take n
  · rw [if_pos h2]
    refine .inr ⟨_, _, rfl, h2.1, ?_, hn.1, hn.2, by simp; omega, h2.2⟩
    have := congrArg List.length h2.2
    rw [enc_len, List.length_take] at this
    rw [this, List.length_cons]
    omega
  · rw [if_neg h2]; exact .inl rfl
theorem dec_le (l : List UInt8) : (dec l).2 ≤ l.length := by
  rcases dec_cases l with h | ⟨r, n, h, _, _, _, _, hn, _⟩ <;> rw [h]
  · exact Nat.zero_le _
  · exact hn
/-- The tail of the boundaries, from an offset on (with fuel), and the place of the first byte at which no character begins. -/
def bt : Nat → Nat → List UInt8 → List Nat
  | 0, _, _ => []
  | f + 1, off, l => if (dec l).2 = 0 then [] else (off + (dec l).2) :: bt f (off + (dec l).2) (l.drop (dec l).2)
def bad : Nat → List UInt8 → Nat
  | 0, _ => 0
  | f + 1, l => if (dec l).2 = 0 then 0 else (dec l).2 + bad f (l.drop (dec l).2)
theorem dec_nil : dec [] = (0, 0) := rfl
theorem bt_fuel : ∀ (f g off : Nat) (l : List UInt8), l.length ≤ f → l.length ≤ g → bt f off l = bt g off l
  | 0, 0, _, _, _, _ => rfl
  | 0, g + 1, off, l, h, _ => by
    have : l = [] := List.eq_nil_of_length_eq_zero (by omega)
    subst this
    simp [bt, dec_nil]
  | f + 1, 0, off, l, _, h => by
    have : l = [] := List.eq_nil_of_length_eq_zero (by omega)
    subst this
    simp [bt, dec_nil]
  | f + 1, g + 1, off, l, h1, h2 => by
    unfold bt
    by_cases h : (dec l).2 = 0
    · rw [if_pos h, if_pos h]
    · rw [if_neg h, if_neg h]
      congr 1
      refine bt_fuel f g _ _ ?_ ?_ <;> (rw [List.length_drop]; omega)
theorem bad_fuel : ∀ (f g : Nat) (l : List UInt8), l.length ≤ f → l.length ≤ g → bad f l = bad g l
  | 0, 0, _, _, _ => rfl
  | 0, g + 1, l, h, _ => by
    have : l = [] := List.eq_nil_of_length_eq_zero (by omega)
    subst this
    simp [bad, dec_nil]
  | f + 1, 0, l, _, h => by
    have : l = [] := List.eq_nil_of_length_eq_zero (by omega)
    subst this
    simp [bad, dec_nil]
  | f + 1, g + 1, l, h1, h2 => by
    unfold bad
    by_cases h : (dec l).2 = 0
    · rw [if_pos h, if_pos h]
    · rw [if_neg h, if_neg h]
      congr 1
      refine bad_fuel f g _ ?_ ?_ <;> (rw [List.length_drop]; omega)
/-- The place of the first byte at which no character begins, and whether there is none. -/
def badL (l : List UInt8) : Nat := bad l.length l
def btL (off : Nat) (l : List UInt8) : List Nat := bt l.length off l
def validL (l : List UInt8) : Bool := decide (badL l = l.length)
theorem badL_eq (l : List UInt8) : badL l = if (dec l).2 = 0 then 0 else (dec l).2 + badL (l.drop (dec l).2) := by
  by_cases h : (dec l).2 = 0
  · rw [if_pos h]
    unfold badL
    rcases hl : l.length with _ | n
    · rfl
    · unfold bad; rw [if_pos h]
  · rw [if_neg h]
    have hle := dec_le l
    unfold badL
    rw [show l.length = (l.length - 1) + 1 by omega]
    rw [bad, if_neg h]
    congr 1
    refine bad_fuel _ _ _ ?_ (Nat.le_refl _)
    rw [List.length_drop]; omega
theorem btL_eq (off : Nat) (l : List UInt8) : btL off l = if (dec l).2 = 0 then [] else (off + (dec l).2) :: btL (off + (dec l).2) (l.drop (dec l).2) := by
  by_cases h : (dec l).2 = 0
  · rw [if_pos h]
    unfold btL
    rcases hl : l.length with _ | n
    · rfl
    · unfold bt; rw [if_pos h]
  · rw [if_neg h]
    have hle := dec_le l
    unfold btL
    rw [show l.length = (l.length - 1) + 1 by omega]
    rw [bt, if_neg h]
    congr 1
    refine bt_fuel _ _ _ _ ?_ (Nat.le_refl _)
    rw [List.length_drop]; omega
theorem bad_le : ∀ (f : Nat) (l : List UInt8), bad f l ≤ l.length
  | 0, _ => Nat.zero_le _
  | f + 1, l => by
    unfold bad
    have h1 := dec_le l
    have h2 := bad_le f (l.drop (dec l).2)
    rw [List.length_drop] at h2
    split <;> omega
end Go.Proofs.YtlnpfpjncnkekaaGreatDoor

namespace Go.Proofs.YtlnpfpjncnkekaaGreatDoor
open Go.RowKit
set_option maxRecDepth 100000
set_option maxHeartbeats 1000000

/-- How many bytes there are up to and including the partner of the quotation mark q, of what stands behind it; 0 if there is none. -/
def partW (q : UInt8) (l : List UInt8) : Nat :=
  match l with
  | [] => 0
  | c :: t =>
    if q.toNat = 34 ∧ c.toNat = 92 then (if partW q (t.drop (max 1 (dec t).2)) = 0 then 0 else 1 + max 1 (dec t).2 + partW q (t.drop (max 1 (dec t).2)))
    else if c = q then (if q.toNat = 39 ∧ t.head? = some 39 then (if partW q (t.drop 1) = 0 then 0 else 2 + partW q (t.drop 1)) else 1)
    else if partW q t = 0 then 0 else 1 + partW q t
termination_by l.length
decreasing_by all_goals simp only [List.length_drop, List.length_cons]; omega
theorem partW_nil (q : UInt8) : partW q [] = 0 := by rw [partW]
theorem partW_cons (q c : UInt8) (t : List UInt8) : partW q (c :: t) =
    if q.toNat = 34 ∧ c.toNat = 92 then (if partW q (t.drop (max 1 (dec t).2)) = 0 then 0 else 1 + max 1 (dec t).2 + partW q (t.drop (max 1 (dec t).2)))
    else if c = q then (if q.toNat = 39 ∧ t.head? = some 39 then (if partW q (t.drop 1) = 0 then 0 else 2 + partW q (t.drop 1)) else 1)
    else if partW q t = 0 then 0 else 1 + partW q t := by rw [partW]
theorem partW_le (q : UInt8) : ∀ (n : Nat) (l : List UInt8), l.length ≤ n → partW q l ≤ l.length
  | 0, l, h => by
    obtain rfl := List.eq_nil_of_length_eq_zero (Nat.le_zero.1 h)
    rw [partW_nil]
    exact Nat.le_refl _
  | n + 1, [], _ => by rw [partW_nil]; exact Nat.le_refl _
  | n + 1, c :: t, h => by
    simp only [List.length_cons] at h ⊢
    have h1 := partW_le q n t (by omega)
    have h2 := partW_le q n (t.drop 1) (by simp only [List.length_drop]; omega)
    have h3 := partW_le q n (t.drop (max 1 (dec t).2)) (by simp only [List.length_drop]; omega)
    simp only [List.length_drop] at h2 h3
    rw [partW_cons]
    split
    · split <;> omega
    split
    · split
      · split <;> omega
      · omega
    · split <;> omega
theorem partW_len (q : UInt8) (l : List UInt8) : partW q l ≤ l.length := partW_le q l.length l (Nat.le_refl _)
/-- The last of those bytes is the quotation mark. -/
theorem partW_last (q : UInt8) : ∀ (n : Nat) (l : List UInt8), l.length ≤ n → partW q l ≠ 0 → l[partW q l - 1]? = some q
  | 0, l, h, h0 => by
    obtain rfl := List.eq_nil_of_length_eq_zero (Nat.le_zero.1 h)
    exact absurd (partW_nil q) h0
  | n + 1, [], _, h0 => absurd (partW_nil q) h0
  | n + 1, c :: t, h, h0 => by
    simp only [List.length_cons] at h
    have key : ∀ j, partW q (t.drop j) ≠ 0 → (c :: t)[1 + j + partW q (t.drop j) - 1]? = some q := by
      intro j hj
      have ih := partW_last q n (t.drop j) (by simp only [List.length_drop]; omega) hj
      rw [List.getElem?_drop] at ih
      rw [show 1 + j + partW q (t.drop j) - 1 = (j + (partW q (t.drop j) - 1)) + 1 by omega, List.getElem?_cons_succ]
      exact ih
    rw [partW_cons] at h0 ⊢
    split
    · rename_i hh
      rw [if_pos hh] at h0
      split
      · rename_i hz
        rw [if_pos hz] at h0
        exact absurd rfl h0
      · rename_i hz
        exact key _ hz
    rename_i hh
    rw [if_neg hh] at h0
    split
    · rename_i hc
      rw [if_pos hc] at h0
      split
      · rename_i hq
        rw [if_pos hq] at h0
        split
        · rename_i hz
          rw [if_pos hz] at h0
          exact absurd rfl h0
        · rename_i hz
          exact key 1 hz
      · rw [hc]
        rfl
    · rename_i hc
      rw [if_neg hc] at h0
      split
      · rename_i hz
        rw [if_pos hz] at h0
        exact absurd rfl h0
      · rename_i hz
        have := key 0 (by rw [List.drop_zero]; exact hz)
        rw [List.drop_zero, Nat.add_zero] at this
        exact this
/-- What is found where the scan stands at k, of the whole. -/
def addP (k r : Nat) : Nat := if r = 0 then 0 else k + r
theorem addP_add (k n r : Nat) : addP k (if r = 0 then 0 else n + r) = addP (k + n) r := by
  unfold addP
  split
  · simp_all
  · rw [if_neg (by omega)]
    omega
/-- How many bytes stand ahead of the comment, behind a byte p. -/
def hashW (p : UInt8) (l : List UInt8) : Nat :=
  match l with
  | [] => 0
  | c :: t =>
    if c.toNat = 35 ∧ p.toNat = 32 then 0
    else if (c.toNat = 39 ∨ c.toNat = 34) ∧ (p.toNat = 32 ∨ p.toNat = 91 ∨ p.toNat = 123 ∨ p.toNat = 44) then
      (if partW c t = 0 then 1 + t.length else 1 + partW c t + hashW c (t.drop (partW c t)))
    else 1 + hashW c t
termination_by l.length
decreasing_by all_goals simp only [List.length_drop, List.length_cons]; omega
theorem hashW_nil (p : UInt8) : hashW p [] = 0 := by rw [hashW]
theorem hashW_cons (p c : UInt8) (t : List UInt8) : hashW p (c :: t) =
    if c.toNat = 35 ∧ p.toNat = 32 then 0
    else if (c.toNat = 39 ∨ c.toNat = 34) ∧ (p.toNat = 32 ∨ p.toNat = 91 ∨ p.toNat = 123 ∨ p.toNat = 44) then
      (if partW c t = 0 then 1 + t.length else 1 + partW c t + hashW c (t.drop (partW c t)))
    else 1 + hashW c t := by rw [hashW]
theorem hashW_le : ∀ (n : Nat) (p : UInt8) (l : List UInt8), l.length ≤ n → hashW p l ≤ l.length
  | 0, p, l, h => by
    obtain rfl := List.eq_nil_of_length_eq_zero (Nat.le_zero.1 h)
    rw [hashW_nil]
    exact Nat.le_refl _
  | n + 1, p, [], _ => by rw [hashW_nil]; exact Nat.le_refl _
  | n + 1, p, c :: t, h => by
    simp only [List.length_cons] at h ⊢
    have h1 := hashW_le n c t (by omega)
    have h2 := hashW_le n c (t.drop (partW c t)) (by simp only [List.length_drop]; omega)
    have h3 := partW_len c t
    simp only [List.length_drop] at h2
    rw [hashW_cons]
    split
    · omega
    split
    · split <;> omega
    · omega
theorem hashW_len (p : UInt8) (l : List UInt8) : hashW p l ≤ l.length := hashW_le l.length p l (Nat.le_refl _)
/-- The spaces at the end of the first n bytes are left out. -/
def backS (l : List UInt8) : Nat → Nat
  | 0 => 0
  | n + 1 => if l[n]? = some 32 then backS l n else n + 1
theorem backS_le (l : List UInt8) : ∀ n, backS l n ≤ n
  | 0 => Nat.le_refl _
  | n + 1 => by
    have := backS_le l n
    rw [backS]
    split <;> omega
/-- How many bytes of a line stand ahead of its end. -/
def bodyN (l : List UInt8) : Nat :=
  if l.getLast? = some 10 then (if 2 ≤ l.length ∧ l[l.length - 2]? = some 13 then l.length - 2 else l.length - 1) else l.length
theorem bodyN_le (l : List UInt8) : bodyN l ≤ l.length := by
  unfold bodyN
  split
  · split <;> omega
  · exact Nat.le_refl _
/-- How many spaces a list begins with. -/
def spcN : List UInt8 → Nat
  | [] => 0
  | b :: t => if b = 32 then 1 + spcN t else 0
theorem spcN_le : ∀ l : List UInt8, spcN l ≤ l.length
  | [] => Nat.le_refl _
  | b :: t => by
    have := spcN_le t
    rw [spcN, List.length_cons]
    split <;> omega
/-- A line: its indentation, content, comment, end, and where it begins. -/
structure Ln where
  ind : Nat
  text : List UInt8
  com : List UInt8
  fin : List UInt8
  pos : Nat
def contL (l : List UInt8) : List UInt8 := (l.take (bodyN l)).drop (spcN (l.take (bodyN l)))
def contN (l : List UInt8) : Nat := backS (contL l) (hashW 32 (contL l))
def lineP (l : List UInt8) (pos : Nat) : Ln := ⟨spcN (l.take (bodyN l)), (contL l).take (contN l), (contL l).drop (contN l), l.drop (bodyN l), pos⟩
end Go.Proofs.YtlnpfpjncnkekaaGreatDoor

namespace Go.Proofs.YtlnpfpjncnkekaaGreatDoor
open Go.RowKit

/-- Without the zeros ahead. -/
def zl : List UInt8 → List UInt8
  | [] => []
  | b :: t => if b.toNat = 48 then zl t else b :: t
/-- The zeros behind. -/
def tz : List UInt8 → Nat
  | [] => 0
  | b :: t => if b.toNat = 48 ∧ tz t = t.length then tz t + 1 else tz t
theorem zl_le : ∀ l : List UInt8, (zl l).length ≤ l.length
  | [] => Nat.le_refl _
  | b :: t => by
    have := zl_le t
    unfold zl
    split <;> simp <;> omega
theorem tz_le : ∀ l : List UInt8, tz l ≤ l.length
  | [] => Nat.le_refl _
  | b :: t => by
    have := tz_le t
    unfold tz
    split <;> simp <;> omega
theorem zl_all : ∀ l : List UInt8, (∀ b ∈ l, dig b = true) → ∀ b ∈ zl l, dig b = true
  | [], _, b, hb => by cases hb
  | c :: t, h, b, hb => by
    unfold zl at hb
    split at hb
    · exact zl_all t (fun x hx => h x (List.mem_cons_of_mem _ hx)) b hb
    · exact h b hb
theorem tz_snoc : ∀ (l : List UInt8) (b : UInt8), tz (l ++ [b]) = if b.toNat = 48 then tz l + 1 else 0
  | [], b => by
    by_cases h : b.toNat = 48
    · simp [tz, h]
    · simp [tz, h]
  | c :: t, b => by
    have ih := tz_snoc t b
    have := tz_le t
    rw [List.cons_append, tz, ih]
    by_cases h : b.toNat = 48
    · simp only [if_pos h, List.length_append, List.length_cons, List.length_nil]
      by_cases h2 : c.toNat = 48 ∧ tz t = t.length
      · rw [if_pos ⟨h2.1, by omega⟩, tz, if_pos h2]
      · rw [if_neg (fun h3 => h2 ⟨h3.1, by omega⟩), tz, if_neg h2]
    · simp only [if_neg h, List.length_append, List.length_cons, List.length_nil]
      rw [if_neg (by rintro ⟨_, h3⟩; omega)]
end Go.Proofs.YtlnpfpjncnkekaaGreatDoor

namespace Go.Proofs.YtlnpfpjncnkekaaGreatDoor
set_option maxRecDepth 100000
set_option maxHeartbeats 1000000

/-- The position of a byte, from k on; -1 if it is not there. -/
def idxL (c : UInt8) : Nat → List UInt8 → Int
  | _, [] => -1
  | k, b :: t => if b.toNat = c.toNat then (k : Int) else idxL c (k + 1) t
def lets : List UInt8 := [65, 66, 67, 68, 69, 70, 71, 72, 73, 74, 75, 76, 77, 78, 79, 80, 81, 82, 83, 84, 85, 86, 87, 88, 89, 90, 97, 98, 99, 100, 101, 102, 103, 104, 105, 106, 107, 108, 109, 110, 111, 112, 113, 114, 115, 116, 117, 118, 119, 120, 121, 122, 48, 49, 50, 51, 52, 53, 54, 55, 56, 57, 43, 47]
def b64 (c : UInt8) : Int := idxL c 0 lets
def dg (c : UInt8) : Nat := (b64 c).toNat
def lt64 (n : Nat) : UInt8 := lets.getD n 0
theorem b64_all0 : ∀ n : Fin 256, (b64 (UInt8.ofNat n.val) = -1 ∨ (0 ≤ b64 (UInt8.ofNat n.val) ∧ b64 (UInt8.ofNat n.val) < 64 ∧ lt64 (dg (UInt8.ofNat n.val)) = UInt8.ofNat n.val)) := by decide +kernel
theorem b64_all (c : UInt8) : b64 c = -1 ∨ (0 ≤ b64 c ∧ b64 c < 64 ∧ lt64 (dg c) = c) := by
  have h := b64_all0 ⟨c.toNat, c.toNat_lt⟩
  simpa using h
theorem lt64_all : ∀ n : Fin 64, b64 (lt64 n.val) = (n.val : Int) := by decide +kernel
theorem lt64_dg (n : Nat) (h : n < 64) : dg (lt64 n) = n ∧ 0 ≤ b64 (lt64 n) := by
  have := lt64_all ⟨n, h⟩
  unfold dg
  simp only at this
  rw [this]
  exact ⟨rfl, Int.natCast_nonneg _⟩
theorem dg_lt (c : UInt8) : dg c < 64 := by
  unfold dg
  rcases b64_all c with h | h
  · rw [h]; decide
  · omega
/-- How many digits stand ahead. -/
def runB : List UInt8 → Nat
  | [] => 0
  | c :: t => if 0 ≤ b64 c then runB t + 1 else 0
theorem runB_le : ∀ l : List UInt8, runB l ≤ l.length
  | [] => Nat.le_refl _
  | c :: t => by
    have := runB_le t
    rw [runB, List.length_cons]
    split <;> omega
/-- The whole bytes of digits. -/
def dcG : List Nat → List UInt8
  | a :: b :: c :: d :: t => UInt8.ofNat (a * 4 + b / 16) :: UInt8.ofNat (b % 16 * 16 + c / 4) :: UInt8.ofNat (c % 4 * 64 + d) :: dcG t
  | [a, b, c] => [UInt8.ofNat (a * 4 + b / 16), UInt8.ofNat (b % 16 * 16 + c / 4)]
  | [a, b] => [UInt8.ofNat (a * 4 + b / 16)]
  | [_] => []
  | [] => []
/-- The bits left over, as a number. -/
def lefG : List Nat → Nat
  | _ :: _ :: _ :: _ :: t => lefG t
  | [_, _, c] => c % 4
  | [_, b] => b % 16
  | [a] => a
  | [] => 0
/-- The digits of bytes. -/
def encD : List UInt8 → List Nat
  | x :: y :: z :: t => x.toNat / 4 :: (x.toNat % 4 * 16 + y.toNat / 16) :: (y.toNat % 16 * 4 + z.toNat / 64) :: z.toNat % 64 :: encD t
  | [x, y] => [x.toNat / 4, x.toNat % 4 * 16 + y.toNat / 16, y.toNat % 16 * 4]
  | [x] => [x.toNat / 4, x.toNat % 4 * 16]
  | [] => []
def padN (n : Nat) : Nat := (3 - n % 3) % 3
def encP (b : List UInt8) : List UInt8 := (encD b).map lt64 ++ List.replicate (padN b.length) 61
/-- The bytes of a base64 text, with its equals signs. -/
def okB (l : List UInt8) : Prop := runB l % 4 ≠ 1 ∧ lefG ((l.take (runB l)).map dg) = 0 ∧ l.drop (runB l) = List.replicate ((4 - runB l % 4) % 4) 61
def bytB (l : List UInt8) : List UInt8 := dcG ((l.take (runB l)).map dg)
theorem ofn (n : Nat) (h : n < 256) : (UInt8.ofNat n).toNat = n := by
  simp only [UInt8.toNat_ofNat']
  omega
/-- Induction by groups of four. -/
theorem four_ind {P : List Nat → Prop} (h0 : P []) (h1 : ∀ a, P [a]) (h2 : ∀ a b, P [a, b]) (h3 : ∀ a b c, P [a, b, c]) (h4 : ∀ a b c d t, P t → P (a :: b :: c :: d :: t)) : ∀ l, P l
  | [] => h0
  | [a] => h1 a
  | [a, b] => h2 a b
  | [a, b, c] => h3 a b c
  | a :: b :: c :: d :: t => h4 a b c d t (four_ind h0 h1 h2 h3 h4 t)
theorem dec_len64 (l : List Nat) : (dcG l).length = l.length * 6 / 8 := by
  refine four_ind (P := fun l => (dcG l).length = l.length * 6 / 8) rfl (fun _ => by simp [dcG]) (fun _ _ => by simp [dcG]) (fun _ _ _ => by simp [dcG]) (fun a b c d t ih => ?_) l
  show (dcG t).length + 1 + 1 + 1 = (t.length + 1 + 1 + 1 + 1) * 6 / 8
  rw [ih]
  omega
theorem enc_len64 (l : List Nat) : (encD (dcG l)).length = if l.length % 4 = 1 then l.length - 1 else l.length := by
  refine four_ind (P := fun l => (encD (dcG l)).length = if l.length % 4 = 1 then l.length - 1 else l.length) rfl (fun _ => rfl) (fun _ _ => rfl) (fun _ _ _ => rfl) (fun a b c d t ih => ?_) l
  show (encD (dcG t)).length + 1 + 1 + 1 + 1 = if (t.length + 1 + 1 + 1 + 1) % 4 = 1 then (t.length + 1 + 1 + 1 + 1) - 1 else (t.length + 1 + 1 + 1 + 1)
  rw [ih]
  by_cases h : t.length % 4 = 1
  · rw [if_pos h, if_pos (by omega)]; omega
  · rw [if_neg h, if_neg (by omega)]
theorem enc_dec (l : List Nat) : (∀ n ∈ l, n < 64) → l.length % 4 ≠ 1 → (encD (dcG l) = l ↔ lefG l = 0) := by
  refine four_ind (P := fun l => (∀ n ∈ l, n < 64) → l.length % 4 ≠ 1 → (encD (dcG l) = l ↔ lefG l = 0)) (fun _ _ => ⟨fun _ => rfl, fun _ => rfl⟩) (fun a _ h => absurd rfl h) (fun a b h _ => ?_) (fun a b c h _ => ?_) (fun a b c d t ih h hl => ?_) l
  · have ha := h a (by simp)
    have hb := h b (by simp)
    show [(UInt8.ofNat (a * 4 + b / 16)).toNat / 4, (UInt8.ofNat (a * 4 + b / 16)).toNat % 4 * 16] = [a, b] ↔ b % 16 = 0
    rw [ofn _ (by omega)]
    simp only [List.cons.injEq, and_true]
    omega
  · have ha := h a (by simp)
    have hb := h b (by simp)
    have hc := h c (by simp)
    show [(UInt8.ofNat (a * 4 + b / 16)).toNat / 4, (UInt8.ofNat (a * 4 + b / 16)).toNat % 4 * 16 + (UInt8.ofNat (b % 16 * 16 + c / 4)).toNat / 16, (UInt8.ofNat (b % 16 * 16 + c / 4)).toNat % 16 * 4] = [a, b, c] ↔ c % 4 = 0
    rw [ofn _ (by omega), ofn _ (by omega)]
    simp only [List.cons.injEq, and_true]
    omega
  · have ha := h a (by simp)
    have hb := h b (by simp)
    have hc := h c (by simp)
    have hd := h d (by simp)
    have ih := ih (fun n hn => h n (by simp [hn])) (by simp only [List.length_cons] at hl; omega)
    show (UInt8.ofNat (a * 4 + b / 16)).toNat / 4 :: ((UInt8.ofNat (a * 4 + b / 16)).toNat % 4 * 16 + (UInt8.ofNat (b % 16 * 16 + c / 4)).toNat / 16) :: ((UInt8.ofNat (b % 16 * 16 + c / 4)).toNat % 16 * 4 + (UInt8.ofNat (c % 4 * 64 + d)).toNat / 64) :: (UInt8.ofNat (c % 4 * 64 + d)).toNat % 64 :: encD (dcG t) = a :: b :: c :: d :: t ↔ lefG t = 0
    rw [ofn _ (by omega), ofn _ (by omega), ofn _ (by omega), ← ih]
    simp only [List.cons.injEq]
    constructor
    · exact fun h => h.2.2.2.2
    · exact fun h => ⟨by omega, by omega, by omega, by omega, h⟩
theorem three_ind {P : List UInt8 → Prop} (h0 : P []) (h1 : ∀ a, P [a]) (h2 : ∀ a b, P [a, b]) (h3 : ∀ a b c t, P t → P (a :: b :: c :: t)) : ∀ l, P l
  | [] => h0
  | [a] => h1 a
  | [a, b] => h2 a b
  | a :: b :: c :: t => h3 a b c t (three_ind h0 h1 h2 h3 t)
theorem encD_lt (b : List UInt8) : ∀ n ∈ encD b, n < 64 := by
  refine three_ind (P := fun b => ∀ n ∈ encD b, n < 64) (fun n h => by cases h) (fun x n h => ?_) (fun x y n h => ?_) (fun x y z t ih n h => ?_) b
  · have hx := x.toNat_lt
    simp only [encD, List.mem_cons, List.not_mem_nil, or_false] at h
    omega
  · have hx := x.toNat_lt
    have hy := y.toNat_lt
    simp only [encD, List.mem_cons, List.not_mem_nil, or_false] at h
    omega
  · have hx := x.toNat_lt
    have hy := y.toNat_lt
    have hz := z.toNat_lt
    simp only [encD, List.mem_cons] at h
    rcases h with h | h | h | h | h
    · omega
    · omega
    · omega
    · omega
    · exact ih n h
theorem runB_map : ∀ (ns : List Nat) (t : List UInt8), (∀ n ∈ ns, n < 64) → runB t = 0 → runB (ns.map lt64 ++ t) = ns.length
  | [], t, _, h0 => h0
  | n :: ns, t, h, h0 => by
    rw [List.map_cons, List.cons_append, runB, if_pos (lt64_dg n (h n (List.mem_cons_self ..))).2, runB_map ns t (fun m hm => h m (List.mem_cons_of_mem _ hm)) h0, List.length_cons]
theorem runB_pad : ∀ n : Nat, runB (List.replicate n 61) = 0
  | 0 => rfl
  | n + 1 => by
    rw [List.replicate_succ, runB, if_neg (by decide)]
theorem map_back : ∀ ns : List Nat, (∀ n ∈ ns, n < 64) → (ns.map lt64).map dg = ns
  | [], _ => rfl
  | n :: ns, h => by
    rw [List.map_cons, List.map_cons, (lt64_dg n (h n (List.mem_cons_self ..))).1, map_back ns (fun m hm => h m (List.mem_cons_of_mem _ hm))]
theorem run_back : ∀ l : List UInt8, ((l.take (runB l)).map dg).map lt64 = l.take (runB l)
  | [] => rfl
  | c :: t => by
    by_cases h : 0 ≤ b64 c
    · have e : runB (c :: t) = runB t + 1 := if_pos h
      rw [e, List.take_succ_cons, List.map_cons, List.map_cons, run_back t]
      rcases b64_all c with h1 | ⟨-, -, h3⟩
      · omega
      · rw [h3]
    · have e : runB (c :: t) = 0 := if_neg h
      rw [e]
      rfl
theorem pad_same (k : Nat) (h : k % 4 ≠ 1) : padN (k * 6 / 8) = (4 - k % 4) % 4 := by
  unfold padN
  rcases (by omega : k % 4 = 0 ∨ k % 4 = 2 ∨ k % 4 = 3) with h | h | h
  · rw [h, show k * 6 / 8 % 3 = 0 by omega]
  · rw [h, show k * 6 / 8 % 3 = 1 by omega]
  · rw [h, show k * 6 / 8 % 3 = 2 by omega]
theorem encP_parts (b : List UInt8) : (encP b).take (encD b).length = (encD b).map lt64 ∧ (encP b).drop (encD b).length = List.replicate (padN b.length) 61 := by
  have hl : ((encD b).map lt64).length = (encD b).length := List.length_map ..
  unfold encP
  rw [← hl]
  exact ⟨List.take_left, List.drop_left⟩
/-- The reference's way to ask for a text: the bytes' own text is the same again. -/
theorem enc_iff (l : List UInt8) : encP (bytB l) = l ↔ okB l := by
  have hk := runB_le l
  have hlen : ((l.take (runB l)).map dg).length = runB l := by rw [List.length_map, List.length_take, Nat.min_eq_left hk]
  have hlt : ∀ n ∈ (l.take (runB l)).map dg, n < 64 := by
    intro n hn
    obtain ⟨c, -, rfl⟩ := List.mem_map.1 hn
    exact dg_lt c
  have hbl : (bytB l).length = runB l * 6 / 8 := by unfold bytB; rw [dec_len64, hlen]
  constructor
  · intro h
    have hr : runB (encP (bytB l)) = (encD (bytB l)).length := runB_map _ _ (encD_lt _) (runB_pad _)
    rw [h] at hr
    have hel : (encD (bytB l)).length = if runB l % 4 = 1 then runB l - 1 else runB l := by
      have := enc_len64 ((l.take (runB l)).map dg)
      rw [hlen] at this
      exact this
    have h1 : runB l % 4 ≠ 1 := by
      intro h1
      rw [if_pos h1] at hel
      omega
    obtain ⟨htk, hdr⟩ := encP_parts (bytB l)
    rw [h, ← hr] at htk hdr
    have hds : encD (bytB l) = (l.take (runB l)).map dg := by rw [htk, map_back _ (encD_lt _)]
    refine ⟨h1, (enc_dec _ hlt (by rw [hlen]; exact h1)).1 hds, ?_⟩
    rw [hdr, hbl, pad_same _ h1]
  · rintro ⟨h1, h2, h3⟩
    have hds : encD (bytB l) = (l.take (runB l)).map dg := (enc_dec _ hlt (by rw [hlen]; exact h1)).2 h2
    unfold encP
    rw [hds, run_back, hbl]
    rw [pad_same _ h1, ← h3, List.take_append_drop]
/-- A text's bytes, written again: told whole. -/
theorem back_enc (b : List UInt8) : okB (encP b) ∧ bytB (encP b) = b := by
  have hr : runB (encP b) = (encD b).length := runB_map _ _ (encD_lt _) (runB_pad _)
  have htk : (encP b).take (runB (encP b)) = (encD b).map lt64 := by
    rw [hr]
    exact (encP_parts b).1
  have hb : bytB (encP b) = b := by
    unfold bytB
    rw [htk, map_back _ (encD_lt _)]
    refine three_ind (P := fun b => dcG (encD b) = b) rfl (fun x => ?_) (fun x y => ?_) (fun x y z t ih => ?_) b
    · have hx := x.toNat_lt
      show [UInt8.ofNat (x.toNat / 4 * 4 + (x.toNat % 4 * 16) / 16)] = [x]
      rw [show x.toNat / 4 * 4 + (x.toNat % 4 * 16) / 16 = x.toNat by omega, UInt8.ofNat_toNat]
    · have hx := x.toNat_lt
      have hy := y.toNat_lt
      show [UInt8.ofNat (x.toNat / 4 * 4 + (x.toNat % 4 * 16 + y.toNat / 16) / 16), UInt8.ofNat ((x.toNat % 4 * 16 + y.toNat / 16) % 16 * 16 + (y.toNat % 16 * 4) / 4)] = [x, y]
      rw [show x.toNat / 4 * 4 + (x.toNat % 4 * 16 + y.toNat / 16) / 16 = x.toNat by omega, show (x.toNat % 4 * 16 + y.toNat / 16) % 16 * 16 + (y.toNat % 16 * 4) / 4 = y.toNat by omega, UInt8.ofNat_toNat, UInt8.ofNat_toNat]
    · have hx := x.toNat_lt
      have hy := y.toNat_lt
      have hz := z.toNat_lt
      show UInt8.ofNat (x.toNat / 4 * 4 + (x.toNat % 4 * 16 + y.toNat / 16) / 16) :: UInt8.ofNat ((x.toNat % 4 * 16 + y.toNat / 16) % 16 * 16 + (y.toNat % 16 * 4 + z.toNat / 64) / 4) :: UInt8.ofNat ((y.toNat % 16 * 4 + z.toNat / 64) % 4 * 64 + z.toNat % 64) :: dcG (encD t) = x :: y :: z :: t
      rw [show x.toNat / 4 * 4 + (x.toNat % 4 * 16 + y.toNat / 16) / 16 = x.toNat by omega, show (x.toNat % 4 * 16 + y.toNat / 16) % 16 * 16 + (y.toNat % 16 * 4 + z.toNat / 64) / 4 = y.toNat by omega, show (y.toNat % 16 * 4 + z.toNat / 64) % 4 * 64 + z.toNat % 64 = z.toNat by omega, UInt8.ofNat_toNat, UInt8.ofNat_toNat, UInt8.ofNat_toNat, ih]
  exact ⟨(enc_iff _).1 (by rw [hb]), hb⟩
end Go.Proofs.YtlnpfpjncnkekaaGreatDoor

namespace Go.Proofs.YtlnpfpjncnkekaaGreatDoor
set_option maxRecDepth 100000
set_option maxHeartbeats 1000000

/-! A digit more. -/
theorem dec_snoc (l : List Nat) (d : Nat) : (l.length % 4 = 0 → dcG (l ++ [d]) = dcG l ∧ lefG (l ++ [d]) = d ∧ lefG l = 0) ∧
    (l.length % 4 = 1 → dcG (l ++ [d]) = dcG l ++ [UInt8.ofNat (lefG l * 4 + d / 16)] ∧ lefG (l ++ [d]) = d % 16) ∧
    (l.length % 4 = 2 → dcG (l ++ [d]) = dcG l ++ [UInt8.ofNat (lefG l * 16 + d / 4)] ∧ lefG (l ++ [d]) = d % 4) ∧
    (l.length % 4 = 3 → dcG (l ++ [d]) = dcG l ++ [UInt8.ofNat (lefG l * 64 + d)] ∧ lefG (l ++ [d]) = 0) := by
  refine four_ind (P := fun l => (l.length % 4 = 0 → dcG (l ++ [d]) = dcG l ∧ lefG (l ++ [d]) = d ∧ lefG l = 0) ∧
    (l.length % 4 = 1 → dcG (l ++ [d]) = dcG l ++ [UInt8.ofNat (lefG l * 4 + d / 16)] ∧ lefG (l ++ [d]) = d % 16) ∧
    (l.length % 4 = 2 → dcG (l ++ [d]) = dcG l ++ [UInt8.ofNat (lefG l * 16 + d / 4)] ∧ lefG (l ++ [d]) = d % 4) ∧
    (l.length % 4 = 3 → dcG (l ++ [d]) = dcG l ++ [UInt8.ofNat (lefG l * 64 + d)] ∧ lefG (l ++ [d]) = 0)) ?_ ?_ ?_ ?_ ?_ l
  · exact ⟨fun _ => ⟨rfl, rfl, rfl⟩, fun h => (by cases h), fun h => (by cases h), fun h => (by cases h)⟩
  · exact fun a => ⟨fun h => (by cases h), fun _ => ⟨rfl, rfl⟩, fun h => (by cases h), fun h => (by cases h)⟩
  · exact fun a b => ⟨fun h => (by cases h), fun h => (by cases h), fun _ => ⟨rfl, rfl⟩, fun h => (by cases h)⟩
  · exact fun a b c => ⟨fun h => (by cases h), fun h => (by cases h), fun h => (by cases h), fun _ => ⟨rfl, rfl⟩⟩
  · intro a b c e t ih
    obtain ⟨i0, i1, i2, i3⟩ := ih
    have hl : (a :: b :: c :: e :: t).length % 4 = t.length % 4 := by simp only [List.length_cons]; omega
    rw [hl]
    have hd : ∀ u, dcG (a :: b :: c :: e :: u) = UInt8.ofNat (a * 4 + b / 16) :: UInt8.ofNat (b % 16 * 16 + c / 4) :: UInt8.ofNat (c % 4 * 64 + e) :: dcG u := fun _ => rfl
    have hlf : ∀ u, lefG (a :: b :: c :: e :: u) = lefG u := fun _ => rfl
    simp only [List.cons_append, hd, hlf]
    refine ⟨fun h => ?_, fun h => ?_, fun h => ?_, fun h => ?_⟩
    · obtain ⟨h1, h2, h3⟩ := i0 h
      exact ⟨by rw [h1], h2, h3⟩
    · obtain ⟨h1, h2⟩ := i1 h
      exact ⟨by rw [h1], h2⟩
    · obtain ⟨h1, h2⟩ := i2 h
      exact ⟨by rw [h1], h2⟩
    · obtain ⟨h1, h2⟩ := i3 h
      exact ⟨by rw [h1], h2⟩
theorem lef_lt (l : List Nat) : (∀ n ∈ l, n < 64) → lefG l < 64 ∧ (l.length % 4 = 0 → lefG l = 0) ∧ (l.length % 4 = 2 → lefG l < 16) ∧ (l.length % 4 = 3 → lefG l < 4) := by
  refine four_ind (P := fun l => (∀ n ∈ l, n < 64) → lefG l < 64 ∧ (l.length % 4 = 0 → lefG l = 0) ∧ (l.length % 4 = 2 → lefG l < 16) ∧ (l.length % 4 = 3 → lefG l < 4)) ?_ ?_ ?_ ?_ ?_ l
  · exact fun _ => ⟨by decide, fun _ => rfl, fun h => (by cases h), fun h => (by cases h)⟩
  · exact fun a h => ⟨h a (by simp), fun h => (by cases h), fun h => (by cases h), fun h => (by cases h)⟩
  · intro a b h
    show b % 16 < 64 ∧ _ ∧ (_ → b % 16 < 16) ∧ _
    exact ⟨by omega, fun h => (by cases h), fun _ => by omega, fun h => (by cases h)⟩
  · intro a b c h
    show c % 4 < 64 ∧ _ ∧ _ ∧ (_ → c % 4 < 4)
    exact ⟨by omega, fun h => (by cases h), fun h => (by cases h), fun _ => by omega⟩
  · intro a b c e t ih h
    have := ih (fun n hn => h n (by simp [hn]))
    have hl : (a :: b :: c :: e :: t).length % 4 = t.length % 4 := by simp only [List.length_cons]; omega
    rw [hl]
    exact this
/-! Bit by bit. -/
/-! The digits of bytes, bit by bit. -/
theorem encD_len (b : List UInt8) : (encD b).length = (8 * b.length + 5) / 6 := by
  refine three_ind (P := fun b => (encD b).length = (8 * b.length + 5) / 6) rfl (fun _ => by simp [encD]) (fun _ _ => by simp [encD]) (fun x y z t ih => ?_) b
  show (encD t).length + 1 + 1 + 1 + 1 = (8 * (t.length + 1 + 1 + 1) + 5) / 6
  rw [ih]
  omega
end Go.Proofs.YtlnpfpjncnkekaaGreatDoor
