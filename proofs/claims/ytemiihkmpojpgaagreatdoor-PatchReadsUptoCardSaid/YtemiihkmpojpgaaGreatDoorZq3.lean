/- A region's operations walked in pieces: what stands between two pieces is said by the prover. Conditions: none. -/
import Derived.Test.YtemiihkmpojpgaaGreatDoorRows
import Derived.WalkKit
import Derived.Lib.Hide
import Derived.Orders
namespace Go.Proofs.YtemiihkmpojpgaaGreatDoor
open Go.RowKit

/-- The bytes of a string. -/
def L (s : ByteArray) : List UInt8 := s.data.toList
theorem L_len (s : ByteArray) : (L s).length = s.size := by
  unfold L
  rw [Array.length_toList, ByteArray.size_data]
theorem L_get (s : ByteArray) (k : Nat) (h : k < s.size) : (L s)[k]'(by rw [L_len]; exact h) = s[k] := rfl
theorem L_drop (s : ByteArray) (k : Nat) (h : k < s.size) : (L s).drop k = s[k] :: (L s).drop (k + 1) := by
  rw [List.drop_eq_getElem_cons (by rw [L_len]; exact h), L_get]
theorem L_drop_nil (s : ByteArray) (k : Nat) (h : s.size ≤ k) : (L s).drop k = [] :=
  List.drop_eq_nil_of_le (by rw [L_len]; exact h)
theorem L_mk (l : List UInt8) : L ⟨l.toArray⟩ = l := rfl
theorem mk_L (s : ByteArray) : (⟨(L s).toArray⟩ : ByteArray) = s := rfl
theorem L_inj {s t : ByteArray} (h : L s = L t) : s = t := by
  rw [← mk_L s, ← mk_L t, h]
theorem L_extract (s : ByteArray) (a b : Nat) : L (s.extract a b) = ((L s).drop a).take (b - a) := by
  unfold L
  rw [ByteArray.data_extract, Array.toList_extract, List.extract_eq_take_drop]
theorem L_from (s : ByteArray) (a : Nat) : L (s.extract a s.size) = (L s).drop a := by
  rw [L_extract]
  exact List.take_of_length_le (by rw [List.length_drop, L_len]; omega)
theorem L_upto (s : ByteArray) (b : Nat) : L (s.extract 0 b) = (L s).take b := by
  rw [L_extract]; rfl
theorem L_append (s t : ByteArray) : L (s ++ t) = L s ++ L t := by
  unfold L
  rw [ByteArray.data_append, Array.toList_append]
theorem toList_L (s : ByteArray) : s.toList = L s := ByteArray.toList_eq s
theorem toList_ext (s : ByteArray) (a n : Nat) : (s.extract a (a + n)).toList = ((L s).drop a).take n := by
  rw [toList_L, L_extract, Nat.add_sub_cancel_left]
theorem beq_true {l m : List UInt8} (h : l = m) : (l == m) = true := by rw [h]; simp
theorem beq_false {l m : List UInt8} (h : ¬ l = m) : (l == m) = false := by simpa using h
theorem L_take_succ (s : ByteArray) (k : Nat) (h : k < s.size) : (L s).take (k + 1) = (L s).take k ++ [s[k]] := by
  rw [List.take_succ_eq_append_getElem (by rw [L_len]; exact h), L_get]

/-! Classes of bytes. -/
def dig (b : UInt8) : Bool := decide (48 ≤ b.toNat ∧ b.toNat ≤ 57)
def alpha (b : UInt8) : Bool := decide (97 ≤ b.toNat ∧ b.toNat ≤ 122 ∨ 65 ≤ b.toNat ∧ b.toNat ≤ 90)

/-- The digits that a list begins with. -/
def runL : List UInt8 → Nat
  | [] => 0
  | b :: t => if dig b then runL t + 1 else 0
theorem runL_le : ∀ l : List UInt8, runL l ≤ l.length
  | [] => Nat.le_refl _
  | b :: t => by
    have := runL_le t
    unfold runL
    split <;> simp <;> omega

/-! UTF-8. -/
def hd (b : Nat) : Nat × Nat :=
  if b < 128 then (1, b) else if 192 ≤ b ∧ b < 224 then (2, b % 32) else if 224 ≤ b ∧ b < 240 then (3, b % 16) else if 240 ≤ b ∧ b < 248 then (4, b % 8) else (0, 0)
def cont : Nat → Nat → List UInt8 → Option Nat
  | 0, r, _ => some r
  | n + 1, r, b :: t => if b.toNat / 64 = 2 then cont n (r * 64 + b.toNat % 64) t else none
  | _ + 1, _, [] => none
def scal (r : Nat) : Bool := decide (r ≤ 1114111 ∧ (r < 55296 ∨ 57343 < r))
def wid (r : Nat) : Nat := if r < 128 then 1 else if r < 2048 then 2 else if r < 65536 then 3 else 4
/-- The character that a list begins with, and the number of its bytes. -/
def dec : List UInt8 → Nat × Nat
  | [] => (0, 0)
  | b :: t =>
    if (hd b.toNat).1 = 0 ∨ t.length + 1 < (hd b.toNat).1 then (0, 0)
    else match cont ((hd b.toNat).1 - 1) (hd b.toNat).2 t with
      | none => (0, 0)
      | some r => if scal r ∧ wid r = (hd b.toNat).1 then (r, (hd b.toNat).1) else (0, 0)
/-- The bytes of a character. -/
def enc (r : Nat) : List UInt8 :=
  if r < 128 then [UInt8.ofNat r]
  else if r < 2048 then [UInt8.ofNat (192 + r / 64), UInt8.ofNat (128 + r % 64)]
  else if r < 65536 then [UInt8.ofNat (224 + r / 4096), UInt8.ofNat (128 + r / 64 % 64), UInt8.ofNat (128 + r % 64)]
  else [UInt8.ofNat (240 + r / 262144), UInt8.ofNat (128 + r / 4096 % 64), UInt8.ofNat (128 + r / 64 % 64), UInt8.ofNat (128 + r % 64)]
theorem enc_len (r : Nat) : (enc r).length = wid r := by
  unfold enc wid
  repeat' split
  all_goals rfl

/-! Bits. -/
theorem wraps_i64' (n : Int) (h0 : 0 ≤ n) (h1 : n < 2 ^ 63) : IntKind.i64.wrap n = n := by rw [IntKind.wrap_i64]; omega
theorem or_join (i : Nat) (x y : Int) (hx₀ : 0 ≤ x) (hx : x % 2 ^ i = 0) (hx₁ : x < 2 ^ 63) (hy₀ : 0 ≤ y) (hy : y < 2 ^ i) (hy₁ : y < 2 ^ 63) : bits .or .i64 x y = x + y :=
  bits_join .i64 63 (by decide) wraps_i64' i x y hx₀ hx hx₁ hy₀ hy hy₁
theorem or64 (r b : Nat) (hr : r < 100000000) : bits .or .i64 (wrap64 ((r : Int) * 64)) ((b : Int) % 64) = ((r * 64 + b % 64 : Nat) : Int) := by
  rw [IntWalk.wrap64_in _ (by omega), or_join 6 _ _ (by omega) (by omega) (by omega) (by omega) (by omega) (by omega)]
  omega
theorem and63 (r : Nat) (h : r < 2097152) : bits .and .i64 (r : Int) 63 = ((r % 64 : Nat) : Int) := by
  have := bits_mask .i64 63 (by decide) wraps_i64' 6 (by decide) (r : Int) (by omega) (by omega)
  exact this
theorem and31 (r : Nat) (h : r < 2097152) : bits .and .i64 (r : Int) 31 = ((r % 32 : Nat) : Int) :=
  bits_mask .i64 63 (by decide) wraps_i64' 5 (by decide) (r : Int) (by omega) (by omega)
theorem and15 (r : Nat) (h : r < 2097152) : bits .and .i64 (r : Int) 15 = ((r % 16 : Nat) : Int) :=
  bits_mask .i64 63 (by decide) wraps_i64' 4 (by decide) (r : Int) (by omega) (by omega)
theorem and7 (r : Nat) (h : r < 2097152) : bits .and .i64 (r : Int) 7 = ((r % 8 : Nat) : Int) :=
  bits_mask .i64 63 (by decide) wraps_i64' 3 (by decide) (r : Int) (by omega) (by omega)
theorem byte_mid (r : Nat) (h : r < 2097152) : UInt8.ofNat (bits .or .i64 128 (bits .and .i64 (r : Int) 63) % 256).toNat = UInt8.ofNat (128 + r % 64) := by
  rw [and63 r h, or_join 6 _ _ (by omega) (by omega) (by omega) (by omega) (by omega) (by omega)]
  congr 1
  omega
theorem byte_two (x : Nat) (h : x < 32) : UInt8.ofNat (bits .or .i64 192 (x : Int) % 256).toNat = UInt8.ofNat (192 + x) := by
  rw [or_join 6 _ _ (by omega) (by omega) (by omega) (by omega) (by omega) (by omega)]
  congr 1
  omega
theorem byte_three (x : Nat) (h : x < 16) : UInt8.ofNat (bits .or .i64 224 (x : Int) % 256).toNat = UInt8.ofNat (224 + x) := by
  rw [or_join 5 _ _ (by omega) (by omega) (by omega) (by omega) (by omega) (by omega)]
  congr 1
  omega
theorem byte_four (x : Nat) (h : x < 8) : UInt8.ofNat (bits .or .i64 240 (x : Int) % 256).toNat = UInt8.ofNat (240 + x) := by
  rw [or_join 4 _ _ (by omega) (by omega) (by omega) (by omega) (by omega) (by omega)]
  congr 1
  omega
theorem enc1 (r : Nat) (h : r < 128) : [UInt8.ofNat ((r : Int) % 256).toNat] = enc r := by
  unfold enc
  rw [if_pos h]
  congr 2
  omega
theorem enc2 (r : Nat) (h1 : 128 ≤ r) (h : r < 2048) : [UInt8.ofNat (bits .or .i64 192 ((r / 64 : Nat) : Int) % 256).toNat, UInt8.ofNat (bits .or .i64 128 (bits .and .i64 (r : Int) 63) % 256).toNat] = enc r := by
  rw [byte_mid r (by omega), byte_two _ (by omega)]
  unfold enc
  rw [if_neg (by omega), if_pos h]
theorem enc3 (r : Nat) (h1 : 2048 ≤ r) (h : r < 65536) : [UInt8.ofNat (bits .or .i64 224 ((r / 4096 : Nat) : Int) % 256).toNat, UInt8.ofNat (bits .or .i64 128 (bits .and .i64 ((r / 64 : Nat) : Int) 63) % 256).toNat, UInt8.ofNat (bits .or .i64 128 (bits .and .i64 (r : Int) 63) % 256).toNat] = enc r := by
  rw [byte_mid r (by omega), byte_mid (r / 64) (by omega), byte_three _ (by omega)]
  unfold enc
  rw [if_neg (by omega), if_neg (by omega), if_pos h]
theorem enc4 (r : Nat) (h1 : 65536 ≤ r) (h : r < 2097152) : [UInt8.ofNat (bits .or .i64 240 ((r / 262144 : Nat) : Int) % 256).toNat, UInt8.ofNat (bits .or .i64 128 (bits .and .i64 ((r / 4096 : Nat) : Int) 63) % 256).toNat, UInt8.ofNat (bits .or .i64 128 (bits .and .i64 ((r / 64 : Nat) : Int) 63) % 256).toNat, UInt8.ofNat (bits .or .i64 128 (bits .and .i64 (r : Int) 63) % 256).toNat] = enc r := by
  rw [byte_mid r (by omega), byte_mid (r / 64) (by omega), byte_mid (r / 4096) (by omega), byte_four _ (by omega)]
  unfold enc
  rw [if_neg (by omega), if_neg (by omega), if_neg (by omega)]
theorem wid_cases (r : Nat) (h : scal r = true) : (wid r = 1 ∧ r < 128) ∨ (wid r = 2 ∧ 128 ≤ r ∧ r < 2048) ∨ (wid r = 3 ∧ 2048 ≤ r ∧ r < 65536) ∨ (wid r = 4 ∧ 65536 ≤ r ∧ r < 2097152) := by
  simp only [scal, decide_eq_true_eq] at h
  unfold wid
  repeat' split
  all_goals omega
theorem or64' (r b : Nat) (hr : r < 100000000) (hb : b < 256) : bits .or .i64 (wrap64 ((r : Int) * 64)) (bits .and .i64 (b : Int) 63) = ((r * 64 + b % 64 : Nat) : Int) := by
  rw [and63 b (by omega), IntWalk.wrap64_in _ (by omega), or_join 6 _ _ (by omega) (by omega) (by omega) (by omega) (by omega) (by omega)]
  omega
theorem and192 (b : UInt8) : (bits BinOp.and IntKind.u8 (b.toNat : Int) 192 != 128) = !(b.toNat / 64 == 2) := by
  have h : ∀ n : Fin 256, (bits BinOp.and IntKind.u8 ((n.val : Nat) : Int) 192 != 128) = !(n.val / 64 == 2) := by decide +kernel
  exact h ⟨b.toNat, b.toNat_lt⟩
end Go.Proofs.YtemiihkmpojpgaaGreatDoor

namespace Go.Proofs.YtemiihkmpojpgaaGreatDoor
open Go.RowKit

theorem ofNat_eq {x : Nat} {c : UInt8} (h : x < 256) : UInt8.ofNat x = c ↔ x = c.toNat := by
  constructor
  · rintro rfl
    simp [UInt8.toNat_ofNat']
    omega
  · rintro rfl
    simp

def hdR (b : Nat) : Nat × Nat := if 240 ≤ b then (4, b % 8) else if 224 ≤ b then (3, b % 16) else if 192 ≤ b then (2, b % 32) else (1, b)
def contR : Nat → Nat → List UInt8 → Nat
  | 0, r, _ => r
  | n + 1, r, b :: t => contR n (r * 64 + b.toNat % 64) t
  | _ + 1, r, [] => r
def decR : List UInt8 → Nat × Nat
  | [] => (0, 0)
  | b :: t =>
    if t.length + 1 < (hdR b.toNat).1 then (0, 0)
    else if scal (contR ((hdR b.toNat).1 - 1) (hdR b.toNat).2 t) ∧ enc (contR ((hdR b.toNat).1 - 1) (hdR b.toNat).2 t) = (b :: t).take (hdR b.toNat).1 then (contR ((hdR b.toNat).1 - 1) (hdR b.toNat).2 t, (hdR b.toNat).1)
    else (0, 0)

theorem enc_two (b c : UInt8) (r : Nat) (hb : 192 ≤ b.toNat) (hb2 : b.toNat < 224) (hr : r = b.toNat % 32 * 64 + c.toNat % 64) : enc r = [b, c] ↔ c.toNat / 64 = 2 ∧ wid r = 2 := by
  have hc := c.toNat_lt
  have hb3 := b.toNat_lt
  constructor
  · intro h
    have hl := congrArg List.length h
    rw [enc_len] at hl
    simp only [List.length_cons, List.length_nil] at hl
    refine ⟨?_, hl⟩
    have h2 : 128 ≤ r ∧ r < 2048 := by unfold wid at hl; repeat' split at hl
                                       all_goals omega
    unfold enc at h
    rw [if_neg (by omega), if_pos h2.2] at h
    simp only [List.cons.injEq, and_true] at h
    rw [ofNat_eq (by omega), ofNat_eq (by omega)] at h
    omega
  · rintro ⟨h1, hl⟩
    have h2 : 128 ≤ r ∧ r < 2048 := by unfold wid at hl; repeat' split at hl
                                       all_goals omega
    unfold enc
    rw [if_neg (by omega), if_pos h2.2]
    simp only [List.cons.injEq, and_true]
    rw [ofNat_eq (by omega), ofNat_eq (by omega)]
    omega
theorem enc_three (b c d : UInt8) (r : Nat) (hb : 224 ≤ b.toNat) (hb2 : b.toNat < 240) (hr : r = (b.toNat % 16 * 64 + c.toNat % 64) * 64 + d.toNat % 64) : enc r = [b, c, d] ↔ (c.toNat / 64 = 2 ∧ d.toNat / 64 = 2) ∧ wid r = 3 := by
  have hc := c.toNat_lt
  have hd := d.toNat_lt
  have hb3 := b.toNat_lt
  constructor
  · intro h
    have hl := congrArg List.length h
    rw [enc_len] at hl
    simp only [List.length_cons, List.length_nil] at hl
    refine ⟨?_, hl⟩
    have h2 : 2048 ≤ r ∧ r < 65536 := by unfold wid at hl; repeat' split at hl
                                         all_goals omega
    unfold enc at h
    rw [if_neg (by omega), if_neg (by omega), if_pos h2.2] at h
    simp only [List.cons.injEq, and_true] at h
    rw [ofNat_eq (by omega), ofNat_eq (by omega), ofNat_eq (by omega)] at h
    omega
  · rintro ⟨h1, hl⟩
    have h2 : 2048 ≤ r ∧ r < 65536 := by unfold wid at hl; repeat' split at hl
                                         all_goals omega
    unfold enc
    rw [if_neg (by omega), if_neg (by omega), if_pos h2.2]
    simp only [List.cons.injEq, and_true]
    rw [ofNat_eq (by omega), ofNat_eq (by omega), ofNat_eq (by omega)]
    omega
theorem enc_four (b c d e : UInt8) (r : Nat) (hb : 240 ≤ b.toNat) (hr : r = ((b.toNat % 8 * 64 + c.toNat % 64) * 64 + d.toNat % 64) * 64 + e.toNat % 64) : enc r = [b, c, d, e] ↔ (b.toNat < 248 ∧ c.toNat / 64 = 2 ∧ d.toNat / 64 = 2 ∧ e.toNat / 64 = 2) ∧ wid r = 4 := by
  have hc := c.toNat_lt
  have hd := d.toNat_lt
  have he := e.toNat_lt
  have hb3 := b.toNat_lt
  constructor
  · intro h
    have hl := congrArg List.length h
    rw [enc_len] at hl
    simp only [List.length_cons, List.length_nil] at hl
    refine ⟨?_, hl⟩
    have h2 : 65536 ≤ r := by unfold wid at hl; repeat' split at hl
                              all_goals omega
    unfold enc at h
    rw [if_neg (by omega), if_neg (by omega), if_neg (by omega)] at h
    simp only [List.cons.injEq, and_true] at h
    rw [ofNat_eq (by omega), ofNat_eq (by omega), ofNat_eq (by omega), ofNat_eq (by omega)] at h
    omega
  · rintro ⟨h1, hl⟩
    have h2 : 65536 ≤ r := by unfold wid at hl; repeat' split at hl
                              all_goals omega
    unfold enc
    rw [if_neg (by omega), if_neg (by omega), if_neg (by omega)]
    simp only [List.cons.injEq, and_true]
    rw [ofNat_eq (by omega), ofNat_eq (by omega), ofNat_eq (by omega), ofNat_eq (by omega)]
    omega

theorem decR_eq (l : List UInt8) : decR l = dec l := by
  rcases l with _ | ⟨b, t⟩
  · rfl
  have hb3 := b.toNat_lt
  unfold decR dec
  by_cases h1 : b.toNat < 128
  · have e1 : hdR b.toNat = (1, b.toNat) := by unfold hdR; simp (disch := omega) only [if_neg]
    have e2 : hd b.toNat = (1, b.toNat) := by unfold hd; simp (disch := omega) only [if_pos]
    have e3 : enc b.toNat = [b] := by unfold enc; rw [if_pos h1]; simp
    have e4 : scal b.toNat = true := by simp [scal]; omega
    have e5 : wid b.toNat = 1 := by unfold wid; rw [if_pos h1]
    simp only [e1, e2]
    simp [contR, cont, e3, e4, e5]
  by_cases h2 : b.toNat < 192
  · have e1 : hdR b.toNat = (1, b.toNat) := by unfold hdR; simp (disch := omega) only [if_neg]
    have e2 : hd b.toNat = (0, 0) := by unfold hd; rw [if_neg h1, if_neg (by omega), if_neg (by omega), if_neg (by omega)]
    have e3 : (enc b.toNat).length = 2 := by rw [enc_len]; unfold wid; simp (disch := omega) only [if_pos, if_neg]
    simp only [e1, e2]
    rw [if_neg (by omega), if_neg, if_pos (.inl trivial)]
    rintro ⟨_, h⟩
    have := congrArg List.length h
    simp [contR, e3] at this
  by_cases h3 : b.toNat < 224
  · have e1 : hdR b.toNat = (2, b.toNat % 32) := by unfold hdR; rw [if_neg (by omega), if_neg (by omega), if_pos (by omega)]
    have e2 : hd b.toNat = (2, b.toNat % 32) := by unfold hd; rw [if_neg h1, if_pos (by omega)]
    simp only [e1, e2]
    rcases t with _ | ⟨c, t⟩
    · simp
    rw [if_neg (by simp), if_neg (show ¬ ((2 : Nat) = 0 ∨ (c :: t).length + 1 < 2) by simp)]
    have hk := enc_two b c _ (by omega) h3 rfl
    simp only [contR, cont, List.take_succ_cons, List.take_zero, hk, show 2 - 1 = 0 + 1 from rfl]
    by_cases hc : c.toNat / 64 = 2
    · simp [hc]
    · simp [hc]
  by_cases h4 : b.toNat < 240
  · have e1 : hdR b.toNat = (3, b.toNat % 16) := by unfold hdR; rw [if_neg (by omega), if_pos (by omega)]
    have e2 : hd b.toNat = (3, b.toNat % 16) := by unfold hd; rw [if_neg h1, if_neg (by omega), if_pos (by omega)]
    simp only [e1, e2]
    rcases t with _ | ⟨c, _ | ⟨d, t⟩⟩
    · simp
    · simp
    rw [if_neg (by simp), if_neg (show ¬ ((3 : Nat) = 0 ∨ (c :: d :: t).length + 1 < 3) by simp)]
    have hk := enc_three b c d _ (by omega) h4 rfl
    simp only [contR, cont, List.take_succ_cons, List.take_zero, hk, show 3 - 1 = 0 + 1 + 1 from rfl]
    by_cases hc : c.toNat / 64 = 2
    · by_cases hd : d.toNat / 64 = 2
      · simp [hc, hd]
      · simp [hc, hd]
    · simp [hc]
  · have e1 : hdR b.toNat = (4, b.toNat % 8) := by unfold hdR; rw [if_pos (by omega)]
    simp only [e1]
    by_cases h5 : b.toNat < 248
    · have e2 : hd b.toNat = (4, b.toNat % 8) := by unfold hd; rw [if_neg h1, if_neg (by omega), if_neg (by omega), if_pos (by omega)]
      simp only [e2]
      rcases t with _ | ⟨c, _ | ⟨d, _ | ⟨e, t⟩⟩⟩
      · simp
      · simp
      · simp
      rw [if_neg (by simp), if_neg (show ¬ ((4 : Nat) = 0 ∨ (c :: d :: e :: t).length + 1 < 4) by simp)]
      have hk := enc_four b c d e _ (by omega) rfl
      simp only [contR, cont, List.take_succ_cons, List.take_zero, hk, show 4 - 1 = 0 + 1 + 1 + 1 from rfl]
      by_cases hc : c.toNat / 64 = 2
      · by_cases hd : d.toNat / 64 = 2
        · by_cases he : e.toNat / 64 = 2
          · simp [hc, hd, he, h5]
          · simp [hc, hd, he]
        · simp [hc, hd]
      · simp [hc]
    · have e2 : hd b.toNat = (0, 0) := by unfold hd; rw [if_neg h1, if_neg (by omega), if_neg (by omega), if_neg (by omega)]
      simp only [e2]
      rw [if_pos (show True ∨ t.length + 1 < 0 from .inl trivial)]
      rcases t with _ | ⟨c, _ | ⟨d, _ | ⟨e, t⟩⟩⟩
      · simp
      · simp
      · simp
      have hk := enc_four b c d e _ (by omega) rfl
      simp only [contR, List.take_succ_cons, List.take_zero, hk, show 4 - 1 = 0 + 1 + 1 + 1 from rfl]
      simp [h5]

/-! What dec gives. -/
theorem cont_len : ∀ (n r : Nat) (l : List UInt8) (x : Nat), cont n r l = some x → n ≤ l.length
  | 0, _, _, _, _ => Nat.zero_le _
  | n + 1, r, [], x, h => by simp [cont] at h
  | n + 1, r, b :: t, x, h => by
    unfold cont at h
    split at h
    · have := cont_len n _ t x h
      simp; omega
    · cases h
theorem dec_cases (l : List UInt8) : dec l = (0, 0) ∨ ∃ r n, dec l = (r, n) ∧ scal r = true ∧ wid r = n ∧ 1 ≤ n ∧ n ≤ 4 ∧ n ≤ l.length ∧ enc r = l.take n := by
  rw [← decR_eq]
  rcases l with _ | ⟨b, t⟩
  · exact .inl rfl
  simp only [decR]
  generalize hr : contR ((hdR b.toNat).1 - 1) (hdR b.toNat).2 t = r
  have hn : 1 ≤ (hdR b.toNat).1 ∧ (hdR b.toNat).1 ≤ 4 := by
    unfold hdR
    repeat' split
    all_goals simp
  generalize (hdR b.toNat).1 = n at *
  by_cases h1 : t.length + 1 < n
  · rw [if_pos h1]; exact .inl rfl
  rw [if_neg h1]
  by_cases h2 : scal r = true ∧ enc r = (b :: t).take n
  · rw [if_pos h2]
    refine .inr ⟨_, _, rfl, h2.1, ?_, hn.1, hn.2, by simp; omega, h2.2⟩
    have := congrArg List.length h2.2
    rw [enc_len, List.length_take] at this
    rw [this, List.length_cons]
    omega
  · rw [if_neg h2]; exact .inl rfl
theorem dec_le (l : List UInt8) : (dec l).2 ≤ l.length := by
  rcases dec_cases l with h | ⟨r, n, h, _, _, _, _, hn, _⟩ <;> rw [h]
  · exact Nat.zero_le _
  · exact hn
theorem dec_scal (l : List UInt8) : scal (dec l).1 = true := by
  rcases dec_cases l with h | ⟨r, n, h, hs, _⟩ <;> rw [h]
  · decide
  · exact hs
theorem dec_zero (l : List UInt8) (h : (dec l).2 = 0) : dec l = (0, 0) := by
  rcases dec_cases l with h' | ⟨r, n, h', _, _, hn, _⟩
  · exact h'
  · rw [h'] at h; simp at h; omega

/-- The tail of the boundaries, from an offset on (with fuel), and the place of the first byte at which no character begins. -/
def bt : Nat → Nat → List UInt8 → List Nat
  | 0, _, _ => []
  | f + 1, off, l => if (dec l).2 = 0 then [] else (off + (dec l).2) :: bt f (off + (dec l).2) (l.drop (dec l).2)
def bad : Nat → List UInt8 → Nat
  | 0, _ => 0
  | f + 1, l => if (dec l).2 = 0 then 0 else (dec l).2 + bad f (l.drop (dec l).2)
theorem dec_nil : dec [] = (0, 0) := rfl
theorem bt_fuel : ∀ (f g off : Nat) (l : List UInt8), l.length ≤ f → l.length ≤ g → bt f off l = bt g off l
  | 0, 0, _, _, _, _ => rfl
  | 0, g + 1, off, l, h, _ => by
    have : l = [] := List.eq_nil_of_length_eq_zero (by omega)
    subst this
    simp [bt, dec_nil]
  | f + 1, 0, off, l, _, h => by
    have : l = [] := List.eq_nil_of_length_eq_zero (by omega)
    subst this
    simp [bt, dec_nil]
  | f + 1, g + 1, off, l, h1, h2 => by
    unfold bt
    by_cases h : (dec l).2 = 0
    · rw [if_pos h, if_pos h]
    · rw [if_neg h, if_neg h]
      congr 1
      refine bt_fuel f g _ _ ?_ ?_ <;> (rw [List.length_drop]; omega)
theorem bad_fuel : ∀ (f g : Nat) (l : List UInt8), l.length ≤ f → l.length ≤ g → bad f l = bad g l
  | 0, 0, _, _, _ => rfl
  | 0, g + 1, l, h, _ => by
    have : l = [] := List.eq_nil_of_length_eq_zero (by omega)
    subst this
    simp [bad, dec_nil]
  | f + 1, 0, l, _, h => by
    have : l = [] := List.eq_nil_of_length_eq_zero (by omega)
    subst this
    simp [bad, dec_nil]
  | f + 1, g + 1, l, h1, h2 => by
    unfold bad
    by_cases h : (dec l).2 = 0
    · rw [if_pos h, if_pos h]
    · rw [if_neg h, if_neg h]
      congr 1
      refine bad_fuel f g _ ?_ ?_ <;> (rw [List.length_drop]; omega)
/-- The place of the first byte at which no character begins, and whether there is none. -/
def badL (l : List UInt8) : Nat := bad l.length l
def btL (off : Nat) (l : List UInt8) : List Nat := bt l.length off l
def validL (l : List UInt8) : Bool := decide (badL l = l.length)
theorem badL_eq (l : List UInt8) : badL l = if (dec l).2 = 0 then 0 else (dec l).2 + badL (l.drop (dec l).2) := by
  by_cases h : (dec l).2 = 0
  · rw [if_pos h]
    unfold badL
    rcases hl : l.length with _ | n
    · rfl
    · unfold bad; rw [if_pos h]
  · rw [if_neg h]
    have hle := dec_le l
    unfold badL
    rw [show l.length = (l.length - 1) + 1 by omega]
    rw [bad, if_neg h]
    congr 1
    refine bad_fuel _ _ _ ?_ (Nat.le_refl _)
    rw [List.length_drop]; omega
theorem btL_eq (off : Nat) (l : List UInt8) : btL off l = if (dec l).2 = 0 then [] else (off + (dec l).2) :: btL (off + (dec l).2) (l.drop (dec l).2) := by
  by_cases h : (dec l).2 = 0
  · rw [if_pos h]
    unfold btL
    rcases hl : l.length with _ | n
    · rfl
    · unfold bt; rw [if_pos h]
  · rw [if_neg h]
    have hle := dec_le l
    unfold btL
    rw [show l.length = (l.length - 1) + 1 by omega]
    rw [bt, if_neg h]
    congr 1
    refine bt_fuel _ _ _ _ ?_ (Nat.le_refl _)
    rw [List.length_drop]; omega
theorem bad_le : ∀ (f : Nat) (l : List UInt8), bad f l ≤ l.length
  | 0, _ => Nat.zero_le _
  | f + 1, l => by
    unfold bad
    have h1 := dec_le l
    have h2 := bad_le f (l.drop (dec l).2)
    rw [List.length_drop] at h2
    split <;> omega
theorem bt_last : ∀ (f off : Nat) (l : List UInt8), (off :: bt f off l).getLast (by simp) = off + bad f l
  | 0, off, l => by simp [bt, bad]
  | f + 1, off, l => by
    by_cases h : (dec l).2 = 0
    · simp [bt, bad, h]
    · have ih := bt_last f (off + (dec l).2) (l.drop (dec l).2)
      simp only [bt, bad, if_neg h]
      rw [List.getLast_cons (by simp), ih]
      omega
theorem bt_len : ∀ (f off : Nat) (l : List UInt8), (bt f off l).length ≤ l.length
  | 0, off, l => by simp [bt]
  | f + 1, off, l => by
    by_cases h : (dec l).2 = 0
    · simp [bt, h]
    · have ih := bt_len f (off + (dec l).2) (l.drop (dec l).2)
      have h1 := dec_le l
      rw [List.length_drop] at ih
      simp only [bt, if_neg h, List.length_cons]
      omega
end Go.Proofs.YtemiihkmpojpgaaGreatDoor

namespace Go.Proofs.YtemiihkmpojpgaaGreatDoor
open Go.RowKit

/-- Without the zeros ahead. -/
def zl : List UInt8 → List UInt8
  | [] => []
  | b :: t => if b.toNat = 48 then zl t else b :: t
/-- The zeros behind. -/
def tz : List UInt8 → Nat
  | [] => 0
  | b :: t => if b.toNat = 48 ∧ tz t = t.length then tz t + 1 else tz t
theorem zl_le : ∀ l : List UInt8, (zl l).length ≤ l.length
  | [] => Nat.le_refl _
  | b :: t => by
    have := zl_le t
    unfold zl
    split <;> simp <;> omega
theorem tz_le : ∀ l : List UInt8, tz l ≤ l.length
  | [] => Nat.le_refl _
  | b :: t => by
    have := tz_le t
    unfold tz
    split <;> simp <;> omega
theorem zl_all : ∀ l : List UInt8, (∀ b ∈ l, dig b = true) → ∀ b ∈ zl l, dig b = true
  | [], _, b, hb => by cases hb
  | c :: t, h, b, hb => by
    unfold zl at hb
    split at hb
    · exact zl_all t (fun x hx => h x (List.mem_cons_of_mem _ hx)) b hb
    · exact h b hb
theorem tz_snoc : ∀ (l : List UInt8) (b : UInt8), tz (l ++ [b]) = if b.toNat = 48 then tz l + 1 else 0
  | [], b => by
    by_cases h : b.toNat = 48
    · simp [tz, h]
    · simp [tz, h]
  | c :: t, b => by
    have ih := tz_snoc t b
    have := tz_le t
    rw [List.cons_append, tz, ih]
    by_cases h : b.toNat = 48
    · simp only [if_pos h, List.length_append, List.length_cons, List.length_nil]
      by_cases h2 : c.toNat = 48 ∧ tz t = t.length
      · rw [if_pos ⟨h2.1, by omega⟩, tz, if_pos h2]
      · rw [if_neg (fun h3 => h2 ⟨h3.1, by omega⟩), tz, if_neg h2]
    · simp only [if_neg h, List.length_append, List.length_cons, List.length_nil]
      rw [if_neg (by rintro ⟨_, h3⟩; omega)]
end Go.Proofs.YtemiihkmpojpgaaGreatDoor

namespace Go.Proofs.YtemiihkmpojpgaaGreatDoor
open Go.RowKit
set_option maxHeartbeats 1000000
set_option maxRecDepth 100000

/-! A character is read from its own bytes alone. -/
theorem cont_congr : ∀ (n r : Nat) (l m : List UInt8), l.take n = m.take n → n ≤ l.length → n ≤ m.length → cont n r l = cont n r m
  | 0, _, _, _, _, _, _ => rfl
  | n + 1, _, [], _, _, h, _ => by simp at h
  | n + 1, _, _ :: _, [], _, _, h => by simp at h
  | n + 1, r, b :: t, c :: u, h, h1, h2 => by
    simp only [List.take_succ_cons, List.cons.injEq] at h
    obtain ⟨rfl, h⟩ := h
    unfold cont
    rw [cont_congr n _ t u h (by simpa using h1) (by simpa using h2)]
theorem dec_hd (b : UInt8) (t : List UInt8) (h : (dec (b :: t)).2 ≠ 0) : (dec (b :: t)).2 = (hd b.toNat).1 := by
  simp only [dec] at h ⊢
  split at h
  · exact absurd rfl h
  rename_i hc
  rw [if_neg hc]
  split
  · rename_i he; rw [he] at h; exact absurd rfl h
  · rename_i r he
    rw [he] at h
    simp only [] at h ⊢
    split at h
    · rename_i hs; rw [if_pos hs]
    · exact absurd rfl h
theorem dec_congr (l m : List UInt8) (h : (dec l).2 ≠ 0) (ht : l.take (dec l).2 = m.take (dec l).2) : dec m = dec l := by
  have hle := dec_le l
  rcases l with _ | ⟨b, t⟩
  · exact absurd rfl h
  have hml : (dec (b :: t)).2 ≤ m.length := by
    have := congrArg List.length ht
    rw [List.length_take, List.length_take] at this
    omega
  rcases m with _ | ⟨c, u⟩
  · simp at hml; exact absurd hml h
  have hh := dec_hd b t h
  generalize (dec (b :: t)).2 = n at *
  obtain ⟨k, rfl⟩ : ∃ k, n = k + 1 := ⟨n - 1, by omega⟩
  simp only [List.take_succ_cons, List.cons.injEq] at ht
  obtain ⟨rfl, ht⟩ := ht
  simp only [List.length_cons] at hle hml
  simp only [dec]
  rw [← hh, if_neg (by omega), if_neg (by omega), Nat.add_sub_cancel, cont_congr k _ u t ht.symm (by omega) (by omega)]
theorem dec_app (l t : List UInt8) (h : (dec l).2 ≠ 0) : dec (l ++ t) = dec l :=
  dec_congr l (l ++ t) h (by rw [List.take_append_of_le_length (dec_le l)])
theorem dec_ascii (b : UInt8) (t : List UInt8) (h : b.toNat < 128) : dec (b :: t) = (b.toNat, 1) := by
  have hd1 : hd b.toNat = (1, b.toNat) := by unfold hd; rw [if_pos h]
  simp only [dec]
  rw [hd1, if_neg (by simp)]
  simp only [Nat.sub_self, cont]
  rw [if_pos ⟨by simp [scal]; omega, by unfold wid; rw [if_pos h]⟩]

/-! Valid lists. -/
theorem valid_cons (l : List UInt8) (h : badL l = l.length) : l = [] ∨ ((dec l).2 ≠ 0 ∧ badL (l.drop (dec l).2) = (l.drop (dec l).2).length) := by
  rcases l with _ | ⟨b, t⟩
  · exact .inl rfl
  right
  rw [badL_eq] at h
  by_cases h0 : (dec (b :: t)).2 = 0
  · rw [if_pos h0] at h; simp at h
  · rw [if_neg h0] at h
    have := dec_le (b :: t)
    rw [List.length_drop]
    exact ⟨h0, by omega⟩
theorem valid_step (l : List UInt8) (h0 : (dec l).2 ≠ 0) (h : badL (l.drop (dec l).2) = (l.drop (dec l).2).length) : badL l = l.length := by
  have := dec_le l
  rw [badL_eq, if_neg h0, h, List.length_drop]
  omega
theorem valid_ascii (b : UInt8) (t : List UInt8) (hb : b.toNat < 128) (h : badL t = t.length) : badL (b :: t) = (b :: t).length := by
  have hd := dec_ascii b t hb
  exact valid_step (b :: t) (by rw [hd]; simp) (by rw [hd]; exact h)

/-- The bytes of a character of many bytes. -/
theorem high_bytes (l : List UInt8) (h0 : (dec l).2 ≠ 0) (h1 : (dec l).2 ≠ 1) : ∀ c ∈ l.take (dec l).2, 128 ≤ c.toNat := by
  rcases dec_cases l with h | ⟨r, n, h, hs, hw, _, _, _, he⟩
  · rw [h] at h0; exact absurd rfl h0
  rw [h] at h1 ⊢
  simp only [] at h1 ⊢
  rw [← he]
  have hr : r < 2097152 := by simp [scal] at hs; omega
  unfold wid at hw
  unfold enc
  intro c hc
  by_cases c1 : r < 128
  · rw [if_pos c1] at hw; omega
  rw [if_neg c1] at hc
  by_cases c2 : r < 2048
  · rw [if_pos c2] at hc
    simp only [List.mem_cons, List.not_mem_nil, or_false] at hc
    rcases hc with rfl | rfl <;> simp <;> omega
  rw [if_neg c2] at hc
  by_cases c3 : r < 65536
  · rw [if_pos c3] at hc
    simp only [List.mem_cons, List.not_mem_nil, or_false] at hc
    rcases hc with rfl | rfl | rfl <;> simp <;> omega
  · rw [if_neg c3] at hc
    simp only [List.mem_cons, List.not_mem_nil, or_false] at hc
    rcases hc with rfl | rfl | rfl | rfl <;> simp <;> omega
theorem dec_one (b : UInt8) (t : List UInt8) (h : (dec (b :: t)).2 = 1) : b.toNat < 128 := by
  rcases dec_cases (b :: t) with h' | ⟨r, n, h', _, hw, _, _, _, he⟩
  · rw [h'] at h; cases h
  rw [h'] at h
  simp only [] at h
  subst h
  rw [List.take_succ_cons, List.take_zero] at he
  have hr : r < 128 := by
    unfold wid at hw
    by_cases c1 : r < 128
    · exact c1
    · rw [if_neg c1] at hw
      repeat' split at hw
      all_goals omega
  unfold enc at he
  rw [if_pos hr, List.cons.injEq] at he
  rw [← he.1]
  simp
  omega

theorem enc_small (b : UInt8) (h : b.toNat < 128) : enc b.toNat = [b] := by
  unfold enc
  rw [if_pos h, UInt8.ofNat_toNat]
end Go.Proofs.YtemiihkmpojpgaaGreatDoor

namespace Go.Proofs.YtemiihkmpojpgaaGreatDoor
open Go.RowKit
set_option maxRecDepth 100000

section
variable {P : Program} {ops : Array Oper} {Q Q' : Exit → Act → World → Prop} {a : Act} {w : World}
theorem oper_mono {o : Oper} {K K' : Act → World → Prop} (hK : ∀ a w, K a w → K' a w) (hQ : ∀ e a w, e ≠ .normal → Q e a w → Q' e a w) (h : o.wp P a w K Q) : o.wp P a w K' Q' := by
  unfold Oper.wp at *
  generalize (execOp a.eval o).run P w = r at *
  have hout : LetsOut Q → LetsOut Q' := fun ⟨a, w, h⟩ => ⟨a, w, hQ _ a w (by intro h; cases h) h⟩
  cases r with
  | ok n w' =>
    cases n <;> simp only [Oper.upon] at h ⊢
    case value v => exact hK _ _ h
    case skip => exact hK _ _ h
    case defer d => exact hK _ _ h
    case enter f args =>
      refine h.mono fun e w'' hh => ?_
      cases e with
      | returned v => exact hK _ _ hh
      | panicked chain => exact hQ _ _ _ (by intro h; cases h) hh
      | outgrown => exact hout hh
    case row row args =>
      exact h.mono fun v w'' hh => hK _ _ hh
  | halt x w' =>
    cases x <;> simp only [Oper.upon] at h ⊢
    exact hQ _ _ _ (by intro h; cases h) h
theorem then_ne {f : Act → World → Prop} : ∀ e a w, e ≠ .normal → Exit.then f Q e a w → Q e a w := fun e a w he h => by
  cases e <;> first | exact h | exact absurd rfl he
theorem wpList_append {l2 : List Oper} : ∀ (l1 : List Oper) (a : Act) (w : World), wpList P ops (Exit.then (wpList P ops Q l2) Q) l1 a w → wpList P ops Q (l1 ++ l2) a w
  | [], a, w, h => h
  | o :: rest, a, w, h => by
    rw [List.cons_append]
    unfold wpList at h ⊢
    split
    · rename_i hw
      rw [if_pos hw] at h
      rcases h with h | ⟨h1, h2⟩
      · exact .inl (oper_mono (fun a w h => wpList_append rest a w h) then_ne h)
      · obtain ⟨a', w', h3⟩ := h2
        exact .inr ⟨h1, a', w', h3⟩
    · rename_i hw
      rw [if_neg hw] at h
      exact wpList_append rest _ _ h
/-- The first n operations; then the others, of whatever stands between. -/
theorem list_cut {l : List Oper} (n : Nat) (R : Act → World → Prop) (h1 : wpList P ops (Exit.then R Q) (l.take n) a w) (h2 : ∀ a w, R a w → wpList P ops Q (l.drop n) a w) : wpList P ops Q l a w := by
  rw [← List.take_append_drop n l]
  refine wpList_append _ _ _ ?_
  have key : ∀ (l1 : List Oper) (a : Act) (w : World), wpList P ops (Exit.then R Q) l1 a w → wpList P ops (Exit.then (wpList P ops Q (l.drop n)) Q) l1 a w := by
    intro l1
    induction l1 with
    | nil => intro a w h; exact h2 _ _ h
    | cons o rest ih =>
      intro a w h
      unfold wpList at h ⊢
      split
      · rename_i hw
        rw [if_pos hw] at h
        rcases h with h | ⟨h1, h3⟩
        · refine .inl (oper_mono ih (fun e a w he h => ?_) h)
          cases e <;> first | exact h | exact absurd rfl he
        · obtain ⟨a', w', h4⟩ := h3
          exact .inr ⟨h1, a', w', h4⟩
      · rename_i hw
        rw [if_neg hw] at h
        exact ih _ _ h
  exact key _ _ _ h1
theorem region_cut {id : Nat} {l : List Oper} (n : Nat) (R : Act → World → Prop) (h1 : wpList P l.toArray (Exit.then R Q) (l.take n) a w) (h2 : ∀ a w, R a w → wpList P l.toArray Q (l.drop n) a w) : (Code.region id l.toArray false).wp P Q a w :=
  wp_region_lit (list_cut n R h1 h2)
end
/-! A region of more than 64 operations is laid as two lists, one behind the other; written out, the walk's looks see it. -/
theorem la_cons {α : Type} (x : α) (l m : List α) : List.append (x :: l) m = x :: List.append l m := rfl
theorem la_nil {α : Type} (m : List α) : List.append [] m = m := rfl
/-- An operation whose guard says no. -/
theorem wpl_skip {P : Program} {ops : Array Oper} {rest : List Oper} {o : Oper} {a : Act} {w : World} {Q : Exit → Act → World → Prop} (hw : Region.wanted o (yielded ops a.tmps) = false) (h : wpList P ops Q rest (a.put o.dst undef) w) : wpList P ops Q (o :: rest) a w :=
  wpList_step fun K hK => by rw [if_neg (by rw [hw]; exact Bool.false_ne_true)]; exact hK _ _ h
/-- What is said between two pieces, shut to the walk's own simplifier. -/
def Mid (p : Act → World → Prop) (a : Act) (w : World) : Prop := p a w
theorem Mid.out {p : Act → World → Prop} {a : Act} {w : World} (h : Mid p a w) : p a w := h
theorem Mid.mk {p : Act → World → Prop} {a : Act} {w : World} (h : p a w) : Mid p a w := h
theorem alloc_is {w w1 : World} {X : Obj} (hW : w.alloc X = w1) : w1.heap[w.heap.size]? = some X ∧ (∀ b, b < w.heap.size → w1.heap[b]? = w.heap[b]?) ∧ w1.heap.size = w.heap.size + 1 ∧ Below w.heap.size w w1 := by
  subst hW
  exact ⟨heap_alloc_new w _, fun b hb => heap_alloc_old w _ hb, by simp, (Below.refl _ _).alloc (Nat.le_refl _) _⟩
end Go.Proofs.YtemiihkmpojpgaaGreatDoor
