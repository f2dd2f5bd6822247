/- The reference's way to decode a character, and that it is the same: plain, no program in sight. Conditions: none. -/
import Derived.Test.YtpkecepelcppiaaGreatDoorRows
import Derived.WalkKit
import Derived.Lib.Hide
namespace Go.Proofs.YtpkecepelcppiaaGreatDoor
open Go.RowKit

def L (s : ByteArray) : List UInt8 := s.data.toList
theorem L_len (s : ByteArray) : (L s).length = s.size := by
 unfold L
 rw [Array.length_toList, ByteArray.size_data]
theorem L_get (s : ByteArray) (k : Nat) (h : k < s.size) : (L s)[k]'(by rw [L_len]; exact h) = s[k] := rfl
theorem L_drop (s : ByteArray) (k : Nat) (h : k < s.size) : (L s).drop k = s[k] :: (L s).drop (k + 1) := by
 rw [List.drop_eq_getElem_cons (by rw [L_len]; exact h), L_get]
theorem L_drop_nil (s : ByteArray) (k : Nat) (h : s.size ≤ k) : (L s).drop k = [] :=
 List.drop_eq_nil_of_le (by rw [L_len]; exact h)
theorem L_mk (l : List UInt8) : L ⟨l.toArray⟩ = l := rfl
theorem L_extract (s : ByteArray) (a b : Nat) : L (s.extract a b) = ((L s).drop a).take (b - a) := by
 unfold L
 rw [ByteArray.data_extract, Array.toList_extract, List.extract_eq_take_drop]
theorem L_from (s : ByteArray) (a : Nat) : L (s.extract a s.size) = (L s).drop a := by
 rw [L_extract]
 exact List.take_of_length_le (by rw [List.length_drop, L_len]; omega)
theorem L_upto (s : ByteArray) (b : Nat) : L (s.extract 0 b) = (L s).take b := by
 rw [L_extract]; rfl
theorem L_append (s t : ByteArray) : L (s ++ t) = L s ++ L t := by
 unfold L
 rw [ByteArray.data_append, Array.toList_append]
theorem toList_L (s : ByteArray) : s.toList = L s := ByteArray.toList_eq s
theorem beq_true {l m : List UInt8} (h : l = m) : (l == m) = true := by rw [h]; simp
theorem beq_false {l m : List UInt8} (h : ¬ l = m) : (l == m) = false := by simpa using h
/-! Classes of bytes. -/
def dig (b : UInt8) : Bool := decide (48 ≤ b.toNat ∧ b.toNat ≤ 57)
def alpha (b : UInt8) : Bool := decide (97 ≤ b.toNat ∧ b.toNat ≤ 122 ∨ 65 ≤ b.toNat ∧ b.toNat ≤ 90)

def runL : List UInt8 → Nat
 | [] => 0
 | b :: t => if dig b then runL t + 1 else 0
theorem runL_le : ∀ l : List UInt8, runL l ≤ l.length
 | [] => Nat.le_refl _
 | b :: t => by
  have := runL_le t
  unfold runL
  split <;> simp <;> omega

/-! UTF-8. -/
def hd (b : Nat) : Nat × Nat :=
 if b < 128 then (1, b) else if 192 ≤ b ∧ b < 224 then (2, b % 32) else if 224 ≤ b ∧ b < 240 then (3, b % 16) else if 240 ≤ b ∧ b < 248 then (4, b % 8) else (0, 0)
def cont : Nat → Nat → List UInt8 → Option Nat
 | 0, r, _ => some r
 | n + 1, r, b :: t => if b.toNat / 64 = 2 then cont n (r * 64 + b.toNat % 64) t else none
 | _ + 1, _, [] => none
def scal (r : Nat) : Bool := decide (r ≤ 1114111 ∧ (r < 55296 ∨ 57343 < r))
def wid (r : Nat) : Nat := if r < 128 then 1 else if r < 2048 then 2 else if r < 65536 then 3 else 4
def dec : List UInt8 → Nat × Nat
 | [] => (0, 0)
 | b :: t =>
  if (hd b.toNat).1 = 0 ∨ t.length + 1 < (hd b.toNat).1 then (0, 0)
  else match cont ((hd b.toNat).1 - 1) (hd b.toNat).2 t with
   | none => (0, 0)
   | some r => if scal r ∧ wid r = (hd b.toNat).1 then (r, (hd b.toNat).1) else (0, 0)
def enc (r : Nat) : List UInt8 :=
 if r < 128 then [UInt8.ofNat r]
 else if r < 2048 then [UInt8.ofNat (192 + r / 64), UInt8.ofNat (128 + r % 64)]
 else if r < 65536 then [UInt8.ofNat (224 + r / 4096), UInt8.ofNat (128 + r / 64 % 64), UInt8.ofNat (128 + r % 64)]
 else [UInt8.ofNat (240 + r / 262144), UInt8.ofNat (128 + r / 4096 % 64), UInt8.ofNat (128 + r / 64 % 64), UInt8.ofNat (128 + r % 64)]
theorem enc_len (r : Nat) : (enc r).length = wid r := by
 unfold enc wid
 repeat' split
 all_goals rfl

/-! Bits. -/
theorem wraps_i64' (n : Int) (h0 : 0 ≤ n) (h1 : n < 2 ^ 63) : IntKind.i64.wrap n = n := by rw [IntKind.wrap_i64]; omega
theorem or_join (i : Nat) (x y : Int) (hx₀ : 0 ≤ x) (hx : x % 2 ^ i = 0) (hx₁ : x < 2 ^ 63) (hy₀ : 0 ≤ y) (hy : y < 2 ^ i) (hy₁ : y < 2 ^ 63) : bits .or .i64 x y = x + y :=
 bits_join .i64 63 (by decide) wraps_i64' i x y hx₀ hx hx₁ hy₀ hy hy₁
theorem or64 (r b : Nat) (hr : r < 100000000) : bits .or .i64 (wrap64 ((r : Int) * 64)) ((b : Int) % 64) = ((r * 64 + b % 64 : Nat) : Int) := by
 rw [IntWalk.wrap64_in _ (by omega), or_join 6 _ _ (by omega) (by omega) (by omega) (by omega) (by omega) (by omega)]
 omega
theorem and63 (r : Nat) (h : r < 2097152) : bits .and .i64 (r : Int) 63 = ((r % 64 : Nat) : Int) := by
 have := bits_mask .i64 63 (by decide) wraps_i64' 6 (by decide) (r : Int) (by omega) (by omega)
 exact this
theorem byte_mid (r : Nat) (h : r < 2097152) : UInt8.ofNat (bits .or .i64 128 (bits .and .i64 (r : Int) 63) % 256).toNat = UInt8.ofNat (128 + r % 64) := by
 rw [and63 r h, or_join 6 _ _ (by omega) (by omega) (by omega) (by omega) (by omega) (by omega)]
 congr 1
 omega
theorem byte_two (x : Nat) (h : x < 32) : UInt8.ofNat (bits .or .i64 192 (x : Int) % 256).toNat = UInt8.ofNat (192 + x) := by
 rw [or_join 6 _ _ (by omega) (by omega) (by omega) (by omega) (by omega) (by omega)]
 congr 1
 omega
theorem byte_three (x : Nat) (h : x < 16) : UInt8.ofNat (bits .or .i64 224 (x : Int) % 256).toNat = UInt8.ofNat (224 + x) := by
 rw [or_join 5 _ _ (by omega) (by omega) (by omega) (by omega) (by omega) (by omega)]
 congr 1
 omega
theorem byte_four (x : Nat) (h : x < 8) : UInt8.ofNat (bits .or .i64 240 (x : Int) % 256).toNat = UInt8.ofNat (240 + x) := by
 rw [or_join 4 _ _ (by omega) (by omega) (by omega) (by omega) (by omega) (by omega)]
 congr 1
 omega
theorem enc1 (r : Nat) (h : r < 128) : [UInt8.ofNat ((r : Int) % 256).toNat] = enc r := by
 unfold enc
 rw [if_pos h]
 congr 2
 omega
theorem enc2 (r : Nat) (h1 : 128 ≤ r) (h : r < 2048) : [UInt8.ofNat (bits .or .i64 192 ((r / 64 : Nat) : Int) % 256).toNat, UInt8.ofNat (bits .or .i64 128 (bits .and .i64 (r : Int) 63) % 256).toNat] = enc r := by
 rw [byte_mid r (by omega), byte_two _ (by omega)]
 unfold enc
 rw [if_neg (by omega), if_pos h]
theorem enc3 (r : Nat) (h1 : 2048 ≤ r) (h : r < 65536) : [UInt8.ofNat (bits .or .i64 224 ((r / 4096 : Nat) : Int) % 256).toNat, UInt8.ofNat (bits .or .i64 128 (bits .and .i64 ((r / 64 : Nat) : Int) 63) % 256).toNat, UInt8.ofNat (bits .or .i64 128 (bits .and .i64 (r : Int) 63) % 256).toNat] = enc r := by
 rw [byte_mid r (by omega), byte_mid (r / 64) (by omega), byte_three _ (by omega)]
 unfold enc
 rw [if_neg (by omega), if_neg (by omega), if_pos h]
theorem enc4 (r : Nat) (h1 : 65536 ≤ r) (h : r < 2097152) : [UInt8.ofNat (bits .or .i64 240 ((r / 262144 : Nat) : Int) % 256).toNat, UInt8.ofNat (bits .or .i64 128 (bits .and .i64 ((r / 4096 : Nat) : Int) 63) % 256).toNat, UInt8.ofNat (bits .or .i64 128 (bits .and .i64 ((r / 64 : Nat) : Int) 63) % 256).toNat, UInt8.ofNat (bits .or .i64 128 (bits .and .i64 (r : Int) 63) % 256).toNat] = enc r := by
 rw [byte_mid r (by omega), byte_mid (r / 64) (by omega), byte_mid (r / 4096) (by omega), byte_four _ (by omega)]
 unfold enc
 rw [if_neg (by omega), if_neg (by omega), if_neg (by omega)]
theorem wid_cases (r : Nat) (h : scal r = true) : (wid r = 1 ∧ r < 128) ∨ (wid r = 2 ∧ 128 ≤ r ∧ r < 2048) ∨ (wid r = 3 ∧ 2048 ≤ r ∧ r < 65536) ∨ (wid r = 4 ∧ 65536 ≤ r ∧ r < 2097152) := by
 simp only [scal, decide_eq_true_eq] at h
 unfold wid
 repeat' split
 all_goals omega
theorem and192 (b : UInt8) : (bits BinOp.and IntKind.u8 (b.toNat : Int) 192 != 128) = !(b.toNat / 64 == 2) := by
 have h : ∀ n : Fin 256, (bits BinOp.and IntKind.u8 ((n.val : Nat) : Int) 192 != 128) = !(n.val / 64 == 2) := by decide +kernel
 exact h ⟨b.toNat, b.toNat_lt⟩
end Go.Proofs.YtpkecepelcppiaaGreatDoor

namespace Go.Proofs.YtpkecepelcppiaaGreatDoor
open Go.RowKit

theorem ofNat_eq {x : Nat} {c : UInt8} (h : x < 256) : UInt8.ofNat x = c ↔ x = c.toNat := by
 constructor
 ·rintro rfl
  simp [UInt8.toNat_ofNat']
  omega
 ·rintro rfl
  simp

def hdR (b : Nat) : Nat × Nat := if 240 ≤ b then (4, b % 8) else if 224 ≤ b then (3, b % 16) else if 192 ≤ b then (2, b % 32) else (1, b)
def contR : Nat → Nat → List UInt8 → Nat
 | 0, r, _ => r
 | n + 1, r, b :: t => contR n (r * 64 + b.toNat % 64) t
 | _ + 1, r, [] => r
def decR : List UInt8 → Nat × Nat
 | [] => (0, 0)
 | b :: t =>
  if t.length + 1 < (hdR b.toNat).1 then (0, 0)
  else if scal (contR ((hdR b.toNat).1 - 1) (hdR b.toNat).2 t) ∧ enc (contR ((hdR b.toNat).1 - 1) (hdR b.toNat).2 t) = (b :: t).take (hdR b.toNat).1 then (contR ((hdR b.toNat).1 - 1) (hdR b.toNat).2 t, (hdR b.toNat).1)
  else (0, 0)

theorem enc_two (b c : UInt8) (r : Nat) (hb : 192 ≤ b.toNat) (hb2 : b.toNat < 224) (hr : r = b.toNat % 32 * 64 + c.toNat % 64) : enc r = [b, c] ↔ c.toNat / 64 = 2 ∧ wid r = 2 := by
 have hc := c.toNat_lt
 have hb3 := b.toNat_lt
 constructor
 ·intro h
  have hl := congrArg List.length h
  rw [enc_len] at hl
  simp only [List.length_cons, List.length_nil] at hl
  refine ⟨?_, hl⟩
  have h2 : 128 ≤ r ∧ r < 2048 := by unfold wid at hl; repeat' split at hl
                                     all_goals omega
  unfold enc at h
  rw [if_neg (by omega), if_pos h2.2] at h
  simp only [List.cons.injEq, and_true] at h
  rw [ofNat_eq (by omega), ofNat_eq (by omega)] at h
  omega
 ·rintro ⟨h1, hl⟩
  have h2 : 128 ≤ r ∧ r < 2048 := by unfold wid at hl; repeat' split at hl
                                     all_goals omega
  unfold enc
  rw [if_neg (by omega), if_pos h2.2]
  simp only [List.cons.injEq, and_true]
  rw [ofNat_eq (by omega), ofNat_eq (by omega)]
  omega
theorem enc_three (b c d : UInt8) (r : Nat) (hb : 224 ≤ b.toNat) (hb2 : b.toNat < 240) (hr : r = (b.toNat % 16 * 64 + c.toNat % 64) * 64 + d.toNat % 64) : enc r = [b, c, d] ↔ (c.toNat / 64 = 2 ∧ d.toNat / 64 = 2) ∧ wid r = 3 := by
 have hc := c.toNat_lt
 have hd := d.toNat_lt
 have hb3 := b.toNat_lt
 constructor
 ·intro h
  have hl := congrArg List.length h
  rw [enc_len] at hl
  simp only [List.length_cons, List.length_nil] at hl
  refine ⟨?_, hl⟩
  have h2 : 2048 ≤ r ∧ r < 65536 := by unfold wid at hl; repeat' split at hl
                                       all_goals omega
  unfold enc at h
  rw [if_neg (by omega), if_neg (by omega), if_pos h2.2] at h
  simp only [List.cons.injEq, and_true] at h
  rw [ofNat_eq (by omega), ofNat_eq (by omega), ofNat_eq (by omega)] at h
  omega
 ·rintro ⟨h1, hl⟩
  have h2 : 2048 ≤ r ∧ r < 65536 := by unfold wid at hl; repeat' split at hl
                                       all_goals omega
  unfold enc
  rw [if_neg (by omega), if_neg (by omega), if_pos h2.2]
  simp only [List.cons.injEq, and_true]
  rw [ofNat_eq (by omega), ofNat_eq (by omega), ofNat_eq (by omega)]
  omega
theorem enc_four (b c d e : UInt8) (r : Nat) (hb : 240 ≤ b.toNat) (hr : r = ((b.toNat % 8 * 64 + c.toNat % 64) * 64 + d.toNat % 64) * 64 + e.toNat % 64) : enc r = [b, c, d, e] ↔ (b.toNat < 248 ∧ c.toNat / 64 = 2 ∧ d.toNat / 64 = 2 ∧ e.toNat / 64 = 2) ∧ wid r = 4 := by
 have hc := c.toNat_lt
 have hd := d.toNat_lt
 have he := e.toNat_lt
 have hb3 := b.toNat_lt
 constructor
 ·intro h
  have hl := congrArg List.length h
  rw [enc_len] at hl
  simp only [List.length_cons, List.length_nil] at hl
  refine ⟨?_, hl⟩
  have h2 : 65536 ≤ r := by unfold wid at hl; repeat' split at hl
                            all_goals omega
  unfold enc at h
  rw [if_neg (by omega), if_neg (by omega), if_neg (by omega)] at h
  simp only [List.cons.injEq, and_true] at h
  rw [ofNat_eq (by omega), ofNat_eq (by omega), ofNat_eq (by omega), ofNat_eq (by omega)] at h
  omega
 ·rintro ⟨h1, hl⟩
  have h2 : 65536 ≤ r := by unfold wid at hl; repeat' split at hl
                            all_goals omega
  unfold enc
  rw [if_neg (by omega), if_neg (by omega), if_neg (by omega)]
  simp only [List.cons.injEq, and_true]
  rw [ofNat_eq (by omega), ofNat_eq (by omega), ofNat_eq (by omega), ofNat_eq (by omega)]
  omega

theorem decR_eq (l : List UInt8) : decR l = dec l := by
 rcases l with _ | ⟨b, t⟩
 ·rfl
 have hb3 := b.toNat_lt
 unfold decR dec
 by_cases h1 : b.toNat < 128
 ·have e1 : hdR b.toNat = (1, b.toNat) := by unfold hdR; simp (disch := omega) only [if_neg]
  have e2 : hd b.toNat = (1, b.toNat) := by unfold hd; simp (disch := omega) only [if_pos]
  have e3 : enc b.toNat = [b] := by unfold enc; rw [if_pos h1]; simp
  have e4 : scal b.toNat = true := by simp [scal]; omega
  have e5 : wid b.toNat = 1 := by unfold wid; rw [if_pos h1]
  simp only [e1, e2]
  simp [contR, cont, e3, e4, e5]
 by_cases h2 : b.toNat < 192
 ·have e1 : hdR b.toNat = (1, b.toNat) := by unfold hdR; simp (disch := omega) only [if_neg]
  have e2 : hd b.toNat = (0, 0) := by unfold hd; rw [if_neg h1, if_neg (by omega), if_neg (by omega), if_neg (by omega)]
  have e3 : (enc b.toNat).length = 2 := by rw [enc_len]; unfold wid; simp (disch := omega) only [if_pos, if_neg]
  simp only [e1, e2]
  rw [if_neg (by omega), if_neg, if_pos (.inl trivial)]
  rintro ⟨_, h⟩
  have := congrArg List.length h
  simp [contR, e3] at this
 by_cases h3 : b.toNat < 224
 ·have e1 : hdR b.toNat = (2, b.toNat % 32) := by unfold hdR; rw [if_neg (by omega), if_neg (by omega), if_pos (by omega)]
  have e2 : hd b.toNat = (2, b.toNat % 32) := by unfold hd; rw [if_neg h1, if_pos (by omega)]
  simp only [e1, e2]
  rcases t with _ | ⟨c, t⟩
  ·simp
  rw [if_neg (by simp), if_neg (show ¬ ((2 : Nat) = 0 ∨ (c :: t).length + 1 < 2) by simp)]
  have hk := enc_two b c _ (by omega) h3 rfl
  simp only [contR, cont, List.take_succ_cons, List.take_zero, hk, show 2 - 1 = 0 + 1 from rfl]
  by_cases hc : c.toNat / 64 = 2
  ·simp [hc]
  ·simp [hc]
 by_cases h4 : b.toNat < 240
 ·have e1 : hdR b.toNat = (3, b.toNat % 16) := by unfold hdR; rw [if_neg (by omega), if_pos (by omega)]
  have e2 : hd b.toNat = (3, b.toNat % 16) := by unfold hd; rw [if_neg h1, if_neg (by omega), if_pos (by omega)]
  simp only [e1, e2]
  rcases t with _ | ⟨c, _ | ⟨d, t⟩⟩
  ·simp
  ·simp
  rw [if_neg (by simp), if_neg (show ¬ ((3 : Nat) = 0 ∨ (c :: d :: t).length + 1 < 3) by simp)]
  have hk := enc_three b c d _ (by omega) h4 rfl
  simp only [contR, cont, List.take_succ_cons, List.take_zero, hk, show 3 - 1 = 0 + 1 + 1 from rfl]
  by_cases hc : c.toNat / 64 = 2
  ·by_cases hd : d.toNat / 64 = 2
   ·simp [hc, hd]
   ·simp [hc, hd]
  ·simp [hc]
 ·have e1 : hdR b.toNat = (4, b.toNat % 8) := by unfold hdR; rw [if_pos (by omega)]
  simp only [e1]
  by_cases h5 : b.toNat < 248
  ·have e2 : hd b.toNat = (4, b.toNat % 8) := by unfold hd; rw [if_neg h1, if_neg (by omega), if_neg (by omega), if_pos (by omega)]
   simp only [e2]
   rcases t with _ | ⟨c, _ | ⟨d, _ | ⟨e, t⟩⟩⟩
   ·simp
   ·simp
   ·simp
   rw [if_neg (by simp), if_neg (show ¬ ((4 : Nat) = 0 ∨ (c :: d :: e :: t).length + 1 < 4) by simp)]
   have hk := enc_four b c d e _ (by omega) rfl
   simp only [contR, cont, List.take_succ_cons, List.take_zero, hk, show 4 - 1 = 0 + 1 + 1 + 1 from rfl]
   by_cases hc : c.toNat / 64 = 2
   ·by_cases hd : d.toNat / 64 = 2
    ·by_cases he : e.toNat / 64 = 2
     ·simp [hc, hd, he, h5]
     ·simp [hc, hd, he]
    ·simp [hc, hd]
   ·simp [hc]
  ·have e2 : hd b.toNat = (0, 0) := by unfold hd; rw [if_neg h1, if_neg (by omega), if_neg (by omega), if_neg (by omega)]
   simp only [e2]
   rw [if_pos (show True ∨ t.length + 1 < 0 from .inl trivial)]
   rcases t with _ | ⟨c, _ | ⟨d, _ | ⟨e, t⟩⟩⟩
   ·simp
   ·simp
   ·simp
   have hk := enc_four b c d e _ (by omega) rfl
   simp only [contR, List.take_succ_cons, List.take_zero, hk, show 4 - 1 = 0 + 1 + 1 + 1 from rfl]
   simp [h5]

/-! What dec gives. -/
theorem dec_cases (l : List UInt8) : dec l = (0, 0) ∨ ∃ r n, dec l = (r, n) ∧ scal r = true ∧ wid r = n ∧ 1 ≤ n ∧ n ≤ 4 ∧ n ≤ l.length ∧ enc r = l.take n := by
 rw [← decR_eq]
 rcases l with _ | ⟨b, t⟩
 ·exact .inl rfl
 simp only [decR]
 generalize hr : contR ((hdR b.toNat).1 - 1) (hdR b.toNat).2 t = r
 have hn : 1 ≤ (hdR b.toNat).1 ∧ (hdR b.toNat).1 ≤ 4 := by
  unfold hdR
  repeat' split
  all_goals simp
 generalize (hdR b.toNat).1 = n at *
 by_cases h1 : t.length + 1 < n
 ·rw [if_pos h1]; exact .inl rfl
 rw [if_neg h1]
 by_cases h2 : scal r = true ∧ enc r = (b :: t).take n
 ·rw [if_pos h2]
  refine .inr ⟨_, _, rfl, h2.1, ?_, hn.1, hn.2, by simp; omega, h2.2⟩
  have := congrArg List.length h2.2
  rw [enc_len, List.length_take] at this
  rw [this, List.length_cons]
  omega
 ·rw [if_neg h2]; exact .inl rfl
theorem dec_le (l : List UInt8) : (dec l).2 ≤ l.length := by
 rcases dec_cases l with h | ⟨r, n, h, _, _, _, _, hn, _⟩ <;> rw [h]
 ·exact Nat.zero_le _
 ·exact hn
def bt : Nat → Nat → List UInt8 → List Nat
 | 0, _, _ => []
 | f + 1, off, l => if (dec l).2 = 0 then [] else (off + (dec l).2) :: bt f (off + (dec l).2) (l.drop (dec l).2)
def bad : Nat → List UInt8 → Nat
 | 0, _ => 0
 | f + 1, l => if (dec l).2 = 0 then 0 else (dec l).2 + bad f (l.drop (dec l).2)
end Go.Proofs.YtpkecepelcppiaaGreatDoor
