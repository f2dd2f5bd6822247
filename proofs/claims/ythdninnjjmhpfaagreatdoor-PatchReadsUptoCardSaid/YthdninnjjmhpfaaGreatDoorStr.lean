/- Plain words on byte strings and UTF-8: no program in sight. Conditions: none. -/
import Derived.Test.YthdninnjjmhpfaaGreatDoorRows
import Derived.WalkKit
import Derived.Lib.Hide
namespace Go.Proofs.YthdninnjjmhpfaaGreatDoor
open Go.RowKit

/-- The bytes of a string. -/
def L (s : ByteArray) : List UInt8 := s.data.toList
theorem L_len (s : ByteArray) : (L s).length = s.size := by
  unfold L
  rw [Array.length_toList, ByteArray.size_data]
theorem L_get (s : ByteArray) (k : Nat) (h : k < s.size) : (L s)[k]'(by rw [L_len]; exact h) = s[k] := rfl
theorem L_drop (s : ByteArray) (k : Nat) (h : k < s.size) : (L s).drop k = s[k] :: (L s).drop (k + 1) := by
  rw [List.drop_eq_getElem_cons (by rw [L_len]; exact h), L_get]
theorem L_drop_nil (s : ByteArray) (k : Nat) (h : s.size ≤ k) : (L s).drop k = [] :=
  List.drop_eq_nil_of_le (by rw [L_len]; exact h)
theorem L_mk (l : List UInt8) : L ⟨l.toArray⟩ = l := rfl
theorem mk_L (s : ByteArray) : (⟨(L s).toArray⟩ : ByteArray) = s := rfl
theorem L_inj {s t : ByteArray} (h : L s = L t) : s = t := by
  rw [← mk_L s, ← mk_L t, h]
theorem L_extract (s : ByteArray) (a b : Nat) : L (s.extract a b) = ((L s).drop a).take (b - a) := by
  unfold L
  rw [ByteArray.data_extract, Array.toList_extract, List.extract_eq_take_drop]
theorem L_from (s : ByteArray) (a : Nat) : L (s.extract a s.size) = (L s).drop a := by
  rw [L_extract]
  exact List.take_of_length_le (by rw [List.length_drop, L_len]; omega)
theorem L_upto (s : ByteArray) (b : Nat) : L (s.extract 0 b) = (L s).take b := by
  rw [L_extract]; rfl
theorem L_append (s t : ByteArray) : L (s ++ t) = L s ++ L t := by
  unfold L
  rw [ByteArray.data_append, Array.toList_append]
theorem toList_L (s : ByteArray) : s.toList = L s := ByteArray.toList_eq s
theorem toList_ext (s : ByteArray) (a n : Nat) : (s.extract a (a + n)).toList = ((L s).drop a).take n := by
  rw [toList_L, L_extract, Nat.add_sub_cancel_left]
theorem beq_true {l m : List UInt8} (h : l = m) : (l == m) = true := by rw [h]; simp
theorem beq_false {l m : List UInt8} (h : ¬ l = m) : (l == m) = false := by simpa using h
theorem L_take_succ (s : ByteArray) (k : Nat) (h : k < s.size) : (L s).take (k + 1) = (L s).take k ++ [s[k]] := by
  rw [List.take_succ_eq_append_getElem (by rw [L_len]; exact h), L_get]

/-! Classes of bytes. -/
def dig (b : UInt8) : Bool := decide (48 ≤ b.toNat ∧ b.toNat ≤ 57)
def alpha (b : UInt8) : Bool := decide (97 ≤ b.toNat ∧ b.toNat ≤ 122 ∨ 65 ≤ b.toNat ∧ b.toNat ≤ 90)

/-- The digits that a list begins with. -/
def runL : List UInt8 → Nat
  | [] => 0
  | b :: t => if dig b then runL t + 1 else 0
theorem runL_le : ∀ l : List UInt8, runL l ≤ l.length
  | [] => Nat.le_refl _
  | b :: t => by
    have := runL_le t
    unfold runL
    split <;> simp <;> omega

/-! UTF-8. -/
def hd (b : Nat) : Nat × Nat :=
  if b < 128 then (1, b) else if 192 ≤ b ∧ b < 224 then (2, b % 32) else if 224 ≤ b ∧ b < 240 then (3, b % 16) else if 240 ≤ b ∧ b < 248 then (4, b % 8) else (0, 0)
def cont : Nat → Nat → List UInt8 → Option Nat
  | 0, r, _ => some r
  | n + 1, r, b :: t => if b.toNat / 64 = 2 then cont n (r * 64 + b.toNat % 64) t else none
  | _ + 1, _, [] => none
def scal (r : Nat) : Bool := decide (r ≤ 1114111 ∧ (r < 55296 ∨ 57343 < r))
def wid (r : Nat) : Nat := if r < 128 then 1 else if r < 2048 then 2 else if r < 65536 then 3 else 4
/-- The character that a list begins with, and the number of its bytes. -/
def dec : List UInt8 → Nat × Nat
  | [] => (0, 0)
  | b :: t =>
    if (hd b.toNat).1 = 0 ∨ t.length + 1 < (hd b.toNat).1 then (0, 0)
    else match cont ((hd b.toNat).1 - 1) (hd b.toNat).2 t with
      | none => (0, 0)
      | some r => if scal r ∧ wid r = (hd b.toNat).1 then (r, (hd b.toNat).1) else (0, 0)
/-- The bytes of a character. -/
def enc (r : Nat) : List UInt8 :=
  if r < 128 then [UInt8.ofNat r]
  else if r < 2048 then [UInt8.ofNat (192 + r / 64), UInt8.ofNat (128 + r % 64)]
  else if r < 65536 then [UInt8.ofNat (224 + r / 4096), UInt8.ofNat (128 + r / 64 % 64), UInt8.ofNat (128 + r % 64)]
  else [UInt8.ofNat (240 + r / 262144), UInt8.ofNat (128 + r / 4096 % 64), UInt8.ofNat (128 + r / 64 % 64), UInt8.ofNat (128 + r % 64)]
theorem enc_len (r : Nat) : (enc r).length = wid r := by
  unfold enc wid
  repeat' split
  all_goals rfl

/-! Bits. -/
theorem wraps_i64' (n : Int) (h0 : 0 ≤ n) (h1 : n < 2 ^ 63) : IntKind.i64.wrap n = n := by rw [IntKind.wrap_i64]; omega
theorem or_join (i : Nat) (x y : Int) (hx₀ : 0 ≤ x) (hx : x % 2 ^ i = 0) (hx₁ : x < 2 ^ 63) (hy₀ : 0 ≤ y) (hy : y < 2 ^ i) (hy₁ : y < 2 ^ 63) : bits .or .i64 x y = x + y :=
  bits_join .i64 63 (by decide) wraps_i64' i x y hx₀ hx hx₁ hy₀ hy hy₁
theorem or64 (r b : Nat) (hr : r < 100000000) : bits .or .i64 (wrap64 ((r : Int) * 64)) ((b : Int) % 64) = ((r * 64 + b % 64 : Nat) : Int) := by
  rw [IntWalk.wrap64_in _ (by omega), or_join 6 _ _ (by omega) (by omega) (by omega) (by omega) (by omega) (by omega)]
  omega
theorem and63 (r : Nat) (h : r < 2097152) : bits .and .i64 (r : Int) 63 = ((r % 64 : Nat) : Int) := by
  have := bits_mask .i64 63 (by decide) wraps_i64' 6 (by decide) (r : Int) (by omega) (by omega)
  exact this
theorem and31 (r : Nat) (h : r < 2097152) : bits .and .i64 (r : Int) 31 = ((r % 32 : Nat) : Int) :=
  bits_mask .i64 63 (by decide) wraps_i64' 5 (by decide) (r : Int) (by omega) (by omega)
theorem and15 (r : Nat) (h : r < 2097152) : bits .and .i64 (r : Int) 15 = ((r % 16 : Nat) : Int) :=
  bits_mask .i64 63 (by decide) wraps_i64' 4 (by decide) (r : Int) (by omega) (by omega)
theorem and7 (r : Nat) (h : r < 2097152) : bits .and .i64 (r : Int) 7 = ((r % 8 : Nat) : Int) :=
  bits_mask .i64 63 (by decide) wraps_i64' 3 (by decide) (r : Int) (by omega) (by omega)
theorem byte_mid (r : Nat) (h : r < 2097152) : UInt8.ofNat (bits .or .i64 128 (bits .and .i64 (r : Int) 63) % 256).toNat = UInt8.ofNat (128 + r % 64) := by
  rw [and63 r h, or_join 6 _ _ (by omega) (by omega) (by omega) (by omega) (by omega) (by omega)]
  congr 1
  omega
theorem byte_two (x : Nat) (h : x < 32) : UInt8.ofNat (bits .or .i64 192 (x : Int) % 256).toNat = UInt8.ofNat (192 + x) := by
  rw [or_join 6 _ _ (by omega) (by omega) (by omega) (by omega) (by omega) (by omega)]
  congr 1
  omega
theorem byte_three (x : Nat) (h : x < 16) : UInt8.ofNat (bits .or .i64 224 (x : Int) % 256).toNat = UInt8.ofNat (224 + x) := by
  rw [or_join 5 _ _ (by omega) (by omega) (by omega) (by omega) (by omega) (by omega)]
  congr 1
  omega
theorem byte_four (x : Nat) (h : x < 8) : UInt8.ofNat (bits .or .i64 240 (x : Int) % 256).toNat = UInt8.ofNat (240 + x) := by
  rw [or_join 4 _ _ (by omega) (by omega) (by omega) (by omega) (by omega) (by omega)]
  congr 1
  omega
theorem enc1 (r : Nat) (h : r < 128) : [UInt8.ofNat ((r : Int) % 256).toNat] = enc r := by
  unfold enc
  rw [if_pos h]
  congr 2
  omega
theorem enc2 (r : Nat) (h1 : 128 ≤ r) (h : r < 2048) : [UInt8.ofNat (bits .or .i64 192 ((r / 64 : Nat) : Int) % 256).toNat, UInt8.ofNat (bits .or .i64 128 (bits .and .i64 (r : Int) 63) % 256).toNat] = enc r := by
  rw [byte_mid r (by omega), byte_two _ (by omega)]
  unfold enc
  rw [if_neg (by omega), if_pos h]
theorem enc3 (r : Nat) (h1 : 2048 ≤ r) (h : r < 65536) : [UInt8.ofNat (bits .or .i64 224 ((r / 4096 : Nat) : Int) % 256).toNat, UInt8.ofNat (bits .or .i64 128 (bits .and .i64 ((r / 64 : Nat) : Int) 63) % 256).toNat, UInt8.ofNat (bits .or .i64 128 (bits .and .i64 (r : Int) 63) % 256).toNat] = enc r := by
  rw [byte_mid r (by omega), byte_mid (r / 64) (by omega), byte_three _ (by omega)]
  unfold enc
  rw [if_neg (by omega), if_neg (by omega), if_pos h]
theorem enc4 (r : Nat) (h1 : 65536 ≤ r) (h : r < 2097152) : [UInt8.ofNat (bits .or .i64 240 ((r / 262144 : Nat) : Int) % 256).toNat, UInt8.ofNat (bits .or .i64 128 (bits .and .i64 ((r / 4096 : Nat) : Int) 63) % 256).toNat, UInt8.ofNat (bits .or .i64 128 (bits .and .i64 ((r / 64 : Nat) : Int) 63) % 256).toNat, UInt8.ofNat (bits .or .i64 128 (bits .and .i64 (r : Int) 63) % 256).toNat] = enc r := by
  rw [byte_mid r (by omega), byte_mid (r / 64) (by omega), byte_mid (r / 4096) (by omega), byte_four _ (by omega)]
  unfold enc
  rw [if_neg (by omega), if_neg (by omega), if_neg (by omega)]
theorem wid_cases (r : Nat) (h : scal r = true) : (wid r = 1 ∧ r < 128) ∨ (wid r = 2 ∧ 128 ≤ r ∧ r < 2048) ∨ (wid r = 3 ∧ 2048 ≤ r ∧ r < 65536) ∨ (wid r = 4 ∧ 65536 ≤ r ∧ r < 2097152) := by
  simp only [scal, decide_eq_true_eq] at h
  unfold wid
  repeat' split
  all_goals omega
theorem or64' (r b : Nat) (hr : r < 100000000) (hb : b < 256) : bits .or .i64 (wrap64 ((r : Int) * 64)) (bits .and .i64 (b : Int) 63) = ((r * 64 + b % 64 : Nat) : Int) := by
  rw [and63 b (by omega), IntWalk.wrap64_in _ (by omega), or_join 6 _ _ (by omega) (by omega) (by omega) (by omega) (by omega) (by omega)]
  omega
theorem and192 (b : UInt8) : (bits BinOp.and IntKind.u8 (b.toNat : Int) 192 != 128) = !(b.toNat / 64 == 2) := by
  have h : ∀ n : Fin 256, (bits BinOp.and IntKind.u8 ((n.val : Nat) : Int) 192 != 128) = !(n.val / 64 == 2) := by decide +kernel
  exact h ⟨b.toNat, b.toNat_lt⟩
end Go.Proofs.YthdninnjjmhpfaaGreatDoor
