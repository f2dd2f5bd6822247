/- The reference's way to decode a character, and that it is the same: plain, no program in sight. Conditions: none. -/
import Derived.Test.YtggolmamacoplaaGreatDoorRows
import Derived.WalkKit
import Derived.Lib.Hide
namespace Go.Proofs.YtggolmamacoplaaGreatDoor
open Go.RowKit

/-- The bytes of a string. -/
def L (s : ByteArray) : List UInt8 := s.data.toList
theorem L_len (s : ByteArray) : (L s).length = s.size := by
  unfold L
  rw [Array.length_toList, ByteArray.size_data]
theorem L_get (s : ByteArray) (k : Nat) (h : k < s.size) : (L s)[k]'(by rw [L_len]; exact h) = s[k] := rfl
theorem L_drop (s : ByteArray) (k : Nat) (h : k < s.size) : (L s).drop k = s[k] :: (L s).drop (k + 1) := by
  rw [List.drop_eq_getElem_cons (by rw [L_len]; exact h), L_get]
theorem L_drop_nil (s : ByteArray) (k : Nat) (h : s.size ≤ k) : (L s).drop k = [] :=
  List.drop_eq_nil_of_le (by rw [L_len]; exact h)
theorem L_mk (l : List UInt8) : L ⟨l.toArray⟩ = l := rfl
theorem L_extract (s : ByteArray) (a b : Nat) : L (s.extract a b) = ((L s).drop a).take (b - a) := by
  unfold L
  rw [ByteArray.data_extract, Array.toList_extract, List.extract_eq_take_drop]
theorem L_append (s t : ByteArray) : L (s ++ t) = L s ++ L t := by
  unfold L
  rw [ByteArray.data_append, Array.toList_append]
theorem toList_L (s : ByteArray) : s.toList = L s := ByteArray.toList_eq s
theorem beq_true {l m : List UInt8} (h : l = m) : (l == m) = true := by rw [h]; simp
theorem beq_false {l m : List UInt8} (h : ¬ l = m) : (l == m) = false := by simpa using h
/-! Classes of bytes. -/
def alpha (b : UInt8) : Bool := decide (97 ≤ b.toNat ∧ b.toNat ≤ 122 ∨ 65 ≤ b.toNat ∧ b.toNat ≤ 90)

/-! UTF-8. -/
def hd (b : Nat) : Nat × Nat :=
  if b < 128 then (1, b) else if 192 ≤ b ∧ b < 224 then (2, b % 32) else if 224 ≤ b ∧ b < 240 then (3, b % 16) else if 240 ≤ b ∧ b < 248 then (4, b % 8) else (0, 0)
def cont : Nat → Nat → List UInt8 → Option Nat
  | 0, r, _ => some r
  | n + 1, r, b :: t => if b.toNat / 64 = 2 then cont n (r * 64 + b.toNat % 64) t else none
  | _ + 1, _, [] => none
def scal (r : Nat) : Bool := decide (r ≤ 1114111 ∧ (r < 55296 ∨ 57343 < r))
def wid (r : Nat) : Nat := if r < 128 then 1 else if r < 2048 then 2 else if r < 65536 then 3 else 4
/-- The character that a list begins with, and the number of its bytes. -/
def dec : List UInt8 → Nat × Nat
  | [] => (0, 0)
  | b :: t =>
    if (hd b.toNat).1 = 0 ∨ t.length + 1 < (hd b.toNat).1 then (0, 0)
    else match cont ((hd b.toNat).1 - 1) (hd b.toNat).2 t with
      | none => (0, 0)
      | some r => if scal r ∧ wid r = (hd b.toNat).1 then (r, (hd b.toNat).1) else (0, 0)
/-- The bytes of a character. -/
def enc (r : Nat) : List UInt8 :=
  if r < 128 then [UInt8.ofNat r]
  else if r < 2048 then [UInt8.ofNat (192 + r / 64), UInt8.ofNat (128 + r % 64)]
  else if r < 65536 then [UInt8.ofNat (224 + r / 4096), UInt8.ofNat (128 + r / 64 % 64), UInt8.ofNat (128 + r % 64)]
  else [UInt8.ofNat (240 + r / 262144), UInt8.ofNat (128 + r / 4096 % 64), UInt8.ofNat (128 + r / 64 % 64), UInt8.ofNat (128 + r % 64)]
/-! Bits. -/
end Go.Proofs.YtggolmamacoplaaGreatDoor

namespace Go.Proofs.YtggolmamacoplaaGreatDoor
open Go.RowKit

/-! What dec gives. -/
/-- The tail of the boundaries, from an offset on (with fuel), and the place of the first byte at which no character begins. -/
def bt : Nat → Nat → List UInt8 → List Nat
  | 0, _, _ => []
  | f + 1, off, l => if (dec l).2 = 0 then [] else (off + (dec l).2) :: bt f (off + (dec l).2) (l.drop (dec l).2)
def bad : Nat → List UInt8 → Nat
  | 0, _ => 0
  | f + 1, l => if (dec l).2 = 0 then 0 else (dec l).2 + bad f (l.drop (dec l).2)
end Go.Proofs.YtggolmamacoplaaGreatDoor
