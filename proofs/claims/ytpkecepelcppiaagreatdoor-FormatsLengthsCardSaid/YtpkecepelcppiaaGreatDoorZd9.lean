/- The package bracelex, walked: invalid, Unquote. Conditions: strings of at most 10^11 bytes. -/
import Derived.Test.YtpkecepelcppiaaGreatDoorZd7
import Derived.Deep.DeepCutAuto
import Derived.Deep.CutBlock
import Derived.Test.YtpkecepelcppiaaGreatDoorZd6
namespace Go.Proofs.YtpkecepelcppiaaGreatDoor
open Go.RowKit
set_option maxHeartbeats 1000000
set_option maxRecDepth 100000

theorem ext_size (s : ByteArray) (a : Nat) : (s.extract a s.size).size = s.size - a := by
 rw [ByteArray.size_extract]; omega
theorem empty_L (s : ByteArray) : s.toList.isEmpty = decide (L s = []) := by
 rw [toList_L]
 cases L s <;> rfl
theorem len0 {s : ByteArray} (h : s.size = 0) : L s = [] := List.eq_nil_of_length_eq_zero (by rw [L_len]; exact h)
theorem size_pos {s : ByteArray} (h : L s ≠ []) : 0 < s.size := by
 rcases Nat.eq_zero_or_pos s.size with h0 | h0
 ·exact absurd (len0 h0) h
 ·exact h0
theorem L_cons0 (s : ByteArray) (h : 0 < s.size) : L s = s[0] :: (L s).drop 1 := by
 have := L_drop s 0 h
 simpa using this
end Go.Proofs.YtpkecepelcppiaaGreatDoor

namespace Go.Proofs.YtpkecepelcppiaaGreatDoor
open Go.RowKit
set_option maxHeartbeats 1000000
set_option maxRecDepth 100000

theorem hexN_lt : ∀ (k n : Nat) (l : List UInt8), (hexN k n l).1 < (n + 1) * 16 ^ k
 | 0, n, l => by simp [hexN]
 | k + 1, n, [] => by simp only [hexN]; exact Nat.mul_pos (by omega) (Nat.pow_pos (by omega))
 | k + 1, n, b :: t => by
  unfold hexN
  cases h : hexv b with
  | none => exact Nat.mul_pos (by omega) (Nat.pow_pos (by omega))
  | some d =>
   have hd : d < 16 := by
    unfold hexv at h
    repeat' split at h
    all_goals first | (cases h; omega) | cases h
   have := hexN_lt k (16 * n + d) t
   refine Nat.lt_of_lt_of_le this ?_
   rw [Nat.pow_succ, Nat.mul_comm (16 ^ k) 16, ← Nat.mul_assoc]
   exact Nat.mul_le_mul_right _ (by omega)
end Go.Proofs.YtpkecepelcppiaaGreatDoor

namespace Go.Proofs.YtpkecepelcppiaaGreatDoor
open Go.RowKit
set_option maxHeartbeats 1000000
set_option maxRecDepth 100000

theorem wordLen_le : ∀ l : List UInt8, wordLen l ≤ l.length
 | [] => Nat.le_refl _
 | b :: t => by
  have := wordLen_le t
  unfold wordLen
  split <;> simp <;> omega
end Go.Proofs.YtpkecepelcppiaaGreatDoor

namespace Go.Proofs.YtpkecepelcppiaaGreatDoor
open Go.RowKit
set_option maxHeartbeats 1000000
set_option maxRecDepth 100000

theorem comF_fuel (block : Bool) : ∀ (f g : Nat) (l : List UInt8), l.length ≤ f → l.length ≤ g → comF block f l = comF block g l
 | 0, 0, _, _, _ => rfl
 | 0, g + 1, l, h, _ => by
  have : l = [] := List.eq_nil_of_length_eq_zero (by omega)
  subst this
  rfl
 | f + 1, 0, l, _, h => by
  have : l = [] := List.eq_nil_of_length_eq_zero (by omega)
  subst this
  rfl
 | f + 1, g + 1, [], _, _ => rfl
 | f + 1, g + 1, b :: t, h1, h2 => by
  by_cases hn : (dec (b :: t)).2 = 0
  ·simp only [comF, hn, if_true]
  ·have hl : ((b :: t).drop (dec (b :: t)).2).length ≤ f ∧ ((b :: t).drop (dec (b :: t)).2).length ≤ g := by
    rw [List.length_drop]
    omega
   have ih := comF_fuel block f g ((b :: t).drop (dec (b :: t)).2) hl.1 hl.2
   simp only [comF, ih]
def comG (block : Bool) (l : List UInt8) : Nat × Nat := comF block l.length l
def comFin (k : Nat) (x : Nat × Nat) : Nat × Nat := if x.2 ≠ 0 then (0, x.2) else (k + x.1, 0)
theorem comG_cons (block : Bool) (b : UInt8) (t : List UInt8) : comG block (b :: t) =
  if block = false ∧ (b.toNat = 10 ∨ pre (b :: t) [13, 10]) then (0, 0)
  else if block = true ∧ pre (b :: t) [42, 47] then (2, 0)
  else if (dec (b :: t)).2 = 0 then (0, 5)
  else comFin (dec (b :: t)).2 (comG block ((b :: t).drop (dec (b :: t)).2)) := by
 unfold comG comFin
 rw [List.length_cons, comF]
 by_cases hn : (dec (b :: t)).2 = 0
 ·simp only [hn, if_true]
 ·rw [comF_fuel block t.length ((b :: t).drop (dec (b :: t)).2).length _ (by rw [List.length_drop, List.length_cons]; omega) (Nat.le_refl _)]
theorem comFin_fin (k n : Nat) (x : Nat × Nat) : comFin k (comFin n x) = comFin (k + n) x := by
 unfold comFin
 by_cases h : x.2 = 0
 ·simp [h]; omega
 ·simp [h]
theorem comL_eq (a c : UInt8) (t : List UInt8) : comL (a :: c :: t) = if c.toNat = 47 then comFin 2 (comG false t) else if c.toNat = 42 then comFin 2 (comG true t) else (0, 3) := rfl

end Go.Proofs.YtpkecepelcppiaaGreatDoor

namespace Go.Proofs.YtpkecepelcppiaaGreatDoor
open Go.RowKit
set_option maxHeartbeats 1000000
set_option maxRecDepth 100000

def EscPost (x : Nat × Nat × Nat) (e : Ending) : Prop :=
 ∃ r n : Nat, e = .returned (.tuple #[.int .i64 r, .int .i64 n, .int .i64 x.2.2]) ∧ (x.2.2 = 0 → r = x.1 ∧ n = x.2.1)
theorem EscPost_mk {x : Nat × Nat × Nat} {r n k : Nat} (h : x.2.2 = k) (h2 : k = 0 → r = x.1 ∧ n = x.2.1) : EscPost x (.returned (.tuple #[.int .i64 r, .int .i64 n, .int .i64 k])) := by
 subst h
 exact ⟨r, n, rfl, h2⟩
theorem EscPost_ok {x : Nat × Nat × Nat} {a b : Int} (h0 : x.2.2 = 0) (ha : a = x.1) (hb : b = x.2.1) : EscPost x (.returned (.tuple #[.int .i64 a, .int .i64 b, .int .i64 0])) :=
 ⟨x.1, x.2.1, by rw [ha, hb, h0]; rfl, fun _ => ⟨rfl, rfl⟩⟩
theorem hexN_len : ∀ (k n : Nat) (l : List UInt8), (hexN k n l).2 = 0 → k ≤ l.length
 | 0, _, _, _ => Nat.zero_le _
 | k + 1, n, [], h => by simp [hexN] at h
 | k + 1, n, b :: t, h => by
  unfold hexN at h
  cases hv : hexv b with
  | none => rw [hv] at h; simp at h
  | some d =>
   rw [hv] at h
   have := hexN_len k _ t h
   simp; omega
theorem hex4_lt (l : List UInt8) : (hexN 4 0 l).1 < 65536 := hexN_lt 4 0 l
theorem escL_ok (l : List UInt8) (h : (escL l).2.2 = 0) : scal (escL l).1 = true ∧ 1 ≤ (escL l).2.1 ∧ (escL l).2.1 ≤ l.length := by
 rcases l with _ | ⟨c, t⟩
 ·simp [escL] at h
 unfold escL at h ⊢
 by_cases hu : c.toNat = 117
 ·simp only [hu, if_true] at h ⊢
  unfold uniEsc at h ⊢
  have hl := hex4_lt t
  by_cases h1 : (hexN 4 0 t).2 = 0
  ·have hlen := hexN_len 4 0 t h1
   simp only [h1, ne_eq, not_true_eq_false, if_false] at h ⊢
   by_cases h2 : (hexN 4 0 t).1 < 55296 ∨ 57343 < (hexN 4 0 t).1
   ·simp only [h2, if_true] at h ⊢
    refine ⟨by simp [scal]; omega, by omega, by simp; omega⟩
   ·simp only [h2, if_false] at h ⊢
    by_cases h3 : 56319 < (hexN 4 0 t).1
    ·simp [h3] at h
    ·simp only [h3, if_false] at h ⊢
     rcases hd : t.drop 4 with _ | ⟨x, _ | ⟨y, t3⟩⟩
     ·simp [hd] at h
     ·simp only [hd] at h
      split at h <;> simp at h
     ·simp only [hd] at h ⊢
      by_cases h4 : x.toNat = 92
      ·simp only [h4, not_true_eq_false, if_false] at h ⊢
       by_cases h5 : y.toNat = 117
       ·simp only [h5, not_true_eq_false, if_false] at h ⊢
        by_cases h6 : (hexN 4 0 t3).2 = 0
        ·have hlen3 := hexN_len 4 0 t3 h6
         have hl3 := hex4_lt t3
         simp only [h6, not_true_eq_false, if_false] at h ⊢
         by_cases h7 : (hexN 4 0 t3).1 < 56320 ∨ 57343 < (hexN 4 0 t3).1
         ·simp [h7] at h
         ·simp only [h7, if_false] at h ⊢
          have := congrArg List.length hd
          simp only [List.length_drop, List.length_cons] at this
          refine ⟨by simp [scal]; omega, by omega, by simp; omega⟩
        ·simp [h6] at h
       ·simp [h5] at h
      ·simp [h4] at h
  ·simp [h1] at h
 ·simp only [hu, if_false] at h ⊢
  cases hs : simpleEsc c with
  | none => simp [hs] at h
  | some r =>
   have : r < 128 := by
    unfold simpleEsc at hs
    repeat' split at hs
    all_goals first | (cases hs; decide) | cases hs
   refine ⟨by simp [scal]; omega, by simp, by simp⟩

theorem idx_esc (c : UInt8) : Lib.indexByte (L ⟨#[34, 92, 47, 98, 102, 110, 114, 116]⟩) c = if c.toNat = 34 then 0 else if c.toNat = 92 then 1 else if c.toNat = 47 then 2 else if c.toNat = 98 then 3 else if c.toNat = 102 then 4 else if c.toNat = 110 then 5 else if c.toNat = 114 then 6 else if c.toNat = 116 then 7 else -1 := by
 have h : ∀ n : Fin 256, Lib.indexByte (L ⟨#[34, 92, 47, 98, 102, 110, 114, 116]⟩) (UInt8.ofNat n.val) = if n.val = 34 then 0 else if n.val = 92 then 1 else if n.val = 47 then 2 else if n.val = 98 then 3 else if n.val = 102 then 4 else if n.val = 110 then 5 else if n.val = 114 then 6 else if n.val = 116 then 7 else -1 := by decide +kernel
 have := h ⟨c.toNat, c.toNat_lt⟩
 simpa using this
end Go.Proofs.YtpkecepelcppiaaGreatDoor

namespace Go.Proofs.YtpkecepelcppiaaGreatDoor
open Go.RowKit
set_option maxHeartbeats 1000000
set_option maxRecDepth 100000

theorem quotF_fuel : ∀ (f g : Nat) (l : List UInt8), l.length ≤ f → l.length ≤ g → quotF f l = quotF g l
 | 0, 0, _, _, _ => rfl
 | 0, g + 1, l, h, _ => by
  have : l = [] := List.eq_nil_of_length_eq_zero (by omega)
  subst this
  rfl
 | f + 1, 0, l, _, h => by
  have : l = [] := List.eq_nil_of_length_eq_zero (by omega)
  subst this
  rfl
 | f + 1, g + 1, [], _, _ => rfl
 | f + 1, g + 1, b :: t, h1, h2 => by
  have h1' : t.length ≤ f := by simpa using h1
  have h2' : t.length ≤ g := by simpa using h2
  have ih1 := quotF_fuel f g (t.drop (escL t).2.1) (by rw [List.length_drop]; omega) (by rw [List.length_drop]; omega)
  by_cases hn : (dec (b :: t)).2 = 0
  ·simp only [quotF, hn, ih1, or_true, if_true]
  ·have ih := quotF_fuel f g ((b :: t).drop (dec (b :: t)).2) (by rw [List.length_drop, List.length_cons]; omega) (by rw [List.length_drop, List.length_cons]; omega)
   simp only [quotF, ih1, ih]
def quotFin (acc : List UInt8) (k : Nat) (x : List UInt8 × Nat × Nat) : List UInt8 × Nat × Nat := if x.2.2 ≠ 0 then ([], 0, x.2.2) else (acc ++ x.1, k + x.2.1, 0)
theorem quotFin_fin (a b : List UInt8) (k n : Nat) (x : List UInt8 × Nat × Nat) : quotFin a k (quotFin b n x) = quotFin (a ++ b) (k + n) x := by
 unfold quotFin
 by_cases h : x.2.2 = 0
 ·simp [h]; omega
 ·simp [h]
theorem quotL_cons (b : UInt8) (t : List UInt8) : quotL (b :: t) =
  if b.toNat = 34 then ([], 1, 0)
  else if b.toNat = 92 then (if (escL t).2.2 ≠ 0 then ([], 0, (escL t).2.2) else quotFin (enc (escL t).1) (1 + (escL t).2.1) (quotL (t.drop (escL t).2.1)))
  else if b.toNat < 32 ∨ (dec (b :: t)).2 = 0 then ([], 0, 5)
  else quotFin ((b :: t).take (dec (b :: t)).2) (dec (b :: t)).2 (quotL ((b :: t).drop (dec (b :: t)).2)) := by
 unfold quotL quotFin
 rw [List.length_cons, quotF]
 rw [quotF_fuel t.length (t.drop (escL t).2.1).length (t.drop (escL t).2.1) (by rw [List.length_drop]; omega) (Nat.le_refl _)]
 by_cases hn : (dec (b :: t)).2 = 0
 ·simp only [hn, or_true, if_true]
 ·rw [quotF_fuel t.length ((b :: t).drop (dec (b :: t)).2).length _ (by rw [List.length_drop, List.length_cons]; omega) (Nat.le_refl _)]
theorem bytesT : BytesT Tryz.prog 56 9 5 := bytesT_of Tryz.underlying56 Tryz.underlying9 Tryz.underlying5 (by kernel_rfl)
theorem wid_le (r : Nat) : wid r ≤ 4 := by unfold wid; repeat' split
                                           all_goals omega
def quotR (l : List UInt8) : List UInt8 × Nat × Nat := quotFin [] 1 (quotL l)
theorem ret3_str {l : List UInt8} {a b : Nat} {x : List UInt8 × Nat × Nat} (h : x = (l, a, b)) : Ending.returned (.tuple #[.string ⟨l.toArray⟩, .int .i64 a, .int .i64 b]) = Ending.returned (.tuple #[.string ⟨x.1.toArray⟩, .int .i64 x.2.1, .int .i64 x.2.2]) := by rw [h]
end Go.Proofs.YtpkecepelcppiaaGreatDoor

namespace Go.Proofs.YtpkecepelcppiaaGreatDoor
open Go.RowKit
set_option maxHeartbeats 1000000
set_option maxRecDepth 100000

end Go.Proofs.YtpkecepelcppiaaGreatDoor
