/- The package datakitref19, walked: comments. Conditions: strings of at most 10^11 bytes. -/
import Derived.Test.YtmafggfonapmpaaDoorR3
import Derived.Deep.DeepCutAuto
import Derived.Deep.CutBlock
namespace Go.Proofs.YtmafggfonapmpaaDoor
open Go.RowKit
set_option maxHeartbeats 1000000
set_option maxRecDepth 100000

/-- What comment hands back at an offset. -/
def CPost (i : Nat) (x : Nat × Nat) (e : Ending) : Prop :=
  ∃ m : Nat, e = .returned (.tuple #[.int .i64 m, .int .i64 x.2]) ∧ (x.2 = 0 → m = i + x.1)
theorem CPost_err {i : Nat} {x : Nat × Nat} {n k : Nat} (h : x = (n, k)) (hk : k ≠ 0) : CPost i x (.returned (.tuple #[.int .i64 0, .int .i64 k])) := by
  subst h
  exact ⟨0, rfl, fun h => absurd h hk⟩
theorem CPost_ok {i : Nat} {x : Nat × Nat} {n m : Nat} (h : x = (n, 0)) (hm : m = i + n) : CPost i x (.returned (.tuple #[.int .i64 m, .int .i64 0])) := by
  subst h
  exact ⟨m, rfl, fun _ => hm⟩
theorem pre2_iff (s : ByteArray) (k : Nat) (h : k < s.size) (a b : UInt8) : pre ((L s).drop k) [a, b] = true ↔ s[k] = a ∧ ∃ h2 : k + 1 < s.size, s[k + 1] = b := by
  rw [L_drop s k h]
  by_cases h2 : k + 1 < s.size
  · rw [L_drop s (k + 1) h2]
    simp [pre, h2]
  · rw [L_drop_nil s (k + 1) (by omega)]
    simp [pre, h2]
theorem beqB (b : UInt8) (n : Int) (h : (b.toNat : Int) = n) : ((b.toNat : Int) == n) = true := by rw [beq_iff_eq]; exact h
theorem beqNB (b : UInt8) (n : Int) (h : ¬ (b.toNat : Int) = n) : ((b.toNat : Int) == n) = false := by rw [beq_eq_false_iff_ne]; exact h
theorem bneB (b : UInt8) (n : Int) (h : (b.toNat : Int) = n) : ((b.toNat : Int) != n) = false := by rw [bne_eq_false_iff_eq]; exact h
theorem bneNB (b : UInt8) (n : Int) (h : ¬ (b.toNat : Int) = n) : ((b.toNat : Int) != n) = true := by rw [bne_iff_ne]; exact h
theorem u8_of {b : UInt8} {n : Nat} (h : b.toNat = n) : b = UInt8.ofNat n := by rw [← h]; simp

end Go.Proofs.YtmafggfonapmpaaDoor
