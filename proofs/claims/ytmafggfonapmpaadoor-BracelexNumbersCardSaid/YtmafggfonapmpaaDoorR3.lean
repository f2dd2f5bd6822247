/- The package datakitref19, walked: quoted strings. Conditions: strings of at most 10^11 bytes. -/
import Derived.Test.YtmafggfonapmpaaDoorR2
import Derived.Test.YtmafggfonapmpaaDoorBl9
import Derived.Test.YtmafggfonapmpaaDoorRef3c
namespace Go.Proofs.YtmafggfonapmpaaDoor
open Go.RowKit
set_option maxHeartbeats 1000000
set_option maxRecDepth 100000

theorem dec_lt32 (b : UInt8) (t : List UInt8) (h : (dec (b :: t)).2 ≠ 0) : (dec (b :: t)).1 < 32 ↔ b.toNat < 32 := by
  rcases dec_cases (b :: t) with h0 | ⟨r, n, hd, hs, hw, h1, h4, hl, he⟩
  · rw [h0] at h; exact absurd rfl h
  · rw [hd]
    show r < 32 ↔ _
    obtain ⟨m, rfl⟩ : ∃ m, n = m + 1 := ⟨n - 1, by omega⟩
    rw [List.take_succ_cons] at he
    have hb := b.toNat_lt
    have hr : r < 2097152 := by simp [scal] at hs; omega
    unfold enc at he
    by_cases c1 : r < 128
    · rw [if_pos c1] at he
      simp only [List.cons.injEq] at he
      rw [ofNat_eq (by omega)] at he
      omega
    rw [if_neg c1] at he
    by_cases c2 : r < 2048
    · rw [if_pos c2] at he
      simp only [List.cons.injEq] at he
      rw [ofNat_eq (by omega)] at he
      omega
    rw [if_neg c2] at he
    by_cases c3 : r < 65536
    · rw [if_pos c3] at he
      simp only [List.cons.injEq] at he
      rw [ofNat_eq (by omega)] at he
      omega
    · rw [if_neg c3] at he
      simp only [List.cons.injEq] at he
      rw [ofNat_eq (by omega)] at he
      omega
theorem dec_enc (l : List UInt8) (h : (dec l).2 ≠ 0) : enc (dec l).1 = l.take (dec l).2 := by
  rcases dec_cases l with h0 | ⟨r, n, hd, _, _, _, _, _, he⟩
  · rw [h0] at h; exact absurd rfl h
  · rw [hd]; exact he
theorem dec_le4 (l : List UInt8) : (dec l).2 ≤ 4 := by
  rcases dec_cases l with h | ⟨_, _, h, _, _, _, h4, _⟩ <;> rw [h]
  · exact Nat.zero_le _
  · exact h4
/-- What Quoted hands back at an offset. -/
def QPost (i : Nat) (x : List UInt8 × Nat × Nat) (e : Ending) : Prop :=
  ∃ m : Nat, e = .returned (.tuple #[.string ⟨x.1.toArray⟩, .int .i64 m, .int .i64 x.2.2]) ∧ (x.2.2 = 0 → m = i + x.2.1)
theorem QPost_err {i : Nat} {x : List UInt8 × Nat × Nat} {n k : Nat} (h : x = ([], n, k)) (hk : k ≠ 0) : QPost i x (.returned (.tuple #[.string ⟨#[]⟩, .int .i64 0, .int .i64 k])) := by
  subst h
  exact ⟨0, rfl, fun h => absurd h hk⟩
end Go.Proofs.YtmafggfonapmpaaDoor
