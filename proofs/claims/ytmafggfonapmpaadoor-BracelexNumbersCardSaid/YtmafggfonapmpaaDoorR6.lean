/- The package datakitref19, walked: scan. Conditions: strings of at most 10^11 bytes. -/
import Derived.Test.YtmafggfonapmpaaDoorR5
import Derived.Test.YtmafggfonapmpaaDoorBl10
import Derived.Deep.DeepCutAuto
import Derived.Deep.CutBlock
namespace Go.Proofs.YtmafggfonapmpaaDoor
open Go.RowKit
set_option maxHeartbeats 1000000
set_option maxRecDepth 100000

/-- What scan hands back at an offset. -/
def SPost (i : Nat) (x : Nat × Nat × Nat) (e : Ending) : Prop :=
  ∃ r m : Nat, e = .returned (.tuple #[.int .i64 r, .int .i64 m, .int .i64 x.2.2]) ∧ (x.2.2 = 0 → r = x.1 ∧ m = i + x.2.1)
theorem SPost_err {i : Nat} {x : Nat × Nat × Nat} {a b k : Nat} (h : x = (a, b, k)) (hk : k ≠ 0) : SPost i x (.returned (.tuple #[.int .i64 0, .int .i64 0, .int .i64 k])) := by
  subst h
  exact ⟨0, 0, rfl, fun h => absurd h hk⟩
theorem SPost_ok {i : Nat} {x : Nat × Nat × Nat} {r n m : Nat} (h : x = (r, n, 0)) (hm : m = i + n) : SPost i x (.returned (.tuple #[.int .i64 r, .int .i64 m, .int .i64 0])) := by
  subst h
  exact ⟨r, m, rfl, fun _ => ⟨rfl, hm⟩⟩
theorem SPost_tok {i k m n er : Nat} {y : Nat × Nat × Nat} (h : y = tok k (n, er)) (hm : er = 0 → m = i + n) : SPost i y (.returned (.tuple #[.int .i64 k, .int .i64 m, .int .i64 er])) := by
  subst h
  unfold tok
  by_cases hz : er = 0
  · subst hz
    obtain rfl := hm rfl
    exact ⟨k, i + n, rfl, fun _ => ⟨rfl, rfl⟩⟩
  · rw [if_pos hz]
    exact ⟨k, m, rfl, fun h => absurd h hz⟩

theorem lineL_cr (b c : UInt8) (t : List UInt8) (h : b.toNat = 13) : lineL (b :: c :: t) = if c.toNat = 10 then (2, 0) else (0, 3) := by
  simp only [lineL]
  rw [if_neg (by omega)]
theorem oneL_at (s : ByteArray) (i : Nat) (hi : i < s.size) : oneL ((L s).drop i) = if blank s[i] then (1, spaceLen ((L s).drop i), 0)
    else if s[i].toNat = 10 ∨ s[i].toNat = 13 then tok 2 (lineL ((L s).drop i))
    else if s[i].toNat = 47 then tok 3 (comL ((L s).drop i))
    else if punct s[i] then (4, 1, 0)
    else if s[i].toNat = 34 then tok 5 (1 + (quotL ((L s).drop (i + 1))).2.1, (quotL ((L s).drop (i + 1))).2.2)
    else if (s[i].toNat = 116 ∨ s[i].toNat = 98) ∧ pre ((L s).drop (i + 1)) [34] then tok 5 (2 + (quotL ((L s).drop (i + 2))).2.1, (quotL ((L s).drop (i + 2))).2.2)
    else if wordb s[i] then tok 6 (wordL ((L s).drop i))
    else (0, 0, 3) := by
  have h2 : ((L s).drop (i + 1)).drop 1 = (L s).drop (i + 2) := by rw [List.drop_drop]
  rw [← h2]
  obtain ⟨t, ht⟩ : ∃ t, (L s).drop (i + 1) = t := ⟨_, rfl⟩
  have hl : (L s).drop i = s[i] :: t := by rw [← ht]; exact L_drop s i hi
  rw [ht, hl]
  rfl
end Go.Proofs.YtmafggfonapmpaaDoor
