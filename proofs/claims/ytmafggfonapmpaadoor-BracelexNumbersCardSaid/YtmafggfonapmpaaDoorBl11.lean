/- The package bracelex, walked: Tokens. Conditions: strings of at most 10^11 bytes. -/
import Derived.Test.YtmafggfonapmpaaDoorBl10
namespace Go.Proofs.YtmafggfonapmpaaDoor
open Go.RowKit
set_option maxHeartbeats 1000000
set_option maxRecDepth 100000

/-- A token's cells. -/
def tk (x : Nat × ByteArray × Nat) : List Value := [.int .i64 x.1, .string x.2.1, .int .i64 x.2.2]
theorem tk_one (x : Nat × ByteArray × Nat) : ∀ u ∈ tk x, u.oneCell' = true := by
  intro u hu
  simp only [tk, List.mem_cons, List.mem_nil_iff, or_false] at hu
  rcases hu with rfl | rfl | rfl <;> rfl
def tokensF (s : ByteArray) : Nat → Nat → List (Nat × ByteArray × Nat) × Nat × Nat
  | 0, _ => ([], 0, 0)
  | f + 1, k =>
    if s.size ≤ k then ([], 0, 0)
    else if (oneL ((L s).drop k)).2.2 = 4 then ([], s.size, 4)
    else if (oneL ((L s).drop k)).2.2 ≠ 0 then ([], k, (oneL ((L s).drop k)).2.2)
    else if (tokensF s f (k + (oneL ((L s).drop k)).2.1)).2.2 ≠ 0 then ([], (tokensF s f (k + (oneL ((L s).drop k)).2.1)).2.1, (tokensF s f (k + (oneL ((L s).drop k)).2.1)).2.2)
    else (((oneL ((L s).drop k)).1, s.extract k (k + (oneL ((L s).drop k)).2.1), k) :: (tokensF s f (k + (oneL ((L s).drop k)).2.1)).1, 0, 0)
theorem lineL_pos (c : UInt8) (t : List UInt8) (h : (lineL (c :: t)).2 = 0) : 1 ≤ (lineL (c :: t)).1 := by
  rcases t with _ | ⟨d, t⟩ <;> simp only [lineL] at h ⊢
  · split at h <;> simp_all
  · repeat' split at h
    all_goals simp_all
theorem comL_pos (c : UInt8) (t : List UInt8) (h : (comL (c :: t)).2 = 0) : 1 ≤ (comL (c :: t)).1 := by
  rcases t with _ | ⟨d, t⟩
  · simp [comL] at h
  · simp only [comL] at h ⊢
    by_cases h1 : d.toNat = 47
    · simp only [h1, if_true] at h ⊢
      split at h
      · rename_i h2; simp at h; exact absurd h h2
      · rename_i h2; rw [if_neg h2]; show 1 ≤ 2 + _; omega
    · by_cases h2 : d.toNat = 42
      · simp only [h2] at h ⊢
        by_cases h3 : (comF true t.length t).2 = 0
        · simp [h3]; omega
        · simp [h3] at h
      · simp [h1, h2] at h
theorem wordL_pos (c : UInt8) (t : List UInt8) (hw : wordb c = true) (h : (wordL (c :: t)).2 = 0) : 1 ≤ (wordL (c :: t)).1 := by
  unfold wordL at h ⊢
  split at h
  · rename_i h1
    rw [if_pos h1]
    show 1 ≤ wordLen (c :: t)
    rw [wordLen, if_pos hw]
    omega
  · split at h <;> simp at h
theorem tok_pos {k n : Nat} {x : Nat × Nat} (h : (tok k x).2.2 = 0) (hp : x.2 = 0 → n ≤ x.1) : n ≤ (tok k x).2.1 := by
  unfold tok at h ⊢
  split at h
  · rename_i h1; exact absurd h h1
  · rename_i h1
    rw [if_neg h1]
    exact hp (by simpa using h1)
theorem oneL_pos (c : UInt8) (t : List UInt8) (h : (oneL (c :: t)).2.2 = 0) : 1 ≤ (oneL (c :: t)).2.1 := by
  simp only [oneL] at h ⊢
  by_cases h1 : blank c = true
  · simp only [h1, if_true]
    show 1 ≤ spaceLen (c :: t)
    rw [spaceLen_cons, if_pos h1]; omega
  rw [if_neg h1] at h ⊢
  by_cases h2 : c.toNat = 10 ∨ c.toNat = 13
  · rw [if_pos h2] at h ⊢
    exact tok_pos h (lineL_pos c t)
  rw [if_neg h2] at h ⊢
  by_cases h3 : c.toNat = 47
  · rw [if_pos h3] at h ⊢
    exact tok_pos h (comL_pos c t)
  rw [if_neg h3] at h ⊢
  by_cases h4 : punct c = true
  · rw [if_pos h4]; exact Nat.le_refl _
  rw [if_neg h4] at h ⊢
  by_cases h5 : c.toNat = 34
  · rw [if_pos h5] at h ⊢
    exact tok_pos h (fun _ => by show 1 ≤ 1 + _; omega)
  rw [if_neg h5] at h ⊢
  by_cases h6 : (c.toNat = 116 ∨ c.toNat = 98) ∧ pre t [34] = true
  · rw [if_pos h6] at h ⊢
    exact tok_pos h (fun _ => by show 1 ≤ 2 + _; omega)
  rw [if_neg h6] at h ⊢
  by_cases h7 : wordb c = true
  · rw [if_pos h7] at h ⊢
    exact tok_pos h (wordL_pos c t h7)
  · rw [if_neg h7] at h; simp at h
theorem tokensF_fuel (s : ByteArray) : ∀ (f g k : Nat), s.size - k < f → s.size - k < g → tokensF s f k = tokensF s g k
  | 0, _, _, h, _ => absurd h (Nat.not_lt_zero _)
  | _ + 1, 0, _, _, h => absurd h (Nat.not_lt_zero _)
  | f + 1, g + 1, k, h1, h2 => by
    unfold tokensF
    by_cases hk : s.size ≤ k
    · rw [if_pos hk, if_pos hk]
    by_cases hz : (oneL ((L s).drop k)).2.2 = 0
    · have hp := hz
      rw [L_drop s k (by omega)] at hp
      have hpos := oneL_pos _ _ hp
      rw [← L_drop s k (by omega)] at hpos
      rw [tokensF_fuel s f g (k + (oneL ((L s).drop k)).2.1) (by omega) (by omega)]
    · rw [if_neg hk, if_neg hk]
      by_cases h4 : (oneL ((L s).drop k)).2.2 = 4
      · rw [if_pos h4, if_pos h4]
      · rw [if_neg h4, if_neg h4, if_pos hz, if_pos hz]
theorem tokensF_zero (s : ByteArray) : ∀ (f k : Nat), (tokensF s f k).2.2 = 0 → tokensF s f k = ((tokensF s f k).1, 0, 0)
  | 0, _, _ => rfl
  | f + 1, k, h => by
    unfold tokensF at h ⊢
    repeat' split
    all_goals first | rfl | (simp_all; done)
theorem tokensF_err (s : ByteArray) : ∀ (f k : Nat), (tokensF s f k).2.2 ≠ 0 → tokensF s f k = ([], (tokensF s f k).2.1, (tokensF s f k).2.2)
  | 0, _, h => absurd rfl h
  | f + 1, k, h => by
    unfold tokensF at h ⊢
    repeat' split
    all_goals first | rfl | (simp_all; done)
theorem ext_len (s : ByteArray) (k n : Nat) (h : k + n ≤ s.size) : (s.extract k (k + n)).size = n := by
  rw [ByteArray.size_extract]; omega
def tokensG (s : ByteArray) (k : Nat) : List (Nat × ByteArray × Nat) × Nat × Nat := tokensF s (s.size - k + 1) k
def tokFin (acc : List (Nat × ByteArray × Nat)) (y : List (Nat × ByteArray × Nat) × Nat × Nat) : List (Nat × ByteArray × Nat) × Nat × Nat := if y.2.2 ≠ 0 then ([], y.2.1, y.2.2) else (acc ++ y.1, 0, 0)
theorem tokFin_fin (a b : List (Nat × ByteArray × Nat)) (y : List (Nat × ByteArray × Nat) × Nat × Nat) : tokFin a (tokFin b y) = tokFin (a ++ b) y := by
  unfold tokFin
  by_cases h : y.2.2 = 0
  · simp [h]
  · simp [h]
theorem tokensG_end (s : ByteArray) (k : Nat) (h : s.size ≤ k) : tokensG s k = ([], 0, 0) := by
  unfold tokensG tokensF
  rw [if_pos h]
theorem tokensG_step (s : ByteArray) (k : Nat) (h : k < s.size) : tokensG s k =
    if (oneL ((L s).drop k)).2.2 = 4 then ([], s.size, 4)
    else if (oneL ((L s).drop k)).2.2 ≠ 0 then ([], k, (oneL ((L s).drop k)).2.2)
    else tokFin [((oneL ((L s).drop k)).1, s.extract k (k + (oneL ((L s).drop k)).2.1), k)] (tokensG s (k + (oneL ((L s).drop k)).2.1)) := by
  unfold tokensG tokFin
  rw [tokensF, if_neg (by omega)]
  by_cases hz : (oneL ((L s).drop k)).2.2 = 0
  · have hp := hz
    rw [L_drop s k h] at hp
    have hpos := oneL_pos _ _ hp
    rw [← L_drop s k h] at hpos
    rw [tokensF_fuel s (s.size - k) (s.size - (k + (oneL ((L s).drop k)).2.1) + 1) _ (by omega) (by omega)]
    rfl
  · by_cases h4 : (oneL ((L s).drop k)).2.2 = 4
    · rw [if_pos h4, if_pos h4]
    · rw [if_neg h4, if_neg h4, if_pos hz, if_pos hz]
/-- What Tokens hands back: the tokens, the offset and the error. -/
def tokR (s : ByteArray) : List (Nat × ByteArray × Nat) × Nat × Nat :=
  if 1048576 < s.size then ([], 0, 10) else if badL (L s) ≠ s.size then ([], badL (L s), 5) else tokensG s 0
/-- The post of Tokens. -/
def TokPost (w : World) (x : List (Nat × ByteArray × Nat) × Nat × Nat) (e : Ending) (w' : World) : Prop :=
  ∃ v, e = .returned (.tuple #[v, .int .i64 x.2.1, .int .i64 x.2.2]) ∧ w'.ownsRow w.heap.size 32 3 v x.1.length (x.1.flatMap tk) ∧ Below w.heap.size w w'
theorem TokPost_none {w w' : World} {x : List (Nat × ByteArray × Nat) × Nat × Nat} {a b : Nat} (h : x = ([], a, b)) (hb : Below w.heap.size w w') :
    TokPost w x (.returned (.tuple #[.slice none 0 0, .int .i64 a, .int .i64 b])) w' := by
  subst h
  exact ⟨_, rfl, World.ownsRow_nil _ _ _ _, hb⟩
end Go.Proofs.YtmafggfonapmpaaDoor
