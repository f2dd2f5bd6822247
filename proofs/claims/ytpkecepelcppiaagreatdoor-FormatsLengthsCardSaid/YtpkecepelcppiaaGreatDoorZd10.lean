/- The package bracelex, walked: Tokens. Conditions: strings of at most 10^11 bytes. -/
import Derived.Test.YtpkecepelcppiaaGreatDoorZd9
import Derived.Deep.DeepCutAuto
import Derived.Deep.CutBlock
namespace Go.Proofs.YtpkecepelcppiaaGreatDoor
open Go.RowKit
set_option maxHeartbeats 1000000
set_option maxRecDepth 100000

theorem idx_punct (c : UInt8) : decide (0 ≤ Lib.indexByte (L ⟨#[91, 93, 123, 125, 44, 58]⟩) c) = punct c := by
 have h : ∀ n : Fin 256, decide (0 ≤ Lib.indexByte (L ⟨#[91, 93, 123, 125, 44, 58]⟩) (UInt8.ofNat n.val)) = (n.val == 91 || n.val == 93 || n.val == 123 || n.val == 125 || n.val == 44 || n.val == 58) := by decide +kernel
 have := h ⟨c.toNat, c.toNat_lt⟩
 simpa [punct] using this
theorem EscPost_same {x : Nat × Nat × Nat} {r n k : Nat} (h : x = (r, n, k)) : EscPost x (.returned (.tuple #[.int .i64 r, .int .i64 n, .int .i64 k])) := by
 subst h
 exact ⟨r, n, rfl, fun _ => ⟨rfl, rfl⟩⟩
theorem EscPost_tok {k m n er : Nat} {y : Nat × Nat × Nat} (h : y = tok k (n, er)) (hm : er = 0 → m = n) : EscPost y (.returned (.tuple #[.int .i64 k, .int .i64 m, .int .i64 er])) := by
 subst h
 unfold tok
 by_cases hz : er = 0
 ·subst hz
  obtain rfl := hm rfl
  exact ⟨k, m, rfl, fun _ => ⟨rfl, rfl⟩⟩
 ·rw [if_pos hz]
  exact ⟨k, m, rfl, fun h => absurd h hz⟩
theorem spaceLen_cons (b : UInt8) (t : List UInt8) : spaceLen (b :: t) = if blank b then spaceLen t + 1 else 0 := rfl

theorem quotF_le : ∀ (f : Nat) (l : List UInt8), (quotF f l).2.1 ≤ l.length
 | 0, l => Nat.zero_le _
 | f + 1, [] => Nat.zero_le _
 | f + 1, b :: t => by
  unfold quotF
  by_cases h34 : b.toNat = 34
  ·rw [if_pos h34]; simp
  rw [if_neg h34]
  by_cases h92 : b.toNat = 92
  ·rw [if_pos h92]
   by_cases he : (escL t).2.2 = 0
   ·rw [if_neg (by simpa using he)]
    have h1 := escL_ok t he
    have h2 := quotF_le f (t.drop (escL t).2.1)
    rw [List.length_drop] at h2
    split
    ·exact Nat.zero_le _
    ·simp only [List.length_cons]; omega
   ·rw [if_pos he]; exact Nat.zero_le _
  ·rw [if_neg h92]
   split
   ·exact Nat.zero_le _
   ·have h1 := dec_le (b :: t)
    have h2 := quotF_le f ((b :: t).drop (dec (b :: t)).2)
    rw [List.length_drop] at h2
    split
    ·exact Nat.zero_le _
    ·simp only [] at *; omega
theorem quotR_le (t : List UInt8) : (quotR t).2.1 ≤ 1 + t.length := by
 have := quotF_le t.length t
 unfold quotR quotFin
 split
 ·exact Nat.zero_le _
 ·show 1 + (quotF t.length t).2.1 ≤ _
  omega
theorem quotR_err (t : List UInt8) : (quotR t).2.2 = (quotL t).2.2 := by
 unfold quotR quotFin
 by_cases h : (quotL t).2.2 = 0
 ·simp [h]
 ·simp [h]
theorem quotR_len (t : List UInt8) (h : (quotL t).2.2 = 0) : (quotR t).2.1 = 1 + (quotL t).2.1 := by
 unfold quotR quotFin
 simp [h]
end Go.Proofs.YtpkecepelcppiaaGreatDoor

namespace Go.Proofs.YtpkecepelcppiaaGreatDoor
open Go.RowKit
set_option maxHeartbeats 1000000
set_option maxRecDepth 100000

/-! A token without an error takes bytes that are there. -/
theorem comF_le (block : Bool) : ∀ (f : Nat) (l : List UInt8), (comF block f l).1 ≤ l.length
 | 0, l => by unfold comF; split <;> exact Nat.zero_le _
 | f + 1, [] => by unfold comF; split <;> exact Nat.zero_le _
 | f + 1, b :: t => by
  unfold comF
  split
  ·exact Nat.zero_le _
  split
  ·rename_i h
   have h2 : (b :: t).take 2 = [42, 47] := by simpa [pre] using h.2
   have := congrArg List.length h2
   rw [List.length_take] at this
   simp only [List.length_cons, List.length_nil] at this ⊢
   omega
  split
  ·exact Nat.zero_le _
  split
  ·exact Nat.zero_le _
  ·have h1 := dec_le (b :: t)
   have h2 := comF_le block f ((b :: t).drop (dec (b :: t)).2)
   rw [List.length_drop] at h2
   show (dec (b :: t)).2 + _ ≤ _
   omega
theorem comL_le (l : List UInt8) : (comL l).1 ≤ l.length := by
 rcases l with _ | ⟨a, _ | ⟨c, t⟩⟩
 ·exact Nat.zero_le _
 ·exact Nat.zero_le _
 ·have h1 := comF_le false t.length t
  have h2 := comF_le true t.length t
  simp only [comL, List.length_cons]
  repeat' split
  all_goals simp only []
  all_goals omega
theorem spaceLen_le : ∀ l : List UInt8, spaceLen l ≤ l.length
 | [] => Nat.le_refl _
 | b :: t => by
  have := spaceLen_le t
  unfold spaceLen
  split <;> simp <;> omega
theorem wordL_le (l : List UInt8) : (wordL l).1 ≤ l.length := by
 unfold wordL
 repeat' split
 ·exact wordLen_le l
 ·exact Nat.zero_le _
 ·exact Nat.zero_le _
theorem lineL_le (l : List UInt8) : (lineL l).1 ≤ l.length := by
 rcases l with _ | ⟨a, _ | ⟨c, t⟩⟩ <;> simp only [lineL]
 ·exact Nat.le_refl _
 ·split <;> simp
 ·repeat' split
  all_goals simp
theorem tok_le {k n m : Nat} {x : Nat × Nat} (h : x.1 ≤ m) (_hn : n = x.1) : (tok k x).2.1 ≤ m := by
 unfold tok
 split
 ·exact Nat.zero_le _
 ·exact h
theorem oneL_le (l : List UInt8) : (oneL l).2.1 ≤ l.length := by
 rcases l with _ | ⟨c, t⟩
 ·exact Nat.zero_le _
 have hq := quotF_le t.length t
 have hq2 := quotF_le (t.drop 1).length (t.drop 1)
 simp only [oneL]
 split
 ·exact spaceLen_le _
 split
 ·exact tok_le (lineL_le _) rfl
 split
 ·exact tok_le (comL_le _) rfl
 split
 ·simp
 split
 ·refine tok_le ?_ rfl
  show 1 + (quotF t.length t).2.1 ≤ _
  rw [List.length_cons]; omega
 split
 ·rename_i hp
  refine tok_le ?_ rfl
  show 2 + (quotF (t.drop 1).length (t.drop 1)).2.1 ≤ _
  have h2 : t.take 1 = [34] := by simpa [pre] using hp.2
  have := congrArg List.length h2
  rw [List.length_take] at this
  rw [List.length_drop] at hq2
  simp only [List.length_cons, List.length_nil, List.length_drop] at this ⊢
  omega
 split
 ·exact tok_le (wordL_le _) rfl
 ·exact Nat.zero_le _
/-! Next: the token at an offset. -/
theorem cell_of_alloc (w : World) (cs : Array Value) (t : TypeId) (i : Nat) : (w.alloc (.cells cs t)).cell? ⟨w.heap.size, i, none⟩ = cs[i]? := cell_of_row (w.alloc (.cells cs t)) w.heap.size i cs t (0, 0) (heap_alloc_new w _)
def nextV (s : ByteArray) (k : Nat) : Value × Nat :=
 if (oneL ((L s).drop k)).2.2 ≠ 0 then (.agg #[.int .i64 0, .string ⟨#[]⟩, .int .i64 0], (oneL ((L s).drop k)).2.2)
 else (.agg #[.int .i64 (oneL ((L s).drop k)).1, .string (s.extract k (k + (oneL ((L s).drop k)).2.1)), .int .i64 k], 0)
end Go.Proofs.YtpkecepelcppiaaGreatDoor

namespace Go.Proofs.YtpkecepelcppiaaGreatDoor
open Go.RowKit
set_option maxHeartbeats 1000000
set_option maxRecDepth 100000

def tk (x : Nat × ByteArray × Nat) : List Value := [.int .i64 x.1, .string x.2.1, .int .i64 x.2.2]
end Go.Proofs.YtpkecepelcppiaaGreatDoor
