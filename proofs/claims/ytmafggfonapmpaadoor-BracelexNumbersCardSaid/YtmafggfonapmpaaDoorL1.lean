/- The package datakitlaw19, walked: awake; Next at any offset; BracelexNexts. Conditions: strings of at most 10^11 bytes. -/
import Derived.Test.YtmafggfonapmpaaDoorR7
import Derived.Deep.DeepCutAuto
import Derived.Deep.CutBlock
namespace Go.Proofs.YtmafggfonapmpaaDoor
open Go.RowKit
set_option maxHeartbeats 1000000
set_option maxRecDepth 100000

def tokZ : Value := .agg #[.int .i64 0, .string ⟨#[]⟩, .int .i64 0]
theorem aw_next : nextV ⟨#[123, 97, 58, 32, 49]⟩ 1 = (.agg #[.int .i64 6, .string ⟨#[97]⟩, .int .i64 1], 0) := by
  have h : oneL ((L ⟨#[123, 97, 58, 32, 49]⟩).drop 1) = (6, 1, 0) := by decide +kernel
  unfold nextV
  rw [h]
  rfl
theorem aw_unq : unqL (L ⟨#[34, 92, 117, 48, 48, 101, 57, 34]⟩) = ([195, 169], 0) := by decide +kernel
theorem aw_bare : bareL (L ⟨#[36, 97, 49]⟩) = true := by decide +kernel
theorem awake_any (w : World) :
    Calls Tryd.prog 4 #[] w fun e w' => e = .returned (.bool true) ∧ Below w.heap.size w w' := by
  have A1 := Lib.hid aw_next
  have A2 := Lib.hid aw_unq
  have A3 := Lib.hid aw_bare
  have hz3 : (⟨#[36, 97, 49]⟩ : ByteArray).size ≤ maxLen := by simp only [maxLen]; decide
  go_enter Tryd.func4, Tryd.ntmps4
  go_wp2_with (go_at_call 9; refine (Next_any ⟨#[123, 97, 58, 32, 49]⟩ 1 _ (by decide) (by decide)).mono ?_; rintro e w1 ⟨rfl, hb1⟩; rw [A1.out])
  refine (Unquote_any ⟨#[34, 92, 117, 48, 48, 101, 57, 34]⟩ _ (by decide)).mono ?_
  rintro e w2 ⟨rfl, hb2⟩
  rw [A2.out]
  have hbb : Below w.heap.size w w2 := (hb1.alloc hb1.size _).trans (hb2.mono (by have := hb1.size; simp; omega))
  have hcell : ∀ i, w2.cell? ⟨w1.heap.size, i, none⟩ = #[Value.int .i64 6, .string ⟨#[97]⟩, .int .i64 1][i]? := fun i => by
    rw [hb2.cell (p := ⟨w1.heap.size, i, none⟩) (by simp)]
    exact cell_of_alloc w1 _ _ i
  have c0 : w2.cell? ⟨w1.heap.size, 0, none⟩ = some (.int .i64 6) := hcell 0
  have c1 : w2.cell? ⟨w1.heap.size, 1, none⟩ = some (.string ⟨#[97]⟩) := hcell 1
  have c2 : w2.cell? ⟨w1.heap.size, 2, none⟩ = some (.int .i64 1) := hcell 2
  clear hcell
  go_wp2_with (go_at_call 7; refine (Bare_any ⟨#[36, 97, 49]⟩ _ hz3).mono ?_; rintro e w3 ⟨rfl, rfl⟩; rw [A3.out])
  go_ret
  exact ⟨rfl, hbb⟩

/-- What Next hands back at any offset. -/
def nextA (s : ByteArray) (at_ : Int) : Value × Nat :=
  if at_ < 0 ∨ (s.size : Int) < at_ then (tokZ, 1) else if at_ = s.size then (tokZ, 7) else nextV s at_.toNat
theorem nextA_form (s : ByteArray) (at_ : Int) : ∃ (a b e : Nat) (t : ByteArray), nextA s at_ = (.agg #[.int .i64 a, .string t, .int .i64 b], e) := by
  unfold nextA
  split
  · exact ⟨0, 0, 1, ⟨#[]⟩, rfl⟩
  split
  · exact ⟨0, 0, 7, ⟨#[]⟩, rfl⟩
  unfold nextV
  split
  · exact ⟨0, 0, _, ⟨#[]⟩, rfl⟩
  · exact ⟨_, _, 0, _, rfl⟩
theorem NextA_any (s : ByteArray) (at_ : Int) (w : World) (hs : s.size ≤ 100000000000) :
    Calls Tryd.prog 9 #[.string s, .int .i64 at_] w fun e w' => e = .returned (.tuple #[(nextA s at_).1, .int .i64 (nextA s at_).2]) ∧ Below w.heap.size w w' := by
  by_cases h0 : at_ < 0 ∨ (s.size : Int) < at_
  · have HF : Hid (nextA s at_ = (tokZ, 1)) := by unfold Hid nextA; rw [if_pos h0]
    by_cases h1 : at_ < 0
    · clear h0
      go_enter Tryd.func9, Tryd.ntmps9
      go_wp2_with fail
      exact bodyPost_ret (v := .tuple #[tokZ, .int .i64 1]) (by simp [results, Tryd.results9, go_sem, tokZ]) rfl ⟨by rw [HF.out]; try rfl, (Below.refl _ _).alloc (Nat.le_refl _) _⟩
    · have h2 : (s.size : Int) < at_ := by omega
      clear h0
      go_enter Tryd.func9, Tryd.ntmps9
      go_wp2_with fail
      exact bodyPost_ret (v := .tuple #[tokZ, .int .i64 1]) (by simp [results, Tryd.results9, go_sem, tokZ]) rfl ⟨by rw [HF.out]; try rfl, (Below.refl _ _).alloc (Nat.le_refl _) _⟩
  by_cases h3 : at_ = s.size
  · have HF : Hid (nextA s at_ = (tokZ, 7)) := by unfold Hid nextA; rw [if_neg h0, if_pos h3]
    have h1 : ¬ at_ < 0 := by omega
    have h2 : ¬ (s.size : Int) < at_ := by omega
    have h4 : (at_ == s.size) = true := by rw [beq_iff_eq]; exact h3
    clear h0 h3
    go_enter Tryd.func9, Tryd.ntmps9
    go_wp2_with fail
    exact bodyPost_ret (v := .tuple #[tokZ, .int .i64 7]) (by simp [results, Tryd.results9, go_sem, tokZ]) rfl ⟨by rw [HF.out]; try rfl, (Below.refl _ _).alloc (Nat.le_refl _) _⟩
  · have hk : at_ = (at_.toNat : Int) := by omega
    have HF : nextA s at_ = nextV s at_.toNat := by unfold nextA; rw [if_neg h0, if_neg h3]
    rw [HF]
    have := Next_any s at_.toNat w (by omega) hs
    rwa [← hk] at this
end Go.Proofs.YtmafggfonapmpaaDoor
