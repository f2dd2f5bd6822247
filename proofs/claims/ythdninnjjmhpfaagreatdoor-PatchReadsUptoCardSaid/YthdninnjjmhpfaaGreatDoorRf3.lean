/- The package datakitref03, walked: character, Encode, Decode, Boundaries, Bad, Valid. Conditions: the string has at most 2^31 bytes. -/
import Derived.Test.YthdninnjjmhpfaaGreatDoorEn
import Derived.Test.YthdninnjjmhpfaaGreatDoorDec
namespace Go.Proofs.YthdninnjjmhpfaaGreatDoor
open Go.RowKit
set_option maxHeartbeats 1000000
set_option maxRecDepth 100000

theorem character_any (r : Nat) (w : World) :
    Calls Tryz.prog 208 #[.int .i64 r] w fun e w' => e = .returned (.bool (scal r)) ∧ w = w' := by
  have h0 : (0 : Int) ≤ r := by omega
  by_cases h1 : (r : Int) ≤ 1114111
  · by_cases h2 : (r : Int) < 55296
    · go_enter Tryz.func208, Tryz.ntmps208
      go_wp2_with fail
      go_ret
      exact ⟨by rw [show scal r = true by simp [scal]; omega]; rfl, rfl⟩
    · by_cases h3 : (57343 : Int) < r
      · go_enter Tryz.func208, Tryz.ntmps208
        go_wp2_with fail
        go_ret
        exact ⟨by rw [show scal r = true by simp [scal]; omega]; rfl, rfl⟩
      · go_enter Tryz.func208, Tryz.ntmps208
        go_wp2_with fail
        go_ret
        exact ⟨by rw [show scal r = false by simp [scal]; omega]; rfl, rfl⟩
  · go_enter Tryz.func208, Tryz.ntmps208
    go_wp2_with fail
    go_ret
    exact ⟨by rw [show scal r = false by simp [scal]; omega]; rfl, rfl⟩


theorem Encode3_no (r : Nat) (w : World) (h0 : scal r = false) :
    Calls Tryz.prog 193 #[.int .i64 r] w fun e w' => e = .returned (.tuple #[.string ⟨([] : List UInt8).toArray⟩, .int .i64 2]) ∧ Below w.heap.size w w' := by
  go_enter Tryz.func193, Tryz.ntmps193
  go_wp2_with fail
  refine (character_any _ _).mono ?_
  rintro e w' ⟨rfl, rfl⟩
  go_wp2_with fail
  go_ret2
  exact ⟨rfl, Below.refl _ _⟩

theorem Encode3_1 (r : Nat) (w : World) (h0 : scal r = true) (h2 : Hid (r < 128)) :
    Calls Tryz.prog 193 #[.int .i64 r] w fun e w' => e = .returned (.tuple #[.string ⟨(enc r).toArray⟩, .int .i64 0]) ∧ Below w.heap.size w w' := by
  have g1 : ((r : Int) < 128) = True := eq_true (by have := h2.out; omega)
  go_enter Tryz.func193, Tryz.ntmps193
  go_wp2_with fail
  refine (character_any _ _).mono ?_
  rintro e w' ⟨rfl, rfl⟩
  go_wp2_with (rw [conv1])
  go_ret2
  refine ⟨ret_str_ok ?_, (Below.refl _ _).alloc (Nat.le_refl _) _⟩
  rw [← enc1 r h2.out]

theorem Encode3_2 (r : Nat) (w : World) (h0 : scal r = true) (h2 : Hid (128 ≤ r ∧ r < 2048)) :
    Calls Tryz.prog 193 #[.int .i64 r] w fun e w' => e = .returned (.tuple #[.string ⟨(enc r).toArray⟩, .int .i64 0]) ∧ Below w.heap.size w w' := by
  have g0 : ((r : Int) < 128) = False := eq_false (by have := h2.out; omega)
  have g2 : ((r : Int) < 2048) = True := eq_true (by have := h2.out; omega)
  go_enter Tryz.func193, Tryz.ntmps193
  go_wp2_with fail
  refine (character_any _ _).mono ?_
  rintro e w' ⟨rfl, rfl⟩
  go_wp2_with (rw [conv2])
  go_ret2
  refine ⟨ret_str_ok ?_, (Below.refl _ _).alloc (Nat.le_refl _) _⟩
  exact enc2 r h2.out.1 h2.out.2

theorem Encode3_3 (r : Nat) (w : World) (h0 : scal r = true) (h2 : Hid (2048 ≤ r ∧ r < 65536)) :
    Calls Tryz.prog 193 #[.int .i64 r] w fun e w' => e = .returned (.tuple #[.string ⟨(enc r).toArray⟩, .int .i64 0]) ∧ Below w.heap.size w w' := by
  have g0 : ((r : Int) < 128) = False := eq_false (by have := h2.out; omega)
  have g1 : ((r : Int) < 2048) = False := eq_false (by have := h2.out; omega)
  have g3 : ((r : Int) < 65536) = True := eq_true (by have := h2.out; omega)
  go_enter Tryz.func193, Tryz.ntmps193
  go_wp2_with fail
  refine (character_any _ _).mono ?_
  rintro e w' ⟨rfl, rfl⟩
  go_wp2_with (rw [conv3])
  go_ret2
  refine ⟨ret_str_ok ?_, (Below.refl _ _).alloc (Nat.le_refl _) _⟩
  exact enc3 r h2.out.1 h2.out.2

theorem Encode3_4 (r : Nat) (w : World) (h0 : scal r = true) (h2 : Hid (65536 ≤ r ∧ r < 2097152)) :
    Calls Tryz.prog 193 #[.int .i64 r] w fun e w' => e = .returned (.tuple #[.string ⟨(enc r).toArray⟩, .int .i64 0]) ∧ Below w.heap.size w w' := by
  have g0 : ((r : Int) < 128) = False := eq_false (by have := h2.out; omega)
  have g1 : ((r : Int) < 2048) = False := eq_false (by have := h2.out; omega)
  have g2 : ((r : Int) < 65536) = False := eq_false (by have := h2.out; omega)
  go_enter Tryz.func193, Tryz.ntmps193
  go_wp2_with fail
  refine (character_any _ _).mono ?_
  rintro e w' ⟨rfl, rfl⟩
  go_wp2_with (rw [conv4])
  go_ret2
  refine ⟨ret_str_ok ?_, (Below.refl _ _).alloc (Nat.le_refl _) _⟩
  exact enc4 r h2.out.1 h2.out.2

theorem Encode3_any (r : Nat) (w : World) (h0 : scal r = true) :
    Calls Tryz.prog 193 #[.int .i64 r] w fun e w' => e = .returned (.tuple #[.string ⟨(enc r).toArray⟩, .int .i64 0]) ∧ Below w.heap.size w w' := by
  rcases wid_cases r h0 with ⟨_, g⟩ | ⟨_, g⟩ | ⟨_, g⟩ | ⟨_, g⟩
  · exact Encode3_1 r w h0 g
  · exact Encode3_2 r w h0 g
  · exact Encode3_3 r w h0 g
  · exact Encode3_4 r w h0 g
end Go.Proofs.YthdninnjjmhpfaaGreatDoor
