/- base.finder, base.Decode walked. Conditions: strings of at most 10^9 bytes. -/
import Derived.Test.YtgddhkanfcpipaaGreatDoorZp2
import Derived.Test.YtgddhkanfcpipaaGreatDoorZk3
import Derived.Test.YtgddhkanfcpipaaGreatDoorZk7
namespace Go.Proofs.YtgddhkanfcpipaaGreatDoor
open Go.RowKit
set_option maxHeartbeats 4000000
set_option maxRecDepth 100000

abbrev letB : ByteArray := ⟨#[65, 66, 67, 68, 69, 70, 71, 72, 73, 74, 75, 76, 77, 78, 79, 80, 81, 82, 83, 84, 85, 86, 87, 88, 89, 90, 97, 98, 99, 100, 101, 102, 103, 104, 105, 106, 107, 108, 109, 110, 111, 112, 113, 114, 115, 116, 117, 118, 119, 120, 121, 122, 48, 49, 50, 51, 52, 53, 54, 55, 56, 57, 43, 47]⟩
theorem letB_L : L letB = lets := rfl
/-- The position, from k on, as a loop finds it. -/
theorem idxL_at (s : ByteArray) (c : UInt8) (k : Nat) (h : k < s.size) : idxL c k ((L s).drop k) = if s[k].toNat = c.toNat then (k : Int) else idxL c (k + 1) ((L s).drop (k + 1)) := by
  rw [L_drop s k h]
  rfl
theorem idxL_end (s : ByteArray) (c : UInt8) (k : Nat) (h : ¬ k < s.size) : idxL c k ((L s).drop k) = -1 := by
  rw [L_drop_nil s k (by omega)]
  rfl
theorem finder_any (a : ByteArray) (w : World) :
    Calls Tryz.prog 92 #[.string a] w fun e w' => e = .returned (.func (.func 155) #[] #[.pointer (some ⟨w.heap.size, 0, none⟩)]) ∧ w'.cell? ⟨w.heap.size, 0, none⟩ = some (.string a) ∧ w.heap.size < w'.heap.size ∧ Below w.heap.size w w' := by
  go_enter Tryz.func92, Tryz.ntmps92
  go_wp2_with fail
  go_ret
  refine ⟨rfl, ?_, ?_, ?_⟩
  · simp
  · simp
  · exact (Below.refl _ _).alloc (Nat.le_refl _) _
theorem pos_any (c : UInt8) (g : Nat) (w : World) (hc : w.cell? ⟨g, 0, none⟩ = some (.string letB)) :
    Calls Tryz.prog 155 #[.int .u8 (c.toNat : Int), .pointer (some ⟨g, 0, none⟩)] w fun e w' => e = .returned (.int .i64 (b64 c)) ∧ w = w' := by
  have hm : letB.size ≤ maxLen := by decide
  have hs : letB.size ≤ 1000 := by decide
  obtain ⟨r, hr⟩ : ∃ r, r = b64 c := ⟨_, rfl⟩
  rw [← hr]
  have HR0 : Hid (r = idxL c 0 ((L letB).drop 0)) := hr
  clear hr
  generalize hB : letB = s at *
  clear hB
  go_enter Tryz.func155, Tryz.ntmps155
  go_wp2_with fail
  go_loopw [4, 7] (fun _ iv wr => ∃ k : Nat, iv = .int .i64 (k : Int) ∧ k ≤ s.size ∧ Hid (r = idxL c k ((L s).drop k)) ∧ w = wr) (fun _ iv _ => s.size - (intOf iv).toNat)
  case atStart => exact ⟨0, rfl, Nat.zero_le _, HR0.out, rfl⟩
  case round =>
    clear HR0
    obtain ⟨k, rfl, hks, HR, rfl⟩ := hrel
    have hk0 : (0 : Int) ≤ (k : Int) := by omega
    by_cases hlt : k < s.size
    case neg =>
      have hr : r = -1 := by rw [HR.out]; exact idxL_end s c k hlt
      subst hr
      clear HR
      go_wp2_with fail
      go_ret
      exact ⟨rfl, rfl⟩
    have hst := HR.out
    rw [idxL_at s c k hlt] at hst
    clear HR
    by_cases hb : s[k].toNat = c.toNat
    · rw [if_pos hb] at hst
      subst hst
      have g1 : ((s[k].toNat : Int) == (c.toNat : Int)) = true := by rw [beq_iff_eq]; omega
      clear hb
      go_wp2_with fail
      go_ret
      exact ⟨rfl, rfl⟩
    · rw [if_neg hb] at hst
      have HN := Lib.hid hst
      have g1 : ((s[k].toNat : Int) == (c.toNat : Int)) = false := by rw [beq_eq_false_iff_ne]; omega
      clear hst hb
      go_wp2_with fail
      exact ⟨⟨k + 1, by go_num, by omega, HN.out, trivial⟩, by simp [intOf]; omega⟩
theorem find_any (c : UInt8) (w : World) :
    Calls Tryz.prog 158 #[.string letB, .int .u8 (c.toNat : Int)] w fun e w' => e = .returned (.int .i64 (b64 c)) ∧ w = w' := by
  have hm : letB.size ≤ maxLen := by decide
  have hs : letB.size ≤ 1000 := by decide
  obtain ⟨r, hr⟩ : ∃ r, r = b64 c := ⟨_, rfl⟩
  rw [← hr]
  have HR0 : Hid (r = idxL c 0 ((L letB).drop 0)) := hr
  clear hr
  generalize hB : letB = s at *
  clear hB
  go_enter Tryz.func158, Tryz.ntmps158
  go_wp2_with fail
  go_loopw [5] (fun iv wr => ∃ k : Nat, iv = .int .i64 (k : Int) ∧ k ≤ s.size ∧ Hid (r = idxL c k ((L s).drop k)) ∧ w = wr) (fun iv _ => s.size - (intOf iv).toNat)
  case atStart => exact ⟨0, rfl, Nat.zero_le _, HR0.out, rfl⟩
  case round =>
    clear HR0
    obtain ⟨k, rfl, hks, HR, rfl⟩ := hrel
    have hk0 : (0 : Int) ≤ (k : Int) := by omega
    by_cases hlt : k < s.size
    case neg =>
      have hr : r = -1 := by rw [HR.out]; exact idxL_end s c k hlt
      subst hr
      clear HR
      go_wp2_with fail
      go_ret
      exact ⟨rfl, rfl⟩
    have hst := HR.out
    rw [idxL_at s c k hlt] at hst
    clear HR
    by_cases hb : s[k].toNat = c.toNat
    · rw [if_pos hb] at hst
      subst hst
      have g1 : ((s[k].toNat : Int) == (c.toNat : Int)) = true := by rw [beq_iff_eq]; omega
      clear hb
      go_wp2_with fail
      go_ret
      exact ⟨rfl, rfl⟩
    · rw [if_neg hb] at hst
      have HN := Lib.hid hst
      have g1 : ((s[k].toNat : Int) == (c.toNat : Int)) = false := by rw [beq_eq_false_iff_ne]; omega
      clear hst hb
      go_wp2_with fail
      exact ⟨⟨k + 1, by go_num, by omega, HN.out, trivial⟩, by simp [intOf]; omega⟩
end Go.Proofs.YtgddhkanfcpipaaGreatDoor
