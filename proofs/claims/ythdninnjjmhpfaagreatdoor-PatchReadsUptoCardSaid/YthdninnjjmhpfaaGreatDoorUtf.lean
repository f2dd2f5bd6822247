/- The package utf, walked: head, scalar, width, Decode. Conditions: the string has at most maxLen bytes. -/
import Derived.Test.YthdninnjjmhpfaaGreatDoorStr
import Derived.WalkSpells
import Derived.WalkLawsBesides
namespace Go.Proofs.YthdninnjjmhpfaaGreatDoor
open Go.RowKit
set_option maxHeartbeats 1000000
set_option maxRecDepth 100000

theorem hd_lt (b : Nat) : (hd b).1 ≤ 4 ∧ (hd b).2 < 128 := by
  unfold hd
  repeat' split
  all_goals constructor <;> simp <;> omega

theorem head_any (c : UInt8) (w : World) :
    Calls Tryz.prog 188 #[.int .u8 c.toNat] w fun e w' => e = .returned (.tuple #[.int .i64 (hd c.toNat).1, .int .i64 (hd c.toNat).2]) ∧ w = w' := by
  go_enter Tryz.func188, Tryz.ntmps188
  go_wp2_with fail
  all_goals
    go_ret2
    refine ⟨?_, rfl⟩
    unfold hd
    repeat (first | rw [if_pos (by omega)] | rw [if_neg (by omega)])
    try rfl

theorem scalar_any (r : Nat) (w : World) :
    Calls Tryz.prog 189 #[.int .i64 r] w fun e w' => e = .returned (.bool (scal r)) ∧ w = w' := by
  have h0 : (0 : Int) ≤ r := by omega
  by_cases h1 : (r : Int) ≤ 1114111
  · by_cases h2 : (r : Int) < 55296
    · go_enter Tryz.func189, Tryz.ntmps189
      go_wp2_with fail
      go_ret
      exact ⟨by rw [show scal r = true by simp [scal]; omega]; rfl, rfl⟩
    · by_cases h3 : (57343 : Int) < r
      · go_enter Tryz.func189, Tryz.ntmps189
        go_wp2_with fail
        go_ret
        exact ⟨by rw [show scal r = true by simp [scal]; omega]; rfl, rfl⟩
      · go_enter Tryz.func189, Tryz.ntmps189
        go_wp2_with fail
        go_ret
        exact ⟨by rw [show scal r = false by simp [scal]; omega]; rfl, rfl⟩
  · go_enter Tryz.func189, Tryz.ntmps189
    go_wp2_with fail
    go_ret
    exact ⟨by rw [show scal r = false by simp [scal]; omega]; rfl, rfl⟩

theorem width_any (r : Nat) (w : World) :
    Calls Tryz.prog 190 #[.int .i64 r] w fun e w' => e = .returned (.int .i64 (wid r)) ∧ w = w' := by
  by_cases h1 : (r : Int) < 128
  · go_enter Tryz.func190, Tryz.ntmps190
    go_wp2_with fail
    go_ret
    exact ⟨by rw [show wid r = 1 by unfold wid; simp (disch := omega) only [if_pos]]; rfl, rfl⟩
  by_cases h2 : (r : Int) < 2048
  · go_enter Tryz.func190, Tryz.ntmps190
    go_wp2_with fail
    go_ret
    exact ⟨by rw [show wid r = 2 by unfold wid; simp (disch := omega) only [if_pos, if_neg]]; rfl, rfl⟩
  by_cases h3 : (r : Int) < 65536
  · go_enter Tryz.func190, Tryz.ntmps190
    go_wp2_with fail
    go_ret
    exact ⟨by rw [show wid r = 3 by unfold wid; simp (disch := omega) only [if_pos, if_neg]]; rfl, rfl⟩
  · go_enter Tryz.func190, Tryz.ntmps190
    go_wp2_with fail
    go_ret
    exact ⟨by rw [show wid r = 4 by unfold wid; simp (disch := omega) only [if_neg]]; rfl, rfl⟩

theorem Decode_any (s : ByteArray) (k : Nat) (w : World) (hs : s.size ≤ maxLen) :
    Calls Tryz.prog 158 #[.string s, .int .i64 k] w fun e w' => e = .returned (.tuple #[.int .i64 (dec ((L s).drop k)).1, .int .i64 (dec ((L s).drop k)).2]) ∧ w = w' := by
  unfold maxLen at hs
  by_cases h1 : s.size ≤ k
  · have hz : dec ((L s).drop k) = (0, 0) := by rw [L_drop_nil s k h1]; rfl
    have HZ := Lib.hid hz; clear hz
    go_enter Tryz.func158, Tryz.ntmps158
    go_wp2_with fail
    go_ret2
    exact ⟨by rw [HZ.out]; rfl, rfl⟩
  have h2 : k < s.size := by omega
  have h0 : ¬ (k : Int) < 0 := by omega
  have hd0 : dec ((L s).drop k) = if (hd s[k].toNat).1 = 0 ∨ s.size - k < (hd s[k].toNat).1 then (0, 0) else match cont ((hd s[k].toNat).1 - 1) (hd s[k].toNat).2 ((L s).drop (k + 1)) with | none => (0, 0) | some r => if scal r ∧ wid r = (hd s[k].toNat).1 then (r, (hd s[k].toNat).1) else (0, 0) := by
    rw [L_drop s k h2, ← show ((L s).drop (k + 1)).length + 1 = s.size - k by rw [List.length_drop, L_len]; omega]
    rfl
  have HD := Lib.hid hd0; clear hd0
  obtain ⟨hb1, hb2⟩ := hd_lt s[k].toNat
  go_enter Tryz.func158, Tryz.ntmps158
  go_wp2_with fail
  refine (head_any _ _).mono ?_
  rintro e w' ⟨rfl, rfl⟩
  generalize hn : (hd s[k].toNat).1 = n at *
  generalize hr : (hd s[k].toNat).2 = r0 at *
  clear hn hr
  by_cases hz : n = 0
  · have HZ := Lib.hid hz; clear hz
    obtain rfl := HZ.out
    go_wp2_with fail
    go_ret2
    exact ⟨by rw [HD.out]; rfl, rfl⟩
  have hz0 : ((n : Int) == 0) = false := beq_eq_false_iff_ne.2 (by omega)
  by_cases hl : s.size - k < n
  · have hl' : (s.size : Int) - k < n := by omega
    go_wp2_with fail
    go_ret2
    exact ⟨by rw [HD.out, if_pos (.inr hl)]; rfl, rfl⟩
  have hl' : ¬ (s.size : Int) - k < n := by omega
  have HE : Hid (dec ((L s).drop k) = match cont (n - 1) r0 ((L s).drop (k + 1)) with | none => (0, 0) | some r => if scal r ∧ wid r = n then (r, n) else (0, 0)) := by
    unfold Hid
    rw [HD.out, if_neg (by omega)]
  clear HD
  go_wp2_with fail
  go_loop [4, 7, 8] (fun a i _ => ∃ (j r : Nat), 1 ≤ j ∧ j ≤ n ∧ r < 128 * 64 ^ (j - 1) ∧ i = .int .i64 j ∧ a = .int .i64 r ∧ Hid (cont (n - 1) r0 ((L s).drop (k + 1)) = cont (n - j) r ((L s).drop (k + j)))) (fun _ i _ => n - (intOf i).toNat)
  case atStart => exact ⟨1, r0, Nat.le_refl _, by omega, by simpa using hb2, rfl, rfl, rfl⟩
  case round =>
    obtain ⟨j, r, hj1, hj2, hr, rfl, rfl, HC⟩ := hrel
    by_cases hlt : j < n
    · have hjs : k + j < s.size := by omega
      have HC' : Hid (cont (n - j) r ((L s).drop (k + j)) = if s[k + j].toNat / 64 = 2 then cont (n - (j + 1)) (r * 64 + s[k + j].toNat % 64) ((L s).drop (k + (j + 1))) else none) := by
        rw [L_drop s (k + j) hjs, show n - j = n - (j + 1) + 1 by omega]
        rfl
      have hr1 : r < 128 * 64 ^ 3 := Nat.lt_of_lt_of_le hr (Nat.mul_le_mul_left _ (Nat.pow_le_pow_right (by omega) (by omega)))
      have hr2 : Hid (r < 100000000) := (by omega : r < 100000000)
      have HR := Lib.hid hr; clear hr hr1
      by_cases hc : s[k + j].toNat / 64 = 2
      · have hb : (bits BinOp.and IntKind.u8 (s[k + j].toNat : Int) 192 != 128) = false := by rw [and192, hc]; rfl
        go_wp2_with fail
        refine ⟨⟨j + 1, r * 64 + s[k + j].toNat % 64, by omega, by omega, ?_, rfl, by rw [or64 _ _ hr2.out], ?_⟩, by simp [intOf]; omega⟩
        · have := HR.out
          rw [show j + 1 - 1 = j - 1 + 1 by omega, Nat.pow_succ]
          have : s[k + j].toNat % 64 < 64 := Nat.mod_lt _ (by decide)
          omega
        · unfold Hid
          rw [HC.out, HC'.out, if_pos hc]
      · have hb : (bits BinOp.and IntKind.u8 (s[k + j].toNat : Int) 192 != 128) = true := by rw [and192]; simp [hc]
        go_wp2_with fail
        go_ret2
        exact ⟨by rw [HE.out, HC.out, HC'.out, if_neg hc]; rfl, rfl⟩
    · obtain rfl : j = n := by omega
      rw [Nat.sub_self] at HC
      have HF : Hid (dec ((L s).drop k) = if scal r ∧ wid r = j then (r, j) else (0, 0)) := by
        unfold Hid
        rw [HE.out, HC.out]
        rfl
      clear HC HE
      have HR := Lib.hid hr; clear hr
      by_cases hsc : scal r = true
      · by_cases hw : wid r = j
        · have hw' : ((wid r : Int) != j) = false := by rw [hw]; simp
          have HW := Lib.hid hw; clear hw
          go_wp2_with fail
          refine (scalar_any _ _).mono ?_
          rintro e w' ⟨rfl, rfl⟩
          go_wp2_with fail
          refine (width_any _ _).mono ?_
          rintro e w' ⟨rfl, rfl⟩
          go_wp2_with fail
          go_ret2
          exact ⟨by rw [HF.out, if_pos ⟨hsc, HW.out⟩]; rfl, rfl⟩
        · have hw' : ((wid r : Int) != j) = true := by rw [bne_iff_ne]; omega
          go_wp2_with fail
          refine (scalar_any _ _).mono ?_
          rintro e w' ⟨rfl, rfl⟩
          go_wp2_with fail
          refine (width_any _ _).mono ?_
          rintro e w' ⟨rfl, rfl⟩
          go_wp2_with fail
          go_ret2
          exact ⟨by rw [HF.out, if_neg (fun h => hw h.2)]; rfl, rfl⟩
      · have hsc' : scal r = false := by simpa using hsc
        go_wp2_with fail
        refine (scalar_any _ _).mono ?_
        rintro e w' ⟨rfl, rfl⟩
        go_wp2_with fail
        go_ret2
        exact ⟨by rw [HF.out, if_neg (fun h => hsc h.1)]; rfl, rfl⟩
end Go.Proofs.YthdninnjjmhpfaaGreatDoor
