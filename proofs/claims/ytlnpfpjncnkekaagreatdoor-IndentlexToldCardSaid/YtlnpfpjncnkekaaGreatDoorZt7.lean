/- The package datakitref03, walked: Boundaries, Bad, Valid. Conditions: the string has at most 2^31 bytes. -/
import Derived.Test.YtlnpfpjncnkekaaGreatDoorZt4
import Derived.Deep.DeepCutAuto
import Derived.Deep.CutBlock
namespace Go.Proofs.YtlnpfpjncnkekaaGreatDoor
open Go.RowKit
set_option maxHeartbeats 1000000
set_option maxRecDepth 100000

theorem hdR_lt (b : UInt8) : 1 ≤ (hdR b.toNat).1 ∧ (hdR b.toNat).1 ≤ 4 ∧ (hdR b.toNat).2 < 256 := by
  have := b.toNat_lt
  unfold hdR
  repeat' split
  all_goals simp
  all_goals omega
/-- What stands behind the choice of the size: the loop, the encoding, the comparison. -/
theorem Decode3_any (s : ByteArray) (k : Nat) (w : World) (hs : s.size ≤ maxLen) :
    Calls Tryz.prog 174 #[.string s, .int .i64 k] w fun e w' => e = .returned (.tuple #[.int .i64 (dec ((L s).drop k)).1, .int .i64 (dec ((L s).drop k)).2]) ∧ Below w.heap.size w w' := by
  unfold maxLen at hs
  rw [← decR_eq]
  by_cases h1 : s.size ≤ k
  · have hz : decR ((L s).drop k) = (0, 0) := by rw [L_drop_nil s k h1]; rfl
    have HZ := Lib.hid hz; clear hz
    go_enter Tryz.func174, Tryz.ntmps174
    go_wp2_with fail
    go_ret2
    exact ⟨by rw [HZ.out]; rfl, Below.refl _ _⟩
  have h2 : k < s.size := by omega
  have h0 : ¬ (k : Int) < 0 := by omega
  have hd0 : decR ((L s).drop k) = if s.size - k < (hdR s[k].toNat).1 then (0, 0) else if scal (contR ((hdR s[k].toNat).1 - 1) (hdR s[k].toNat).2 ((L s).drop (k + 1))) ∧ enc (contR ((hdR s[k].toNat).1 - 1) (hdR s[k].toNat).2 ((L s).drop (k + 1))) = ((L s).drop k).take (hdR s[k].toNat).1 then (contR ((hdR s[k].toNat).1 - 1) (hdR s[k].toNat).2 ((L s).drop (k + 1)), (hdR s[k].toNat).1) else (0, 0) := by
    rw [L_drop s k h2, ← show ((L s).drop (k + 1)).length + 1 = s.size - k by rw [List.length_drop, L_len]; omega]
    rfl
  have HD := Lib.hid hd0; clear hd0
  obtain ⟨hb1, hb2, hb3⟩ := hdR_lt s[k]
  have hB : (s[k].toNat : Int) < 256 := by have := s[k].toNat_lt; omega
  have hh : Hid (hdR s[k].toNat = if 240 ≤ s[k].toNat then (4, s[k].toNat % 8) else if 224 ≤ s[k].toNat then (3, s[k].toNat % 16) else if 192 ≤ s[k].toNat then (2, s[k].toNat % 32) else (1, s[k].toNat)) := rfl
  generalize hdR s[k].toNat = h at *
  go_enter Tryz.func174, Tryz.ntmps174
  go_upto_block 0 with fail
  go_cut [7, 8] (fun n r w' => n = .int .i64 h.1 ∧ r = .int .i64 h.2 ∧ w' = w)
  case first =>
    go_wp2_with fail
    all_goals
      go_meet
      have hh := hh.out
      simp (disch := omega) only [if_pos, if_neg] at hh
      exact ⟨by rw [hh]; rfl, by rw [hh]; try (first | rfl | rw [and7 _ (by omega)] | rw [and15 _ (by omega)] | rw [and31 _ (by omega)]), rfl⟩
  case rest =>
    obtain ⟨rfl, rfl, rfl⟩ := hcut
    obtain ⟨n, r0⟩ := h
    clear hh
    simp only at HD hb1 hb2 hb3
    by_cases hl : s.size - k < n
    · have hl' : (s.size : Int) - k < n := by omega
      go_wp2_with fail
      go_ret2
      exact ⟨by rw [HD.out, if_pos hl]; rfl, Below.refl _ _⟩
    have hl' : ¬ (s.size : Int) - k < n := by omega
    have HE : Hid (decR ((L s).drop k) = if scal (contR (n - 1) r0 ((L s).drop (k + 1))) ∧ enc (contR (n - 1) r0 ((L s).drop (k + 1))) = ((L s).drop k).take n then (contR (n - 1) r0 ((L s).drop (k + 1)), n) else (0, 0)) := by
      unfold Hid
      rw [HD.out, if_neg hl]
    clear HD
    go_wp2_with fail
    go_loop [8, 9] (fun a i => ∃ (j r : Nat), 1 ≤ j ∧ j ≤ n ∧ r < 256 * 64 ^ (j - 1) ∧ i = .int .i64 j ∧ a = .int .i64 r ∧ Hid (contR (n - 1) r0 ((L s).drop (k + 1)) = contR (n - j) r ((L s).drop (k + j)))) (fun _ i => n - (intOf i).toNat)
    case atStart => exact ⟨1, r0, Nat.le_refl _, by omega, by simpa using hb3, rfl, rfl, rfl⟩
    case round =>
      obtain ⟨j, r, hj1, hj2, hr, rfl, rfl, HC⟩ := hrel
      by_cases hlt : j < n
      · have hjs : k + j < s.size := by omega
        have HC' : Hid (contR (n - j) r ((L s).drop (k + j)) = contR (n - (j + 1)) (r * 64 + s[k + j].toNat % 64) ((L s).drop (k + (j + 1)))) := by
          rw [L_drop s (k + j) hjs, show n - j = n - (j + 1) + 1 by omega]
          rfl
        have hr1 : r < 256 * 64 ^ 3 := Nat.lt_of_lt_of_le hr (Nat.mul_le_mul_left _ (Nat.pow_le_pow_right (by omega) (by omega)))
        have hr2 : Hid (r < 100000000) := (by omega : r < 100000000)
        have HR := Lib.hid hr; clear hr hr1
        have hbj : (s[k + j].toNat : Int) < 256 := by have := s[k + j].toNat_lt; omega
        go_wp2_with fail
        refine ⟨⟨j + 1, r * 64 + s[k + j].toNat % 64, by omega, by omega, ?_, rfl, by rw [or64' _ _ hr2.out (by omega)], ?_⟩, by simp [intOf]; omega⟩
        · have := HR.out
          rw [show j + 1 - 1 = j - 1 + 1 by omega, Nat.pow_succ]
          have : s[k + j].toNat % 64 < 64 := Nat.mod_lt _ (by decide)
          omega
        · unfold Hid
          rw [HC.out, HC'.out]
      · obtain rfl : j = n := by omega
        rw [Nat.sub_self] at HC
        have HF : Hid (decR ((L s).drop k) = if scal r ∧ enc r = ((L s).drop k).take j then (r, j) else (0, 0)) := by
          unfold Hid
          rw [HE.out, HC.out]
          rfl
        clear HC HE
        have HR := Lib.hid hr; clear hr
        by_cases hsc : scal r = true
        · by_cases he : enc r = ((L s).drop k).take j
          · have hq : (enc r == (s.extract k (k + j)).toList) = true := beq_true (by rw [toList_ext]; exact he)
            have HH := Lib.hid he; clear he
            go_wp2_with fail
            refine (Encode3_any _ _ hsc).mono ?_
            rintro e w' ⟨rfl, hb⟩
            go_wp2_with fail
            go_ret2
            exact ⟨by rw [HF.out, if_pos ⟨hsc, HH.out⟩]; rfl, hb⟩
          · have hq : (enc r == (s.extract k (k + j)).toList) = false := beq_false (by rw [toList_ext]; exact he)
            have HH := Lib.hid he; clear he
            go_wp2_with fail
            refine (Encode3_any _ _ hsc).mono ?_
            rintro e w' ⟨rfl, hb⟩
            go_wp2_with fail
            go_ret2
            exact ⟨by rw [HF.out, if_neg (fun h => HH.out h.2)]; rfl, hb⟩
        · have hsc' : scal r = false := by simpa using hsc
          go_wp2_with fail
          refine (Encode3_no _ _ hsc').mono ?_
          rintro e w' ⟨rfl, hb⟩
          go_wp2_with fail
          go_ret2
          exact ⟨by rw [HF.out, if_neg (fun h => hsc h.1)]; rfl, hb⟩
end Go.Proofs.YtlnpfpjncnkekaaGreatDoor

namespace Go.Proofs.YtlnpfpjncnkekaaGreatDoor
open Go.RowKit
set_option maxHeartbeats 1000000
set_option maxRecDepth 100000

theorem elem_int : Elem Tryz.prog 149 3 1 := elem_of (z := .int .i64 0) (bytes := 8) Tryz.underlying149 (by kernel_rfl) (by decide) (by decide) rfl
abbrev iv (n : Nat) : Value := .int .i64 (n : Int)

theorem Boundaries_any (s : ByteArray) (w : World) (hs : s.size ≤ 1000000000) :
    Calls Tryz.prog 144 #[.string s] w fun e w' => ∃ v, e = .returned (.tuple #[v, .bool (validL (L s))]) ∧ w'.ownsRow w.heap.size 3 1 v (btL 0 (L s)).length.succ ((0 :: btL 0 (L s)).map iv) ∧ Below w.heap.size w w' := by
  have hm : s.size ≤ maxLen := by simp only [maxLen]; omega
  go_enter Tryz.func144, Tryz.ntmps144
  go_wp2_with fail
  go_loopw [4, 5, 6, 7] (fun v at_ _ _ wr => ∃ (k : Nat) (acc : List Nat), k ≤ s.size ∧ at_ = .int .i64 k ∧ acc.length ≤ k + 1 ∧ wr.ownsRow w.heap.size 3 1 v acc.length (acc.map iv) ∧ Hid (acc ++ btL k ((L s).drop k) = 0 :: btL 0 (L s)) ∧ Hid (badL (L s) = k + badL ((L s).drop k)) ∧ Below w.heap.size w wr) (fun _ at_ _ _ _ => s.size - (intOf at_).toNat)
  case atStart =>
    refine ⟨0, [0], Nat.zero_le _, rfl, by simp, ?_, rfl, ?_, (Below.refl _ _).alloc (Nat.le_refl _) _⟩
    · exact World.ownsRow_lit (base := w.heap.size) (size := 1) w #[.int .i64 0] 1 (Nat.le_refl _) (by decide) rfl
    · unfold Hid; simp
  case round =>
    obtain ⟨k, acc, hk, rfl, hal, hown, HA, HB, hbw⟩ := hrel
    by_cases hlt : k < s.size
    · have hd2 := dec_le ((L s).drop k)
      rw [List.length_drop, L_len] at hd2
      have hA1 := btL_eq k ((L s).drop k)
      have hB1 := badL_eq ((L s).drop k)
      have HA1 := Lib.hid hA1; clear hA1
      have HB1 := Lib.hid hB1; clear hB1
      go_wp2_with fail
      refine (Decode3_any s k _ hm).mono ?_
      rintro e w1 ⟨rfl, hb1⟩
      have hown1 := own_below hown hb1
      have hbw1 : Below w.heap.size w w1 := hbw.trans (hb1.mono hbw.size)
      clear hown hbw hb1
      generalize (dec ((L s).drop k)).1 = r at *
      generalize hnn : (dec ((L s).drop k)).2 = n at *
      clear hnn
      by_cases hn : n = 0
      · have hn0 : ((n : Int) == 0) = true := beq_iff_eq.2 (by omega)
        have HN := Lib.hid hn; clear hn
        go_wp2_with fail
        go_ret2
        obtain rfl := HN.out
        have hA2 : acc = 0 :: btL 0 (L s) := by
          have := HA.out
          rw [HA1.out] at this
          simpa using this
        have hv : validL (L s) = false := by
          have h1 := HB.out
          rw [HB1.out] at h1
          unfold validL
          rw [L_len, h1]
          simp; omega
        refine ⟨u4, by rw [hv]; rfl, ?_, hbw1⟩
        rw [hA2] at hown1
        exact hown1
      · have hn0 : ((n : Int) == 0) = false := beq_eq_false_iff_ne.2 (by omega)
        have hz : w.heap.size ≤ w1.heap.size := hbw1.size
        go_wp2_with (at_builtin; refine wp_push elem_int rfl _ _ rfl hown1 [.int .i64 (k + n)] rfl (by simp [Value.oneCell']) rfl rfl (by omega) hz ?_; intro v' w2 hown2 hg2 hb2)
        refine ⟨⟨k + n, acc ++ [k + n], by omega, rfl, by simp; omega, by rw [List.map_append, List.length_append]; exact hown2, ?_, ?_, hbw1.trans hb2⟩, by simp [intOf]; omega⟩
        · unfold Hid
          rw [← HA.out, HA1.out, if_neg hn, List.drop_drop]
          simp
        · unfold Hid
          rw [HB.out, HB1.out, if_neg hn, List.drop_drop]
          omega
    · obtain rfl : k = s.size := by omega
      have hnil : (L s).drop s.size = [] := L_drop_nil s _ (Nat.le_refl _)
      have hA2 : acc = 0 :: btL 0 (L s) := by
        have := HA.out
        rw [hnil, show btL s.size [] = [] from rfl] at this
        simpa using this
      have hv : validL (L s) = true := by
        have h1 := HB.out
        rw [hnil, show badL [] = 0 from rfl] at h1
        unfold validL
        rw [L_len, h1]
        simp
      have HV := Lib.hid hv
      have HA2 := Lib.hid hA2
      clear hv hA2 hnil HA HB
      go_wp2_with fail
      go_ret2
      refine ⟨u4, by rw [HV.out]; rfl, ?_, hbw⟩
      rw [HA2.out] at hown
      exact hown

theorem Valid3_any (s : ByteArray) (w : World) (hs : s.size ≤ 1000000000) :
    Calls Tryz.prog 88 #[.string s] w fun e w' => e = .returned (.bool (validL (L s))) ∧ Below w.heap.size w w' := by
  go_enter Tryz.func88, Tryz.ntmps88
  go_wp2_with fail
  refine (Boundaries_any s _ hs).mono ?_
  rintro e w1 ⟨v, rfl, hown, hb⟩
  go_wp2_with fail
  go_ret
  exact ⟨rfl, hb⟩

end Go.Proofs.YtlnpfpjncnkekaaGreatDoor
