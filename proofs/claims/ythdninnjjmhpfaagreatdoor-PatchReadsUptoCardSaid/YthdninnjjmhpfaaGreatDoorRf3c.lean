/- The package datakitref03, walked: Boundaries, Bad, Valid. Conditions: the string has at most 2^31 bytes. -/
import Derived.Test.YthdninnjjmhpfaaGreatDoorRf3b
import Derived.Test.YthdninnjjmhpfaaGreatDoorMem
namespace Go.Proofs.YthdninnjjmhpfaaGreatDoor
open Go.RowKit
set_option maxHeartbeats 1000000
set_option maxRecDepth 100000

theorem elem_int : Elem Tryz.prog 148 3 1 := elem_of (z := .int .i64 0) (bytes := 8) Tryz.underlying148 (by kernel_rfl) (by decide) (by decide) rfl
theorem ints_one (l : List Nat) : ∀ u ∈ l.map (fun n : Nat => Value.int .i64 (n : Int)), u.oneCell' = true := by
  intro u hu
  obtain ⟨n, _, rfl⟩ := List.mem_map.1 hu
  rfl
abbrev iv (n : Nat) : Value := .int .i64 (n : Int)

theorem Boundaries_any (s : ByteArray) (w : World) (hs : s.size ≤ 1000000000) :
    Calls Tryz.prog 134 #[.string s] w fun e w' => ∃ v, e = .returned (.tuple #[v, .bool (validL (L s))]) ∧ w'.ownsRow w.heap.size 3 1 v (btL 0 (L s)).length.succ ((0 :: btL 0 (L s)).map iv) ∧ Below w.heap.size w w' := by
  have hm : s.size ≤ maxLen := by simp only [maxLen]; omega
  go_enter Tryz.func134, Tryz.ntmps134
  go_wp2_with fail
  go_loopw [4, 5, 6, 7] (fun v at_ _ _ wr => ∃ (k : Nat) (acc : List Nat), k ≤ s.size ∧ at_ = .int .i64 k ∧ acc.length ≤ k + 1 ∧ wr.ownsRow w.heap.size 3 1 v acc.length (acc.map iv) ∧ Hid (acc ++ btL k ((L s).drop k) = 0 :: btL 0 (L s)) ∧ Hid (badL (L s) = k + badL ((L s).drop k)) ∧ Below w.heap.size w wr) (fun _ at_ _ _ _ => s.size - (intOf at_).toNat)
  case atStart =>
    refine ⟨0, [0], Nat.zero_le _, rfl, by simp, ?_, rfl, ?_, (Below.refl _ _).alloc (Nat.le_refl _) _⟩
    · exact World.ownsRow_lit (base := w.heap.size) (size := 1) w #[.int .i64 0] 1 (Nat.le_refl _) (by decide) rfl
    · unfold Hid; simp
  case round =>
    obtain ⟨k, acc, hk, rfl, hal, hown, HA, HB, hbw⟩ := hrel
    by_cases hlt : k < s.size
    · have hd2 := dec_le ((L s).drop k)
      rw [List.length_drop, L_len] at hd2
      have hA1 := btL_eq k ((L s).drop k)
      have hB1 := badL_eq ((L s).drop k)
      have HA1 := Lib.hid hA1; clear hA1
      have HB1 := Lib.hid hB1; clear hB1
      go_wp2_with fail
      refine (Decode3_any s k _ hm).mono ?_
      rintro e w1 ⟨rfl, hb1⟩
      have hown1 := own_below hown hb1
      have hbw1 : Below w.heap.size w w1 := hbw.trans (hb1.mono hbw.size)
      clear hown hbw hb1
      generalize (dec ((L s).drop k)).1 = r at *
      generalize hnn : (dec ((L s).drop k)).2 = n at *
      clear hnn
      by_cases hn : n = 0
      · have hn0 : ((n : Int) == 0) = true := beq_iff_eq.2 (by omega)
        have HN := Lib.hid hn; clear hn
        go_wp2_with fail
        go_ret2
        obtain rfl := HN.out
        have hA2 : acc = 0 :: btL 0 (L s) := by
          have := HA.out
          rw [HA1.out] at this
          simpa using this
        have hv : validL (L s) = false := by
          have h1 := HB.out
          rw [HB1.out] at h1
          unfold validL
          rw [L_len, h1]
          simp; omega
        refine ⟨u4, by rw [hv]; rfl, ?_, hbw1⟩
        rw [hA2] at hown1
        exact hown1
      · have hn0 : ((n : Int) == 0) = false := beq_eq_false_iff_ne.2 (by omega)
        have hz : w.heap.size ≤ w1.heap.size := hbw1.size
        go_wp2_with (at_builtin; refine wp_push elem_int rfl _ _ rfl hown1 [.int .i64 (k + n)] rfl (by simp [Value.oneCell']) rfl rfl (by omega) hz ?_; intro v' w2 hown2 hg2 hb2)
        refine ⟨⟨k + n, acc ++ [k + n], by omega, rfl, by simp; omega, by rw [List.map_append, List.length_append]; exact hown2, ?_, ?_, hbw1.trans hb2⟩, by simp [intOf]; omega⟩
        · unfold Hid
          rw [← HA.out, HA1.out, if_neg hn, List.drop_drop]
          simp
        · unfold Hid
          rw [HB.out, HB1.out, if_neg hn, List.drop_drop]
          omega
    · obtain rfl : k = s.size := by omega
      have hnil : (L s).drop s.size = [] := L_drop_nil s _ (Nat.le_refl _)
      have hA2 : acc = 0 :: btL 0 (L s) := by
        have := HA.out
        rw [hnil, show btL s.size [] = [] from rfl] at this
        simpa using this
      have hv : validL (L s) = true := by
        have h1 := HB.out
        rw [hnil, show badL [] = 0 from rfl] at h1
        unfold validL
        rw [L_len, h1]
        simp
      have HV := Lib.hid hv
      have HA2 := Lib.hid hA2
      clear hv hA2 hnil HA HB
      go_wp2_with fail
      go_ret2
      refine ⟨u4, by rw [HV.out]; rfl, ?_, hbw⟩
      rw [HA2.out] at hown
      exact hown

theorem Valid3_any (s : ByteArray) (w : World) (hs : s.size ≤ 1000000000) :
    Calls Tryz.prog 99 #[.string s] w fun e w' => e = .returned (.bool (validL (L s))) ∧ Below w.heap.size w w' := by
  go_enter Tryz.func99, Tryz.ntmps99
  go_wp2_with fail
  refine (Boundaries_any s _ hs).mono ?_
  rintro e w1 ⟨v, rfl, hown, hb⟩
  go_wp2_with fail
  go_ret
  exact ⟨rfl, hb⟩
end Go.Proofs.YthdninnjjmhpfaaGreatDoor
