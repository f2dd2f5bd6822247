/- unicode/utf8.DecodeRuneInString, indentlex.invalid walked. Conditions: the tables of unicode/utf8 as they are; strings of at most 10^11 bytes. -/
import Derived.Test.YtlnpfpjncnkekaaGreatDoorZt4
import Derived.Test.YtlnpfpjncnkekaaGreatDoorZt8
import Derived.Test.YtlnpfpjncnkekaaGreatDoorShelf
import Derived.Lib.OthersKept
namespace Go.Proofs.YtlnpfpjncnkekaaGreatDoor
open Go.RowKit
set_option maxHeartbeats 2000000
set_option maxRecDepth 100000

/-- The tables of unicode/utf8. -/
def TabU (w : World) : Prop := Lib.Utf8Tabs 0 1 w
theorem TabU.below {w w' : World} (h : TabU w) (hb : Below w.heap.size w w') : TabU w' := Utf8Tabs_below h hb
/-- What the library's decoder hands back. -/
def decG (l : List UInt8) : Nat × Nat := if l = [] then (65533, 0) else if (dec l).2 = 0 then (65533, 1) else dec l
theorem decodeGo_L (t : ByteArray) : Lib.decodeGo t = decG (L t) := by
  unfold Lib.decodeGo decG
  by_cases h : t.size = 0
  · have h0 : L t = [] := List.eq_nil_of_length_eq_zero (by rw [L_len]; exact h)
    rw [if_pos h, if_pos h0]
  · have h0 : L t ≠ [] := fun h' => h (by rw [← L_len, h']; rfl)
    rw [if_neg h, if_neg h0, utf8_dec t 0 (by omega), List.drop_zero]
theorem DecodeG_any (t : ByteArray) (w : World) (hT : TabU w) :
    Calls Tryz.prog 80 #[.string t] w fun e w' => e = .returned (.tuple #[.int .i32 ((decG (L t)).1 : Nat), .int .i64 ((decG (L t)).2 : Nat)]) ∧ Below w.heap.size w w' := by
  rw [← decodeGo_L]
  exact Tryz.utf8_DecodeRuneInString t w hT
theorem decG_wid (l : List UInt8) (h : l ≠ []) : 1 ≤ (decG l).2 ∧ (decG l).2 ≤ l.length ∧ (decG l).2 = max 1 (dec l).2 := by
  have hle := dec_le l
  have hl := List.length_pos_iff.2 h
  unfold decG
  rw [if_neg h]
  split
  · rename_i h0
    rw [h0]
    exact ⟨Nat.le_refl _, hl, rfl⟩
  · omega
theorem iterPos_at {w : World} {g k : Nat} {s : ByteArray} (h : w.heap[g]? = some (.stringIter s k)) : w.iterPos g = k := by
  unfold World.iterPos
  rw [h]
theorem invalidI_any (s : ByteArray) (w : World) (hs : s.size ≤ 100000000000) (hT : TabU w) :
    Calls Tryz.prog 35 #[.string s] w fun e w' => e = .returned (.int .i64 (invR (L s))) ∧ Below w.heap.size w w' := by
  have hm : s.size ≤ maxLen := by simp only [maxLen]; omega
  have HT := Lib.hid hT
  clear hT
  go_enter Tryz.func35, Tryz.ntmps35
  go_wp2_with fail
  go_loopw [3, 4, 5, 6] (fun _ _ _ _ wr => ∃ k : Nat, Hid (wr.heap[w.heap.size]? = some (.stringIter s k)) ∧ Below w.heap.size w wr ∧ k ≤ s.size ∧ Hid (badL (L s) = k + badL ((L s).drop k))) (fun _ _ _ _ wr => s.size - wr.iterPos w.heap.size)
  case atStart => exact ⟨0, (by unfold Hid; show (w.heap.push (.stringIter s 0))[w.heap.size]? = _; exact Array.getElem?_push_size), below_iter _ _ _, Nat.zero_le _, by unfold Hid; simp⟩
  case round =>
    obtain ⟨k, HI, hbw, hk, HR⟩ := hrel
    have HBW := Lib.hid hbw
    clear hbw
    by_cases hlt : k < s.size
    · have hu := utf8_dec s k hlt
      have hB := badL_eq ((L s).drop k)
      have hle := dec_le ((L s).drop k)
      rw [List.length_drop, L_len] at hle
      have hn := fun ty => Lib.run_next_any_at (P := Tryz.prog) wr w.heap.size s k ty HI.out hlt
      have hne : (L s).drop k ≠ [] := by
        intro h
        have := congrArg List.length h
        rw [List.length_drop, L_len, List.length_nil] at this
        omega
      have HD := Lib.hid (fun w' (hT : TabU w') => DecodeG_any (s.extract k s.size) w' hT)
      rw [L_from] at HD
      have hip : wr.iterPos w.heap.size = k := iterPos_at HI.out
      rw [hip]
      clear hip
      by_cases hz : (dec ((L s).drop k)).2 = 0
      · rw [if_pos hz] at hu hB
        simp only [hu] at hn
        have hv : invR (L s) = k := by
          unfold invR
          rw [HR.out, hB, if_neg (by rw [L_len]; omega)]
          omega
        have hd : decG ((L s).drop k) = (65533, 1) := by
          unfold decG
          rw [if_neg hne, if_pos hz]
        rw [hd] at HD
        have HV := Lib.hid hv
        have HB1 : Hid (∀ pos, Below w.heap.size w (wr.iterAt w.heap.size s pos)) := fun pos => Lib.below_iterAt HBW.out (Nat.le_refl _) s pos
        clear hu hB hz hv HR hd hne hle
        go_wp2_with (go_at_call 80; refine (HD.out _ (HT.out.below (HB1.out _))).mono ?_; rintro e w' ⟨rfl, hb⟩; have HB2 := Lib.hid ((HB1.out _).trans (hb.mono (HB1.out _).size)); clear hb)
        go_ret
        exact ⟨ret_i64 HV.out.symm, HB2.out⟩
      · rw [if_neg hz] at hu hB
        simp only [hu] at hn
        have HB : Hid (badL (L s) = (k + (dec ((L s).drop k)).2) + badL ((L s).drop (k + (dec ((L s).drop k)).2))) := by
          unfold Hid
          rw [HR.out, hB, List.drop_drop]
          omega
        have hd : decG ((L s).drop k) = dec ((L s).drop k) := by
          unfold decG
          rw [if_neg hne, if_neg hz]
        rw [hd] at HD
        have hcs := dec_cases ((L s).drop k)
        have HB1 : Hid (∀ pos, Below w.heap.size w (wr.iterAt w.heap.size s pos)) := fun pos => Lib.below_iterAt HBW.out (Nat.le_refl _) s pos
        have HI1 : Hid (∀ pos, (wr.iterAt w.heap.size s pos).heap[w.heap.size]? = some (.stringIter s pos)) := fun pos => Lib.iterAt_heap wr w.heap.size s k pos HI.out
        clear hu hB HR hd hne
        generalize dec ((L s).drop k) = rn at *
        obtain ⟨r, n⟩ := rn
        dsimp only at hz hn HB HD hle hcs
        by_cases hr : r = 65533
        · have h1 : n ≠ 1 := by
            rcases hcs with h | ⟨r', n', h, -, hw, -, -, -, -⟩
            · cases h
              exact absurd rfl hz
            · cases h
              subst hr
              intro h1
              rw [h1] at hw
              exact absurd hw (by decide)
          have hq1 : ((n : Int) == 1) = false := by rw [beq_eq_false_iff_ne]; omega
          subst hr
          have HZ : Hid (1 ≤ n) := by unfold Hid; omega
          clear hz h1 hcs
          go_wp2_with (go_at_call 80; refine (HD.out _ (HT.out.below (HB1.out _))).mono ?_; rintro e w' ⟨rfl, hb⟩; have HB2 := Lib.hid ((HB1.out _).trans (hb.mono (HB1.out _).size)); have HI2 := Lib.hid ((hb.block w.heap.size (Array.getElem?_eq_some_iff.1 (HI1.out _)).1).trans (HI1.out _)); clear hb)
          refine ⟨⟨k + n, HI2.out, HB2.out, by omega, HB⟩, ?_⟩
          rw [iterPos_at HI2.out]
          have := HZ.out
          omega
        · have hq : ((r : Int) == 65533) = false := by rw [beq_eq_false_iff_ne]; omega
          have HZ : Hid (1 ≤ n) := by unfold Hid; omega
          clear hz hr hcs
          go_wp2_with fail
          refine ⟨⟨k + n, HI1.out _, HB1.out _, by omega, HB⟩, ?_⟩
          rw [iterPos_at (HI1.out _)]
          have := HZ.out
          omega
    · have hn := fun ty => Lib.run_next_end_at (P := Tryz.prog) wr w.heap.size s k ty HI.out hlt
      have hv : invR (L s) = -1 := by
        unfold invR
        rw [if_pos]
        rw [HR.out, L_drop_nil s k (by omega), L_len]
        show k + 0 = s.size
        omega
      have HV := Lib.hid hv; clear hv HR
      go_wp2_with fail
      go_ret
      exact ⟨ret_i64 HV.out.symm, HBW.out⟩
end Go.Proofs.YtlnpfpjncnkekaaGreatDoor
