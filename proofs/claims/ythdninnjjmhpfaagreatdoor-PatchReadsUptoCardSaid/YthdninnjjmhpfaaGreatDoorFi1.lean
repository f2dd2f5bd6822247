/- datakitref01.FromInt walked. Conditions: at most 10^15. -/
import Derived.Test.YthdninnjjmhpfaaGreatDoorTs
import Derived.Test.YthdninnjjmhpfaaGreatDoorRf3c
namespace Go.Proofs.YthdninnjjmhpfaaGreatDoor
open Go.RowKit
set_option maxHeartbeats 4000000
set_option maxRecDepth 100000

/-- The digits of a number, the last first. -/
def digQ (n : Nat) : List UInt8 := if h : n = 0 then [] else UInt8.ofNat (48 + n % 10) :: digQ (n / 10)
termination_by n
decreasing_by omega
def numL (n : Nat) : List UInt8 := (digQ n).reverse
theorem digQ_pos (n : Nat) (h : 0 < n) : digQ n = UInt8.ofNat (48 + n % 10) :: digQ (n / 10) := by
  rw [digQ, dif_neg (by omega)]
theorem digQ_zero : digQ 0 = [] := by rw [digQ, dif_pos rfl]
theorem numL_pos (n : Nat) (h : 0 < n) : numL n = numL (n / 10) ++ [UInt8.ofNat (48 + n % 10)] := by
  unfold numL
  rw [digQ_pos n h, List.reverse_cons]
theorem digQ_len : ∀ (k n : Nat), n < 10 ^ k → (digQ n).length ≤ k
  | 0, n, h => by
    have : n = 0 := by simpa using h
    rw [this, digQ_zero]
    exact Nat.le_refl _
  | k + 1, n, h => by
    rcases Nat.eq_zero_or_pos n with rfl | hp
    · rw [digQ_zero]; exact Nat.zero_le _
    · rw [digQ_pos n hp, List.length_cons]
      have := digQ_len k (n / 10) (by rw [Nat.pow_succ] at h; omega)
      omega
theorem FromInt1_any (n0 : Nat) (w : World) (hn0 : n0 < 1000000000000000) :
    Calls Tryz.prog 155 #[.int .i64 n0] w fun e w' => e = .returned (.string ⟨(numL n0).toArray⟩) ∧ Below w.heap.size w w' := by
  have hl : (numL n0).length ≤ 15 := by unfold numL; rw [List.length_reverse]; exact digQ_len 15 n0 hn0
  have HL := Lib.hid hl
  clear hl
  go_enter Tryz.func155, Tryz.ntmps155
  go_wp2_with fail
  go_loopw [0, 3] (fun nv sv wr => ∃ (n : Nat) (s : ByteArray), n ≤ n0 ∧ nv = .int .i64 n ∧ sv = .string s ∧ Hid (numL n0 = numL n ++ L s) ∧ Below w.heap.size w wr) (fun nv _ _ => (intOf nv).toNat)
  case atStart => exact ⟨n0, ⟨#[]⟩, Nat.le_refl _, rfl, rfl, by unfold Hid; show _ = _ ++ []; rw [List.append_nil], Below.refl _ _⟩
  case round =>
    obtain ⟨n, s, hn, rfl, rfl, HC, hbw⟩ := hrel
    rcases Nat.eq_zero_or_pos n with rfl | hp
    · have HF : Hid (s = ⟨(numL n0).toArray⟩) := by
        unfold Hid
        refine L_inj ?_
        rw [HC.out]
        unfold numL
        rw [digQ_zero]
        rfl
      clear HC
      go_wp2_with fail
      go_ret
      exact ⟨by rw [← HF.out]; rfl, hbw⟩
    · have HN : Hid (numL n0 = numL (n / 10) ++ (UInt8.ofNat (48 + n % 10) :: L s)) := by
        unfold Hid
        rw [HC.out, numL_pos n hp, List.append_assoc]
        rfl
      have hss : s.size ≤ 15 := by
        have h1 := HL.out
        rw [HC.out, List.length_append, L_len] at h1
        omega
      have hpi : (0 : Int) < n := by omega
      have hmod : ((n : Int) % 10) = ((n % 10 : Nat) : Int) := by omega
      obtain ⟨d, hd⟩ : ∃ d, d = n % 10 := ⟨_, rfl⟩
      rw [← hd] at hmod HN
      have hd10 : d < 10 := by omega
      have hnb : n < 1000000000000000 := by omega
      obtain ⟨c, hc⟩ : ∃ c, c = UInt8.ofNat (48 + d) := ⟨_, rfl⟩
      have hu : c.toNat = 48 + d := by rw [hc]; simp; omega
      rw [← hc] at HN
      clear hc
      have hcv : (convert 26 9 (.slice (some ⟨wr.heap.size, 0, none⟩) 1 1)).run Tryz.prog (wr.alloc (.cells #[.int .u8 (48 + (d : Int))] 5)) = .ok (.string ⟨#[c]⟩) (wr.alloc (.cells #[.int .u8 (48 + (d : Int))] 5)) := by
        have hb : RdB (wr.alloc (.cells #[.int .u8 (48 + (d : Int))] 5)) (.slice (some ⟨wr.heap.size, 0, none⟩) 1 1) [c] := by
          refine ⟨_, 1, rfl, Nat.le_refl _, ⟨by show 1 ≤ _; decide, by show 1 ≤ _; decide⟩, (fun h => by cases h), fun _ => ⟨wr.heap.size, 0, rfl, by simp, fun i hi j hj => ?_⟩⟩
          have hi0 : i = 0 := by simpa using hi
          have hj0 : j = 0 := by omega
          subst hi0 hj0
          refine ((cell_of_row _ wr.heap.size 0 _ _ (0, 0) (heap_alloc_new wr _)).trans ?_)
          simp only [bv, List.getD_cons_zero, hu]
          rfl
        exact conv_rdb hb
      have HS : Hid (L (⟨#[c]⟩ ++ s) = c :: L s) := by unfold Hid; rw [L_append]; rfl
      have hbw2 : ∀ X, Below w.heap.size w (wr.alloc X) := fun X => hbw.alloc hbw.size X
      have HBW := Lib.hid hbw2
      have hsz1 : (⟨#[c]⟩ : ByteArray).size = 1 := rfl
      clear hu hd HC hp hbw hbw2
      go_wp2_with fail
      exact ⟨⟨n / 10, _, by omega, by go_num, rfl, by unfold Hid; rw [HS.out]; exact HN.out, HBW.out _⟩, by simp [intOf]; omega⟩
end Go.Proofs.YthdninnjjmhpfaaGreatDoor
