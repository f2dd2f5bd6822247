/- The packages utf, path and datakitref08, walked: Len, Valid; letters and names. Conditions: strings of at most 2^47 bytes. -/
import Derived.Test.YtemiihkmpojpgaaGreatDoorZq4
import Derived.Test.YtemiihkmpojpgaaGreatDoorZq6
import Derived.Test.YtemiihkmpojpgaaGreatDoorZq5
namespace Go.Proofs.YtemiihkmpojpgaaGreatDoor
open Go.RowKit
set_option maxHeartbeats 1000000
set_option maxRecDepth 100000

def vErr (l : List UInt8) : Nat := if validL l then 0 else 5
theorem Len_any (s : ByteArray) (w : World) (hs : s.size ≤ 100000000000) :
    Calls Tryz.prog 61 #[.string s] w fun e w' => (∃ n : Int, e = .returned (.tuple #[.int .i64 n, .int .i64 (vErr (L s))])) ∧ w = w' := by
  have hm : s.size ≤ maxLen := by simp only [maxLen]; omega
  go_enter Tryz.func61, Tryz.ntmps61
  go_wp2_with fail
  go_loop [4, 5, 6, 7] (fun n at_ _ _ => ∃ (k m : Nat), k ≤ s.size ∧ m ≤ k ∧ at_ = .int .i64 k ∧ n = .int .i64 m ∧ Hid (badL (L s) = k + badL ((L s).drop k))) (fun _ at_ _ _ => s.size - (intOf at_).toNat)
  case atStart => exact ⟨0, 0, Nat.zero_le _, Nat.le_refl _, rfl, rfl, by unfold Hid; simp⟩
  case round =>
    obtain ⟨k, m, hk, hmk, rfl, rfl, HB⟩ := hrel
    by_cases hlt : k < s.size
    · have hd2 := dec_le ((L s).drop k)
      rw [List.length_drop, L_len] at hd2
      have HB1 := Lib.hid (badL_eq ((L s).drop k))
      go_wp2_with fail
      refine (Decode_any s k _ hm).mono ?_
      rintro e w1 ⟨rfl, rfl⟩
      generalize (dec ((L s).drop k)).1 = r at *
      generalize hnn : (dec ((L s).drop k)).2 = n at *
      clear hnn
      by_cases hn : n = 0
      · have HV : Hid (vErr (L s) = 5) := by
          have hv : validL (L s) = false := by
            unfold validL
            rw [HB.out, HB1.out, if_pos hn, L_len]
            simp; omega
          unfold Hid vErr
          rw [hv]
          rfl
        subst hn
        clear HB HB1
        go_wp2_with fail
        go_ret2
        exact ⟨⟨0, by rw [HV.out]; rfl⟩, rfl⟩
      · have hn0 : ((n : Int) == 0) = false := beq_eq_false_iff_ne.2 (by omega)
        have HF : Hid (badL (L s) = (k + n) + badL ((L s).drop (k + n))) := by
          unfold Hid
          rw [HB.out, HB1.out, if_neg hn, List.drop_drop]
          omega
        clear HB HB1
        go_wp2_with fail
        exact ⟨⟨k + n, m + 1, by omega, by omega, rfl, rfl, HF⟩, by simp [intOf]; omega⟩
    · obtain rfl : k = s.size := by omega
      have HV : Hid (vErr (L s) = 0) := by
        have hv : validL (L s) = true := by
          have hnil : (L s).drop s.size = [] := L_drop_nil s _ (Nat.le_refl _)
          unfold validL
          rw [HB.out, hnil, L_len]
          simp [badL, bad]
        unfold Hid vErr
        rw [hv]
        rfl
      clear HB
      go_wp2_with fail
      go_ret2
      exact ⟨⟨m, by rw [HV.out]; rfl⟩, rfl⟩
theorem Valid_any (s : ByteArray) (w : World) (hs : s.size ≤ 100000000000) :
    Calls Tryz.prog 38 #[.string s] w fun e w' => e = .returned (.bool (validL (L s))) ∧ w = w' := by
  go_enter Tryz.func38, Tryz.ntmps38
  go_wp2_with fail
  refine (Len_any s _ hs).mono ?_
  rintro e w1 ⟨⟨n, rfl⟩, rfl⟩
  unfold vErr
  cases hv : validL (L s)
  all_goals have HV := Lib.hid hv; clear hv
  · simp only [Bool.false_eq_true, if_false]
    go_wp2_with fail
    go_ret
    exact ⟨by rw [HV.out]; rfl, rfl⟩
  · simp only [if_true]
    go_wp2_with fail
    go_ret
    exact ⟨by rw [HV.out]; rfl, rfl⟩

/-! Names. -/
theorem ret_bool {a b : Bool} (h : a = b) : Ending.returned (.bool a) = Ending.returned (.bool b) := by rw [h]
def ltr (b : UInt8) : Bool := nmc b || dig b
theorem letter8_any (c : UInt8) (w : World) :
    Calls Tryz.prog 70 #[.int .u8 c.toNat] w fun e w' => e = .returned (.bool (ltr c)) ∧ w = w' := by
  go_enter Tryz.func70, Tryz.ntmps70
  go_wp2_with fail
  all_goals
    go_ret
    refine ⟨ret_bool ?_, rfl⟩
    rw [Bool.eq_iff_iff]; simp [ltr, nmc, alpha, dig] at *; omega
theorem nmL_all (s : ByteArray) : Hid (nmL (L s) = nmL ((L s).drop 0)) := rfl
theorem folL_first (l : List UInt8) : folL l = match l with
  | [] => 0
  | b :: t => if nmc b then nmL t + 1 else 0 := rfl
/-- The bytes at which the program's loop goes on. -/
theorem fol_steps (s : ByteArray) (k : Nat) (h : Hid (folL (L s) = if k = 0 then folL (L s) else k + nmL ((L s).drop k))) (hk : k < s.size) :
    (nmc s[k] = true ∨ (0 < k ∧ dig s[k] = true) → Hid (folL (L s) = (k + 1) + nmL ((L s).drop (k + 1)))) ∧ (nmc s[k] = false → (k = 0 ∨ dig s[k] = false) → Hid (folL (L s) = k)) := by
  have hd := L_drop s k hk
  by_cases h0 : k = 0
  · subst h0
    rw [List.drop_zero] at hd
    constructor
    · rintro (h1 | ⟨h1, _⟩)
      · unfold Hid
        rw [congrArg folL hd, folL_first]
        simp only []
        rw [if_pos h1]
        omega
      · omega
    · intro h1 _
      unfold Hid
      rw [congrArg folL hd, folL_first]
      simp only []
      rw [h1]
      rfl
  · have h' := h.out
    rw [if_neg h0] at h'
    constructor
    · intro h1
      unfold Hid
      rw [h', hd, nmL, if_pos (by rcases h1 with h1 | ⟨_, h1⟩ <;> simp [h1])]
      omega
    · intro h1 h2
      unfold Hid
      rw [h', hd, nmL, if_neg]
      · rfl
      · rcases h2 with h2 | h2
        · omega
        · simp [h1, h2]
theorem follows_any (s : ByteArray) (w : World) (hs : s.size ≤ 100000000000) :
    Calls Tryz.prog 44 #[.string s] w fun e w' => e = .returned (.int .i64 (folL (L s))) ∧ w = w' := by
  go_enter Tryz.func44, Tryz.ntmps44
  go_wp2_with fail
  go_loop [3] (fun n => ∃ k : Nat, k ≤ s.size ∧ n = .int .i64 k ∧ Hid (folL (L s) = if k = 0 then folL (L s) else k + nmL ((L s).drop k))) (fun n => s.size - (intOf n).toNat)
  case atStart => exact ⟨0, by omega, rfl, by unfold Hid; rw [if_pos rfl]⟩
  case round =>
    obtain ⟨k, hk, rfl, HR⟩ := hrel
    by_cases hlt : k < s.size
    · obtain ⟨HS1, HS2⟩ := fol_steps s k HR hlt
      have HS1 := Lib.hid HS1
      have HS2 := Lib.hid HS2
      clear HR
      have go1 : nmc s[k] = true ∨ (0 < k ∧ dig s[k] = true) → Hid (folL (L s) = if k + 1 = 0 then folL (L s) else (k + 1) + nmL ((L s).drop (k + 1))) := by
        intro h
        unfold Hid
        rw [if_neg (by omega)]
        exact (HS1.out h).out
      have HG := Lib.hid go1; clear go1 HS1
      by_cases c1 : 97 ≤ s[k].toNat ∧ s[k].toNat ≤ 122
      · have a1 : (97 : Int) ≤ s[k].toNat := by omega
        have a2 : (s[k].toNat : Int) ≤ 122 := by omega
        have HF := HG.out (.inl (by simp [nmc, alpha]; omega))
        clear HG HS2 c1
        go_wp2_with fail
        exact ⟨⟨k + 1, by omega, rfl, HF⟩, by simp [intOf]; omega⟩
      by_cases c2 : 65 ≤ s[k].toNat ∧ s[k].toNat ≤ 90
      · have a1 : ¬ (97 : Int) ≤ s[k].toNat := by omega
        have a2 : (65 : Int) ≤ s[k].toNat := by omega
        have a3 : (s[k].toNat : Int) ≤ 90 := by omega
        have HF := HG.out (.inl (by simp [nmc, alpha]; omega))
        clear HG HS2 c1 c2
        go_wp2_with fail
        exact ⟨⟨k + 1, by omega, rfl, HF⟩, by simp [intOf]; omega⟩
      by_cases c3 : s[k].toNat = 95
      · have a0 : ((s[k].toNat : Int) == 95) = true := by rw [beq_iff_eq]; omega
        have a1 : ¬ (97 : Int) ≤ s[k].toNat := by omega
        have a2 : (65 : Int) ≤ s[k].toNat := by omega
        have a3 : ¬ (s[k].toNat : Int) ≤ 90 := by omega
        have HF := HG.out (.inl (by simp [nmc, alpha]; omega))
        clear HG HS2 c1 c2 c3
        go_wp2_with fail
        exact ⟨⟨k + 1, by omega, rfl, HF⟩, by simp [intOf]; omega⟩
      have hn : nmc s[k] = false := by simp [nmc, alpha]; omega
      have a0 : ((s[k].toNat : Int) == 95) = false := by rw [beq_eq_false_iff_ne]; omega
      by_cases c4 : 48 ≤ s[k].toNat ∧ s[k].toNat ≤ 57
      · have a1 : ¬ (97 : Int) ≤ s[k].toNat := by omega
        have a2 : ¬ (65 : Int) ≤ s[k].toNat := by omega
        have a3 : (48 : Int) ≤ s[k].toNat := by omega
        have a4 : (s[k].toNat : Int) ≤ 57 := by omega
        by_cases h0 : k = 0
        · subst h0
          have HF := HS2.out hn (.inl rfl)
          clear HG HS2 c1 c2 c3 c4 hn
          go_wp2_with fail
          go_ret
          exact ⟨by rw [HF.out]; rfl, rfl⟩
        · have h0' : (0 : Int) < k := by omega
          have HF := HG.out (.inr ⟨by omega, by simp [dig]; omega⟩)
          clear HG HS2 c1 c2 c3 c4 hn h0
          go_wp2_with fail
          exact ⟨⟨k + 1, by omega, rfl, HF⟩, by simp [intOf]; omega⟩
      · have HF := HS2.out hn (.inr (by simp [dig]; omega))
        clear HG HS2 hn
        go_wp2_with fail
        all_goals first
          | omega
          | (go_ret; exact ⟨by rw [HF.out]; rfl, rfl⟩)
    · have HF : Hid (folL (L s) = k) := by
        unfold Hid
        rw [HR.out, L_drop_nil s k (by omega)]
        split
        · rename_i h0
          subst h0
          have : L s = [] := List.length_eq_zero_iff.1 (by rw [L_len]; omega)
          rw [this]; rfl
        · rfl
      clear HR
      go_wp2_with fail
      go_ret
      exact ⟨by rw [HF.out]; rfl, rfl⟩
def nameR (l : List UInt8) : Bool := decide (l ≠ [] ∧ nmL l = l.length ∧ ∀ b ∈ l.head?, dig b = false)
theorem name_same (l : List UInt8) : nameR l = isName l := by
  rcases l with _ | ⟨b, t⟩
  · rfl
  unfold nameR isName
  rw [folL_first]
  simp only [nmL, List.length_cons, List.head?_cons, Option.mem_def, Option.some.injEq, forall_eq', decide_eq_decide]
  have hx : nmc b = true → dig b = false := by
    unfold nmc alpha dig
    simp only [Bool.or_eq_true, decide_eq_true_eq, decide_eq_false_iff_not]
    omega
  cases h1 : nmc b <;> cases h2 : dig b <;> simp_all
theorem Name8_any (s : ByteArray) (w : World) (hs : s.size ≤ 100000000000) :
    Calls Tryz.prog 87 #[.string s] w fun e w' => e = .returned (.bool (isName (L s))) ∧ w = w' := by
  rw [← name_same]
  go_enter Tryz.func87, Tryz.ntmps87
  go_wp2_with fail
  go_loop [3] (fun n => ∃ k : Nat, k ≤ s.size ∧ n = .int .i64 k ∧ Hid (nmL (L s) = k + nmL ((L s).drop k))) (fun n => s.size - (intOf n).toNat)
  case atStart => exact ⟨0, by omega, rfl, by unfold Hid; simp⟩
  case round =>
    obtain ⟨k, hk, rfl, HR⟩ := hrel
    by_cases hlt : k < s.size
    · cases hl : ltr s[k]
      · have HF : Hid (nameR (L s) = false) := by
          unfold Hid nameR
          have h1 := HR.out
          rw [L_drop s k hlt, nmL, show (nmc s[k] || dig s[k]) = ltr s[k] from rfl, hl] at h1
          rw [L_len, h1]
          simp; omega
        clear HR
        go_wp2_with ((with_reducible refine (letter8_any _ _).mono ?_); rintro e w' ⟨rfl, rfl⟩)
        go_ret
        exact ⟨by rw [HF.out]; rfl, rfl⟩
      · have HF : Hid (nmL (L s) = (k + 1) + nmL ((L s).drop (k + 1))) := by
          unfold Hid
          rw [HR.out, L_drop s k hlt, nmL, show (nmc s[k] || dig s[k]) = ltr s[k] from rfl, hl, if_pos rfl]
          omega
        clear HR
        go_wp2_with ((with_reducible refine (letter8_any _ _).mono ?_); rintro e w' ⟨rfl, rfl⟩)
        exact ⟨⟨k + 1, by omega, rfl, HF⟩, by simp [intOf]; omega⟩
    · have hall : nmL (L s) = (L s).length := by
        rw [HR.out, L_drop_nil s k (by omega), L_len]
        show k + 0 = _
        omega
      have HA := Lib.hid hall
      clear HR hall
      by_cases h0 : s.size = 0
      · have HF : Hid (nameR (L s) = false) := by
          have : L s = [] := List.length_eq_zero_iff.1 (by rw [L_len]; omega)
          unfold Hid; rw [this]; rfl
        have h0' : ¬ (0 : Int) < s.size := by omega
        clear h0
        go_wp2_with fail
        go_ret
        exact ⟨by rw [HF.out]; rfl, rfl⟩
      · have h0' : (0 : Int) < s.size := by omega
        have hp : 0 < s.size := by omega
        have HF : Hid (nameR (L s) = !dig s[0]) := by
          unfold Hid nameR
          rw [HA.out]
          have hd := L_drop s 0 hp
          rw [List.drop_zero] at hd
          rw [hd]
          simp
        clear HA h0
        by_cases c1 : s[0].toNat < 48
        · have a1 : (s[0].toNat : Int) < 48 := by omega
          go_wp2_with fail
          go_ret
          exact ⟨by rw [HF.out]; exact ret_bool (by simp [dig]; omega), rfl⟩
        have a1 : ¬ (s[0].toNat : Int) < 48 := by omega
        by_cases c2 : 57 < s[0].toNat
        · have a2 : (57 : Int) < s[0].toNat := by omega
          go_wp2_with fail
          go_ret
          exact ⟨by rw [HF.out]; exact ret_bool (by simp [dig]; omega), rfl⟩
        · have a2 : ¬ (57 : Int) < s[0].toNat := by omega
          go_wp2_with fail
          go_ret
          exact ⟨by rw [HF.out]; exact ret_bool (by simp [dig]; omega), rfl⟩
end Go.Proofs.YtemiihkmpojpgaaGreatDoor
