/- base.finder, base.Decode walked. Conditions: strings of at most 10^9 bytes. -/
import Derived.Test.YtlnpfpjncnkekaaGreatDoorZs8
import Derived.Deep.DeepCutAuto
import Derived.Deep.CutBlock
import Derived.Test.YtlnpfpjncnkekaaGreatDoorZs5
import Derived.Test.YtlnpfpjncnkekaaGreatDoorZs3
import Derived.Test.YtlnpfpjncnkekaaGreatDoorZs4
namespace Go.Proofs.YtlnpfpjncnkekaaGreatDoor
open Go.RowKit
set_option maxHeartbeats 1000000
set_option maxRecDepth 100000

theorem beqB (b : UInt8) (n : Int) (h : (b.toNat : Int) = n) : ((b.toNat : Int) == n) = true := by rw [beq_iff_eq]; exact h
theorem beqNB (b : UInt8) (n : Int) (h : ¬ (b.toNat : Int) = n) : ((b.toNat : Int) == n) = false := by rw [beq_eq_false_iff_ne]; exact h
theorem bneB (b : UInt8) (n : Int) (h : (b.toNat : Int) = n) : ((b.toNat : Int) != n) = false := by rw [bne_eq_false_iff_eq]; exact h
theorem bneNB (b : UInt8) (n : Int) (h : ¬ (b.toNat : Int) = n) : ((b.toNat : Int) != n) = true := by rw [bne_iff_ne]; exact h
end Go.Proofs.YtlnpfpjncnkekaaGreatDoor

namespace Go.Proofs.YtlnpfpjncnkekaaGreatDoor
open Go.RowKit
set_option maxHeartbeats 1000000
set_option maxRecDepth 100000

theorem pre1_iff (s : ByteArray) (k : Nat) (h : k < s.size) (a : UInt8) : pre ((L s).drop k) [a] = decide (s[k].toNat = a.toNat) := by
  rw [L_drop s k h, Bool.eq_iff_iff]
  simp [pre, UInt8.toNat_inj]
theorem pre1_nil (s : ByteArray) (k : Nat) (h : s.size ≤ k) (a : UInt8) : pre ((L s).drop k) [a] = false := by
  rw [L_drop_nil s k h]; rfl
theorem drop_empty (s : ByteArray) (k : Nat) (hk : k ≤ s.size) : ((L s).drop k).isEmpty = decide (k = s.size) := by
  rw [Bool.eq_iff_iff]
  have := L_len s
  simp
  omega
theorem ret2_bool {a b : Bool} {x : Bool × Bool} (h : x = (a, b)) : Ending.returned (.tuple #[.bool a, .bool b]) = Ending.returned (.tuple #[.bool x.1, .bool x.2]) := by rw [h]
/-- A letter of the exponent at an offset. -/
def isE : List UInt8 → Bool
  | [] => false
  | c :: _ => decide (c.toNat = 101 ∨ c.toNat = 69)
def isSgn : List UInt8 → Bool
  | [] => false
  | c :: _ => sgn c
theorem expN_yes (l : List UInt8) (h : isE l = true) : expN l = if runL (dropSign (l.drop 1)) = 0 then (false, (dropSign (l.drop 1)).isEmpty) else (((dropSign (l.drop 1)).drop (runL (dropSign (l.drop 1)))).isEmpty, ((dropSign (l.drop 1)).drop (runL (dropSign (l.drop 1)))).isEmpty) := by
  cases l with
  | nil => cases h
  | cons c t =>
    have hc : c.toNat = 101 ∨ c.toNat = 69 := by simpa [isE] using h
    simp only [expN]
    rw [if_pos hc]
    rfl
theorem expN_no (l : List UInt8) (h : isE l = false) : expN l = (l.isEmpty, l.isEmpty) := by
  cases l with
  | nil => rfl
  | cons c t =>
    have hc : ¬ (c.toNat = 101 ∨ c.toNat = 69) := by
      intro hc; simp only [isE] at h; rw [decide_eq_true hc] at h; cases h
    simp only [expN]
    rw [if_neg hc]
    rfl
theorem dropSign_eq (l : List UInt8) : dropSign l = if isSgn l then l.drop 1 else l := by
  cases l with
  | nil => rfl
  | cons c t =>
    show (if sgn c then t else c :: t) = if sgn c then t else c :: t
    rfl

theorem IsNumber3_any (s : ByteArray) (w : World) (hs : s.size ≤ 100000000000) :
    Calls Tryz.prog 61 #[.string s] w fun e w' => e = .returned (.tuple #[.bool (isN (L s)).1, .bool (isN (L s)).2]) ∧ w = w' := by
  have hm : s.size ≤ maxLen := by simp only [maxLen]; omega
  go_enter Tryz.func61, Tryz.ntmps61
  go_upto_region 2 with fail
  go_cut [15] (fun v wx => v = .bool (pre (L s) [45]) ∧ wx = w)
  case first =>
    by_cases a1 : 0 < s.size
    · have q1 : (0 : Int) < s.size := by omega
      have hp := pre1_iff s 0 a1 45
      rw [List.drop_zero] at hp
      by_cases a2 : s[0].toNat = 45
      · have q2 := beqB s[0] 45 (by omega)
        have HV : Hid (pre (L s) [45] = true) := by unfold Hid; rw [hp]; simpa using a2
        clear hp a2
        go_wp2_with fail
        go_meet
        exact ⟨by rw [HV.out], rfl⟩
      · have q2 := beqNB s[0] 45 (by omega)
        have HV : Hid (pre (L s) [45] = false) := by unfold Hid; rw [hp]; simpa using a2
        clear hp a2
        go_wp2_with fail
        go_meet
        exact ⟨by rw [HV.out], rfl⟩
    · have q1 : ¬ (0 : Int) < s.size := by omega
      have HV : Hid (pre (L s) [45] = false) := by
        unfold Hid; have := pre1_nil s 0 (by omega) 45; rwa [List.drop_zero] at this
      go_wp2_with fail
      go_meet
      exact ⟨by rw [HV.out], rfl⟩
  case rest =>
  obtain ⟨rfl, rfl⟩ := hcut
  have h1 : isN (L s) = intN ((L s).drop (if pre (L s) [45] then 1 else 0)) := by
    unfold isN
    cases pre (L s) [45] <;> simp
  have hi0 : (if pre (L s) [45] then 1 else 0) ≤ s.size := by
    cases hp : pre (L s) [45]
    · simp
    · have := pre_yes (s := s) (p := ⟨#[45]⟩) hp
      exact this
  have H1 := Lib.hid h1; clear h1
  go_upto_if 15 with fail
  go_cut [4] (fun v wx => v = .int .i64 ((if pre (L s) [45] then 1 else 0 : Nat) : Int) ∧ wx = wc)
  case first =>
    cases hp : pre (L s) [45]
    · go_wp2_with fail
      go_meet
      exact ⟨by rw [hp]; rfl, rfl⟩
    · go_wp2_with fail
      go_meet
      exact ⟨by rw [hp]; rfl, rfl⟩
  case rest =>
  obtain ⟨rfl, rfl⟩ := hcut
  generalize (if pre (L s) [45] then 1 else 0) = i at *
  by_cases hl : i = s.size
  · have q : ((i : Int) == s.size) = true := by rw [beq_iff_eq]; omega
    have HF : Hid (isN (L s) = (false, true)) := by unfold Hid; rw [H1.out, hl, L_drop_nil s _ (Nat.le_refl _)]; rfl
    clear hl H1
    go_wp2_with fail
    go_ret2
    exact ⟨ret2_bool HF.out, rfl⟩
  have q : ((i : Int) == s.size) = false := by rw [beq_eq_false_iff_ne]; omega
  have hlt : i < s.size := by omega
  have hr := runL_le ((L s).drop i)
  rw [List.length_drop, L_len] at hr
  have H2 : Hid (isN (L s) = if runL ((L s).drop i) = 0 ∨ (zero0 ((L s).drop i) ∧ 1 < runL ((L s).drop i)) then (false, false) else fracN ((L s).drop (i + runL ((L s).drop i)))) := by
    unfold Hid
    rw [H1.out, intN, if_neg (by rw [L_drop s i hlt]; simp), List.drop_drop]
  have hz0 : Hid (zero0 ((L s).drop i) = (s[i].toNat == 48)) := by unfold Hid; rw [L_drop s i hlt]; rfl
  clear hl H1
  go_upto_region 7 with (go_at_call 107; refine (run3_any s i _ hi0 hm).mono ?_; rintro e w' ⟨rfl, rfl⟩)
  generalize hn : runL ((L s).drop i) = n at *
  clear hn
  go_cut [39] (fun v wx => v = .bool (decide (n = 0 ∨ (zero0 ((L s).drop i) = true ∧ 1 < n))) ∧ wx = wc)
  case first =>
    by_cases b1 : n = 0
    · have e1 : ((i : Int) + n == i) = true := by rw [beq_iff_eq]; omega
      have HV : Hid (decide (n = 0 ∨ (zero0 ((L s).drop i) = true ∧ 1 < n)) = true) := decide_eq_true (.inl b1)
      clear b1
      go_wp2_with fail
      go_meet
      exact ⟨by rw [HV.out], rfl⟩
    have e1 : ((i : Int) + n == i) = false := by rw [beq_eq_false_iff_ne]; omega
    by_cases b2 : s[i].toNat = 48
    · have e2 := beqB s[i] 48 (by omega)
      have hz : zero0 ((L s).drop i) = true := by rw [hz0.out]; simpa using b2
      by_cases b3 : 1 < n
      · have e3 : (i : Int) + 1 < i + n := by omega
        have HV : Hid (decide (n = 0 ∨ (zero0 ((L s).drop i) = true ∧ 1 < n)) = true) := decide_eq_true (.inr ⟨hz, b3⟩)
        clear b1 b2 hz
        go_wp2_with fail
        go_meet
        exact ⟨by rw [HV.out], rfl⟩
      · have e3 : ¬ (i : Int) + 1 < i + n := by omega
        have HV : Hid (decide (n = 0 ∨ (zero0 ((L s).drop i) = true ∧ 1 < n)) = false) := decide_eq_false (fun h => h.elim b1 (fun h => b3 h.2))
        clear b1 b2 hz
        go_wp2_with fail
        go_meet
        exact ⟨by rw [HV.out], rfl⟩
    · have e2 := beqNB s[i] 48 (by omega)
      have hz : zero0 ((L s).drop i) = false := by rw [hz0.out]; simpa using b2
      have HV : Hid (decide (n = 0 ∨ (zero0 ((L s).drop i) = true ∧ 1 < n)) = false) := decide_eq_false (fun h => h.elim b1 (fun h => by rw [hz] at h; cases h.1))
      clear b1 b2 hz
      go_wp2_with fail
      go_meet
      exact ⟨by rw [HV.out], rfl⟩
  case rest =>
  obtain ⟨rfl, rfl⟩ := hcut
  clear hz0
  by_cases hbad : n = 0 ∨ (zero0 ((L s).drop i) = true ∧ 1 < n)
  · have HF : Hid (isN (L s) = (false, false)) := by unfold Hid; rw [H2.out, if_pos hbad]
    rw [decide_eq_true hbad]
    clear hbad H2
    go_wp2_with fail
    go_ret2
    exact ⟨ret2_bool HF.out, rfl⟩
  have H3 : Hid (isN (L s) = fracN ((L s).drop (i + n))) := by unfold Hid; rw [H2.out, if_neg hbad]
  rw [decide_eq_false hbad]
  clear hbad H2
  obtain ⟨k, hk⟩ : ∃ k, k = i + n := ⟨_, rfl⟩
  have hks : k ≤ s.size := by omega
  rw [← hk] at H3
  go_upto_region 10 with fail
  rw [show (i : Int) + n = (k : Int) by omega]
  clear hk hr q hlt
  go_cut [50] (fun v wx => v = .bool (pre ((L s).drop k) [46]) ∧ wx = wc)
  case first =>
    by_cases a1 : k < s.size
    · have q1 : (k : Int) < s.size := by omega
      have hp := pre1_iff s k a1 46
      by_cases a2 : s[k].toNat = 46
      · have q2 := beqB s[k] 46 (by omega)
        have HV : Hid (pre ((L s).drop k) [46] = true) := by unfold Hid; rw [hp]; simpa using a2
        clear hp a2
        go_wp2_with fail
        go_meet
        exact ⟨by rw [HV.out], rfl⟩
      · have q2 := beqNB s[k] 46 (by omega)
        have HV : Hid (pre ((L s).drop k) [46] = false) := by unfold Hid; rw [hp]; simpa using a2
        clear hp a2
        go_wp2_with fail
        go_meet
        exact ⟨by rw [HV.out], rfl⟩
    · have q1 : ¬ (k : Int) < s.size := by omega
      have HV : Hid (pre ((L s).drop k) [46] = false) := pre1_nil s k (by omega) 46
      go_wp2_with fail
      go_meet
      exact ⟨by rw [HV.out], rfl⟩
  case rest =>
  obtain ⟨rfl, rfl⟩ := hcut
  go_upto_if 50 with fail
  go_cut [4] (fun v wx => ∃ j : Nat, v = .int .i64 j ∧ j ≤ s.size ∧ Hid (isN (L s) = expN ((L s).drop j)) ∧ wx = wc)
  case first =>
    cases hp : pre ((L s).drop k) [46]
    · have HF : Hid (isN (L s) = expN ((L s).drop k)) := by unfold Hid; rw [H3.out, fracN, hp]; rfl
      go_wp2_with fail
      go_meet
      exact ⟨k, rfl, hks, HF, rfl⟩
    · have hlt : k + 1 ≤ s.size := by
        have := congrArg List.length (show ((L s).drop k).take 1 = [46] by simpa [pre] using hp)
        rw [List.length_take, List.length_drop, L_len] at this
        simp at this; omega
      have HF : Hid (isN (L s) = if runL ((L s).drop (k + 1)) = 0 then (false, ((L s).drop (k + 1)).isEmpty) else expN ((L s).drop (k + 1 + runL ((L s).drop (k + 1))))) := by
        unfold Hid; rw [H3.out, fracN, hp, List.drop_drop, List.drop_drop, show k + (1 + runL ((L s).drop (k + 1))) = k + 1 + runL ((L s).drop (k + 1)) by omega]; rfl
      have hr := runL_le ((L s).drop (k + 1))
      rw [List.length_drop, L_len] at hr
      clear hp H3
      go_wp2_with fail
      refine (run3_any s (k + 1) _ hlt hm).mono ?_
      rintro e w' ⟨rfl, rfl⟩
      generalize hm' : runL ((L s).drop (k + 1)) = m at *
      clear hm'
      by_cases hz : m = 0
      · have q : (((k + 1 + m : Nat) : Int) == (k : Int) + 1) = true := by rw [beq_iff_eq]; omega
        have HG : Hid (isN (L s) = (false, (((k + 1 + m : Nat) : Int) == s.size))) := by
          unfold Hid
          rw [HF.out, if_pos hz, drop_empty s (k + 1) hlt, hz]
          congr 1
          rw [Bool.eq_iff_iff]
          simp
          omega
        clear hz HF
        generalize hj : k + 1 + m = j at *
        clear hj
        go_wp2_with fail
        go_ret2
        exact ⟨ret2_bool HG.out, rfl⟩
      · have q : (((k + 1 + m : Nat) : Int) == (k : Int) + 1) = false := by rw [beq_eq_false_iff_ne]; omega
        have HG : Hid (isN (L s) = expN ((L s).drop (k + 1 + m))) := by unfold Hid; rw [HF.out, if_neg hz]
        have hj2 : k + 1 + m ≤ s.size := by omega
        clear hz HF
        generalize k + 1 + m = j at *
        go_wp2_with fail
        go_meet
        exact ⟨j, rfl, hj2, HG, rfl⟩
  case rest =>
  obtain ⟨j, rfl, hj, H4, rfl⟩ := hcut
  clear H3 hks
  go_upto_region 15 with fail
  go_cut [79] (fun v wx => v = .bool (isE ((L s).drop j)) ∧ wx = wc)
  case first =>
    by_cases a1 : j < s.size
    · have q1 : (j : Int) < s.size := by omega
      have hp : isE ((L s).drop j) = decide (s[j].toNat = 101 ∨ s[j].toNat = 69) := by rw [L_drop s j a1]; rfl
      by_cases a2 : s[j].toNat = 101
      · have q2 := beqB s[j] 101 (by omega)
        have HV : Hid (isE ((L s).drop j) = true) := by unfold Hid; rw [hp]; exact decide_eq_true (.inl a2)
        clear hp a2
        go_wp2_with fail
        go_meet
        exact ⟨by rw [HV.out], rfl⟩
      have q2 := beqNB s[j] 101 (by omega)
      by_cases a3 : s[j].toNat = 69
      · have q3 := beqB s[j] 69 (by omega)
        have HV : Hid (isE ((L s).drop j) = true) := by unfold Hid; rw [hp]; exact decide_eq_true (.inr a3)
        clear hp a2 a3
        go_wp2_with fail
        go_meet
        exact ⟨by rw [HV.out], rfl⟩
      · have q3 := beqNB s[j] 69 (by omega)
        have HV : Hid (isE ((L s).drop j) = false) := by unfold Hid; rw [hp]; exact decide_eq_false (fun h => h.elim a2 a3)
        clear hp a2 a3
        go_wp2_with fail
        go_meet
        exact ⟨by rw [HV.out], rfl⟩
    · have q1 : ¬ (j : Int) < s.size := by omega
      have HV : Hid (isE ((L s).drop j) = false) := by unfold Hid; rw [L_drop_nil s j (by omega)]; rfl
      go_wp2_with fail
      go_meet
      exact ⟨by rw [HV.out], rfl⟩
  case rest =>
  obtain ⟨rfl, rfl⟩ := hcut
  cases he : isE ((L s).drop j)
  · have HG : Hid (isN (L s) = (((j : Int) == s.size), ((j : Int) == s.size))) := by
      unfold Hid
      rw [H4.out, expN_no _ he, drop_empty s j hj]
      have : decide (j = s.size) = ((j : Int) == s.size) := by rw [Bool.eq_iff_iff]; simp; omega
      rw [this]
    clear he H4
    go_wp2_with fail
    go_ret2
    exact ⟨ret2_bool HG.out, rfl⟩
  have hlt : j + 1 ≤ s.size := by
    rcases Nat.lt_or_ge j s.size with h | h
    · exact h
    · rw [L_drop_nil s j h] at he; cases he
  have H5 : Hid (isN (L s) = if runL (dropSign ((L s).drop (j + 1))) = 0 then (false, (dropSign ((L s).drop (j + 1))).isEmpty) else (((dropSign ((L s).drop (j + 1))).drop (runL (dropSign ((L s).drop (j + 1))))).isEmpty, ((dropSign ((L s).drop (j + 1))).drop (runL (dropSign ((L s).drop (j + 1))))).isEmpty)) := by
    unfold Hid
    rw [H4.out, expN_yes _ he, List.drop_drop]
  clear he H4 hj
  go_upto_region 17 with fail
  obtain ⟨a, ha⟩ : ∃ a, a = j + 1 := ⟨_, rfl⟩
  rw [← ha] at hlt H5
  rw [show (j : Int) + 1 = (a : Int) by omega]
  clear ha
  go_cut [97] (fun v wx => v = .bool (isSgn ((L s).drop a)) ∧ wx = wc)
  case first =>
    by_cases a1 : a < s.size
    · have q1 : (a : Int) < s.size := by omega
      have hp : isSgn ((L s).drop a) = sgn s[a] := by rw [L_drop s a a1]; rfl
      by_cases a2 : s[a].toNat = 43
      · have q2 := beqB s[a] 43 (by omega)
        have HV : Hid (isSgn ((L s).drop a) = true) := by unfold Hid; rw [hp]; simp [sgn, a2]
        clear hp a2
        go_wp2_with fail
        go_meet
        exact ⟨by rw [HV.out], rfl⟩
      have q2 := beqNB s[a] 43 (by omega)
      by_cases a3 : s[a].toNat = 45
      · have q3 := beqB s[a] 45 (by omega)
        have HV : Hid (isSgn ((L s).drop a) = true) := by unfold Hid; rw [hp]; simp [sgn, a3]
        clear hp a2 a3
        go_wp2_with fail
        go_meet
        exact ⟨by rw [HV.out], rfl⟩
      · have q3 := beqNB s[a] 45 (by omega)
        have HV : Hid (isSgn ((L s).drop a) = false) := by unfold Hid; rw [hp]; simp [sgn, a2, a3]
        clear hp a2 a3
        go_wp2_with fail
        go_meet
        exact ⟨by rw [HV.out], rfl⟩
    · have q1 : ¬ (a : Int) < s.size := by omega
      have HV : Hid (isSgn ((L s).drop a) = false) := by unfold Hid; rw [L_drop_nil s a (by omega)]; rfl
      go_wp2_with fail
      go_meet
      exact ⟨by rw [HV.out], rfl⟩
  case rest =>
  obtain ⟨rfl, rfl⟩ := hcut
  go_upto_if 97 with fail
  go_cut [4] (fun v wx => ∃ b : Nat, v = .int .i64 b ∧ b ≤ s.size ∧ Hid (dropSign ((L s).drop a) = (L s).drop b) ∧ wx = wc)
  case first =>
    cases hp : isSgn ((L s).drop a)
    · have HV : Hid (dropSign ((L s).drop a) = (L s).drop a) := by unfold Hid; rw [dropSign_eq, hp]; rfl
      go_wp2_with fail
      go_meet
      exact ⟨a, rfl, hlt, HV, rfl⟩
    · have hlt2 : a + 1 ≤ s.size := by
        rcases Nat.lt_or_ge a s.size with h | h
        · exact h
        · rw [L_drop_nil s a h] at hp; cases hp
      have HV : Hid (dropSign ((L s).drop a) = (L s).drop (a + 1)) := by unfold Hid; rw [dropSign_eq, hp, if_pos rfl, List.drop_drop]
      clear hp
      go_wp2_with fail
      go_meet
      exact ⟨a + 1, rfl, hlt2, HV, rfl⟩
  case rest =>
  obtain ⟨b, rfl, hb, HB, rfl⟩ := hcut
  have H6 : Hid (isN (L s) = if runL ((L s).drop b) = 0 then (false, ((L s).drop b).isEmpty) else (((L s).drop (b + runL ((L s).drop b))).isEmpty, ((L s).drop (b + runL ((L s).drop b))).isEmpty)) := by
    unfold Hid; rw [H5.out, HB.out, List.drop_drop]
  have hr := runL_le ((L s).drop b)
  rw [List.length_drop, L_len] at hr
  clear H5 HB hlt
  go_wp2_with fail
  refine (run3_any s b _ hb hm).mono ?_
  rintro e w' ⟨rfl, rfl⟩
  generalize hm' : runL ((L s).drop b) = m at *
  clear hm'
  by_cases hz : m = 0
  · have q : (((b + m : Nat) : Int) == (b : Int)) = true := by rw [beq_iff_eq]; omega
    have HG : Hid (isN (L s) = (false, (((b + m : Nat) : Int) == s.size))) := by
      unfold Hid
      rw [H6.out, if_pos hz, drop_empty s b hb, hz]
      congr 1
      rw [Bool.eq_iff_iff]
      simp
      omega
    clear hz H6
    generalize hj : b + m = c at *
    clear hj
    go_wp2_with fail
    go_ret2
    exact ⟨ret2_bool HG.out, rfl⟩
  · have q : (((b + m : Nat) : Int) == (b : Int)) = false := by rw [beq_eq_false_iff_ne]; omega
    have hc : b + m ≤ s.size := by omega
    have HG : Hid (isN (L s) = ((((b + m : Nat) : Int) == s.size), (((b + m : Nat) : Int) == s.size))) := by
      unfold Hid
      rw [H6.out, if_neg hz, drop_empty s _ hc]
      have : decide (b + m = s.size) = (((b + m : Nat) : Int) == s.size) := by rw [Bool.eq_iff_iff]; simp; omega
      rw [this]
    clear hz H6
    generalize b + m = c at *
    go_wp2_with fail
    go_ret2
    exact ⟨ret2_bool HG.out, rfl⟩
end Go.Proofs.YtlnpfpjncnkekaaGreatDoor

namespace Go.Proofs.YtlnpfpjncnkekaaGreatDoor
open Go.RowKit
set_option maxHeartbeats 1000000
set_option maxRecDepth 100000

/-! A token without an error takes bytes that are there. -/
theorem comF_le (block : Bool) : ∀ (f : Nat) (l : List UInt8), (comF block f l).1 ≤ l.length
  | 0, l => by unfold comF; split <;> exact Nat.zero_le _
  | f + 1, [] => by unfold comF; split <;> exact Nat.zero_le _
  | f + 1, b :: t => by
    unfold comF
    split
    · exact Nat.zero_le _
    split
    · rename_i h
      have h2 : (b :: t).take 2 = [42, 47] := by simpa [pre] using h.2
      have := congrArg List.length h2
      rw [List.length_take] at this
      simp only [List.length_cons, List.length_nil] at this ⊢
      omega
    split
    · exact Nat.zero_le _
    split
    · exact Nat.zero_le _
    · have h1 := dec_le (b :: t)
      have h2 := comF_le block f ((b :: t).drop (dec (b :: t)).2)
      rw [List.length_drop] at h2
      show (dec (b :: t)).2 + _ ≤ _
      omega
theorem comL_le (l : List UInt8) : (comL l).1 ≤ l.length := by
  rcases l with _ | ⟨a, _ | ⟨c, t⟩⟩
  · exact Nat.zero_le _
  · exact Nat.zero_le _
  · have h1 := comF_le false t.length t
    have h2 := comF_le true t.length t
    simp only [comL, List.length_cons]
    repeat' split
    all_goals simp only []
    all_goals omega
theorem spaceLen_le : ∀ l : List UInt8, spaceLen l ≤ l.length
  | [] => Nat.le_refl _
  | b :: t => by
    have := spaceLen_le t
    unfold spaceLen
    split <;> simp <;> omega
theorem wordL_le (l : List UInt8) : (wordL l).1 ≤ l.length := by
  unfold wordL
  repeat' split
  · exact wordLen_le l
  · exact Nat.zero_le _
  · exact Nat.zero_le _
theorem lineL_le (l : List UInt8) : (lineL l).1 ≤ l.length := by
  rcases l with _ | ⟨a, _ | ⟨c, t⟩⟩ <;> simp only [lineL]
  · exact Nat.le_refl _
  · split <;> simp
  · repeat' split
    all_goals simp
theorem tok_le {k n m : Nat} {x : Nat × Nat} (h : x.1 ≤ m) (_hn : n = x.1) : (tok k x).2.1 ≤ m := by
  unfold tok
  split
  · exact Nat.zero_le _
  · exact h
theorem oneL_le (l : List UInt8) : (oneL l).2.1 ≤ l.length := by
  rcases l with _ | ⟨c, t⟩
  · exact Nat.zero_le _
  have hq := quotF_le t.length t
  have hq2 := quotF_le (t.drop 1).length (t.drop 1)
  simp only [oneL]
  split
  · exact spaceLen_le _
  split
  · exact tok_le (lineL_le _) rfl
  split
  · exact tok_le (comL_le _) rfl
  split
  · simp
  split
  · refine tok_le ?_ rfl
    show 1 + (quotF t.length t).2.1 ≤ _
    rw [List.length_cons]; omega
  split
  · rename_i hp
    refine tok_le ?_ rfl
    show 2 + (quotF (t.drop 1).length (t.drop 1)).2.1 ≤ _
    have h2 : t.take 1 = [34] := by simpa [pre] using hp.2
    have := congrArg List.length h2
    rw [List.length_take] at this
    rw [List.length_drop] at hq2
    simp only [List.length_cons, List.length_nil, List.length_drop] at this ⊢
    omega
  split
  · exact tok_le (wordL_le _) rfl
  · exact Nat.zero_le _
/-! Next: the token at an offset. -/
theorem cell_of_alloc (w : World) (cs : Array Value) (t : TypeId) (i : Nat) : (w.alloc (.cells cs t)).cell? ⟨w.heap.size, i, none⟩ = cs[i]? := cell_of_row (w.alloc (.cells cs t)) w.heap.size i cs t (0, 0) (heap_alloc_new w _)
/-- What Next hands back at an offset that is there: kind, text, offset, error. -/
def nextV (s : ByteArray) (k : Nat) : Value × Nat :=
  if (oneL ((L s).drop k)).2.2 ≠ 0 then (.agg #[.int .i64 0, .string ⟨#[]⟩, .int .i64 0], (oneL ((L s).drop k)).2.2)
  else (.agg #[.int .i64 (oneL ((L s).drop k)).1, .string (s.extract k (k + (oneL ((L s).drop k)).2.1)), .int .i64 k], 0)
theorem Next_any (s : ByteArray) (k : Nat) (w : World) (hk : k < s.size) (hs : s.size ≤ 100000000000) :
    Calls Tryz.prog 38 #[.string s, .int .i64 k] w fun e w' => e = .returned (.tuple #[(nextV s k).1, .int .i64 (nextV s k).2]) ∧ Below w.heap.size w w' := by
  have h0 : ¬ (k : Int) < 0 := by omega
  have h1 : ¬ (s.size : Int) < k := by omega
  have h2 : ((k : Int) == s.size) = false := by rw [beq_eq_false_iff_ne]; omega
  have hz1 : 0 < (s.extract k s.size).size := by rw [ext_size]; omega
  have hz2 : (s.extract k s.size).size ≤ 100000000000 := by rw [ext_size]; omega
  go_enter Tryz.func38, Tryz.ntmps38
  have hnew : ∀ i, (w.alloc (.cells #[.int .i64 0, .string ⟨#[]⟩, .int .i64 0] 73)).cell? ⟨w.heap.size, i, none⟩ = #[Value.int .i64 0, .string ⟨#[]⟩, .int .i64 0][i]? := cell_of_alloc w _ _
  have hfr : ∀ i, (w.alloc (.cells #[.int .i64 0, .string ⟨#[]⟩, .int .i64 0] 73)).frozen? ⟨w.heap.size, i, none⟩ = false := fun i => World.frozen?_alloc_at _ _ _ _ rfl
  have HNW := Lib.hid hnew; clear hnew
  have HFR := Lib.hid hfr; clear hfr
  go_wp2_with fail
  refine (one_any _ _ hz1 hz2).mono ?_
  rintro e w1 ⟨⟨r, n, rfl, hrn⟩, hb1⟩
  have HN := Lib.hid hrn; clear hrn
  have hc0 : w1.cell? ⟨w.heap.size, 0, none⟩ = some (.int .i64 0) := by rw [hb1.cell (p := ⟨w.heap.size, 0, none⟩) (by simp)]; exact HNW.out 0
  have hc1 : w1.cell? ⟨w.heap.size, 1, none⟩ = some (.string ⟨#[]⟩) := by rw [hb1.cell (p := ⟨w.heap.size, 1, none⟩) (by simp)]; exact HNW.out 1
  have hc2 : w1.cell? ⟨w.heap.size, 2, none⟩ = some (.int .i64 0) := by rw [hb1.cell (p := ⟨w.heap.size, 2, none⟩) (by simp)]; exact HNW.out 2
  have hf0 : w1.frozen? ⟨w.heap.size, 0, none⟩ = false := by rw [hb1.frozen (p := ⟨w.heap.size, 0, none⟩) (by simp)]; exact HFR.out 0
  have hf1 : w1.frozen? ⟨w.heap.size, 1, none⟩ = false := by rw [hb1.frozen (p := ⟨w.heap.size, 1, none⟩) (by simp)]; exact HFR.out 1
  have hf2 : w1.frozen? ⟨w.heap.size, 2, none⟩ = false := by rw [hb1.frozen (p := ⟨w.heap.size, 2, none⟩) (by simp)]; exact HFR.out 2
  have hbw : Below w.heap.size w w1 := ((Below.refl _ _).alloc (Nat.le_refl _) _).trans (hb1.mono (by simp))
  clear hb1 HNW HFR
  by_cases hz : (oneL (L (s.extract k s.size))).2.2 = 0
  case neg =>
    have e1 : (((oneL (L (s.extract k s.size))).2.2 : Int) != 0) = true := by rw [bne_iff_ne]; omega
    have HF : Hid (nextV s k = (.agg #[.int .i64 0, .string ⟨#[]⟩, .int .i64 0], (oneL (L (s.extract k s.size))).2.2)) := by unfold Hid nextV; rw [L_from] at hz ⊢; rw [if_pos hz]
    clear hz HN
    go_wp2_with fail
    exact bodyPost_ret (v := .tuple #[.agg #[.int .i64 0, .string ⟨#[]⟩, .int .i64 0], .int .i64 (oneL (L (s.extract k s.size))).2.2]) (by simp [results, Tryz.results38, go_sem, hc0, hc1, hc2]) rfl ⟨by rw [HF.out]; try rfl, ((hbw.setCell (Nat.le_refl _) _).setCell (Nat.le_refl _) _).setCell (Nat.le_refl _) _⟩
  have e1 : (((oneL (L (s.extract k s.size))).2.2 : Int) != 0) = false := by rw [bne_eq_false_iff_eq]; omega
  obtain ⟨hr, hn⟩ := HN.out hz
  have hle := oneL_le (L (s.extract k s.size))
  rw [← hn, L_len, ext_size] at hle
  have HF : Hid (nextV s k = (.agg #[.int .i64 r, .string (s.extract k (k + n)), .int .i64 k], 0)) := by
    unfold Hid nextV
    rw [hr, hn]
    rw [L_from] at hz ⊢
    rw [if_neg (by simpa using hz)]
  clear hr hn HN hz
  go_wp2_with fail
  exact bodyPost_ret (v := .tuple #[.agg #[.int .i64 r, .string (s.extract k (k + n)), .int .i64 k], .int .i64 0]) (by simp [results, Tryz.results38, go_sem, hc0, hc1, hc2]) rfl ⟨by rw [HF.out]; try rfl, ((hbw.setCell (Nat.le_refl _) _).setCell (Nat.le_refl _) _).setCell (Nat.le_refl _) _⟩
end Go.Proofs.YtlnpfpjncnkekaaGreatDoor

namespace Go.Proofs.YtlnpfpjncnkekaaGreatDoor
open Go.RowKit
set_option maxHeartbeats 1000000
set_option maxRecDepth 100000

end Go.Proofs.YtlnpfpjncnkekaaGreatDoor

namespace Go.Proofs.YtlnpfpjncnkekaaGreatDoor
open Go.RowKit
set_option maxHeartbeats 1000000
set_option maxRecDepth 100000

/-- A token's cells. -/
def tk (x : Nat × ByteArray × Nat) : List Value := [.int .i64 x.1, .string x.2.1, .int .i64 x.2.2]
end Go.Proofs.YtlnpfpjncnkekaaGreatDoor

namespace Go.Proofs.YtlnpfpjncnkekaaGreatDoor
open Go.RowKit
set_option maxHeartbeats 1000000
set_option maxRecDepth 100000

end Go.Proofs.YtlnpfpjncnkekaaGreatDoor

namespace Go.Proofs.YtlnpfpjncnkekaaGreatDoor
open Go.RowKit
set_option maxHeartbeats 1000000
set_option maxRecDepth 100000

end Go.Proofs.YtlnpfpjncnkekaaGreatDoor

namespace Go.Proofs.YtlnpfpjncnkekaaGreatDoor
open Go.RowKit
set_option maxHeartbeats 4000000
set_option maxRecDepth 100000

abbrev letB : ByteArray := ⟨#[65, 66, 67, 68, 69, 70, 71, 72, 73, 74, 75, 76, 77, 78, 79, 80, 81, 82, 83, 84, 85, 86, 87, 88, 89, 90, 97, 98, 99, 100, 101, 102, 103, 104, 105, 106, 107, 108, 109, 110, 111, 112, 113, 114, 115, 116, 117, 118, 119, 120, 121, 122, 48, 49, 50, 51, 52, 53, 54, 55, 56, 57, 43, 47]⟩
end Go.Proofs.YtlnpfpjncnkekaaGreatDoor
