/- The package datakitlaw19, walked: awake; Next at any offset; BracelexNexts. Conditions: strings of at most 10^11 bytes. -/
import Derived.Test.YtgddhkanfcpipaaGreatDoorZk7
import Derived.Deep.DeepCutAuto
import Derived.Deep.CutBlock
import Derived.Test.YtgddhkanfcpipaaGreatDoorZk4
namespace Go.Proofs.YtgddhkanfcpipaaGreatDoor
open Go.RowKit
set_option maxHeartbeats 1000000
set_option maxRecDepth 100000

/-- What comment hands back at an offset. -/
def CPost (i : Nat) (x : Nat × Nat) (e : Ending) : Prop :=
  ∃ m : Nat, e = .returned (.tuple #[.int .i64 m, .int .i64 x.2]) ∧ (x.2 = 0 → m = i + x.1)
theorem CPost_err {i : Nat} {x : Nat × Nat} {n k : Nat} (h : x = (n, k)) (hk : k ≠ 0) : CPost i x (.returned (.tuple #[.int .i64 0, .int .i64 k])) := by
  subst h
  exact ⟨0, rfl, fun h => absurd h hk⟩
theorem CPost_ok {i : Nat} {x : Nat × Nat} {n m : Nat} (h : x = (n, 0)) (hm : m = i + n) : CPost i x (.returned (.tuple #[.int .i64 m, .int .i64 0])) := by
  subst h
  exact ⟨m, rfl, fun _ => hm⟩
theorem pre2_iff (s : ByteArray) (k : Nat) (h : k < s.size) (a b : UInt8) : pre ((L s).drop k) [a, b] = true ↔ s[k] = a ∧ ∃ h2 : k + 1 < s.size, s[k + 1] = b := by
  rw [L_drop s k h]
  by_cases h2 : k + 1 < s.size
  · rw [L_drop s (k + 1) h2]
    simp [pre, h2]
  · rw [L_drop_nil s (k + 1) (by omega)]
    simp [pre, h2]
theorem beqB (b : UInt8) (n : Int) (h : (b.toNat : Int) = n) : ((b.toNat : Int) == n) = true := by rw [beq_iff_eq]; exact h
theorem beqNB (b : UInt8) (n : Int) (h : ¬ (b.toNat : Int) = n) : ((b.toNat : Int) == n) = false := by rw [beq_eq_false_iff_ne]; exact h
theorem bneB (b : UInt8) (n : Int) (h : (b.toNat : Int) = n) : ((b.toNat : Int) != n) = false := by rw [bne_eq_false_iff_eq]; exact h
theorem bneNB (b : UInt8) (n : Int) (h : ¬ (b.toNat : Int) = n) : ((b.toNat : Int) != n) = true := by rw [bne_iff_ne]; exact h
theorem u8_of {b : UInt8} {n : Nat} (h : b.toNat = n) : b = UInt8.ofNat n := by rw [← h]; simp

end Go.Proofs.YtgddhkanfcpipaaGreatDoor

namespace Go.Proofs.YtgddhkanfcpipaaGreatDoor
open Go.RowKit
set_option maxHeartbeats 1000000
set_option maxRecDepth 100000

theorem pre1_iff (s : ByteArray) (k : Nat) (h : k < s.size) (a : UInt8) : pre ((L s).drop k) [a] = decide (s[k].toNat = a.toNat) := by
  rw [L_drop s k h, Bool.eq_iff_iff]
  simp [pre, UInt8.toNat_inj]
theorem pre1_nil (s : ByteArray) (k : Nat) (h : s.size ≤ k) (a : UInt8) : pre ((L s).drop k) [a] = false := by
  rw [L_drop_nil s k h]; rfl
theorem drop_empty (s : ByteArray) (k : Nat) (hk : k ≤ s.size) : ((L s).drop k).isEmpty = decide (k = s.size) := by
  rw [Bool.eq_iff_iff]
  have := L_len s
  simp
  omega
theorem ret2_bool {a b : Bool} {x : Bool × Bool} (h : x = (a, b)) : Ending.returned (.tuple #[.bool a, .bool b]) = Ending.returned (.tuple #[.bool x.1, .bool x.2]) := by rw [h]
/-- A letter of the exponent at an offset. -/
def isE : List UInt8 → Bool
  | [] => false
  | c :: _ => decide (c.toNat = 101 ∨ c.toNat = 69)
def isSgn : List UInt8 → Bool
  | [] => false
  | c :: _ => sgn c
theorem expN_yes (l : List UInt8) (h : isE l = true) : expN l = if runL (dropSign (l.drop 1)) = 0 then (false, (dropSign (l.drop 1)).isEmpty) else (((dropSign (l.drop 1)).drop (runL (dropSign (l.drop 1)))).isEmpty, ((dropSign (l.drop 1)).drop (runL (dropSign (l.drop 1)))).isEmpty) := by
  cases l with
  | nil => cases h
  | cons c t =>
    have hc : c.toNat = 101 ∨ c.toNat = 69 := by simpa [isE] using h
    simp only [expN]
    rw [if_pos hc]
    rfl
theorem expN_no (l : List UInt8) (h : isE l = false) : expN l = (l.isEmpty, l.isEmpty) := by
  cases l with
  | nil => rfl
  | cons c t =>
    have hc : ¬ (c.toNat = 101 ∨ c.toNat = 69) := by
      intro hc; simp only [isE] at h; rw [decide_eq_true hc] at h; cases h
    simp only [expN]
    rw [if_neg hc]
    rfl
theorem dropSign_eq (l : List UInt8) : dropSign l = if isSgn l then l.drop 1 else l := by
  cases l with
  | nil => rfl
  | cons c t =>
    show (if sgn c then t else c :: t) = if sgn c then t else c :: t
    rfl

theorem IsNumber3_any (s : ByteArray) (w : World) (hs : s.size ≤ 100000000000) :
    Calls Tryz.prog 47 #[.string s] w fun e w' => e = .returned (.tuple #[.bool (isN (L s)).1, .bool (isN (L s)).2]) ∧ w = w' := by
  have hm : s.size ≤ maxLen := by simp only [maxLen]; omega
  go_enter Tryz.func47, Tryz.ntmps47
  go_upto_region 2 with fail
  go_cut [15] (fun v wx => v = .bool (pre (L s) [45]) ∧ wx = w)
  case first =>
    by_cases a1 : 0 < s.size
    · have q1 : (0 : Int) < s.size := by omega
      have hp := pre1_iff s 0 a1 45
      rw [List.drop_zero] at hp
      by_cases a2 : s[0].toNat = 45
      · have q2 := beqB s[0] 45 (by omega)
        have HV : Hid (pre (L s) [45] = true) := by unfold Hid; rw [hp]; simpa using a2
        clear hp a2
        go_wp2_with fail
        go_meet
        exact ⟨by rw [HV.out], rfl⟩
      · have q2 := beqNB s[0] 45 (by omega)
        have HV : Hid (pre (L s) [45] = false) := by unfold Hid; rw [hp]; simpa using a2
        clear hp a2
        go_wp2_with fail
        go_meet
        exact ⟨by rw [HV.out], rfl⟩
    · have q1 : ¬ (0 : Int) < s.size := by omega
      have HV : Hid (pre (L s) [45] = false) := by
        unfold Hid; have := pre1_nil s 0 (by omega) 45; rwa [List.drop_zero] at this
      go_wp2_with fail
      go_meet
      exact ⟨by rw [HV.out], rfl⟩
  case rest =>
  obtain ⟨rfl, rfl⟩ := hcut
  have h1 : isN (L s) = intN ((L s).drop (if pre (L s) [45] then 1 else 0)) := by
    unfold isN
    cases pre (L s) [45] <;> simp
  have hi0 : (if pre (L s) [45] then 1 else 0) ≤ s.size := by
    cases hp : pre (L s) [45]
    · simp
    · have := pre_yes (s := s) (p := ⟨#[45]⟩) hp
      exact this
  have H1 := Lib.hid h1; clear h1
  go_upto_if 15 with fail
  go_cut [4] (fun v wx => v = .int .i64 ((if pre (L s) [45] then 1 else 0 : Nat) : Int) ∧ wx = wc)
  case first =>
    cases hp : pre (L s) [45]
    · go_wp2_with fail
      go_meet
      exact ⟨by rw [hp]; rfl, rfl⟩
    · go_wp2_with fail
      go_meet
      exact ⟨by rw [hp]; rfl, rfl⟩
  case rest =>
  obtain ⟨rfl, rfl⟩ := hcut
  generalize (if pre (L s) [45] then 1 else 0) = i at *
  by_cases hl : i = s.size
  · have q : ((i : Int) == s.size) = true := by rw [beq_iff_eq]; omega
    have HF : Hid (isN (L s) = (false, true)) := by unfold Hid; rw [H1.out, hl, L_drop_nil s _ (Nat.le_refl _)]; rfl
    clear hl H1
    go_wp2_with fail
    go_ret2
    exact ⟨ret2_bool HF.out, rfl⟩
  have q : ((i : Int) == s.size) = false := by rw [beq_eq_false_iff_ne]; omega
  have hlt : i < s.size := by omega
  have hr := runL_le ((L s).drop i)
  rw [List.length_drop, L_len] at hr
  have H2 : Hid (isN (L s) = if runL ((L s).drop i) = 0 ∨ (zero0 ((L s).drop i) ∧ 1 < runL ((L s).drop i)) then (false, false) else fracN ((L s).drop (i + runL ((L s).drop i)))) := by
    unfold Hid
    rw [H1.out, intN, if_neg (by rw [L_drop s i hlt]; simp), List.drop_drop]
  have hz0 : Hid (zero0 ((L s).drop i) = (s[i].toNat == 48)) := by unfold Hid; rw [L_drop s i hlt]; rfl
  clear hl H1
  go_upto_region 7 with (go_at_call 98; refine (run3_any s i _ hi0 hm).mono ?_; rintro e w' ⟨rfl, rfl⟩)
  generalize hn : runL ((L s).drop i) = n at *
  clear hn
  go_cut [39] (fun v wx => v = .bool (decide (n = 0 ∨ (zero0 ((L s).drop i) = true ∧ 1 < n))) ∧ wx = wc)
  case first =>
    by_cases b1 : n = 0
    · have e1 : ((i : Int) + n == i) = true := by rw [beq_iff_eq]; omega
      have HV : Hid (decide (n = 0 ∨ (zero0 ((L s).drop i) = true ∧ 1 < n)) = true) := decide_eq_true (.inl b1)
      clear b1
      go_wp2_with fail
      go_meet
      exact ⟨by rw [HV.out], rfl⟩
    have e1 : ((i : Int) + n == i) = false := by rw [beq_eq_false_iff_ne]; omega
    by_cases b2 : s[i].toNat = 48
    · have e2 := beqB s[i] 48 (by omega)
      have hz : zero0 ((L s).drop i) = true := by rw [hz0.out]; simpa using b2
      by_cases b3 : 1 < n
      · have e3 : (i : Int) + 1 < i + n := by omega
        have HV : Hid (decide (n = 0 ∨ (zero0 ((L s).drop i) = true ∧ 1 < n)) = true) := decide_eq_true (.inr ⟨hz, b3⟩)
        clear b1 b2 hz
        go_wp2_with fail
        go_meet
        exact ⟨by rw [HV.out], rfl⟩
      · have e3 : ¬ (i : Int) + 1 < i + n := by omega
        have HV : Hid (decide (n = 0 ∨ (zero0 ((L s).drop i) = true ∧ 1 < n)) = false) := decide_eq_false (fun h => h.elim b1 (fun h => b3 h.2))
        clear b1 b2 hz
        go_wp2_with fail
        go_meet
        exact ⟨by rw [HV.out], rfl⟩
    · have e2 := beqNB s[i] 48 (by omega)
      have hz : zero0 ((L s).drop i) = false := by rw [hz0.out]; simpa using b2
      have HV : Hid (decide (n = 0 ∨ (zero0 ((L s).drop i) = true ∧ 1 < n)) = false) := decide_eq_false (fun h => h.elim b1 (fun h => by rw [hz] at h; cases h.1))
      clear b1 b2 hz
      go_wp2_with fail
      go_meet
      exact ⟨by rw [HV.out], rfl⟩
  case rest =>
  obtain ⟨rfl, rfl⟩ := hcut
  clear hz0
  by_cases hbad : n = 0 ∨ (zero0 ((L s).drop i) = true ∧ 1 < n)
  · have HF : Hid (isN (L s) = (false, false)) := by unfold Hid; rw [H2.out, if_pos hbad]
    rw [decide_eq_true hbad]
    clear hbad H2
    go_wp2_with fail
    go_ret2
    exact ⟨ret2_bool HF.out, rfl⟩
  have H3 : Hid (isN (L s) = fracN ((L s).drop (i + n))) := by unfold Hid; rw [H2.out, if_neg hbad]
  rw [decide_eq_false hbad]
  clear hbad H2
  obtain ⟨k, hk⟩ : ∃ k, k = i + n := ⟨_, rfl⟩
  have hks : k ≤ s.size := by omega
  rw [← hk] at H3
  go_upto_region 10 with fail
  rw [show (i : Int) + n = (k : Int) by omega]
  clear hk hr q hlt
  go_cut [50] (fun v wx => v = .bool (pre ((L s).drop k) [46]) ∧ wx = wc)
  case first =>
    by_cases a1 : k < s.size
    · have q1 : (k : Int) < s.size := by omega
      have hp := pre1_iff s k a1 46
      by_cases a2 : s[k].toNat = 46
      · have q2 := beqB s[k] 46 (by omega)
        have HV : Hid (pre ((L s).drop k) [46] = true) := by unfold Hid; rw [hp]; simpa using a2
        clear hp a2
        go_wp2_with fail
        go_meet
        exact ⟨by rw [HV.out], rfl⟩
      · have q2 := beqNB s[k] 46 (by omega)
        have HV : Hid (pre ((L s).drop k) [46] = false) := by unfold Hid; rw [hp]; simpa using a2
        clear hp a2
        go_wp2_with fail
        go_meet
        exact ⟨by rw [HV.out], rfl⟩
    · have q1 : ¬ (k : Int) < s.size := by omega
      have HV : Hid (pre ((L s).drop k) [46] = false) := pre1_nil s k (by omega) 46
      go_wp2_with fail
      go_meet
      exact ⟨by rw [HV.out], rfl⟩
  case rest =>
  obtain ⟨rfl, rfl⟩ := hcut
  go_upto_if 50 with fail
  go_cut [4] (fun v wx => ∃ j : Nat, v = .int .i64 j ∧ j ≤ s.size ∧ Hid (isN (L s) = expN ((L s).drop j)) ∧ wx = wc)
  case first =>
    cases hp : pre ((L s).drop k) [46]
    · have HF : Hid (isN (L s) = expN ((L s).drop k)) := by unfold Hid; rw [H3.out, fracN, hp]; rfl
      go_wp2_with fail
      go_meet
      exact ⟨k, rfl, hks, HF, rfl⟩
    · have hlt : k + 1 ≤ s.size := by
        have := congrArg List.length (show ((L s).drop k).take 1 = [46] by simpa [pre] using hp)
        rw [List.length_take, List.length_drop, L_len] at this
        simp at this; omega
      have HF : Hid (isN (L s) = if runL ((L s).drop (k + 1)) = 0 then (false, ((L s).drop (k + 1)).isEmpty) else expN ((L s).drop (k + 1 + runL ((L s).drop (k + 1))))) := by
        unfold Hid; rw [H3.out, fracN, hp, List.drop_drop, List.drop_drop, show k + (1 + runL ((L s).drop (k + 1))) = k + 1 + runL ((L s).drop (k + 1)) by omega]; rfl
      have hr := runL_le ((L s).drop (k + 1))
      rw [List.length_drop, L_len] at hr
      clear hp H3
      go_wp2_with fail
      refine (run3_any s (k + 1) _ hlt hm).mono ?_
      rintro e w' ⟨rfl, rfl⟩
      generalize hm' : runL ((L s).drop (k + 1)) = m at *
      clear hm'
      by_cases hz : m = 0
      · have q : (((k + 1 + m : Nat) : Int) == (k : Int) + 1) = true := by rw [beq_iff_eq]; omega
        have HG : Hid (isN (L s) = (false, (((k + 1 + m : Nat) : Int) == s.size))) := by
          unfold Hid
          rw [HF.out, if_pos hz, drop_empty s (k + 1) hlt, hz]
          congr 1
          rw [Bool.eq_iff_iff]
          simp
          omega
        clear hz HF
        generalize hj : k + 1 + m = j at *
        clear hj
        go_wp2_with fail
        go_ret2
        exact ⟨ret2_bool HG.out, rfl⟩
      · have q : (((k + 1 + m : Nat) : Int) == (k : Int) + 1) = false := by rw [beq_eq_false_iff_ne]; omega
        have HG : Hid (isN (L s) = expN ((L s).drop (k + 1 + m))) := by unfold Hid; rw [HF.out, if_neg hz]
        have hj2 : k + 1 + m ≤ s.size := by omega
        clear hz HF
        generalize k + 1 + m = j at *
        go_wp2_with fail
        go_meet
        exact ⟨j, rfl, hj2, HG, rfl⟩
  case rest =>
  obtain ⟨j, rfl, hj, H4, rfl⟩ := hcut
  clear H3 hks
  go_upto_region 15 with fail
  go_cut [79] (fun v wx => v = .bool (isE ((L s).drop j)) ∧ wx = wc)
  case first =>
    by_cases a1 : j < s.size
    · have q1 : (j : Int) < s.size := by omega
      have hp : isE ((L s).drop j) = decide (s[j].toNat = 101 ∨ s[j].toNat = 69) := by rw [L_drop s j a1]; rfl
      by_cases a2 : s[j].toNat = 101
      · have q2 := beqB s[j] 101 (by omega)
        have HV : Hid (isE ((L s).drop j) = true) := by unfold Hid; rw [hp]; exact decide_eq_true (.inl a2)
        clear hp a2
        go_wp2_with fail
        go_meet
        exact ⟨by rw [HV.out], rfl⟩
      have q2 := beqNB s[j] 101 (by omega)
      by_cases a3 : s[j].toNat = 69
      · have q3 := beqB s[j] 69 (by omega)
        have HV : Hid (isE ((L s).drop j) = true) := by unfold Hid; rw [hp]; exact decide_eq_true (.inr a3)
        clear hp a2 a3
        go_wp2_with fail
        go_meet
        exact ⟨by rw [HV.out], rfl⟩
      · have q3 := beqNB s[j] 69 (by omega)
        have HV : Hid (isE ((L s).drop j) = false) := by unfold Hid; rw [hp]; exact decide_eq_false (fun h => h.elim a2 a3)
        clear hp a2 a3
        go_wp2_with fail
        go_meet
        exact ⟨by rw [HV.out], rfl⟩
    · have q1 : ¬ (j : Int) < s.size := by omega
      have HV : Hid (isE ((L s).drop j) = false) := by unfold Hid; rw [L_drop_nil s j (by omega)]; rfl
      go_wp2_with fail
      go_meet
      exact ⟨by rw [HV.out], rfl⟩
  case rest =>
  obtain ⟨rfl, rfl⟩ := hcut
  cases he : isE ((L s).drop j)
  · have HG : Hid (isN (L s) = (((j : Int) == s.size), ((j : Int) == s.size))) := by
      unfold Hid
      rw [H4.out, expN_no _ he, drop_empty s j hj]
      have : decide (j = s.size) = ((j : Int) == s.size) := by rw [Bool.eq_iff_iff]; simp; omega
      rw [this]
    clear he H4
    go_wp2_with fail
    go_ret2
    exact ⟨ret2_bool HG.out, rfl⟩
  have hlt : j + 1 ≤ s.size := by
    rcases Nat.lt_or_ge j s.size with h | h
    · exact h
    · rw [L_drop_nil s j h] at he; cases he
  have H5 : Hid (isN (L s) = if runL (dropSign ((L s).drop (j + 1))) = 0 then (false, (dropSign ((L s).drop (j + 1))).isEmpty) else (((dropSign ((L s).drop (j + 1))).drop (runL (dropSign ((L s).drop (j + 1))))).isEmpty, ((dropSign ((L s).drop (j + 1))).drop (runL (dropSign ((L s).drop (j + 1))))).isEmpty)) := by
    unfold Hid
    rw [H4.out, expN_yes _ he, List.drop_drop]
  clear he H4 hj
  go_upto_region 17 with fail
  obtain ⟨a, ha⟩ : ∃ a, a = j + 1 := ⟨_, rfl⟩
  rw [← ha] at hlt H5
  rw [show (j : Int) + 1 = (a : Int) by omega]
  clear ha
  go_cut [97] (fun v wx => v = .bool (isSgn ((L s).drop a)) ∧ wx = wc)
  case first =>
    by_cases a1 : a < s.size
    · have q1 : (a : Int) < s.size := by omega
      have hp : isSgn ((L s).drop a) = sgn s[a] := by rw [L_drop s a a1]; rfl
      by_cases a2 : s[a].toNat = 43
      · have q2 := beqB s[a] 43 (by omega)
        have HV : Hid (isSgn ((L s).drop a) = true) := by unfold Hid; rw [hp]; simp [sgn, a2]
        clear hp a2
        go_wp2_with fail
        go_meet
        exact ⟨by rw [HV.out], rfl⟩
      have q2 := beqNB s[a] 43 (by omega)
      by_cases a3 : s[a].toNat = 45
      · have q3 := beqB s[a] 45 (by omega)
        have HV : Hid (isSgn ((L s).drop a) = true) := by unfold Hid; rw [hp]; simp [sgn, a3]
        clear hp a2 a3
        go_wp2_with fail
        go_meet
        exact ⟨by rw [HV.out], rfl⟩
      · have q3 := beqNB s[a] 45 (by omega)
        have HV : Hid (isSgn ((L s).drop a) = false) := by unfold Hid; rw [hp]; simp [sgn, a2, a3]
        clear hp a2 a3
        go_wp2_with fail
        go_meet
        exact ⟨by rw [HV.out], rfl⟩
    · have q1 : ¬ (a : Int) < s.size := by omega
      have HV : Hid (isSgn ((L s).drop a) = false) := by unfold Hid; rw [L_drop_nil s a (by omega)]; rfl
      go_wp2_with fail
      go_meet
      exact ⟨by rw [HV.out], rfl⟩
  case rest =>
  obtain ⟨rfl, rfl⟩ := hcut
  go_upto_if 97 with fail
  go_cut [4] (fun v wx => ∃ b : Nat, v = .int .i64 b ∧ b ≤ s.size ∧ Hid (dropSign ((L s).drop a) = (L s).drop b) ∧ wx = wc)
  case first =>
    cases hp : isSgn ((L s).drop a)
    · have HV : Hid (dropSign ((L s).drop a) = (L s).drop a) := by unfold Hid; rw [dropSign_eq, hp]; rfl
      go_wp2_with fail
      go_meet
      exact ⟨a, rfl, hlt, HV, rfl⟩
    · have hlt2 : a + 1 ≤ s.size := by
        rcases Nat.lt_or_ge a s.size with h | h
        · exact h
        · rw [L_drop_nil s a h] at hp; cases hp
      have HV : Hid (dropSign ((L s).drop a) = (L s).drop (a + 1)) := by unfold Hid; rw [dropSign_eq, hp, if_pos rfl, List.drop_drop]
      clear hp
      go_wp2_with fail
      go_meet
      exact ⟨a + 1, rfl, hlt2, HV, rfl⟩
  case rest =>
  obtain ⟨b, rfl, hb, HB, rfl⟩ := hcut
  have H6 : Hid (isN (L s) = if runL ((L s).drop b) = 0 then (false, ((L s).drop b).isEmpty) else (((L s).drop (b + runL ((L s).drop b))).isEmpty, ((L s).drop (b + runL ((L s).drop b))).isEmpty)) := by
    unfold Hid; rw [H5.out, HB.out, List.drop_drop]
  have hr := runL_le ((L s).drop b)
  rw [List.length_drop, L_len] at hr
  clear H5 HB hlt
  go_wp2_with fail
  refine (run3_any s b _ hb hm).mono ?_
  rintro e w' ⟨rfl, rfl⟩
  generalize hm' : runL ((L s).drop b) = m at *
  clear hm'
  by_cases hz : m = 0
  · have q : (((b + m : Nat) : Int) == (b : Int)) = true := by rw [beq_iff_eq]; omega
    have HG : Hid (isN (L s) = (false, (((b + m : Nat) : Int) == s.size))) := by
      unfold Hid
      rw [H6.out, if_pos hz, drop_empty s b hb, hz]
      congr 1
      rw [Bool.eq_iff_iff]
      simp
      omega
    clear hz H6
    generalize hj : b + m = c at *
    clear hj
    go_wp2_with fail
    go_ret2
    exact ⟨ret2_bool HG.out, rfl⟩
  · have q : (((b + m : Nat) : Int) == (b : Int)) = false := by rw [beq_eq_false_iff_ne]; omega
    have hc : b + m ≤ s.size := by omega
    have HG : Hid (isN (L s) = ((((b + m : Nat) : Int) == s.size), (((b + m : Nat) : Int) == s.size))) := by
      unfold Hid
      rw [H6.out, if_neg hz, drop_empty s _ hc]
      have : decide (b + m = s.size) = (((b + m : Nat) : Int) == s.size) := by rw [Bool.eq_iff_iff]; simp; omega
      rw [this]
    clear hz H6
    generalize b + m = c at *
    go_wp2_with fail
    go_ret2
    exact ⟨ret2_bool HG.out, rfl⟩
end Go.Proofs.YtgddhkanfcpipaaGreatDoor

namespace Go.Proofs.YtgddhkanfcpipaaGreatDoor
open Go.RowKit
set_option maxHeartbeats 1000000
set_option maxRecDepth 100000

/-! A token without an error takes bytes that are there. -/
theorem comF_le (block : Bool) : ∀ (f : Nat) (l : List UInt8), (comF block f l).1 ≤ l.length
  | 0, l => by unfold comF; split <;> exact Nat.zero_le _
  | f + 1, [] => by unfold comF; split <;> exact Nat.zero_le _
  | f + 1, b :: t => by
    unfold comF
    split
    · exact Nat.zero_le _
    split
    · rename_i h
      have h2 : (b :: t).take 2 = [42, 47] := by simpa [pre] using h.2
      have := congrArg List.length h2
      rw [List.length_take] at this
      simp only [List.length_cons, List.length_nil] at this ⊢
      omega
    split
    · exact Nat.zero_le _
    split
    · exact Nat.zero_le _
    · have h1 := dec_le (b :: t)
      have h2 := comF_le block f ((b :: t).drop (dec (b :: t)).2)
      rw [List.length_drop] at h2
      show (dec (b :: t)).2 + _ ≤ _
      omega
theorem comL_le (l : List UInt8) : (comL l).1 ≤ l.length := by
  rcases l with _ | ⟨a, _ | ⟨c, t⟩⟩
  · exact Nat.zero_le _
  · exact Nat.zero_le _
  · have h1 := comF_le false t.length t
    have h2 := comF_le true t.length t
    simp only [comL, List.length_cons]
    repeat' split
    all_goals simp only []
    all_goals omega
theorem spaceLen_le : ∀ l : List UInt8, spaceLen l ≤ l.length
  | [] => Nat.le_refl _
  | b :: t => by
    have := spaceLen_le t
    unfold spaceLen
    split <;> simp <;> omega
theorem wordL_le (l : List UInt8) : (wordL l).1 ≤ l.length := by
  unfold wordL
  repeat' split
  · exact wordLen_le l
  · exact Nat.zero_le _
  · exact Nat.zero_le _
theorem lineL_le (l : List UInt8) : (lineL l).1 ≤ l.length := by
  rcases l with _ | ⟨a, _ | ⟨c, t⟩⟩ <;> simp only [lineL]
  · exact Nat.le_refl _
  · split <;> simp
  · repeat' split
    all_goals simp
theorem tok_le {k n m : Nat} {x : Nat × Nat} (h : x.1 ≤ m) (_hn : n = x.1) : (tok k x).2.1 ≤ m := by
  unfold tok
  split
  · exact Nat.zero_le _
  · exact h
theorem oneL_le (l : List UInt8) : (oneL l).2.1 ≤ l.length := by
  rcases l with _ | ⟨c, t⟩
  · exact Nat.zero_le _
  have hq := quotF_le t.length t
  have hq2 := quotF_le (t.drop 1).length (t.drop 1)
  simp only [oneL]
  split
  · exact spaceLen_le _
  split
  · exact tok_le (lineL_le _) rfl
  split
  · exact tok_le (comL_le _) rfl
  split
  · simp
  split
  · refine tok_le ?_ rfl
    show 1 + (quotF t.length t).2.1 ≤ _
    rw [List.length_cons]; omega
  split
  · rename_i hp
    refine tok_le ?_ rfl
    show 2 + (quotF (t.drop 1).length (t.drop 1)).2.1 ≤ _
    have h2 : t.take 1 = [34] := by simpa [pre] using hp.2
    have := congrArg List.length h2
    rw [List.length_take] at this
    rw [List.length_drop] at hq2
    simp only [List.length_cons, List.length_nil, List.length_drop] at this ⊢
    omega
  split
  · exact tok_le (wordL_le _) rfl
  · exact Nat.zero_le _
/-! Next: the token at an offset. -/
theorem cell_of_alloc (w : World) (cs : Array Value) (t : TypeId) (i : Nat) : (w.alloc (.cells cs t)).cell? ⟨w.heap.size, i, none⟩ = cs[i]? := cell_of_row (w.alloc (.cells cs t)) w.heap.size i cs t (0, 0) (heap_alloc_new w _)
/-- What Next hands back at an offset that is there: kind, text, offset, error. -/
def nextV (s : ByteArray) (k : Nat) : Value × Nat :=
  if (oneL ((L s).drop k)).2.2 ≠ 0 then (.agg #[.int .i64 0, .string ⟨#[]⟩, .int .i64 0], (oneL ((L s).drop k)).2.2)
  else (.agg #[.int .i64 (oneL ((L s).drop k)).1, .string (s.extract k (k + (oneL ((L s).drop k)).2.1)), .int .i64 k], 0)
theorem Next_any (s : ByteArray) (k : Nat) (w : World) (hk : k < s.size) (hs : s.size ≤ 100000000000) :
    Calls Tryz.prog 52 #[.string s, .int .i64 k] w fun e w' => e = .returned (.tuple #[(nextV s k).1, .int .i64 (nextV s k).2]) ∧ Below w.heap.size w w' := by
  have h0 : ¬ (k : Int) < 0 := by omega
  have h1 : ¬ (s.size : Int) < k := by omega
  have h2 : ((k : Int) == s.size) = false := by rw [beq_eq_false_iff_ne]; omega
  have hz1 : 0 < (s.extract k s.size).size := by rw [ext_size]; omega
  have hz2 : (s.extract k s.size).size ≤ 100000000000 := by rw [ext_size]; omega
  go_enter Tryz.func52, Tryz.ntmps52
  have hnew : ∀ i, (w.alloc (.cells #[.int .i64 0, .string ⟨#[]⟩, .int .i64 0] 83)).cell? ⟨w.heap.size, i, none⟩ = #[Value.int .i64 0, .string ⟨#[]⟩, .int .i64 0][i]? := cell_of_alloc w _ _
  have hfr : ∀ i, (w.alloc (.cells #[.int .i64 0, .string ⟨#[]⟩, .int .i64 0] 83)).frozen? ⟨w.heap.size, i, none⟩ = false := fun i => World.frozen?_alloc_at _ _ _ _ rfl
  have HNW := Lib.hid hnew; clear hnew
  have HFR := Lib.hid hfr; clear hfr
  go_wp2_with fail
  refine (one_any _ _ hz1 hz2).mono ?_
  rintro e w1 ⟨⟨r, n, rfl, hrn⟩, hb1⟩
  have HN := Lib.hid hrn; clear hrn
  have hc0 : w1.cell? ⟨w.heap.size, 0, none⟩ = some (.int .i64 0) := by rw [hb1.cell (p := ⟨w.heap.size, 0, none⟩) (by simp)]; exact HNW.out 0
  have hc1 : w1.cell? ⟨w.heap.size, 1, none⟩ = some (.string ⟨#[]⟩) := by rw [hb1.cell (p := ⟨w.heap.size, 1, none⟩) (by simp)]; exact HNW.out 1
  have hc2 : w1.cell? ⟨w.heap.size, 2, none⟩ = some (.int .i64 0) := by rw [hb1.cell (p := ⟨w.heap.size, 2, none⟩) (by simp)]; exact HNW.out 2
  have hf0 : w1.frozen? ⟨w.heap.size, 0, none⟩ = false := by rw [hb1.frozen (p := ⟨w.heap.size, 0, none⟩) (by simp)]; exact HFR.out 0
  have hf1 : w1.frozen? ⟨w.heap.size, 1, none⟩ = false := by rw [hb1.frozen (p := ⟨w.heap.size, 1, none⟩) (by simp)]; exact HFR.out 1
  have hf2 : w1.frozen? ⟨w.heap.size, 2, none⟩ = false := by rw [hb1.frozen (p := ⟨w.heap.size, 2, none⟩) (by simp)]; exact HFR.out 2
  have hbw : Below w.heap.size w w1 := ((Below.refl _ _).alloc (Nat.le_refl _) _).trans (hb1.mono (by simp))
  clear hb1 HNW HFR
  by_cases hz : (oneL (L (s.extract k s.size))).2.2 = 0
  case neg =>
    have e1 : (((oneL (L (s.extract k s.size))).2.2 : Int) != 0) = true := by rw [bne_iff_ne]; omega
    have HF : Hid (nextV s k = (.agg #[.int .i64 0, .string ⟨#[]⟩, .int .i64 0], (oneL (L (s.extract k s.size))).2.2)) := by unfold Hid nextV; rw [L_from] at hz ⊢; rw [if_pos hz]
    clear hz HN
    go_wp2_with fail
    exact bodyPost_ret (v := .tuple #[.agg #[.int .i64 0, .string ⟨#[]⟩, .int .i64 0], .int .i64 (oneL (L (s.extract k s.size))).2.2]) (by simp [results, Tryz.results52, go_sem, hc0, hc1, hc2]) rfl ⟨by rw [HF.out]; try rfl, ((hbw.setCell (Nat.le_refl _) _).setCell (Nat.le_refl _) _).setCell (Nat.le_refl _) _⟩
  have e1 : (((oneL (L (s.extract k s.size))).2.2 : Int) != 0) = false := by rw [bne_eq_false_iff_eq]; omega
  obtain ⟨hr, hn⟩ := HN.out hz
  have hle := oneL_le (L (s.extract k s.size))
  rw [← hn, L_len, ext_size] at hle
  have HF : Hid (nextV s k = (.agg #[.int .i64 r, .string (s.extract k (k + n)), .int .i64 k], 0)) := by
    unfold Hid nextV
    rw [hr, hn]
    rw [L_from] at hz ⊢
    rw [if_neg (by simpa using hz)]
  clear hr hn HN hz
  go_wp2_with fail
  exact bodyPost_ret (v := .tuple #[.agg #[.int .i64 r, .string (s.extract k (k + n)), .int .i64 k], .int .i64 0]) (by simp [results, Tryz.results52, go_sem, hc0, hc1, hc2]) rfl ⟨by rw [HF.out]; try rfl, ((hbw.setCell (Nat.le_refl _) _).setCell (Nat.le_refl _) _).setCell (Nat.le_refl _) _⟩
end Go.Proofs.YtgddhkanfcpipaaGreatDoor

namespace Go.Proofs.YtgddhkanfcpipaaGreatDoor
open Go.RowKit
set_option maxHeartbeats 1000000
set_option maxRecDepth 100000

/-- What scan hands back at an offset. -/
def SPost (i : Nat) (x : Nat × Nat × Nat) (e : Ending) : Prop :=
  ∃ r m : Nat, e = .returned (.tuple #[.int .i64 r, .int .i64 m, .int .i64 x.2.2]) ∧ (x.2.2 = 0 → r = x.1 ∧ m = i + x.2.1)
theorem SPost_err {i : Nat} {x : Nat × Nat × Nat} {a b k : Nat} (h : x = (a, b, k)) (hk : k ≠ 0) : SPost i x (.returned (.tuple #[.int .i64 0, .int .i64 0, .int .i64 k])) := by
  subst h
  exact ⟨0, 0, rfl, fun h => absurd h hk⟩
theorem SPost_ok {i : Nat} {x : Nat × Nat × Nat} {r n m : Nat} (h : x = (r, n, 0)) (hm : m = i + n) : SPost i x (.returned (.tuple #[.int .i64 r, .int .i64 m, .int .i64 0])) := by
  subst h
  exact ⟨r, m, rfl, fun _ => ⟨rfl, hm⟩⟩
theorem SPost_tok {i k m n er : Nat} {y : Nat × Nat × Nat} (h : y = tok k (n, er)) (hm : er = 0 → m = i + n) : SPost i y (.returned (.tuple #[.int .i64 k, .int .i64 m, .int .i64 er])) := by
  subst h
  unfold tok
  by_cases hz : er = 0
  · subst hz
    obtain rfl := hm rfl
    exact ⟨k, i + n, rfl, fun _ => ⟨rfl, rfl⟩⟩
  · rw [if_pos hz]
    exact ⟨k, m, rfl, fun h => absurd h hz⟩

theorem lineL_cr (b c : UInt8) (t : List UInt8) (h : b.toNat = 13) : lineL (b :: c :: t) = if c.toNat = 10 then (2, 0) else (0, 3) := by
  simp only [lineL]
  rw [if_neg (by omega)]
theorem oneL_at (s : ByteArray) (i : Nat) (hi : i < s.size) : oneL ((L s).drop i) = if blank s[i] then (1, spaceLen ((L s).drop i), 0)
    else if s[i].toNat = 10 ∨ s[i].toNat = 13 then tok 2 (lineL ((L s).drop i))
    else if s[i].toNat = 47 then tok 3 (comL ((L s).drop i))
    else if punct s[i] then (4, 1, 0)
    else if s[i].toNat = 34 then tok 5 (1 + (quotL ((L s).drop (i + 1))).2.1, (quotL ((L s).drop (i + 1))).2.2)
    else if (s[i].toNat = 116 ∨ s[i].toNat = 98) ∧ pre ((L s).drop (i + 1)) [34] then tok 5 (2 + (quotL ((L s).drop (i + 2))).2.1, (quotL ((L s).drop (i + 2))).2.2)
    else if wordb s[i] then tok 6 (wordL ((L s).drop i))
    else (0, 0, 3) := by
  have h2 : ((L s).drop (i + 1)).drop 1 = (L s).drop (i + 2) := by rw [List.drop_drop]
  rw [← h2]
  obtain ⟨t, ht⟩ : ∃ t, (L s).drop (i + 1) = t := ⟨_, rfl⟩
  have hl : (L s).drop i = s[i] :: t := by rw [← ht]; exact L_drop s i hi
  rw [ht, hl]
  rfl
end Go.Proofs.YtgddhkanfcpipaaGreatDoor

namespace Go.Proofs.YtgddhkanfcpipaaGreatDoor
open Go.RowKit
set_option maxHeartbeats 1000000
set_option maxRecDepth 100000

/-- A token's cells. -/
def tk (x : Nat × ByteArray × Nat) : List Value := [.int .i64 x.1, .string x.2.1, .int .i64 x.2.2]
theorem tk_one (x : Nat × ByteArray × Nat) : ∀ u ∈ tk x, u.oneCell' = true := by
  intro u hu
  simp only [tk, List.mem_cons, List.mem_nil_iff, or_false] at hu
  rcases hu with rfl | rfl | rfl <;> rfl
def tokensF (s : ByteArray) : Nat → Nat → List (Nat × ByteArray × Nat) × Nat × Nat
  | 0, _ => ([], 0, 0)
  | f + 1, k =>
    if s.size ≤ k then ([], 0, 0)
    else if (oneL ((L s).drop k)).2.2 = 4 then ([], s.size, 4)
    else if (oneL ((L s).drop k)).2.2 ≠ 0 then ([], k, (oneL ((L s).drop k)).2.2)
    else if (tokensF s f (k + (oneL ((L s).drop k)).2.1)).2.2 ≠ 0 then ([], (tokensF s f (k + (oneL ((L s).drop k)).2.1)).2.1, (tokensF s f (k + (oneL ((L s).drop k)).2.1)).2.2)
    else (((oneL ((L s).drop k)).1, s.extract k (k + (oneL ((L s).drop k)).2.1), k) :: (tokensF s f (k + (oneL ((L s).drop k)).2.1)).1, 0, 0)
theorem lineL_pos (c : UInt8) (t : List UInt8) (h : (lineL (c :: t)).2 = 0) : 1 ≤ (lineL (c :: t)).1 := by
  rcases t with _ | ⟨d, t⟩ <;> simp only [lineL] at h ⊢
  · split at h <;> simp_all
  · repeat' split at h
    all_goals simp_all
theorem comL_pos (c : UInt8) (t : List UInt8) (h : (comL (c :: t)).2 = 0) : 1 ≤ (comL (c :: t)).1 := by
  rcases t with _ | ⟨d, t⟩
  · simp [comL] at h
  · simp only [comL] at h ⊢
    by_cases h1 : d.toNat = 47
    · simp only [h1, if_true] at h ⊢
      split at h
      · rename_i h2; simp at h; exact absurd h h2
      · rename_i h2; rw [if_neg h2]; show 1 ≤ 2 + _; omega
    · by_cases h2 : d.toNat = 42
      · simp only [h2] at h ⊢
        by_cases h3 : (comF true t.length t).2 = 0
        · simp [h3]; omega
        · simp [h3] at h
      · simp [h1, h2] at h
theorem wordL_pos (c : UInt8) (t : List UInt8) (hw : wordb c = true) (h : (wordL (c :: t)).2 = 0) : 1 ≤ (wordL (c :: t)).1 := by
  unfold wordL at h ⊢
  split at h
  · rename_i h1
    rw [if_pos h1]
    show 1 ≤ wordLen (c :: t)
    rw [wordLen, if_pos hw]
    omega
  · split at h <;> simp at h
theorem tok_pos {k n : Nat} {x : Nat × Nat} (h : (tok k x).2.2 = 0) (hp : x.2 = 0 → n ≤ x.1) : n ≤ (tok k x).2.1 := by
  unfold tok at h ⊢
  split at h
  · rename_i h1; exact absurd h h1
  · rename_i h1
    rw [if_neg h1]
    exact hp (by simpa using h1)
theorem oneL_pos (c : UInt8) (t : List UInt8) (h : (oneL (c :: t)).2.2 = 0) : 1 ≤ (oneL (c :: t)).2.1 := by
  simp only [oneL] at h ⊢
  by_cases h1 : blank c = true
  · simp only [h1, if_true]
    show 1 ≤ spaceLen (c :: t)
    rw [spaceLen_cons, if_pos h1]; omega
  rw [if_neg h1] at h ⊢
  by_cases h2 : c.toNat = 10 ∨ c.toNat = 13
  · rw [if_pos h2] at h ⊢
    exact tok_pos h (lineL_pos c t)
  rw [if_neg h2] at h ⊢
  by_cases h3 : c.toNat = 47
  · rw [if_pos h3] at h ⊢
    exact tok_pos h (comL_pos c t)
  rw [if_neg h3] at h ⊢
  by_cases h4 : punct c = true
  · rw [if_pos h4]; exact Nat.le_refl _
  rw [if_neg h4] at h ⊢
  by_cases h5 : c.toNat = 34
  · rw [if_pos h5] at h ⊢
    exact tok_pos h (fun _ => by show 1 ≤ 1 + _; omega)
  rw [if_neg h5] at h ⊢
  by_cases h6 : (c.toNat = 116 ∨ c.toNat = 98) ∧ pre t [34] = true
  · rw [if_pos h6] at h ⊢
    exact tok_pos h (fun _ => by show 1 ≤ 2 + _; omega)
  rw [if_neg h6] at h ⊢
  by_cases h7 : wordb c = true
  · rw [if_pos h7] at h ⊢
    exact tok_pos h (wordL_pos c t h7)
  · rw [if_neg h7] at h; simp at h
theorem tokensF_fuel (s : ByteArray) : ∀ (f g k : Nat), s.size - k < f → s.size - k < g → tokensF s f k = tokensF s g k
  | 0, _, _, h, _ => absurd h (Nat.not_lt_zero _)
  | _ + 1, 0, _, _, h => absurd h (Nat.not_lt_zero _)
  | f + 1, g + 1, k, h1, h2 => by
    unfold tokensF
    by_cases hk : s.size ≤ k
    · rw [if_pos hk, if_pos hk]
    by_cases hz : (oneL ((L s).drop k)).2.2 = 0
    · have hp := hz
      rw [L_drop s k (by omega)] at hp
      have hpos := oneL_pos _ _ hp
      rw [← L_drop s k (by omega)] at hpos
      rw [tokensF_fuel s f g (k + (oneL ((L s).drop k)).2.1) (by omega) (by omega)]
    · rw [if_neg hk, if_neg hk]
      by_cases h4 : (oneL ((L s).drop k)).2.2 = 4
      · rw [if_pos h4, if_pos h4]
      · rw [if_neg h4, if_neg h4, if_pos hz, if_pos hz]
theorem tokensF_zero (s : ByteArray) : ∀ (f k : Nat), (tokensF s f k).2.2 = 0 → tokensF s f k = ((tokensF s f k).1, 0, 0)
  | 0, _, _ => rfl
  | f + 1, k, h => by
    unfold tokensF at h ⊢
    repeat' split
    all_goals first | rfl | (simp_all; done)
theorem tokensF_err (s : ByteArray) : ∀ (f k : Nat), (tokensF s f k).2.2 ≠ 0 → tokensF s f k = ([], (tokensF s f k).2.1, (tokensF s f k).2.2)
  | 0, _, h => absurd rfl h
  | f + 1, k, h => by
    unfold tokensF at h ⊢
    repeat' split
    all_goals first | rfl | (simp_all; done)
theorem ext_len (s : ByteArray) (k n : Nat) (h : k + n ≤ s.size) : (s.extract k (k + n)).size = n := by
  rw [ByteArray.size_extract]; omega
def tokensG (s : ByteArray) (k : Nat) : List (Nat × ByteArray × Nat) × Nat × Nat := tokensF s (s.size - k + 1) k
def tokFin (acc : List (Nat × ByteArray × Nat)) (y : List (Nat × ByteArray × Nat) × Nat × Nat) : List (Nat × ByteArray × Nat) × Nat × Nat := if y.2.2 ≠ 0 then ([], y.2.1, y.2.2) else (acc ++ y.1, 0, 0)
theorem tokFin_fin (a b : List (Nat × ByteArray × Nat)) (y : List (Nat × ByteArray × Nat) × Nat × Nat) : tokFin a (tokFin b y) = tokFin (a ++ b) y := by
  unfold tokFin
  by_cases h : y.2.2 = 0
  · simp [h]
  · simp [h]
theorem tokensG_end (s : ByteArray) (k : Nat) (h : s.size ≤ k) : tokensG s k = ([], 0, 0) := by
  unfold tokensG tokensF
  rw [if_pos h]
theorem tokensG_step (s : ByteArray) (k : Nat) (h : k < s.size) : tokensG s k =
    if (oneL ((L s).drop k)).2.2 = 4 then ([], s.size, 4)
    else if (oneL ((L s).drop k)).2.2 ≠ 0 then ([], k, (oneL ((L s).drop k)).2.2)
    else tokFin [((oneL ((L s).drop k)).1, s.extract k (k + (oneL ((L s).drop k)).2.1), k)] (tokensG s (k + (oneL ((L s).drop k)).2.1)) := by
  unfold tokensG tokFin
  rw [tokensF, if_neg (by omega)]
  by_cases hz : (oneL ((L s).drop k)).2.2 = 0
  · have hp := hz
    rw [L_drop s k h] at hp
    have hpos := oneL_pos _ _ hp
    rw [← L_drop s k h] at hpos
    rw [tokensF_fuel s (s.size - k) (s.size - (k + (oneL ((L s).drop k)).2.1) + 1) _ (by omega) (by omega)]
    rfl
  · by_cases h4 : (oneL ((L s).drop k)).2.2 = 4
    · rw [if_pos h4, if_pos h4]
    · rw [if_neg h4, if_neg h4, if_pos hz, if_pos hz]
/-- What Tokens hands back: the tokens, the offset and the error. -/
def tokR (s : ByteArray) : List (Nat × ByteArray × Nat) × Nat × Nat :=
  if 1048576 < s.size then ([], 0, 10) else if badL (L s) ≠ s.size then ([], badL (L s), 5) else tokensG s 0
/-- The post of Tokens. -/
def TokPost (w : World) (x : List (Nat × ByteArray × Nat) × Nat × Nat) (e : Ending) (w' : World) : Prop :=
  ∃ v, e = .returned (.tuple #[v, .int .i64 x.2.1, .int .i64 x.2.2]) ∧ w'.ownsRow w.heap.size 83 3 v x.1.length (x.1.flatMap tk) ∧ Below w.heap.size w w'
theorem TokPost_none {w w' : World} {x : List (Nat × ByteArray × Nat) × Nat × Nat} {a b : Nat} (h : x = ([], a, b)) (hb : Below w.heap.size w w') :
    TokPost w x (.returned (.tuple #[.slice none 0 0, .int .i64 a, .int .i64 b])) w' := by
  subst h
  exact ⟨_, rfl, World.ownsRow_nil _ _ _ _, hb⟩
end Go.Proofs.YtgddhkanfcpipaaGreatDoor

namespace Go.Proofs.YtgddhkanfcpipaaGreatDoor
open Go.RowKit
set_option maxHeartbeats 1000000
set_option maxRecDepth 100000

theorem tokenF_ret {a b : Nat} {p : Nat × Nat} (h : p = (a, b)) : Ending.returned (.tuple #[.int .i64 a, .int .i64 b]) = Ending.returned (.tuple #[.int .i64 p.1, .int .i64 p.2]) := by rw [h]
/-- The offset and the error that Source hands back. -/
def srcR (s : ByteArray) : Nat × Nat := if 1048576 < s.size then (0, 10) else if badL (L s) < s.size then (badL (L s), 5) else (0, 0)
theorem Source_any (s : ByteArray) (w : World) (hs : s.size ≤ 100000000000) :
    Calls Tryz.prog 33 #[.string s] w fun e w' => e = .returned (.tuple #[.int .i64 (srcR s).1, .int .i64 (srcR s).2]) ∧ Below w.heap.size w w' := by
  by_cases hbig : 1048576 < s.size
  · have h1 : ((1048576 : Int) < s.size) = True := eq_true (by omega)
    have HF : Hid (srcR s = (0, 10)) := by unfold Hid srcR; rw [if_pos hbig]
    clear hbig
    go_enter Tryz.func33, Tryz.ntmps33
    go_wp2_with fail
    go_ret2
    exact ⟨tokenF_ret HF.out, Below.refl _ _⟩
  have h1 : ((1048576 : Int) < s.size) = False := eq_false (by omega)
  have h9 : Hid (s.size ≤ 1000000000) := by unfold Hid; omega
  by_cases hbad : badL (L s) < s.size
  · have HF : Hid (srcR s = (badL (L s), 5)) := by unfold Hid srcR; rw [if_neg hbig, if_pos hbad]
    have z : (badL (L s) : Int) < s.size := by omega
    clear hbig hbad
    go_enter Tryz.func33, Tryz.ntmps33
    go_wp2_with (go_at_call 81; refine (Bad_any s _ h9.out).mono ?_; rintro e w1 ⟨rfl, hb1⟩)
    go_ret2
    exact ⟨tokenF_ret HF.out, hb1⟩
  · have HF : Hid (srcR s = (0, 0)) := by unfold Hid srcR; rw [if_neg hbig, if_neg hbad]
    have z : ¬ (badL (L s) : Int) < s.size := by omega
    clear hbig hbad
    go_enter Tryz.func33, Tryz.ntmps33
    go_wp2_with (go_at_call 81; refine (Bad_any s _ h9.out).mono ?_; rintro e w1 ⟨rfl, hb1⟩)
    go_ret2
    exact ⟨tokenF_ret HF.out, hb1⟩

theorem badL_le_size (s : ByteArray) : badL (L s) ≤ s.size := by
  have := badL_le (L s)
  rwa [L_len] at this
theorem Unquote3_any (s : ByteArray) (w : World) (hs : s.size ≤ 100000000000) :
    Calls Tryz.prog 61 #[.string s] w fun e w' => e = .returned (.tuple #[.string ⟨(unqL (L s)).1.toArray⟩, .int .i64 (unqL (L s)).2]) ∧ Below w.heap.size w w' := by
  by_cases he : L s = []
  · have he1 : s.toList.isEmpty = true := by rw [empty_L]; simpa using he
    have HF : Hid (unqL (L s) = ([], 4)) := by unfold Hid; rw [he]; rfl
    clear he
    go_enter Tryz.func61, Tryz.ntmps61
    go_wp2_with fail
    go_ret2
    exact ⟨ret2_str HF.out, Below.refl _ _⟩
  have he1 : s.toList.isEmpty = false := by rw [empty_L]; simpa using he
  have hp := size_pos he
  have hX : Hid (unqL (L s) = if s[0].toNat ≠ 34 then ([], 3) else if (quotR ((L s).drop 1)).2.2 ≠ 0 then ([], (quotR ((L s).drop 1)).2.2) else if (quotR ((L s).drop 1)).2.1 < s.size then ([], 3) else ((quotR ((L s).drop 1)).1, 0)) := by
    unfold Hid
    rw [L_cons0 s hp, unqL, show ((L s).drop 1).length + 1 = s.size by rw [List.length_drop, L_len]; omega]
    rfl
  clear he
  by_cases h34 : s[0].toNat = 34
  case neg =>
    have g : ((s[0].toNat : Int) != 34) = true := by rw [bne_iff_ne]; omega
    have HF : Hid (unqL (L s) = ([], 3)) := by unfold Hid; rw [hX.out, if_pos h34]
    clear hX h34
    go_enter Tryz.func61, Tryz.ntmps61
    go_wp2_with fail
    go_ret2
    exact ⟨ret2_str HF.out, Below.refl _ _⟩
  have g : ((s[0].toNat : Int) != 34) = false := by rw [bne_eq_false_iff_eq]; omega
  have hY : Hid (unqL (L s) = if (quotR ((L s).drop 1)).2.2 ≠ 0 then ([], (quotR ((L s).drop 1)).2.2) else if (quotR ((L s).drop 1)).2.1 < s.size then ([], 3) else ((quotR ((L s).drop 1)).1, 0)) := by
    unfold Hid; rw [hX.out, if_neg (by simpa using h34)]
  clear hX h34
  have hle := quotR_le ((L s).drop 1)
  rw [List.length_drop, L_len] at hle
  have HLE : Hid ((quotR ((L s).drop 1)).2.1 ≤ s.size) := by unfold Hid; omega
  clear hle
  go_enter Tryz.func61, Tryz.ntmps61
  go_wp2_with fail
  refine (Quoted3_any s 0 _ hp hs).mono ?_
  rintro e w1 ⟨⟨m, rfl, hm⟩, hb⟩
  rw [show (L s).drop (0 + 1) = (L s).drop 1 from rfl] at *
  generalize (quotR ((L s).drop 1)).1 = t at *
  generalize (quotR ((L s).drop 1)).2.1 = n at *
  generalize (quotR ((L s).drop 1)).2.2 = er at *
  by_cases hz : er = 0
  case neg =>
    have e1 : ((er : Int) != 0) = true := by rw [bne_iff_ne]; omega
    have HF : Hid (unqL (L s) = ([], er)) := by unfold Hid; rw [hY.out, if_pos hz]
    clear hY hz hm
    go_wp2_with fail
    go_ret2
    exact ⟨ret2_str HF.out, hb⟩
  have hmn := hm hz
  subst hz
  clear hm
  by_cases hn : n < s.size
  · have e2 : ((m : Int) != s.size) = true := by rw [bne_iff_ne]; omega
    have HF : Hid (unqL (L s) = ([], 3)) := by unfold Hid; rw [hY.out, if_neg (by decide), if_pos hn]
    clear hY hn hmn
    go_wp2_with fail
    go_ret2
    exact ⟨ret2_str HF.out, hb⟩
  · have hle := HLE.out
    have e2 : ((m : Int) != s.size) = false := by rw [bne_eq_false_iff_eq]; omega
    have HF : Hid (unqL (L s) = (t, 0)) := by unfold Hid; rw [hY.out, if_neg (by decide), if_neg hn]
    clear hY hn hmn hle
    go_wp2_with fail
    go_ret2
    exact ⟨ret2_str HF.out, hb⟩
end Go.Proofs.YtgddhkanfcpipaaGreatDoor

namespace Go.Proofs.YtgddhkanfcpipaaGreatDoor
open Go.RowKit
set_option maxHeartbeats 1000000
set_option maxRecDepth 100000

def tokZ : Value := .agg #[.int .i64 0, .string ⟨#[]⟩, .int .i64 0]
theorem aw_next : nextV ⟨#[123, 97, 58, 32, 49]⟩ 1 = (.agg #[.int .i64 6, .string ⟨#[97]⟩, .int .i64 1], 0) := by
  have h : oneL ((L ⟨#[123, 97, 58, 32, 49]⟩).drop 1) = (6, 1, 0) := by decide +kernel
  unfold nextV
  rw [h]
  rfl
theorem aw_unq : unqL (L ⟨#[34, 92, 117, 48, 48, 101, 57, 34]⟩) = ([195, 169], 0) := by decide +kernel
theorem aw_bare : bareL (L ⟨#[36, 97, 49]⟩) = true := by decide +kernel
/-- What Next hands back at any offset. -/
def nextA (s : ByteArray) (at_ : Int) : Value × Nat :=
  if at_ < 0 ∨ (s.size : Int) < at_ then (tokZ, 1) else if at_ = s.size then (tokZ, 7) else nextV s at_.toNat
theorem nextA_form (s : ByteArray) (at_ : Int) : ∃ (a b e : Nat) (t : ByteArray), nextA s at_ = (.agg #[.int .i64 a, .string t, .int .i64 b], e) := by
  unfold nextA
  split
  · exact ⟨0, 0, 1, ⟨#[]⟩, rfl⟩
  split
  · exact ⟨0, 0, 7, ⟨#[]⟩, rfl⟩
  unfold nextV
  split
  · exact ⟨0, 0, _, ⟨#[]⟩, rfl⟩
  · exact ⟨_, _, 0, _, rfl⟩
theorem NextA_any (s : ByteArray) (at_ : Int) (w : World) (hs : s.size ≤ 100000000000) :
    Calls Tryz.prog 52 #[.string s, .int .i64 at_] w fun e w' => e = .returned (.tuple #[(nextA s at_).1, .int .i64 (nextA s at_).2]) ∧ Below w.heap.size w w' := by
  by_cases h0 : at_ < 0 ∨ (s.size : Int) < at_
  · have HF : Hid (nextA s at_ = (tokZ, 1)) := by unfold Hid nextA; rw [if_pos h0]
    by_cases h1 : at_ < 0
    · clear h0
      go_enter Tryz.func52, Tryz.ntmps52
      go_wp2_with fail
      exact bodyPost_ret (v := .tuple #[tokZ, .int .i64 1]) (by simp [results, Tryz.results52, go_sem, tokZ]) rfl ⟨by rw [HF.out]; try rfl, (Below.refl _ _).alloc (Nat.le_refl _) _⟩
    · have h2 : (s.size : Int) < at_ := by omega
      clear h0
      go_enter Tryz.func52, Tryz.ntmps52
      go_wp2_with fail
      exact bodyPost_ret (v := .tuple #[tokZ, .int .i64 1]) (by simp [results, Tryz.results52, go_sem, tokZ]) rfl ⟨by rw [HF.out]; try rfl, (Below.refl _ _).alloc (Nat.le_refl _) _⟩
  by_cases h3 : at_ = s.size
  · have HF : Hid (nextA s at_ = (tokZ, 7)) := by unfold Hid nextA; rw [if_neg h0, if_pos h3]
    have h1 : ¬ at_ < 0 := by omega
    have h2 : ¬ (s.size : Int) < at_ := by omega
    have h4 : (at_ == s.size) = true := by rw [beq_iff_eq]; exact h3
    clear h0 h3
    go_enter Tryz.func52, Tryz.ntmps52
    go_wp2_with fail
    exact bodyPost_ret (v := .tuple #[tokZ, .int .i64 7]) (by simp [results, Tryz.results52, go_sem, tokZ]) rfl ⟨by rw [HF.out]; try rfl, (Below.refl _ _).alloc (Nat.le_refl _) _⟩
  · have hk : at_ = (at_.toNat : Int) := by omega
    have HF : nextA s at_ = nextV s at_.toNat := by unfold nextA; rw [if_neg h0, if_neg h3]
    rw [HF]
    have := Next_any s at_.toNat w (by omega) hs
    rwa [← hk] at this
end Go.Proofs.YtgddhkanfcpipaaGreatDoor
