/- The package datakitref19, walked: scan. Conditions: strings of at most 10^11 bytes. -/
import Derived.Test.YtmafggfonapmpaaR5
import Derived.Test.YtmafggfonapmpaaBl10
import Derived.Deep.DeepCutAuto
import Derived.Deep.CutBlock
namespace Go.Proofs.Ytmafggfonapmpaa
open Go.RowKit
set_option maxHeartbeats 1000000
set_option maxRecDepth 100000

/-- What scan hands back at an offset. -/
def SPost (i : Nat) (x : Nat × Nat × Nat) (e : Ending) : Prop :=
  ∃ r m : Nat, e = .returned (.tuple #[.int .i64 r, .int .i64 m, .int .i64 x.2.2]) ∧ (x.2.2 = 0 → r = x.1 ∧ m = i + x.2.1)
theorem SPost_err {i : Nat} {x : Nat × Nat × Nat} {a b k : Nat} (h : x = (a, b, k)) (hk : k ≠ 0) : SPost i x (.returned (.tuple #[.int .i64 0, .int .i64 0, .int .i64 k])) := by
  subst h
  exact ⟨0, 0, rfl, fun h => absurd h hk⟩
theorem SPost_ok {i : Nat} {x : Nat × Nat × Nat} {r n m : Nat} (h : x = (r, n, 0)) (hm : m = i + n) : SPost i x (.returned (.tuple #[.int .i64 r, .int .i64 m, .int .i64 0])) := by
  subst h
  exact ⟨r, m, rfl, fun _ => ⟨rfl, hm⟩⟩
theorem SPost_tok {i k m n er : Nat} {y : Nat × Nat × Nat} (h : y = tok k (n, er)) (hm : er = 0 → m = i + n) : SPost i y (.returned (.tuple #[.int .i64 k, .int .i64 m, .int .i64 er])) := by
  subst h
  unfold tok
  by_cases hz : er = 0
  · subst hz
    obtain rfl := hm rfl
    exact ⟨k, i + n, rfl, fun _ => ⟨rfl, rfl⟩⟩
  · rw [if_pos hz]
    exact ⟨k, m, rfl, fun h => absurd h hz⟩

/-- The blanks. -/
theorem scan_blank (s : ByteArray) (i : Nat) (w : World) (hi : i < s.size) (hs : s.size ≤ 100000000000) (hb : s[i].toNat = 32 ∨ s[i].toNat = 9) :
    Calls Try.prog 21 #[.string s, .int .i64 i] w fun e w' => SPost i (1, spaceLen ((L s).drop i), 0) e ∧ Below w.heap.size w w' := by
  have hm : s.size ≤ maxLen := by simp only [maxLen]; omega
  go_enter Try.func21, Try.ntmps21
  go_upto_region 2 with fail
  go_cut [22] (fun v wx => v = .bool true ∧ w = wx)
  case first =>
    by_cases h32 : s[i].toNat = 32
    · have q := beqB s[i] 32 (by omega)
      clear hb h32
      go_wp2_with fail
      go_meet
      exact ⟨rfl, rfl⟩
    · have q := beqNB s[i] 32 (by omega)
      have q2 := beqB s[i] 9 (by omega)
      clear hb h32
      go_wp2_with fail
      go_meet
      exact ⟨rfl, rfl⟩
  case rest =>
  obtain ⟨rfl, rfl⟩ := hcut
  clear hb
  go_wp2_with fail
  go_loop [1] (fun n => ∃ k : Nat, i ≤ k ∧ k ≤ s.size ∧ n = .int .i64 k ∧ Hid (spaceLen ((L s).drop i) = (k - i) + spaceLen ((L s).drop k))) (fun n => s.size - (intOf n).toNat)
  case atStart => exact ⟨i, Nat.le_refl _, by omega, rfl, by unfold Hid; omega⟩
  case round =>
    obtain ⟨k, hk1, hk, rfl, hr⟩ := hrel
    go_upto_region 3 with fail
    go_cut [44] (fun v wx => v = .bool (decide (0 < spaceLen ((L s).drop k))) ∧ wx = w)
    case first =>
      clear hr
      by_cases hlt : k < s.size
      case neg =>
        have HF : Hid (spaceLen ((L s).drop k) = 0) := by unfold Hid; rw [L_drop_nil s k (by omega)]; rfl
        go_wp2_with fail
        go_meet
        exact ⟨by rw [HF.out]; rfl, rfl⟩
      have hS : Hid (spaceLen ((L s).drop k) = if blank s[k] then spaceLen ((L s).drop (k + 1)) + 1 else 0) := by unfold Hid; rw [L_drop s k hlt, spaceLen_cons]
      by_cases h32 : s[k].toNat = 32
      · have q := beqB s[k] 32 (by omega)
        have HF : Hid (0 < spaceLen ((L s).drop k)) := by unfold Hid; rw [hS.out, if_pos (by simp [blank, h32])]; omega
        clear h32 hS
        go_wp2_with fail
        go_meet
        exact ⟨by rw [decide_eq_true HF.out], rfl⟩
      have q := beqNB s[k] 32 (by omega)
      by_cases h9 : s[k].toNat = 9
      · have q2 := beqB s[k] 9 (by omega)
        have HF : Hid (0 < spaceLen ((L s).drop k)) := by unfold Hid; rw [hS.out, if_pos (by simp [blank, h9])]; omega
        clear h32 h9 hS
        go_wp2_with fail
        go_meet
        exact ⟨by rw [decide_eq_true HF.out], rfl⟩
      · have q2 := beqNB s[k] 9 (by omega)
        have HF : Hid (¬ 0 < spaceLen ((L s).drop k)) := by unfold Hid; rw [hS.out, if_neg (by simp [blank, h32, h9])]; omega
        clear h32 h9 hS
        go_wp2_with fail
        go_meet
        exact ⟨by rw [decide_eq_false HF.out], rfl⟩
    case rest =>
    obtain ⟨rfl, rfl⟩ := hcut
    have hle := spaceLen_le ((L s).drop k)
    rw [List.length_drop, L_len] at hle
    by_cases hp : 0 < spaceLen ((L s).drop k)
    · have hlt : k < s.size := by omega
      have HF : Hid (spaceLen ((L s).drop i) = (k + 1 - i) + spaceLen ((L s).drop (k + 1))) := by
        unfold Hid
        rw [hr.out]
        have h2 := spaceLen_cons s[k] ((L s).drop (k + 1))
        rw [← L_drop s k hlt] at h2
        rw [h2] at hp ⊢
        split at hp
        · rename_i hbl; rw [if_pos hbl]; omega
        · omega
      clear hr hle
      go_wp2_with fail
      exact ⟨⟨k + 1, by omega, by omega, rfl, HF⟩, by simp [intOf]; omega⟩
    · have HF : Hid (spaceLen ((L s).drop i) = k - i) := by unfold Hid; rw [hr.out]; omega
      clear hr hle
      go_wp2_with fail
      go_ret3
      exact ⟨SPost_ok (by rw [HF.out]) (by omega), Below.refl _ _⟩

/-- Line ends. -/
theorem scan_line (s : ByteArray) (i : Nat) (w : World) (hi : i < s.size) (hs : s.size ≤ 100000000000) (hb : s[i].toNat = 10) :
    Calls Try.prog 21 #[.string s, .int .i64 i] w fun e w' => SPost i (tok 2 (lineL ((L s).drop i))) e ∧ Below w.heap.size w w' := by
  have hm : s.size ≤ maxLen := by simp only [maxLen]; omega
  have q32 := beqNB s[i] 32 (by omega)
  have q9 := beqNB s[i] 9 (by omega)
  have q10 := beqB s[i] 10 (by omega)
  have HF : Hid (tok 2 (lineL ((L s).drop i)) = (2, 1, 0)) := by
    unfold Hid
    rw [L_drop s i hi]
    simp [lineL, hb, tok]
  clear hb
  go_enter Try.func21, Try.ntmps21
  go_wp2_with fail
  go_ret3
  exact ⟨SPost_ok HF.out rfl, Below.refl _ _⟩
theorem lineL_cr (b c : UInt8) (t : List UInt8) (h : b.toNat = 13) : lineL (b :: c :: t) = if c.toNat = 10 then (2, 0) else (0, 3) := by
  simp only [lineL]
  rw [if_neg (by omega)]
theorem scan_cr (s : ByteArray) (i : Nat) (w : World) (hi : i < s.size) (hs : s.size ≤ 100000000000) (hb : s[i].toNat = 13) :
    Calls Try.prog 21 #[.string s, .int .i64 i] w fun e w' => SPost i (tok 2 (lineL ((L s).drop i))) e ∧ Below w.heap.size w w' := by
  have hm : s.size ≤ maxLen := by simp only [maxLen]; omega
  have q32 := beqNB s[i] 32 (by omega)
  have q9 := beqNB s[i] 9 (by omega)
  have q10 := beqNB s[i] 10 (by omega)
  have q13 := beqB s[i] 13 (by omega)
  by_cases h1 : i + 1 < s.size
  case neg =>
    have HF : Hid (tok 2 (lineL ((L s).drop i)) = (0, 0, 4)) := by
      unfold Hid
      rw [L_drop s i hi, L_drop_nil s (i + 1) (by omega)]
      simp [lineL, hb, tok]
    clear hb
    have z1 : ¬ (i : Int) + 1 < s.size := by omega
    have z2 : ((i : Int) + 1 == s.size) = true := by rw [beq_iff_eq]; omega
    clear h1
    go_enter Try.func21, Try.ntmps21
    go_wp2_with fail
    go_ret3
    exact ⟨SPost_err HF.out (by decide), Below.refl _ _⟩
  have HL : Hid (lineL ((L s).drop i) = if s[i + 1].toNat = 10 then (2, 0) else (0, 3)) := by
    unfold Hid
    rw [L_drop s i hi, L_drop s (i + 1) h1, lineL_cr _ _ _ hb]
  have z1 : (i : Int) + 1 < s.size := by omega
  by_cases h10 : s[i + 1].toNat = 10
  · have HF : Hid (tok 2 (lineL ((L s).drop i)) = (2, 2, 0)) := by unfold Hid; rw [HL.out, if_pos h10]; rfl
    have q10' := beqB s[i + 1] 10 (by omega)
    clear hb h10 HL
    go_enter Try.func21, Try.ntmps21
    go_wp2_with fail
    go_ret3
    exact ⟨SPost_ok HF.out rfl, Below.refl _ _⟩
  · have HF : Hid (tok 2 (lineL ((L s).drop i)) = (0, 0, 3)) := by unfold Hid; rw [HL.out, if_neg h10]; rfl
    have q10' := beqNB s[i + 1] 10 (by omega)
    have z2 : ((i : Int) + 1 == s.size) = false := by rw [beq_eq_false_iff_ne]; omega
    have q47 := beqNB s[i] 47 (by omega)
    have q91 := beqNB s[i] 91 (by omega)
    have q93 := beqNB s[i] 93 (by omega)
    have q123 := beqNB s[i] 123 (by omega)
    have q125 := beqNB s[i] 125 (by omega)
    have q44 := beqNB s[i] 44 (by omega)
    have q58 := beqNB s[i] 58 (by omega)
    have q34 := beqNB s[i] 34 (by omega)
    have q116 := beqNB s[i] 116 (by omega)
    have q98 := beqNB s[i] 98 (by omega)
    have hw : wordb s[i] = false := by rw [u8_of hb]; decide
    clear hb h10 HL
    go_enter Try.func21, Try.ntmps21
    go_wp2_with (go_at_call 38; refine (word3_any _ _).mono ?_; rintro e w' ⟨rfl, rfl⟩)
    go_ret3
    exact ⟨SPost_err HF.out (by decide), Below.refl _ _⟩

/-- Comments. -/
theorem scan_com (s : ByteArray) (i : Nat) (w : World) (hi : i < s.size) (hs : s.size ≤ 100000000000) (hb : s[i].toNat = 47) :
    Calls Try.prog 21 #[.string s, .int .i64 i] w fun e w' => SPost i (tok 3 (comL ((L s).drop i))) e ∧ Below w.heap.size w w' := by
  have hm : s.size ≤ maxLen := by simp only [maxLen]; omega
  have q32 := beqNB s[i] 32 (by omega)
  have q9 := beqNB s[i] 9 (by omega)
  have q10 := beqNB s[i] 10 (by omega)
  have q13 := beqNB s[i] 13 (by omega)
  have q47 := beqB s[i] 47 (by omega)
  clear hb
  go_enter Try.func21, Try.ntmps21
  go_wp2_with (go_at_call 37; refine (comment3_any s i _ hi hs).mono ?_; rintro e w1 ⟨⟨m, rfl, hm⟩, hb1⟩; generalize hc : comL ((L s).drop i) = c at *; have HM := Lib.hid hm; have HC := Lib.hid hc; clear hm hc)
  go_ret3
  exact ⟨SPost_tok (by rw [HC.out]) HM.out, hb1⟩

/-- Punctuation. -/
theorem scan_punct (s : ByteArray) (i : Nat) (w : World) (hi : i < s.size) (hs : s.size ≤ 100000000000) (hb : punct s[i] = true) :
    Calls Try.prog 21 #[.string s, .int .i64 i] w fun e w' => SPost i (4, 1, 0) e ∧ Below w.heap.size w w' := by
  have hm : s.size ≤ maxLen := by simp only [maxLen]; omega
  have hb' : s[i].toNat = 91 ∨ s[i].toNat = 93 ∨ s[i].toNat = 123 ∨ s[i].toNat = 125 ∨ s[i].toNat = 44 ∨ s[i].toNat = 58 := by simpa [punct, or_assoc] using hb
  have q32 := beqNB s[i] 32 (by omega)
  have q9 := beqNB s[i] 9 (by omega)
  have q10 := beqNB s[i] 10 (by omega)
  have q13 := beqNB s[i] 13 (by omega)
  have q47 := beqNB s[i] 47 (by omega)
  clear hb
  go_enter Try.func21, Try.ntmps21
  go_upto_region 15 with fail
  go_cut [93] (fun v wx => v = .bool true ∧ wx = w)
  case first =>
    rcases hb' with h | h | h | h | h | h
    · have q91 := beqB s[i] 91 (by omega)
      clear h
      go_wp2_with fail
      go_meet
      exact ⟨rfl, rfl⟩
    · have q91 := beqNB s[i] 91 (by omega)
      have q93 := beqB s[i] 93 (by omega)
      clear h
      go_wp2_with fail
      go_meet
      exact ⟨rfl, rfl⟩
    · have q91 := beqNB s[i] 91 (by omega)
      have q93 := beqNB s[i] 93 (by omega)
      have q123 := beqB s[i] 123 (by omega)
      clear h
      go_wp2_with fail
      go_meet
      exact ⟨rfl, rfl⟩
    · have q91 := beqNB s[i] 91 (by omega)
      have q93 := beqNB s[i] 93 (by omega)
      have q123 := beqNB s[i] 123 (by omega)
      have q125 := beqB s[i] 125 (by omega)
      clear h
      go_wp2_with fail
      go_meet
      exact ⟨rfl, rfl⟩
    · have q91 := beqNB s[i] 91 (by omega)
      have q93 := beqNB s[i] 93 (by omega)
      have q123 := beqNB s[i] 123 (by omega)
      have q125 := beqNB s[i] 125 (by omega)
      have q44 := beqB s[i] 44 (by omega)
      clear h
      go_wp2_with fail
      go_meet
      exact ⟨rfl, rfl⟩
    · have q91 := beqNB s[i] 91 (by omega)
      have q93 := beqNB s[i] 93 (by omega)
      have q123 := beqNB s[i] 123 (by omega)
      have q125 := beqNB s[i] 125 (by omega)
      have q44 := beqNB s[i] 44 (by omega)
      have q58 := beqB s[i] 58 (by omega)
      clear h
      go_wp2_with fail
      go_meet
      exact ⟨rfl, rfl⟩
  case rest =>
  obtain ⟨rfl, rfl⟩ := hcut
  clear hb'
  go_wp2_with fail
  go_ret3
  exact ⟨SPost_ok rfl rfl, Below.refl _ _⟩

/-- Quoted strings. -/
theorem scan_quot (s : ByteArray) (i : Nat) (w : World) (hi : i < s.size) (hs : s.size ≤ 100000000000) (hb : s[i].toNat = 34) :
    Calls Try.prog 21 #[.string s, .int .i64 i] w fun e w' => SPost i (tok 5 (1 + (quotL ((L s).drop (i + 1))).2.1, (quotL ((L s).drop (i + 1))).2.2)) e ∧ Below w.heap.size w w' := by
  have hm : s.size ≤ maxLen := by simp only [maxLen]; omega
  have q32 := beqNB s[i] 32 (by omega)
  have q9 := beqNB s[i] 9 (by omega)
  have q10 := beqNB s[i] 10 (by omega)
  have q13 := beqNB s[i] 13 (by omega)
  have q47 := beqNB s[i] 47 (by omega)
  have q91 := beqNB s[i] 91 (by omega)
  have q93 := beqNB s[i] 93 (by omega)
  have q123 := beqNB s[i] 123 (by omega)
  have q125 := beqNB s[i] 125 (by omega)
  have q44 := beqNB s[i] 44 (by omega)
  have q58 := beqNB s[i] 58 (by omega)
  have q34 := beqB s[i] 34 (by omega)
  clear hb
  go_enter Try.func21, Try.ntmps21
  go_wp2_with (go_at_call 27; refine (Quoted3_any s i _ hi hs).mono ?_; rintro e w1 ⟨⟨m, rfl, hm⟩, hb1⟩; generalize hq : quotR ((L s).drop (i + 1)) = q at *; have HM := Lib.hid hm; have HQ := Lib.hid hq; clear hm hq)
  go_ret3
  refine ⟨SPost_tok (n := 1 + (quotL ((L s).drop (i + 1))).2.1) (by rw [← HQ.out, quotR_err]) (fun h => ?_), hb1⟩
  rw [HM.out h, ← HQ.out, quotR_len]
  rw [← quotR_err, HQ.out]; exact h

/-- Strings of a sort. -/
theorem scan_sort (s : ByteArray) (i : Nat) (w : World) (hi : i < s.size) (hs : s.size ≤ 100000000000) (hb : s[i].toNat = 116 ∨ s[i].toNat = 98) (h1 : i + 1 < s.size) (hq : s[i + 1].toNat = 34) :
    Calls Try.prog 21 #[.string s, .int .i64 i] w fun e w' => SPost i (tok 5 (2 + (quotL ((L s).drop (i + 2))).2.1, (quotL ((L s).drop (i + 2))).2.2)) e ∧ Below w.heap.size w w' := by
  have hm : s.size ≤ maxLen := by simp only [maxLen]; omega
  have q32 := beqNB s[i] 32 (by omega)
  have q9 := beqNB s[i] 9 (by omega)
  have q10 := beqNB s[i] 10 (by omega)
  have q13 := beqNB s[i] 13 (by omega)
  have q47 := beqNB s[i] 47 (by omega)
  have q91 := beqNB s[i] 91 (by omega)
  have q93 := beqNB s[i] 93 (by omega)
  have q123 := beqNB s[i] 123 (by omega)
  have q125 := beqNB s[i] 125 (by omega)
  have q44 := beqNB s[i] 44 (by omega)
  have q58 := beqNB s[i] 58 (by omega)
  have q34 := beqNB s[i] 34 (by omega)
  have q34' := beqB s[i + 1] 34 (by omega)
  have z1 : (i : Int) + 1 < s.size := by omega
  clear hq
  go_enter Try.func21, Try.ntmps21
  go_upto_region 20 with fail
  go_cut [130] (fun v wx => v = .bool true ∧ wx = w)
  case first =>
    by_cases h116 : s[i].toNat = 116
    · have q116 := beqB s[i] 116 (by omega)
      clear hb h116
      go_wp2_with fail
      go_meet
      exact ⟨rfl, rfl⟩
    · have q116 := beqNB s[i] 116 (by omega)
      have q98 := beqB s[i] 98 (by omega)
      clear hb h116
      go_wp2_with fail
      go_meet
      exact ⟨rfl, rfl⟩
  case rest =>
  obtain ⟨rfl, rfl⟩ := hcut
  clear hb
  go_wp2_with (go_at_call 27; refine (Quoted3_any s (i + 1) _ h1 hs).mono ?_; rintro e w1 ⟨⟨m, rfl, hm⟩, hb1⟩; generalize hq : quotR ((L s).drop (i + 1 + 1)) = q at *; have HM := Lib.hid hm; have HQ : Hid (quotR ((L s).drop (i + 2)) = q) := Lib.hid hq; clear hm hq)
  go_ret3
  refine ⟨SPost_tok (n := 2 + (quotL ((L s).drop (i + 2))).2.1) (by rw [← HQ.out, quotR_err]) (fun h => ?_), hb1⟩
  rw [HM.out h, ← HQ.out, quotR_len]
  · omega
  · rw [← quotR_err, HQ.out]; exact h

/-- Words. -/
theorem scan_word (s : ByteArray) (i : Nat) (w : World) (hi : i < s.size) (hs : s.size ≤ 100000000000) (hb : wordb s[i] = true) (hn : ¬ ((s[i].toNat = 116 ∨ s[i].toNat = 98) ∧ ∃ h1 : i + 1 < s.size, s[i + 1].toNat = 34)) :
    Calls Try.prog 21 #[.string s, .int .i64 i] w fun e w' => SPost i (tok 6 (wordL ((L s).drop i))) e ∧ Below w.heap.size w w' := by
  have hm : s.size ≤ maxLen := by simp only [maxLen]; omega
  have hc : s[i].toNat ≠ 32 ∧ s[i].toNat ≠ 9 ∧ s[i].toNat ≠ 10 ∧ s[i].toNat ≠ 13 ∧ s[i].toNat ≠ 47 ∧ s[i].toNat ≠ 91 ∧ s[i].toNat ≠ 93 ∧ s[i].toNat ≠ 123 ∧ s[i].toNat ≠ 125 ∧ s[i].toNat ≠ 44 ∧ s[i].toNat ≠ 58 ∧ s[i].toNat ≠ 34 := by
    refine ⟨?_, ?_, ?_, ?_, ?_, ?_, ?_, ?_, ?_, ?_, ?_, ?_⟩ <;> (intro h; rw [u8_of h] at hb; exact absurd hb (by decide))
  have q32 := beqNB s[i] 32 (by omega)
  have q9 := beqNB s[i] 9 (by omega)
  have q10 := beqNB s[i] 10 (by omega)
  have q13 := beqNB s[i] 13 (by omega)
  have q47 := beqNB s[i] 47 (by omega)
  have q91 := beqNB s[i] 91 (by omega)
  have q93 := beqNB s[i] 93 (by omega)
  have q123 := beqNB s[i] 123 (by omega)
  have q125 := beqNB s[i] 125 (by omega)
  have q44 := beqNB s[i] 44 (by omega)
  have q58 := beqNB s[i] 58 (by omega)
  have q34 := beqNB s[i] 34 (by omega)
  clear hc
  go_enter Try.func21, Try.ntmps21
  go_upto_region 20 with fail
  go_cut [130] (fun v wx => v = .bool false ∧ w = wx)
  case first =>
    by_cases h116 : s[i].toNat = 116
    · have q116 := beqB s[i] 116 (by omega)
      by_cases h1 : i + 1 < s.size
      · have q34' := beqNB s[i + 1] 34 (fun h => hn ⟨.inl h116, h1, by omega⟩)
        have z1 : (i : Int) + 1 < s.size := by omega
        clear hn h116
        go_wp2_with fail
        go_meet
        exact ⟨rfl, rfl⟩
      · have z1 : ¬ (i : Int) + 1 < s.size := by omega
        clear hn h116
        go_wp2_with fail
        go_meet
        exact ⟨rfl, rfl⟩
    have q116 := beqNB s[i] 116 (by omega)
    by_cases h98 : s[i].toNat = 98
    · have q98 := beqB s[i] 98 (by omega)
      by_cases h1 : i + 1 < s.size
      · have q34' := beqNB s[i + 1] 34 (fun h => hn ⟨.inr h98, h1, by omega⟩)
        have z1 : (i : Int) + 1 < s.size := by omega
        clear hn h116 h98
        go_wp2_with fail
        go_meet
        exact ⟨rfl, rfl⟩
      · have z1 : ¬ (i : Int) + 1 < s.size := by omega
        clear hn h116 h98
        go_wp2_with fail
        go_meet
        exact ⟨rfl, rfl⟩
    · have q98 := beqNB s[i] 98 (by omega)
      clear hn h116 h98
      go_wp2_with fail
      go_meet
      exact ⟨rfl, rfl⟩
  case rest =>
  obtain ⟨rfl, rfl⟩ := hcut
  clear hn
  go_wp2_with (go_at_call 38; refine (word3_any _ _).mono ?_; rintro e w' ⟨rfl, rfl⟩)
  go_loop [16] (fun n => ∃ k : Nat, i ≤ k ∧ k ≤ s.size ∧ n = .int .i64 k ∧ Hid (wordLen ((L s).drop i) = (k - i) + wordLen ((L s).drop k))) (fun n => s.size - (intOf n).toNat)
  case atStart => exact ⟨i, Nat.le_refl _, by omega, rfl, by unfold Hid; omega⟩
  case round =>
    obtain ⟨k, hk1, hk, rfl, hr⟩ := hrel
    go_upto_region 26 with (go_at_call 38; refine (word3_any _ _).mono ?_; rintro e w' ⟨rfl, rfl⟩)
    go_cut [175] (fun v wx => v = .bool (decide (0 < wordLen ((L s).drop k))) ∧ w = wx)
    case first =>
      clear hr
      by_cases hlt : k < s.size
      case neg =>
        have HF : Hid (wordLen ((L s).drop k) = 0) := by unfold Hid; rw [L_drop_nil s k (by omega)]; rfl
        go_wp2_with fail
        go_meet
        exact ⟨by rw [HF.out]; rfl, rfl⟩
      have hS : Hid (wordLen ((L s).drop k) = if wordb s[k] then wordLen ((L s).drop (k + 1)) + 1 else 0) := by unfold Hid; rw [L_drop s k hlt, wordLen]
      have HF : Hid (decide (0 < wordLen ((L s).drop k)) = wordb s[k]) := by
        unfold Hid; rw [hS.out]
        cases wordb s[k] <;> simp
      clear hS
      go_wp2_with (go_at_call 38; refine (word3_any _ _).mono ?_; rintro e w' ⟨rfl, rfl⟩)
      go_meet
      exact ⟨by rw [HF.out], rfl⟩
    case rest =>
    obtain ⟨rfl, rfl⟩ := hcut
    have hle := wordLen_le ((L s).drop k)
    rw [List.length_drop, L_len] at hle
    by_cases hp : 0 < wordLen ((L s).drop k)
    · have hlt : k < s.size := by omega
      have HF : Hid (wordLen ((L s).drop i) = (k + 1 - i) + wordLen ((L s).drop (k + 1))) := by
        unfold Hid
        rw [hr.out]
        have h2 : wordLen (s[k] :: (L s).drop (k + 1)) = if wordb s[k] then wordLen ((L s).drop (k + 1)) + 1 else 0 := rfl
        rw [← L_drop s k hlt] at h2
        rw [h2] at hp ⊢
        split at hp
        · rename_i hbl; rw [if_pos hbl]; omega
        · omega
      clear hr hle
      go_wp2_with fail
      exact ⟨⟨k + 1, by omega, by omega, rfl, HF⟩, by simp [intOf]; omega⟩
    · have HW : Hid (wordLen ((L s).drop i) = k - i) := by unfold Hid; rw [hr.out]; omega
      clear hr hle
      have HE : Hid (L (s.extract i k) = ((L s).drop i).take (k - i)) := by unfold Hid; rw [L_extract]
      have hez : (s.extract i k).size ≤ s.size := by rw [ByteArray.size_extract]; omega
      have hez1 : (s.extract i k).size ≤ maxLen := by omega
      have hez2 : (s.extract i k).size ≤ 100000000000 := by omega
      have hX : Hid (wordL ((L s).drop i) = if numB (L (s.extract i k)) || bareL (L (s.extract i k)) then (k - i, 0) else if k = s.size ∧ numB (L (s.extract i k) ++ [48]) then (0, 4) else (0, 3)) := by
        unfold Hid; unfold wordL
        rw [HW.out, HE.out, List.length_drop, L_len]
        have : (k - i = s.size - i) = (k = s.size) := by apply propext; omega
        simp only [this]
      clear HW HE
      have hf := isN_fst (L (s.extract i k))
      have hg := isN_snd (L (s.extract i k))
      cases hn : numB (L (s.extract i k))
      case true =>
        have HF : Hid (tok 6 (wordL ((L s).drop i)) = (6, k - i, 0)) := by unfold Hid; rw [hX.out, hn]; rfl
        rw [hn] at hf
        clear hX hg hn
        go_wp2_with (first | (go_at_call 39; refine (IsNumber3_any _ _ hez2).mono ?_; rintro e w' ⟨rfl, rfl⟩; rw [hf]) | (go_at_call 40; refine (Bare3_any _ _ hez1).mono ?_; rintro e w' ⟨rfl, rfl⟩))
        go_ret3
        exact ⟨SPost_ok HF.out (by omega), Below.refl _ _⟩
      rw [hn] at hf
      have hg' := hg hn
      clear hg
      cases hbr : bareL (L (s.extract i k))
      case true =>
        have HF : Hid (tok 6 (wordL ((L s).drop i)) = (6, k - i, 0)) := by unfold Hid; rw [hX.out, hn, hbr]; rfl
        clear hX hn hg'
        go_wp2_with (first | (go_at_call 39; refine (IsNumber3_any _ _ hez2).mono ?_; rintro e w' ⟨rfl, rfl⟩; rw [hf]) | (go_at_call 40; refine (Bare3_any _ _ hez1).mono ?_; rintro e w' ⟨rfl, rfl⟩; rw [hbr]))
        go_ret3
        exact ⟨SPost_ok HF.out (by omega), Below.refl _ _⟩
      by_cases he : k = s.size
      case neg =>
        have HF : Hid (tok 6 (wordL ((L s).drop i)) = (0, 0, 3)) := by unfold Hid; rw [hX.out, hn, hbr]; simp [he, tok]
        have z1 : ((k : Int) == s.size) = false := by rw [beq_eq_false_iff_ne]; omega
        clear hX hn hg' he
        go_wp2_with (first | (go_at_call 39; refine (IsNumber3_any _ _ hez2).mono ?_; rintro e w' ⟨rfl, rfl⟩; rw [hf]) | (go_at_call 40; refine (Bare3_any _ _ hez1).mono ?_; rintro e w' ⟨rfl, rfl⟩; rw [hbr]))
        go_ret3
        exact ⟨SPost_err HF.out (by decide), Below.refl _ _⟩
      have z1 : ((k : Int) == s.size) = true := by rw [beq_iff_eq]; omega
      cases hnb : (isN (L (s.extract i k))).2
      · have HF : Hid (tok 6 (wordL ((L s).drop i)) = (0, 0, 3)) := by unfold Hid; rw [hX.out, hn, hbr, ← hg', hnb]; simp [tok]
        clear hX hn hg' he
        go_wp2_with (first | (go_at_call 39; refine (IsNumber3_any _ _ hez2).mono ?_; rintro e w' ⟨rfl, rfl⟩; rw [hf, hnb]) | (go_at_call 40; refine (Bare3_any _ _ hez1).mono ?_; rintro e w' ⟨rfl, rfl⟩; rw [hbr]))
        go_ret3
        exact ⟨SPost_err HF.out (by decide), Below.refl _ _⟩
      · have HF : Hid (tok 6 (wordL ((L s).drop i)) = (0, 0, 4)) := by unfold Hid; rw [hX.out, hn, hbr, ← hg', hnb]; simp [he, tok]
        clear hX hn hg' he
        go_wp2_with (first | (go_at_call 39; refine (IsNumber3_any _ _ hez2).mono ?_; rintro e w' ⟨rfl, rfl⟩; rw [hf, hnb]) | (go_at_call 40; refine (Bare3_any _ _ hez1).mono ?_; rintro e w' ⟨rfl, rfl⟩; rw [hbr]))
        go_ret3
        exact ⟨SPost_err HF.out (by decide), Below.refl _ _⟩

/-- What is no token. -/
theorem scan_none (s : ByteArray) (i : Nat) (w : World) (hi : i < s.size) (hs : s.size ≤ 100000000000) (hb : wordb s[i] = false) (hc : s[i].toNat ≠ 32 ∧ s[i].toNat ≠ 9 ∧ s[i].toNat ≠ 10 ∧ s[i].toNat ≠ 13 ∧ s[i].toNat ≠ 47 ∧ s[i].toNat ≠ 91 ∧ s[i].toNat ≠ 93 ∧ s[i].toNat ≠ 123 ∧ s[i].toNat ≠ 125 ∧ s[i].toNat ≠ 44 ∧ s[i].toNat ≠ 58 ∧ s[i].toNat ≠ 34) :
    Calls Try.prog 21 #[.string s, .int .i64 i] w fun e w' => SPost i (0, 0, 3) e ∧ Below w.heap.size w w' := by
  have hm : s.size ≤ maxLen := by simp only [maxLen]; omega
  have q32 := beqNB s[i] 32 (by omega)
  have q9 := beqNB s[i] 9 (by omega)
  have q10 := beqNB s[i] 10 (by omega)
  have q13 := beqNB s[i] 13 (by omega)
  have q47 := beqNB s[i] 47 (by omega)
  have q91 := beqNB s[i] 91 (by omega)
  have q93 := beqNB s[i] 93 (by omega)
  have q123 := beqNB s[i] 123 (by omega)
  have q125 := beqNB s[i] 125 (by omega)
  have q44 := beqNB s[i] 44 (by omega)
  have q58 := beqNB s[i] 58 (by omega)
  have q34 := beqNB s[i] 34 (by omega)
  have q116 := beqNB s[i] 116 (by intro h; rw [u8_of (b := s[i]) (n := 116) (by omega)] at hb; exact absurd hb (by decide))
  have q98 := beqNB s[i] 98 (by intro h; rw [u8_of (b := s[i]) (n := 98) (by omega)] at hb; exact absurd hb (by decide))
  clear hc
  go_enter Try.func21, Try.ntmps21
  go_wp2_with (go_at_call 38; refine (word3_any _ _).mono ?_; rintro e w' ⟨rfl, rfl⟩)
  go_ret3
  exact ⟨SPost_err rfl (by decide), Below.refl _ _⟩

theorem oneL_at (s : ByteArray) (i : Nat) (hi : i < s.size) : oneL ((L s).drop i) = if blank s[i] then (1, spaceLen ((L s).drop i), 0)
    else if s[i].toNat = 10 ∨ s[i].toNat = 13 then tok 2 (lineL ((L s).drop i))
    else if s[i].toNat = 47 then tok 3 (comL ((L s).drop i))
    else if punct s[i] then (4, 1, 0)
    else if s[i].toNat = 34 then tok 5 (1 + (quotL ((L s).drop (i + 1))).2.1, (quotL ((L s).drop (i + 1))).2.2)
    else if (s[i].toNat = 116 ∨ s[i].toNat = 98) ∧ pre ((L s).drop (i + 1)) [34] then tok 5 (2 + (quotL ((L s).drop (i + 2))).2.1, (quotL ((L s).drop (i + 2))).2.2)
    else if wordb s[i] then tok 6 (wordL ((L s).drop i))
    else (0, 0, 3) := by
  have h2 : ((L s).drop (i + 1)).drop 1 = (L s).drop (i + 2) := by rw [List.drop_drop]
  rw [← h2]
  obtain ⟨t, ht⟩ : ∃ t, (L s).drop (i + 1) = t := ⟨_, rfl⟩
  have hl : (L s).drop i = s[i] :: t := by rw [← ht]; exact L_drop s i hi
  rw [ht, hl]
  rfl
theorem scan3_any (s : ByteArray) (i : Nat) (w : World) (hi : i < s.size) (hs : s.size ≤ 100000000000) :
    Calls Try.prog 21 #[.string s, .int .i64 i] w fun e w' => SPost i (oneL ((L s).drop i)) e ∧ Below w.heap.size w w' := by
  have hX := oneL_at s i hi
  have hpre : pre ((L s).drop (i + 1)) [34] = true ↔ ∃ h : i + 1 < s.size, s[i + 1].toNat = 34 := by
    by_cases h : i + 1 < s.size
    · rw [L_drop s (i + 1) h]
      constructor
      · intro hh
        refine ⟨h, ?_⟩
        have : s[i + 1] = 34 := by simpa [pre] using hh
        rw [this]; rfl
      · rintro ⟨_, hh⟩
        have : s[i + 1] = 34 := UInt8.toNat_inj.1 hh
        rw [this]; rfl
    · rw [L_drop_nil s (i + 1) (by omega)]
      simp [pre, h]
  by_cases hbl : s[i].toNat = 32 ∨ s[i].toNat = 9
  · rw [hX, if_pos (by simpa [blank] using hbl)]
    exact scan_blank s i w hi hs hbl
  rw [if_neg (by simpa [blank] using hbl)] at hX
  by_cases h10 : s[i].toNat = 10
  · rw [hX, if_pos (.inl h10)]
    exact scan_line s i w hi hs h10
  by_cases h13 : s[i].toNat = 13
  · rw [hX, if_pos (.inr h13)]
    exact scan_cr s i w hi hs h13
  rw [if_neg (by omega)] at hX
  by_cases h47 : s[i].toNat = 47
  · rw [hX, if_pos h47]
    exact scan_com s i w hi hs h47
  rw [if_neg h47] at hX
  by_cases hp : punct s[i] = true
  · rw [hX, if_pos hp]
    exact scan_punct s i w hi hs hp
  rw [if_neg hp] at hX
  by_cases h34 : s[i].toNat = 34
  · rw [hX, if_pos h34]
    exact scan_quot s i w hi hs h34
  rw [if_neg h34] at hX
  by_cases ht : (s[i].toNat = 116 ∨ s[i].toNat = 98) ∧ pre ((L s).drop (i + 1)) [34] = true
  · rw [hX, if_pos ht]
    obtain ⟨h1, h2⟩ := hpre.1 ht.2
    exact scan_sort s i w hi hs ht.1 h1 h2
  rw [if_neg ht] at hX
  rw [hX]
  cases hw : wordb s[i]
  · have hp' : ¬ (s[i].toNat = 91 ∨ s[i].toNat = 93 ∨ s[i].toNat = 123 ∨ s[i].toNat = 125 ∨ s[i].toNat = 44 ∨ s[i].toNat = 58) := by simpa [punct, or_assoc] using hp
    exact scan_none s i w hi hs hw (by omega)
  · exact scan_word s i w hi hs hw (fun h => ht ⟨h.1, hpre.2 h.2⟩)
end Go.Proofs.Ytmafggfonapmpaa
