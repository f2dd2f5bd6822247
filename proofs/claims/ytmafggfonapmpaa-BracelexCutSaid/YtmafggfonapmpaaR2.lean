/- The package datakitref19, walked: escapes. Conditions: strings of at most 10^11 bytes. -/
import Derived.Test.YtmafggfonapmpaaR1
namespace Go.Proofs.Ytmafggfonapmpaa
open Go.RowKit
set_option maxHeartbeats 1000000
set_option maxRecDepth 100000

/-- One byte more. -/
def bump (x : Nat × Nat × Nat) : Nat × Nat × Nat := (x.1, x.2.1 + 1, x.2.2)
theorem bump_same {x : Nat × Nat × Nat} {r n k : Nat} (h : x = (r, n, k)) : EscPost (bump x) (.returned (.tuple #[.int .i64 r, .int .i64 ((n + 1 : Nat) : Int), .int .i64 k])) := by
  subst h
  exact ⟨r, n + 1, rfl, fun _ => ⟨rfl, rfl⟩⟩
theorem bump_err {x : Nat × Nat × Nat} {r n k : Nat} (h : x.2.2 = k) (hk : k ≠ 0) : EscPost (bump x) (.returned (.tuple #[.int .i64 r, .int .i64 n, .int .i64 k])) := by
  subst h
  exact ⟨r, n, rfl, fun h => absurd h hk⟩
theorem pair3_any (s : ByteArray) (i : Nat) (w : World) (hi : i < s.size) (hs : s.size ≤ 100000000000) :
    Calls Try.prog 61 #[.string s, .int .i64 i] w fun e w' => EscPost (bump (uniEsc ((L s).drop (i + 2)))) e ∧ w = w' := by
  have hlen := hexN_len 4 0 ((L s).drop (i + 2))
  rw [List.length_drop, L_len] at hlen
  have HLEN := Lib.hid hlen; clear hlen
  have hdd : ((L s).drop (i + 2)).drop 4 = (L s).drop (i + 6) := by rw [List.drop_drop]
  have hX : Hid (uniEsc ((L s).drop (i + 2)) = if (hexN 4 0 ((L s).drop (i + 2))).2 ≠ 0 then (0, 0, (hexN 4 0 ((L s).drop (i + 2))).2)
      else if (hexN 4 0 ((L s).drop (i + 2))).1 < 55296 ∨ 57343 < (hexN 4 0 ((L s).drop (i + 2))).1 then ((hexN 4 0 ((L s).drop (i + 2))).1, 5, 0)
      else if 56319 < (hexN 4 0 ((L s).drop (i + 2))).1 then (0, 0, 5)
      else match (L s).drop (i + 6) with
        | [] => (0, 0, 4)
        | c :: t2 => if c.toNat ≠ 92 then (0, 0, 5) else match t2 with
          | [] => (0, 0, 4)
          | d :: t3 => if d.toNat ≠ 117 then (0, 0, 5)
            else if (hexN 4 0 t3).2 ≠ 0 then (0, 0, (hexN 4 0 t3).2)
            else if (hexN 4 0 t3).1 < 56320 ∨ 57343 < (hexN 4 0 t3).1 then (0, 0, 5)
            else (65536 + ((hexN 4 0 ((L s).drop (i + 2))).1 - 55296) * 1024 + (hexN 4 0 t3).1 - 56320, 11, 0)) := by
    unfold Hid
    rw [← hdd]
    rfl
  clear hdd
  go_enter Try.func61, Try.ntmps61
  go_wp2_with fail
  refine (four3_any s (i + 2) _ (by omega) hs).mono ?_
  rintro e w' ⟨rfl, rfl⟩
  generalize (hexN 4 0 ((L s).drop (i + 2))).2 = er at *
  generalize (hexN 4 0 ((L s).drop (i + 2))).1 = a at *
  by_cases hz : er = 0
  case neg =>
    have e1 : ((er : Int) != 0) = true := by rw [bne_iff_ne]; omega
    have HF : Hid (uniEsc ((L s).drop (i + 2)) = (0, 0, er)) := by unfold Hid; rw [hX.out, if_pos hz]
    have HZ := Lib.hid hz; clear hz hX
    go_wp2_with fail
    go_ret3
    exact ⟨by rw [HF.out]; exact bump_err rfl HZ.out, rfl⟩
  have HL := HLEN.out hz
  subst hz
  clear HLEN
  by_cases h1 : a < 55296
  · have q : (a : Int) < 55296 := by omega
    have HF : Hid (uniEsc ((L s).drop (i + 2)) = (a, 5, 0)) := by unfold Hid; rw [hX.out, if_neg (by decide), if_pos (.inl h1)]
    clear h1 hX
    go_wp2_with fail
    go_ret3
    exact ⟨by rw [HF.out]; exact bump_same rfl, rfl⟩
  have q1 : ((a : Int) < 55296) = False := eq_false (by omega)
  have Q1 : Hid (55296 ≤ a) := (by omega : 55296 ≤ a)
  by_cases h2 : 57343 < a
  · have q : (57343 : Int) < a := by omega
    have HF : Hid (uniEsc ((L s).drop (i + 2)) = (a, 5, 0)) := by unfold Hid; rw [hX.out, if_neg (by decide), if_pos (.inr h2)]
    clear h1 h2 hX
    go_wp2_with fail
    go_ret3
    exact ⟨by rw [HF.out]; exact bump_same rfl, rfl⟩
  have q2 : ((57343 : Int) < a) = False := eq_false (by omega)
  by_cases h3 : 56319 < a
  · have q : (56320 : Int) ≤ a := by omega
    have HF : Hid (uniEsc ((L s).drop (i + 2)) = (0, 0, 5)) := by unfold Hid; rw [hX.out, if_neg (by decide), if_neg (by omega), if_pos h3]
    clear h1 h2 h3 hX
    go_wp2_with fail
    go_ret3
    exact ⟨by rw [HF.out]; exact bump_err rfl (by decide), rfl⟩
  have q3 : ((56320 : Int) ≤ a) = False := eq_false (by omega)
  have Q3 : Hid (a ≤ 56319) := (by omega : a ≤ 56319)
  have hY1 : Hid (uniEsc ((L s).drop (i + 2)) = match (L s).drop (i + 6) with
        | [] => (0, 0, 4)
        | c :: t2 => if c.toNat ≠ 92 then (0, 0, 5) else match t2 with
          | [] => (0, 0, 4)
          | d :: t3 => if d.toNat ≠ 117 then (0, 0, 5)
            else if (hexN 4 0 t3).2 ≠ 0 then (0, 0, (hexN 4 0 t3).2)
            else if (hexN 4 0 t3).1 < 56320 ∨ 57343 < (hexN 4 0 t3).1 then (0, 0, 5)
            else (65536 + (a - 55296) * 1024 + (hexN 4 0 t3).1 - 56320, 11, 0)) := by
    unfold Hid; rw [hX.out, if_neg (by decide), if_neg (by omega), if_neg h3]
  clear h1 h2 h3 hX
  by_cases k6 : s.size ≤ i + 6
  · have q : (s.size : Int) ≤ (i : Int) + 6 := by omega
    have HF : Hid (uniEsc ((L s).drop (i + 2)) = (0, 0, 4)) := by unfold Hid; rw [hY1.out, L_drop_nil s _ k6]
    clear k6 hY1
    go_wp2_with fail
    go_ret3
    exact ⟨by rw [HF.out]; exact bump_err rfl (by decide), rfl⟩
  have p6 : i + 6 < s.size := by omega
  have p6' : ¬ (s.size : Int) ≤ (i : Int) + 6 := by omega
  by_cases c6 : s[i + 6].toNat = 92
  case neg =>
    have q : ((s[i + 6].toNat : Int) != 92) = true := by rw [bne_iff_ne]; omega
    have HF : Hid (uniEsc ((L s).drop (i + 2)) = (0, 0, 5)) := by unfold Hid; rw [hY1.out, L_drop s _ p6]; simp only; rw [if_pos c6]
    clear k6 c6 hY1
    go_wp2_with fail
    go_ret3
    exact ⟨by rw [HF.out]; exact bump_err rfl (by decide), rfl⟩
  have g6 : ((s[i + 6].toNat : Int) != 92) = false := by rw [bne_eq_false_iff_eq]; omega
  have hY2 : Hid (uniEsc ((L s).drop (i + 2)) = match (L s).drop (i + 7) with
          | [] => (0, 0, 4)
          | d :: t3 => if d.toNat ≠ 117 then (0, 0, 5)
            else if (hexN 4 0 t3).2 ≠ 0 then (0, 0, (hexN 4 0 t3).2)
            else if (hexN 4 0 t3).1 < 56320 ∨ 57343 < (hexN 4 0 t3).1 then (0, 0, 5)
            else (65536 + (a - 55296) * 1024 + (hexN 4 0 t3).1 - 56320, 11, 0)) := by
    unfold Hid; rw [hY1.out, L_drop s _ p6]; simp only; rw [if_neg (by simpa using c6)]
  clear k6 c6 hY1
  by_cases k7 : s.size ≤ i + 7
  · have q : (s.size : Int) ≤ (i : Int) + 7 := by omega
    have HF : Hid (uniEsc ((L s).drop (i + 2)) = (0, 0, 4)) := by unfold Hid; rw [hY2.out, L_drop_nil s _ k7]
    clear k7 hY2
    go_wp2_with fail
    go_ret3
    exact ⟨by rw [HF.out]; exact bump_err rfl (by decide), rfl⟩
  have p7 : i + 7 < s.size := by omega
  have p7' : ¬ (s.size : Int) ≤ (i : Int) + 7 := by omega
  by_cases c7 : s[i + 7].toNat = 117
  case neg =>
    have q : ((s[i + 7].toNat : Int) != 117) = true := by rw [bne_iff_ne]; omega
    have HF : Hid (uniEsc ((L s).drop (i + 2)) = (0, 0, 5)) := by unfold Hid; rw [hY2.out, L_drop s _ p7]; simp only; rw [if_pos c7]
    clear k7 c7 hY2
    go_wp2_with fail
    go_ret3
    exact ⟨by rw [HF.out]; exact bump_err rfl (by decide), rfl⟩
  have g7 : ((s[i + 7].toNat : Int) != 117) = false := by rw [bne_eq_false_iff_eq]; omega
  have hY3 : Hid (uniEsc ((L s).drop (i + 2)) = if (hexN 4 0 ((L s).drop (i + 8))).2 ≠ 0 then (0, 0, (hexN 4 0 ((L s).drop (i + 8))).2)
            else if (hexN 4 0 ((L s).drop (i + 8))).1 < 56320 ∨ 57343 < (hexN 4 0 ((L s).drop (i + 8))).1 then (0, 0, 5)
            else (65536 + (a - 55296) * 1024 + (hexN 4 0 ((L s).drop (i + 8))).1 - 56320, 11, 0)) := by
    unfold Hid; rw [hY2.out, L_drop s _ p7]; simp only; rw [if_neg (by simpa using c7)]
  clear k7 c7 hY2
  go_wp2_with fail
  refine (four3_any s (i + 8) _ (by omega) hs).mono ?_
  rintro e w' ⟨rfl, rfl⟩
  have hl8 := hex4_lt ((L s).drop (i + 8))
  have HL8 := Lib.hid hl8; clear hl8
  generalize (hexN 4 0 ((L s).drop (i + 8))).2 = er at *
  generalize (hexN 4 0 ((L s).drop (i + 8))).1 = b at *
  by_cases hz : er = 0
  case neg =>
    have e1 : ((er : Int) != 0) = true := by rw [bne_iff_ne]; omega
    have HF : Hid (uniEsc ((L s).drop (i + 2)) = (0, 0, er)) := by unfold Hid; rw [hY3.out, if_pos hz]
    have HZ := Lib.hid hz; clear hz hY3
    go_wp2_with fail
    go_ret3
    exact ⟨by rw [HF.out]; exact bump_err rfl HZ.out, rfl⟩
  subst hz
  by_cases h1 : b < 56320
  · have q : (b : Int) < 56320 := by omega
    have HF : Hid (uniEsc ((L s).drop (i + 2)) = (0, 0, 5)) := by unfold Hid; rw [hY3.out, if_neg (by simp), if_pos (.inl h1)]
    clear h1 hY3
    go_wp2_with fail
    go_ret3
    exact ⟨by rw [HF.out]; exact bump_err rfl (by decide), rfl⟩
  have r1 : ¬ (b : Int) < 56320 := by omega
  by_cases h2 : 57343 < b
  · have q : (57343 : Int) < b := by omega
    have HF : Hid (uniEsc ((L s).drop (i + 2)) = (0, 0, 5)) := by unfold Hid; rw [hY3.out, if_neg (by simp), if_pos (.inr h2)]
    clear h1 h2 hY3
    go_wp2_with fail
    go_ret3
    exact ⟨by rw [HF.out]; exact bump_err rfl (by decide), rfl⟩
  have r2 : ¬ (57343 : Int) < b := by omega
  have q1' := Q1.out
  have q3' := Q3.out
  have HF : Hid (uniEsc ((L s).drop (i + 2)) = (65536 + (a - 55296) * 1024 + b - 56320, 11, 0)) := by unfold Hid; rw [hY3.out, if_neg (by simp), if_neg (by omega)]
  have HR : Hid ((65536 : Int) + ((a : Int) - 55296) * 1024 + b - 56320 = ((65536 + (a - 55296) * 1024 + b - 56320 : Nat) : Int)) := by unfold Hid; omega
  clear h1 h2 hY3
  go_wp2_with fail
  go_ret3
  exact ⟨by rw [HF.out]; exact EscPost_ok rfl HR.out rfl, rfl⟩

theorem esc3_any (s : ByteArray) (i : Nat) (w : World) (hi : i < s.size) (hs : s.size ≤ 100000000000) :
    Calls Try.prog 46 #[.string s, .int .i64 i] w fun e w' => EscPost (bump (escL ((L s).drop (i + 1)))) e ∧ w = w' := by
  by_cases hp : s.size ≤ i + 1
  · have hp' : (s.size : Int) ≤ (i : Int) + 1 := by omega
    have HF : Hid (escL ((L s).drop (i + 1)) = (0, 0, 4)) := by unfold Hid; rw [L_drop_nil s _ hp]; rfl
    clear hp
    go_enter Try.func46, Try.ntmps46
    go_wp2_with fail
    go_ret3
    exact ⟨by rw [HF.out]; exact bump_err rfl (by decide), rfl⟩
  have hp' : ¬ (s.size : Int) ≤ (i : Int) + 1 := by omega
  have hq : i + 1 < s.size := by omega
  have hX : Hid (escL ((L s).drop (i + 1)) = if s[i + 1].toNat = 117 then uniEsc ((L s).drop (i + 2)) else match simpleEsc s[i + 1] with | some r => (r, 1, 0) | none => (0, 0, 3)) := by
    unfold Hid; rw [L_drop s _ hq]; rfl
  clear hp
  by_cases h34 : s[i + 1].toNat = 34
  · have e34 : ((s[i + 1].toNat : Int) == 34) = true := by rw [beq_iff_eq]; omega
    have HF : Hid (escL ((L s).drop (i + 1)) = (34, 1, 0)) := by unfold Hid; rw [hX.out, if_neg (by omega)]; unfold simpleEsc; simp [h34]
    have HV : Hid (s[i + 1].toNat = 34) := h34
    have hb : (s[i + 1].toNat : Int) < 256 := by omega
    clear hX h34
    go_enter Try.func46, Try.ntmps46
    go_wp2_with fail
    go_ret3
    exact ⟨by rw [HF.out]; exact EscPost_ok rfl (by rw [HV.out]; rfl) rfl, rfl⟩
  by_cases h92 : s[i + 1].toNat = 92
  · have e92 : ((s[i + 1].toNat : Int) == 92) = true := by rw [beq_iff_eq]; omega
    have e34 : ((s[i + 1].toNat : Int) == 34) = false := by rw [beq_eq_false_iff_ne]; omega
    have HF : Hid (escL ((L s).drop (i + 1)) = (92, 1, 0)) := by unfold Hid; rw [hX.out, if_neg (by omega)]; unfold simpleEsc; simp [h92]
    have HV : Hid (s[i + 1].toNat = 92) := h92
    have hb : (s[i + 1].toNat : Int) < 256 := by omega
    clear hX h34 h92
    go_enter Try.func46, Try.ntmps46
    go_wp2_with fail
    go_ret3
    exact ⟨by rw [HF.out]; exact EscPost_ok rfl (by rw [HV.out]; rfl) rfl, rfl⟩
  by_cases h47 : s[i + 1].toNat = 47
  · have e47 : ((s[i + 1].toNat : Int) == 47) = true := by rw [beq_iff_eq]; omega
    have e34 : ((s[i + 1].toNat : Int) == 34) = false := by rw [beq_eq_false_iff_ne]; omega
    have e92 : ((s[i + 1].toNat : Int) == 92) = false := by rw [beq_eq_false_iff_ne]; omega
    have HF : Hid (escL ((L s).drop (i + 1)) = (47, 1, 0)) := by unfold Hid; rw [hX.out, if_neg (by omega)]; unfold simpleEsc; simp [h47]
    have HV : Hid (s[i + 1].toNat = 47) := h47
    have hb : (s[i + 1].toNat : Int) < 256 := by omega
    clear hX h34 h92 h47
    go_enter Try.func46, Try.ntmps46
    go_wp2_with fail
    go_ret3
    exact ⟨by rw [HF.out]; exact EscPost_ok rfl (by rw [HV.out]; rfl) rfl, rfl⟩
  by_cases h98 : s[i + 1].toNat = 98
  · have e98 : ((s[i + 1].toNat : Int) == 98) = true := by rw [beq_iff_eq]; omega
    have e34 : ((s[i + 1].toNat : Int) == 34) = false := by rw [beq_eq_false_iff_ne]; omega
    have e92 : ((s[i + 1].toNat : Int) == 92) = false := by rw [beq_eq_false_iff_ne]; omega
    have e47 : ((s[i + 1].toNat : Int) == 47) = false := by rw [beq_eq_false_iff_ne]; omega
    have HF : Hid (escL ((L s).drop (i + 1)) = (8, 1, 0)) := by unfold Hid; rw [hX.out, if_neg (by omega)]; unfold simpleEsc; simp [h98]
    clear hX h34 h92 h47 h98
    go_enter Try.func46, Try.ntmps46
    go_wp2_with fail
    go_ret3
    exact ⟨by rw [HF.out]; exact EscPost_ok rfl rfl rfl, rfl⟩
  by_cases h102 : s[i + 1].toNat = 102
  · have e102 : ((s[i + 1].toNat : Int) == 102) = true := by rw [beq_iff_eq]; omega
    have e34 : ((s[i + 1].toNat : Int) == 34) = false := by rw [beq_eq_false_iff_ne]; omega
    have e92 : ((s[i + 1].toNat : Int) == 92) = false := by rw [beq_eq_false_iff_ne]; omega
    have e47 : ((s[i + 1].toNat : Int) == 47) = false := by rw [beq_eq_false_iff_ne]; omega
    have e98 : ((s[i + 1].toNat : Int) == 98) = false := by rw [beq_eq_false_iff_ne]; omega
    have HF : Hid (escL ((L s).drop (i + 1)) = (12, 1, 0)) := by unfold Hid; rw [hX.out, if_neg (by omega)]; unfold simpleEsc; simp [h102]
    clear hX h34 h92 h47 h98 h102
    go_enter Try.func46, Try.ntmps46
    go_wp2_with fail
    go_ret3
    exact ⟨by rw [HF.out]; exact EscPost_ok rfl rfl rfl, rfl⟩
  by_cases h110 : s[i + 1].toNat = 110
  · have e110 : ((s[i + 1].toNat : Int) == 110) = true := by rw [beq_iff_eq]; omega
    have e34 : ((s[i + 1].toNat : Int) == 34) = false := by rw [beq_eq_false_iff_ne]; omega
    have e92 : ((s[i + 1].toNat : Int) == 92) = false := by rw [beq_eq_false_iff_ne]; omega
    have e47 : ((s[i + 1].toNat : Int) == 47) = false := by rw [beq_eq_false_iff_ne]; omega
    have e98 : ((s[i + 1].toNat : Int) == 98) = false := by rw [beq_eq_false_iff_ne]; omega
    have e102 : ((s[i + 1].toNat : Int) == 102) = false := by rw [beq_eq_false_iff_ne]; omega
    have HF : Hid (escL ((L s).drop (i + 1)) = (10, 1, 0)) := by unfold Hid; rw [hX.out, if_neg (by omega)]; unfold simpleEsc; simp [h110]
    clear hX h34 h92 h47 h98 h102 h110
    go_enter Try.func46, Try.ntmps46
    go_wp2_with fail
    go_ret3
    exact ⟨by rw [HF.out]; exact EscPost_ok rfl rfl rfl, rfl⟩
  by_cases h114 : s[i + 1].toNat = 114
  · have e114 : ((s[i + 1].toNat : Int) == 114) = true := by rw [beq_iff_eq]; omega
    have e34 : ((s[i + 1].toNat : Int) == 34) = false := by rw [beq_eq_false_iff_ne]; omega
    have e92 : ((s[i + 1].toNat : Int) == 92) = false := by rw [beq_eq_false_iff_ne]; omega
    have e47 : ((s[i + 1].toNat : Int) == 47) = false := by rw [beq_eq_false_iff_ne]; omega
    have e98 : ((s[i + 1].toNat : Int) == 98) = false := by rw [beq_eq_false_iff_ne]; omega
    have e102 : ((s[i + 1].toNat : Int) == 102) = false := by rw [beq_eq_false_iff_ne]; omega
    have e110 : ((s[i + 1].toNat : Int) == 110) = false := by rw [beq_eq_false_iff_ne]; omega
    have HF : Hid (escL ((L s).drop (i + 1)) = (13, 1, 0)) := by unfold Hid; rw [hX.out, if_neg (by omega)]; unfold simpleEsc; simp [h114]
    clear hX h34 h92 h47 h98 h102 h110 h114
    go_enter Try.func46, Try.ntmps46
    go_wp2_with fail
    go_ret3
    exact ⟨by rw [HF.out]; exact EscPost_ok rfl rfl rfl, rfl⟩
  by_cases h116 : s[i + 1].toNat = 116
  · have e116 : ((s[i + 1].toNat : Int) == 116) = true := by rw [beq_iff_eq]; omega
    have e34 : ((s[i + 1].toNat : Int) == 34) = false := by rw [beq_eq_false_iff_ne]; omega
    have e92 : ((s[i + 1].toNat : Int) == 92) = false := by rw [beq_eq_false_iff_ne]; omega
    have e47 : ((s[i + 1].toNat : Int) == 47) = false := by rw [beq_eq_false_iff_ne]; omega
    have e98 : ((s[i + 1].toNat : Int) == 98) = false := by rw [beq_eq_false_iff_ne]; omega
    have e102 : ((s[i + 1].toNat : Int) == 102) = false := by rw [beq_eq_false_iff_ne]; omega
    have e110 : ((s[i + 1].toNat : Int) == 110) = false := by rw [beq_eq_false_iff_ne]; omega
    have e114 : ((s[i + 1].toNat : Int) == 114) = false := by rw [beq_eq_false_iff_ne]; omega
    have HF : Hid (escL ((L s).drop (i + 1)) = (9, 1, 0)) := by unfold Hid; rw [hX.out, if_neg (by omega)]; unfold simpleEsc; simp [h116]
    clear hX h34 h92 h47 h98 h102 h110 h114 h116
    go_enter Try.func46, Try.ntmps46
    go_wp2_with fail
    go_ret3
    exact ⟨by rw [HF.out]; exact EscPost_ok rfl rfl rfl, rfl⟩
  by_cases h117 : s[i + 1].toNat = 117
  · have e117 : ((s[i + 1].toNat : Int) == 117) = true := by rw [beq_iff_eq]; omega
    have e34 : ((s[i + 1].toNat : Int) == 34) = false := by rw [beq_eq_false_iff_ne]; omega
    have e92 : ((s[i + 1].toNat : Int) == 92) = false := by rw [beq_eq_false_iff_ne]; omega
    have e47 : ((s[i + 1].toNat : Int) == 47) = false := by rw [beq_eq_false_iff_ne]; omega
    have e98 : ((s[i + 1].toNat : Int) == 98) = false := by rw [beq_eq_false_iff_ne]; omega
    have e102 : ((s[i + 1].toNat : Int) == 102) = false := by rw [beq_eq_false_iff_ne]; omega
    have e110 : ((s[i + 1].toNat : Int) == 110) = false := by rw [beq_eq_false_iff_ne]; omega
    have e114 : ((s[i + 1].toNat : Int) == 114) = false := by rw [beq_eq_false_iff_ne]; omega
    have e116 : ((s[i + 1].toNat : Int) == 116) = false := by rw [beq_eq_false_iff_ne]; omega
    have HF : Hid (escL ((L s).drop (i + 1)) = uniEsc ((L s).drop (i + 2))) := by unfold Hid; rw [hX.out, if_pos h117]
    clear hX h34 h92 h47 h98 h102 h110 h114 h116 h117
    go_enter Try.func46, Try.ntmps46
    go_wp2_with fail
    refine (pair3_any s i _ hi hs).mono ?_
    rintro e w' ⟨⟨r, n, rfl, hrn⟩, rfl⟩
    have HN := Lib.hid hrn; clear hrn
    go_wp2_with fail
    go_ret3
    exact ⟨by rw [HF.out]; exact ⟨r, n, rfl, HN.out⟩, rfl⟩
  have e34 : ((s[i + 1].toNat : Int) == 34) = false := by rw [beq_eq_false_iff_ne]; omega
  have e92 : ((s[i + 1].toNat : Int) == 92) = false := by rw [beq_eq_false_iff_ne]; omega
  have e47 : ((s[i + 1].toNat : Int) == 47) = false := by rw [beq_eq_false_iff_ne]; omega
  have e98 : ((s[i + 1].toNat : Int) == 98) = false := by rw [beq_eq_false_iff_ne]; omega
  have e102 : ((s[i + 1].toNat : Int) == 102) = false := by rw [beq_eq_false_iff_ne]; omega
  have e110 : ((s[i + 1].toNat : Int) == 110) = false := by rw [beq_eq_false_iff_ne]; omega
  have e114 : ((s[i + 1].toNat : Int) == 114) = false := by rw [beq_eq_false_iff_ne]; omega
  have e116 : ((s[i + 1].toNat : Int) == 116) = false := by rw [beq_eq_false_iff_ne]; omega
  have e117 : ((s[i + 1].toNat : Int) == 117) = false := by rw [beq_eq_false_iff_ne]; omega
  have HF : Hid (escL ((L s).drop (i + 1)) = (0, 0, 3)) := by unfold Hid; rw [hX.out, if_neg h117]; unfold simpleEsc; simp [h34, h92, h47, h98, h102, h110, h114, h116]
  clear hX h34 h92 h47 h98 h102 h110 h114 h116 h117
  go_enter Try.func46, Try.ntmps46
  go_wp2_with fail
  go_ret3
  exact ⟨by rw [HF.out]; exact bump_err rfl (by decide), rfl⟩
end Go.Proofs.Ytmafggfonapmpaa
