/- The package datakitref19, walked: quoted strings. Conditions: strings of at most 10^11 bytes. -/
import Derived.Test.YtlnpfpjncnkekaaGreatDoorZt5
import Derived.Deep.DeepCutAuto
import Derived.Deep.CutBlock
import Derived.Test.YtlnpfpjncnkekaaGreatDoorZt4
import Derived.Test.YtlnpfpjncnkekaaGreatDoorZt7
namespace Go.Proofs.YtlnpfpjncnkekaaGreatDoor
open Go.RowKit
set_option maxHeartbeats 1000000
set_option maxRecDepth 100000

theorem ext_size (s : ByteArray) (a : Nat) : (s.extract a s.size).size = s.size - a := by
  rw [ByteArray.size_extract]; omega
theorem empty_L (s : ByteArray) : s.toList.isEmpty = decide (L s = []) := by
  rw [toList_L]
  cases L s <;> rfl
theorem len0 {s : ByteArray} (h : s.size = 0) : L s = [] := List.eq_nil_of_length_eq_zero (by rw [L_len]; exact h)
theorem size_pos {s : ByteArray} (h : L s ≠ []) : 0 < s.size := by
  rcases Nat.eq_zero_or_pos s.size with h0 | h0
  · exact absurd (len0 h0) h
  · exact h0
theorem L_cons0 (s : ByteArray) (h : 0 < s.size) : L s = s[0] :: (L s).drop 1 := by
  have := L_drop s 0 h
  simpa using this
/-- The end of a number: an exponent, or nothing. -/
theorem numeric_any (s : ByteArray) (w : World) (hs : s.size ≤ 1000000000000) :
    Calls Tryz.prog 170 #[.string s] w fun e w' => e = .returned (.bool (numB (L s))) ∧ w = w' := by
  have hm : s.size ≤ maxLen := by simp only [maxLen]; omega
  go_enter Tryz.func170, Tryz.ntmps170
  go_wp2_with fail
  refine (TrimPrefix_any s _ _ hm (by decide)).mono ?_
  rintro e w' ⟨rfl, rfl⟩
  have h1 : numB (L s) = intB (L (trimP s ⟨#[45]⟩)) := by rw [L_trimP]; rfl
  have HX := Lib.hid h1; clear h1
  have hs1 : (trimP s ⟨#[45]⟩).size ≤ 1000000000000 := by
    unfold trimP; split
    · rw [ext_size]; omega
    · exact hs
  generalize trimP s ⟨#[45]⟩ = s1 at *
  clear hm
  go_wp2_with fail
  refine (run_any s1 _ (by simp only [maxLen]; omega)).mono ?_
  rintro e w' ⟨rfl, rfl⟩
  have hr := runL_le (L s1)
  rw [L_len] at hr
  have h2 : intB (L s1) = if runL (L s1) = 0 ∨ (1 < runL (L s1) ∧ zero0 (L s1)) then false else fracB (L (s1.extract (runL (L s1)) s1.size)) := by rw [L_from]; rfl
  have hs2 := ext_size s1 (runL (L s1))
  have H2 := Lib.hid h2; clear h2
  have HS2 := Lib.hid hs2; clear hs2
  generalize runL (L s1) = n at *
  by_cases hn : n = 0
  · have hn0 : ((n : Int) == 0) = true := beq_iff_eq.2 (by omega)
    have HN := Lib.hid hn; clear hn
    go_wp2_with fail
    go_ret
    exact ⟨ret_bool (by rw [HX.out, H2.out, if_pos (.inl HN.out)]), rfl⟩
  have hn0 : ((n : Int) == 0) = false := beq_eq_false_iff_ne.2 (by omega)
  have hp : 0 < s1.size := by omega
  have hz0 : Hid (zero0 (L s1) = (s1[0].toNat == 48)) := by unfold Hid; rw [L_cons0 s1 hp]; rfl
  by_cases hz : 1 < n ∧ zero0 (L s1) = true
  · have h1n : (1 : Int) < n := by omega
    have hz1 : ((s1[0].toNat : Int) == 48) = true := by
      have := hz.2
      rw [hz0.out] at this
      rw [beq_iff_eq] at this ⊢
      omega
    have HN := Lib.hid hz; clear hz
    go_wp2_with fail
    go_ret
    exact ⟨ret_bool (by rw [HX.out, H2.out, if_pos (.inr HN.out)]), rfl⟩
  have H3 : Hid (numB (L s) = fracB (L (s1.extract n s1.size))) := by unfold Hid; rw [HX.out, H2.out, if_neg (fun h => h.elim hn hz)]
  have hq : decide ((1 : Int) < n) = false ∨ (decide ((1 : Int) < n) = true ∧ ((s1[0].toNat : Int) == 48) = false) := by
    by_cases h1n : 1 < n
    · refine .inr ⟨decide_eq_true (by omega), ?_⟩
      rw [beq_eq_false_iff_ne]
      intro h
      exact hz ⟨h1n, by rw [hz0.out, beq_iff_eq]; omega⟩
    · exact .inl (decide_eq_false (by omega))
  clear HX H2 hz0 hz
  go_upto_region 3 with fail
  go_cut [18] (fun c wx => c = .bool false ∧ wx = w)
  case first =>
    rcases hq with hq | ⟨hq1, hq2⟩
    · go_wp2_with fail
      go_meet
      exact ⟨rfl, rfl⟩
    · go_wp2_with fail
      go_meet
      exact ⟨rfl, rfl⟩
  case rest =>
    obtain ⟨rfl, rfl⟩ := hcut
    clear hq
    have hm2 : (s1.extract n s1.size).size ≤ maxLen := by rw [HS2.out]; simp only [maxLen]; omega
    have hs2' : (s1.extract n s1.size).size ≤ s1.size := by rw [HS2.out]; omega
    clear HS2
    go_upto_if 23 with (go_at_call 32; refine (HasPrefix_any _ _ _ hm2 (by decide)).mono ?_; rintro e w' ⟨rfl, rfl⟩)
    generalize s1.extract n s1.size = s2 at *
    have hp46' : pre (L s2) (L ⟨#[46]⟩) = pre (L s2) [46] := rfl
    rw [hp46']
    clear hp46'
    go_cut [0] (fun v wx => ∃ s3 : ByteArray, v = .string s3 ∧ s3.size ≤ s1.size ∧ Hid (numB (L s) = expB (L s3)) ∧ wx = wc)
    case first =>
      cases hp46 : pre (L s2) [46]
      · have HE : Hid (numB (L s) = expB (L s2)) := by unfold Hid; rw [H3.out, fracB, hp46]; rfl
        go_wp2_with fail
        go_meet
        exact ⟨s2, rfl, hs2', HE, rfl⟩
      · have hle : 1 ≤ s2.size := pre_yes (p := ⟨#[46]⟩) hp46
        have hle' : (1 : Int) ≤ s2.size := by omega
        have hE : numB (L s) = if runL (L (s2.extract 1 s2.size)) = 0 then false else expB (L (s2.extract (1 + runL (L (s2.extract 1 s2.size))) s2.size)) := by
          rw [H3.out, fracB, hp46, L_from, L_from]; rfl
        have HE := Lib.hid hE; clear hE
        have hr2 := runL_le (L (s2.extract 1 s2.size))
        rw [L_len, ext_size] at hr2
        go_wp2_with fail
        refine (run_any (s2.extract 1 s2.size) _ (by rw [ext_size]; simp only [maxLen]; omega)).mono ?_
        rintro e w' ⟨rfl, rfl⟩
        generalize runL (L (s2.extract 1 s2.size)) = m at *
        by_cases hm0 : m = 0
        · have hm1 : ((m : Int) == 0) = true := beq_iff_eq.2 (by omega)
          have HM := Lib.hid hm0; clear hm0
          go_wp2_with fail
          go_ret
          exact ⟨ret_bool (by rw [HE.out, if_pos HM.out]), rfl⟩
        · have hm1 : ((m : Int) == 0) = false := beq_eq_false_iff_ne.2 (by omega)
          have HF : Hid (numB (L s) = expB (L (s2.extract (1 + m) s2.size))) := by unfold Hid; rw [HE.out, if_neg hm0]
          have hz := ext_size s2 (1 + m)
          have HZ := Lib.hid hz; clear hz HE
          have hm3 : (1 : Int) + m ≤ s2.size := by omega
          go_wp2_with fail
          go_meet
          exact ⟨_, rfl, by rw [HZ.out]; omega, HF, rfl⟩
    case rest =>
      obtain ⟨s3, rfl, hs3, H4, rfl⟩ := hcut
      clear H3
      by_cases he : L s3 = []
      · have he1 : s3.toList.isEmpty = true := by rw [empty_L]; simpa using he
        have H5 : Hid (numB (L s) = true) := by unfold Hid; rw [H4.out, he]; rfl
        clear he H4
        go_wp2_with fail
        go_ret
        exact ⟨ret_bool (by rw [H5.out]), rfl⟩
      have he1 : s3.toList.isEmpty = false := by rw [empty_L]; simpa using he
      have hp3 := size_pos he
      have H5 : Hid (numB (L s) = ((s3[0].toNat == 101 || s3[0].toNat == 69) && (decide (dropSign (L (s3.extract 1 s3.size)) ≠ []) && decide (runL (dropSign (L (s3.extract 1 s3.size))) = (dropSign (L (s3.extract 1 s3.size))).length)))) := by
        unfold Hid
        rw [H4.out, L_cons0 s3 hp3, L_from]
        rfl
      clear he H4
      by_cases hexp : s3[0].toNat = 101 ∨ s3[0].toNat = 69
      · have H6 : Hid (numB (L s) = (decide (dropSign (L (s3.extract 1 s3.size)) ≠ []) && decide (runL (dropSign (L (s3.extract 1 s3.size))) = (dropSign (L (s3.extract 1 s3.size))).length))) := by
          unfold Hid
          rw [H5.out]
          rcases hexp with h | h <;> simp [h]
        clear H5
        have hle3 : (1 : Int) ≤ s3.size := by omega
        have hsz : (s3.extract 1 s3.size).size ≤ s3.size := by rw [ext_size]; omega
        go_upto_region 13 with fail
        go_cut [42] (fun v wx => v = .bool false ∧ wx = wc)
        case first =>
          rcases hexp with h | h
          · have e1 : ((s3[0].toNat : Int) != 101) = false := by rw [bne_eq_false_iff_eq]; omega
            clear h
            go_wp2_with fail
            go_meet
            exact ⟨rfl, rfl⟩
          · have e1 : ((s3[0].toNat : Int) != 101) = true := by rw [bne_iff_ne]; omega
            have e2 : ((s3[0].toNat : Int) != 69) = false := by rw [bne_eq_false_iff_eq]; omega
            clear h
            go_wp2_with fail
            go_meet
            exact ⟨rfl, rfl⟩
        case rest =>
          obtain ⟨rfl, rfl⟩ := hcut
          go_upto_region 16 with fail
          generalize s3.extract 1 s3.size = s4 at *
          clear hle3 hexp
          go_cut [56] (fun c wx => c = .bool (match L s4 with | [] => false | d :: _ => sgn d) ∧ wx = wc)
          case first =>
            by_cases h4 : L s4 = []
            · have he4 : s4.toList.isEmpty = true := by rw [empty_L]; simpa using h4
              have HC : Hid ((match L s4 with | [] => false | d :: _ => sgn d) = false) := by unfold Hid; rw [h4]
              clear h4
              go_wp2_with fail
              go_meet
              exact ⟨by rw [HC.out], rfl⟩
            · have he4 : s4.toList.isEmpty = false := by rw [empty_L]; simpa using h4
              have hp4 := size_pos h4
              have HC : Hid ((match L s4 with | [] => false | d :: _ => sgn d) = sgn s4[0]) := by unfold Hid; rw [L_cons0 s4 hp4]
              clear h4
              by_cases e43 : s4[0].toNat = 43
              · have g : ((s4[0].toNat : Int) == 43) = true := by rw [beq_iff_eq]; omega
                have HE : Hid (sgn s4[0] = true) := by unfold Hid; simp [sgn, e43]
                clear e43
                go_wp2_with fail
                go_meet
                exact ⟨by rw [HC.out, HE.out], rfl⟩
              have g : ((s4[0].toNat : Int) == 43) = false := by rw [beq_eq_false_iff_ne]; omega
              by_cases e45 : s4[0].toNat = 45
              · have g2 : ((s4[0].toNat : Int) == 45) = true := by rw [beq_iff_eq]; omega
                have HE : Hid (sgn s4[0] = true) := by unfold Hid; simp [sgn, e45]
                clear e43 e45
                go_wp2_with fail
                go_meet
                exact ⟨by rw [HC.out, HE.out], rfl⟩
              · have g2 : ((s4[0].toNat : Int) == 45) = false := by rw [beq_eq_false_iff_ne]; omega
                have HE : Hid (sgn s4[0] = false) := by unfold Hid; simp [sgn, e43, e45]
                clear e43 e45
                go_wp2_with fail
                go_meet
                exact ⟨by rw [HC.out, HE.out], rfl⟩
          case rest =>
            obtain ⟨rfl, rfl⟩ := hcut
            cases hb : (match L s4 with | [] => false | d :: _ => sgn d)
            · have hd : dropSign (L s4) = L s4 := by
                cases hl : L s4
                · rfl
                · rw [hl] at hb
                  simp only at hb
                  simp [dropSign, hb]
              rw [hd] at H6
              have hm4 : s4.size ≤ maxLen := by simp only [maxLen]; omega
              clear hb hd
              by_cases h4 : L s4 = []
              · have he4 : (s4).toList.isEmpty = true := by rw [empty_L]; simpa using h4
                have H7 : Hid (numB (L s) = false) := by unfold Hid; rw [H6.out, h4]; rfl
                clear h4
                go_wp2_with fail
                go_ret
                exact ⟨ret_bool (by rw [H7.out]), rfl⟩
              · have he4 : (s4).toList.isEmpty = false := by rw [empty_L]; simpa using h4
                have H7 : Hid (numB (L s) = ((runL (L s4) : Int) == (s4).size)) := by
                  unfold Hid
                  rw [H6.out, L_len, Bool.eq_iff_iff]
                  simp [h4]
                  omega
                clear h4
                go_wp2_with (go_at_call 186; refine (run_any s4 _ hm4).mono ?_; rintro e w' ⟨rfl, rfl⟩)
                go_ret
                exact ⟨ret_bool (by rw [H7.out]), rfl⟩
            · have hp4 : 0 < s4.size := by
                refine size_pos (fun h => ?_)
                rw [h] at hb
                cases hb
              have hd : dropSign (L s4) = L (s4.extract 1 s4.size) := by
                rw [L_from]
                rw [L_cons0 s4 hp4] at hb ⊢
                simp only at hb
                simp [dropSign, hb]
              rw [hd] at H6
              have hm4 : (s4.extract 1 s4.size).size ≤ maxLen := by rw [ext_size]; simp only [maxLen]; omega
              have hle4 : (1 : Int) ≤ s4.size := by omega
              clear hb hd
              by_cases h4 : L (s4.extract 1 s4.size) = []
              · have he4 : ((s4.extract 1 s4.size)).toList.isEmpty = true := by rw [empty_L]; simpa using h4
                have H7 : Hid (numB (L s) = false) := by unfold Hid; rw [H6.out, h4]; rfl
                clear h4
                go_wp2_with fail
                go_ret
                exact ⟨ret_bool (by rw [H7.out]), rfl⟩
              · have he4 : ((s4.extract 1 s4.size)).toList.isEmpty = false := by rw [empty_L]; simpa using h4
                have H7 : Hid (numB (L s) = ((runL (L (s4.extract 1 s4.size)) : Int) == ((s4.extract 1 s4.size)).size)) := by
                  unfold Hid
                  rw [H6.out, L_len, Bool.eq_iff_iff]
                  simp [h4]
                  omega
                clear h4
                go_wp2_with (go_at_call 186; refine (run_any (s4.extract 1 s4.size) _ hm4).mono ?_; rintro e w' ⟨rfl, rfl⟩)
                go_ret
                exact ⟨ret_bool (by rw [H7.out, ext_size]), rfl⟩
      · have H6 : Hid (numB (L s) = false) := by
          unfold Hid
          rw [H5.out]
          have h1 : ¬ s3[0].toNat = 101 := fun h => hexp (.inl h)
          have h2 : ¬ s3[0].toNat = 69 := fun h => hexp (.inr h)
          simp [h1, h2]
        have e1 : ((s3[0].toNat : Int) != 101) = true := by rw [bne_iff_ne]; omega
        have e2 : ((s3[0].toNat : Int) != 69) = true := by rw [bne_iff_ne]; omega
        clear hexp H5
        go_wp2_with fail
        go_ret
        exact ⟨ret_bool (by rw [H6.out]), rfl⟩
end Go.Proofs.YtlnpfpjncnkekaaGreatDoor

namespace Go.Proofs.YtlnpfpjncnkekaaGreatDoor
open Go.RowKit
set_option maxHeartbeats 1000000
set_option maxRecDepth 100000

theorem lineEnd_any (s : ByteArray) (w : World) (h0 : 0 < s.size) (hs : s.size ≤ maxLen) :
    Calls Tryz.prog 133 #[.string s] w fun e w' => e = .returned (.tuple #[.int .i64 (lineL (L s)).1, .int .i64 (lineL (L s)).2]) ∧ w = w' := by
  unfold maxLen at hs
  have hl : Hid (lineL (L s) = if s[0].toNat = 10 then (1, 0) else match (L s).drop 1 with | [] => (0, 4) | c :: _ => if c.toNat = 10 then (2, 0) else (0, 3)) := by
    unfold Hid; rw [L_cons0 s h0]; rfl
  by_cases h10 : s[0].toNat = 10
  · have g : ((s[0].toNat : Int) == 10) = true := by rw [beq_iff_eq]; omega
    have HL : Hid (lineL (L s) = (1, 0)) := by unfold Hid; rw [hl.out, if_pos h10]
    clear h10
    go_enter Tryz.func133, Tryz.ntmps133
    go_wp2_with fail
    go_ret2
    exact ⟨by rw [HL.out]; rfl, rfl⟩
  have g : ((s[0].toNat : Int) == 10) = false := by rw [beq_eq_false_iff_ne]; omega
  by_cases h1 : s.size = 1
  · have HL : Hid (lineL (L s) = (0, 4)) := by unfold Hid; rw [hl.out, if_neg h10, L_drop_nil s 1 (by omega)]
    have g1 : ((s.size : Int) == 1) = true := by rw [beq_iff_eq]; omega
    clear h10 h1
    go_enter Tryz.func133, Tryz.ntmps133
    go_wp2_with fail
    go_ret2
    exact ⟨by rw [HL.out]; rfl, rfl⟩
  have g1 : ((s.size : Int) == 1) = false := by rw [beq_eq_false_iff_ne]; omega
  have h2 : 1 < s.size := by omega
  have HL : Hid (lineL (L s) = if s[1].toNat = 10 then (2, 0) else (0, 3)) := by unfold Hid; rw [hl.out, if_neg h10, L_drop s 1 h2]
  by_cases h3 : s[1].toNat = 10
  · have g2 : ((s[1].toNat : Int) != 10) = false := by rw [bne_eq_false_iff_eq]; omega
    have HF : Hid (lineL (L s) = (2, 0)) := by unfold Hid; rw [HL.out, if_pos h3]
    clear h10 h1 h3
    go_enter Tryz.func133, Tryz.ntmps133
    go_wp2_with fail
    go_ret2
    exact ⟨by rw [HF.out]; rfl, rfl⟩
  · have g2 : ((s[1].toNat : Int) != 10) = true := by rw [bne_iff_ne]; omega
    have HF : Hid (lineL (L s) = (0, 3)) := by unfold Hid; rw [HL.out, if_neg h3]
    clear h10 h1 h3
    go_enter Tryz.func133, Tryz.ntmps133
    go_wp2_with fail
    go_ret2
    exact ⟨by rw [HF.out]; rfl, rfl⟩

theorem hexN_lt : ∀ (k n : Nat) (l : List UInt8), (hexN k n l).1 < (n + 1) * 16 ^ k
  | 0, n, l => by simp [hexN]
  | k + 1, n, [] => by simp only [hexN]; exact Nat.mul_pos (by omega) (Nat.pow_pos (by omega))
  | k + 1, n, b :: t => by
    unfold hexN
    cases h : hexv b with
    | none => exact Nat.mul_pos (by omega) (Nat.pow_pos (by omega))
    | some d =>
      have hd : d < 16 := by
        unfold hexv at h
        repeat' split at h
        all_goals first | (cases h; omega) | cases h
      have := hexN_lt k (16 * n + d) t
      refine Nat.lt_of_lt_of_le this ?_
      rw [Nat.pow_succ, Nat.mul_comm (16 ^ k) 16, ← Nat.mul_assoc]
      exact Nat.mul_le_mul_right _ (by omega)
theorem hex_any (s : ByteArray) (w : World) (_hs : s.size ≤ maxLen) :
    Calls Tryz.prog 172 #[.string s] w fun e w' => e = .returned (.tuple #[.int .i64 (hexN 4 0 (L s)).1, .int .i64 (hexN 4 0 (L s)).2]) ∧ w = w' := by
  unfold maxLen at _hs
  go_enter Tryz.func172, Tryz.ntmps172
  go_wp2_with fail
  go_loop [4, 5, 6, 7] (fun n _ _ i => ∃ k m : Nat, k ≤ 4 ∧ i = .int .i64 k ∧ n = .int .i64 m ∧ Hid (m < 16 ^ k) ∧ Hid (hexN 4 0 (L s) = hexN (4 - k) m ((L s).drop k))) (fun _ _ _ i => 4 - (intOf i).toNat)
  case atStart => exact ⟨0, 0, by omega, rfl, rfl, by unfold Hid; omega, rfl⟩
  case round =>
    obtain ⟨k, m, hk, rfl, rfl, hm, hx⟩ := hrel
    by_cases h4 : k < 4
    · have hm1 : m < 4096 := Nat.lt_of_lt_of_le hm.out (show 16 ^ k ≤ 16 ^ 3 from Nat.pow_le_pow_right (by omega) (by omega))
      by_cases hl : k < s.size
      · have hX : Hid (hexN 4 0 (L s) = match hexv s[k] with | some d => hexN (4 - (k + 1)) (16 * m + d) ((L s).drop (k + 1)) | none => (0, 3)) := by
          unfold Hid
          rw [hx.out, L_drop s k hl, show 4 - k = 4 - (k + 1) + 1 by omega]
          rfl
        clear hx
        have hlt := s[k].toNat_lt
        have hb : (s[k].toNat : Int) < 256 := by omega
        generalize hsk : s[k] = b at *
        cases hd : dig b
        case true =>
          have hr : 48 ≤ b.toNat ∧ b.toNat ≤ 57 := by simpa [dig] using hd
          have hr1 : ¬ (b.toNat : Int) < 48 := by omega
          have hv : hexv b = some (b.toNat - 48) := by unfold hexv; simp (disch := omega) only [if_pos]
          have hstep : Hid (16 * m + (b.toNat - 48) < 16 ^ (k + 1)) := by
            have := hm.out
            unfold Hid
            rw [Nat.pow_succ]
            omega
          have HF : Hid (hexN 4 0 (L s) = hexN (4 - (k + 1)) (16 * m + (b.toNat - 48)) ((L s).drop (k + 1))) := by unfold Hid; rw [hX.out, hv]
          clear hr
          clear hv hX
          go_wp2_with (go_at_call 169; refine (digit_any _ _).mono ?_; rintro e w' ⟨rfl, rfl⟩)
          exact ⟨⟨k + 1, 16 * m + (b.toNat - 48), by omega, rfl, by congr 1; omega, hstep, HF⟩, by simp [intOf]; omega⟩
        have hr : ¬ (48 ≤ b.toNat ∧ b.toNat ≤ 57) := by simpa [dig] using hd
        by_cases ha : 97 ≤ b.toNat ∧ b.toNat ≤ 102
        · have a1 : (97 : Int) ≤ b.toNat := by omega
          have a2 : (b.toNat : Int) ≤ 102 := by omega
          have hv : hexv b = some (b.toNat - 87) := by unfold hexv; simp (disch := omega) only [if_pos, if_neg]
          have hstep : Hid (16 * m + (b.toNat - 87) < 16 ^ (k + 1)) := by
            have := hm.out
            unfold Hid
            rw [Nat.pow_succ]
            omega
          have HF : Hid (hexN 4 0 (L s) = hexN (4 - (k + 1)) (16 * m + (b.toNat - 87)) ((L s).drop (k + 1))) := by unfold Hid; rw [hX.out, hv]
          clear hr ha
          clear hv hX
          go_wp2_with (go_at_call 169; refine (digit_any _ _).mono ?_; rintro e w' ⟨rfl, rfl⟩)
          exact ⟨⟨k + 1, 16 * m + (b.toNat - 87), by omega, rfl, by congr 1; omega, hstep, HF⟩, by simp [intOf]; omega⟩
        by_cases hA : 65 ≤ b.toNat ∧ b.toNat ≤ 70
        · have a1 : (65 : Int) ≤ b.toNat := by omega
          have a2 : (b.toNat : Int) ≤ 70 := by omega
          have hv : hexv b = some (b.toNat - 55) := by unfold hexv; simp (disch := omega) only [if_pos, if_neg]
          have hstep : Hid (16 * m + (b.toNat - 55) < 16 ^ (k + 1)) := by
            have := hm.out
            unfold Hid
            rw [Nat.pow_succ]
            omega
          have HF : Hid (hexN 4 0 (L s) = hexN (4 - (k + 1)) (16 * m + (b.toNat - 55)) ((L s).drop (k + 1))) := by unfold Hid; rw [hX.out, hv]
          clear hr ha hA
          clear hv hX
          go_wp2_with (go_at_call 169; refine (digit_any _ _).mono ?_; rintro e w' ⟨rfl, rfl⟩)
          exact ⟨⟨k + 1, 16 * m + (b.toNat - 55), by omega, rfl, by congr 1; omega, hstep, HF⟩, by simp [intOf]; omega⟩
        have hv : hexv b = none := by unfold hexv; rw [if_neg hr, if_neg ha, if_neg hA]
        have HF : Hid (hexN 4 0 (L s) = (0, 3)) := by unfold Hid; rw [hX.out, hv]
        clear hv hX
        have q1 : Hid (¬ (97 ≤ b.toNat ∧ b.toNat ≤ 102)) := ha
        have q2 : Hid (¬ (65 ≤ b.toNat ∧ b.toNat ≤ 70)) := hA
        clear ha hA hr
        go_wp2_with (go_at_call 169; refine (digit_any _ _).mono ?_; rintro e w' ⟨rfl, rfl⟩)
        all_goals
          have q1 := q1.out
          have q2 := q2.out
          first
            | (exfalso; omega)
            | (go_ret2; exact ⟨by rw [HF.out]; rfl, rfl⟩)
      · have HF : Hid (hexN 4 0 (L s) = (0, 4)) := by
          unfold Hid
          rw [hx.out, L_drop_nil s k (by omega), show 4 - k = 4 - (k + 1) + 1 by omega]
          rfl
        clear hx
        go_wp2_with fail
        go_ret2
        exact ⟨by rw [HF.out]; rfl, rfl⟩
    · obtain rfl : k = 4 := by omega
      have HF : Hid (hexN 4 0 (L s) = (m, 0)) := by unfold Hid; rw [hx.out]; rfl
      clear hx hm
      go_wp2_with fail
      go_ret2
      exact ⟨by rw [HF.out]; rfl, rfl⟩
end Go.Proofs.YtlnpfpjncnkekaaGreatDoor

namespace Go.Proofs.YtlnpfpjncnkekaaGreatDoor
open Go.RowKit
set_option maxHeartbeats 1000000
set_option maxRecDepth 100000

theorem wordLen_le : ∀ l : List UInt8, wordLen l ≤ l.length
  | [] => Nat.le_refl _
  | b :: t => by
    have := wordLen_le t
    unfold wordLen
    split <;> simp <;> omega
theorem word_any (s : ByteArray) (w : World) (hs : s.size ≤ 100000000000) :
    Calls Tryz.prog 136 #[.string s] w fun e w' => e = .returned (.tuple #[.int .i64 (wordL (L s)).1, .int .i64 (wordL (L s)).2]) ∧ w = w' := by
  have hm : s.size ≤ maxLen := by simp only [maxLen]; omega
  go_enter Tryz.func136, Tryz.ntmps136
  go_upto_block 0 with fail
  go_cut [4] (fun v wx => v = .int .i64 (wordLen (L s)) ∧ wx = w)
  case first =>
    go_wp2_with fail
    go_loop [4] (fun n => ∃ k : Nat, k ≤ s.size ∧ n = .int .i64 k ∧ Hid (wordLen (L s) = k + wordLen ((L s).drop k))) (fun n => s.size - (intOf n).toNat)
    case atStart => exact ⟨0, by omega, rfl, by unfold Hid; simp⟩
    case round =>
      obtain ⟨k, hk, rfl, hr⟩ := hrel
      by_cases hlt : k < s.size
      · cases hw : wordb s[k]
        · have HR : Hid (wordLen (L s) = k) := by
            unfold Hid; rw [hr.out, L_drop s k hlt, wordLen, hw]; rfl
          clear hr
          go_wp2_with ((with_reducible refine (wordByte_any _ _).mono ?_); rintro e w' ⟨rfl, rfl⟩)
          go_meet
          exact ⟨by rw [HR.out], rfl⟩
        · have HR : Hid (wordLen (L s) = (k + 1) + wordLen ((L s).drop (k + 1))) := by
            unfold Hid; rw [hr.out, L_drop s k hlt, wordLen, hw, if_pos rfl]; omega
          clear hr
          go_wp2_with ((with_reducible refine (wordByte_any _ _).mono ?_); rintro e w' ⟨rfl, rfl⟩)
          exact ⟨⟨k + 1, by omega, rfl, HR⟩, by simp [intOf]; omega⟩
      · have HR : Hid (wordLen (L s) = k) := by
          unfold Hid; rw [hr.out, L_drop_nil s k (by omega)]; rfl
        clear hr
        go_wp2_with fail
        go_meet
        exact ⟨by rw [HR.out], rfl⟩
  case rest =>
    obtain ⟨rfl, rfl⟩ := hcut
    have hk := wordLen_le (L s)
    rw [L_len] at hk
    have ht : Hid (L (s.extract 0 (wordLen (L s))) = (L s).take (wordLen (L s))) := L_upto s _
    have hX : Hid (wordL (L s) = if numB ((L s).take (wordLen (L s))) || bareL ((L s).take (wordLen (L s))) then (wordLen (L s), 0) else if wordLen (L s) = s.size ∧ numB ((L s).take (wordLen (L s)) ++ [48]) then (0, 4) else (0, 3)) := by
      unfold Hid; rw [← L_len s]; rfl
    have htz : (s.extract 0 (wordLen (L s))).size ≤ s.size := by rw [ByteArray.size_extract]; omega
    have htz2 : (s.extract 0 (wordLen (L s)) ++ ⟨#[48]⟩).size ≤ s.size + 1 := by rw [ByteArray.size_append]; show _ + 1 ≤ _; omega
    have ht2 : Hid (L (s.extract 0 (wordLen (L s)) ++ ⟨#[48]⟩) = (L s).take (wordLen (L s)) ++ [48]) := by unfold Hid; rw [L_append, ht.out]; rfl
    generalize wordLen (L s) = k at *
    cases h1 : numB ((L s).take k)
    case true =>
      have HF : Hid (wordL (L s) = (k, 0)) := by unfold Hid; rw [hX.out, h1]; rfl
      have hn : numB (L (s.extract 0 k)) = true := by rw [ht.out]; exact h1
      clear hX h1
      go_wp2_with (go_at_call 170; refine (numeric_any _ _ (by omega)).mono ?_; rintro e w' ⟨rfl, rfl⟩)
      go_ret2
      exact ⟨by rw [HF.out]; rfl, rfl⟩
    have hn : numB (L (s.extract 0 k)) = false := by rw [ht.out]; exact h1
    cases h2 : bareL ((L s).take k)
    case true =>
      have HF : Hid (wordL (L s) = (k, 0)) := by unfold Hid; rw [hX.out, h1, h2]; rfl
      have hb : bareL (L (s.extract 0 k)) = true := by rw [ht.out]; exact h2
      clear hX h1 h2
      go_wp2_with (first | (go_at_call 170; refine (numeric_any _ _ (by omega)).mono ?_; rintro e w' ⟨rfl, rfl⟩) | (go_at_call 171; refine (Bare_any _ _ (by simp only [maxLen]; omega)).mono ?_; rintro e w' ⟨rfl, rfl⟩))
      go_ret2
      exact ⟨by rw [HF.out]; rfl, rfl⟩
    have hb : bareL (L (s.extract 0 k)) = false := by rw [ht.out]; exact h2
    by_cases h3 : k = s.size
    · have hks : ((k : Int) == s.size) = true := by rw [beq_iff_eq]; omega
      cases h4 : numB ((L s).take k ++ [48])
      case true =>
        have HF : Hid (wordL (L s) = (0, 4)) := by unfold Hid; rw [hX.out, h1, h2, h4, h3]; simp
        have hn2 : numB (L (s.extract 0 k ++ ⟨#[48]⟩)) = true := by rw [ht2.out]; exact h4
        clear hX h1 h2 h3 h4
        go_wp2_with (first | (go_at_call 170; refine (numeric_any _ _ (by omega)).mono ?_; rintro e w' ⟨rfl, rfl⟩) | (go_at_call 171; refine (Bare_any _ _ (by simp only [maxLen]; omega)).mono ?_; rintro e w' ⟨rfl, rfl⟩))
        go_ret2
        exact ⟨by rw [HF.out]; rfl, rfl⟩
      case false =>
        have HF : Hid (wordL (L s) = (0, 3)) := by unfold Hid; rw [hX.out, h1, h2, h4]; simp
        have hn2 : numB (L (s.extract 0 k ++ ⟨#[48]⟩)) = false := by rw [ht2.out]; exact h4
        clear hX h1 h2 h3 h4
        go_wp2_with (first | (go_at_call 170; refine (numeric_any _ _ (by omega)).mono ?_; rintro e w' ⟨rfl, rfl⟩) | (go_at_call 171; refine (Bare_any _ _ (by simp only [maxLen]; omega)).mono ?_; rintro e w' ⟨rfl, rfl⟩))
        go_ret2
        exact ⟨by rw [HF.out]; rfl, rfl⟩
    · have hks : ((k : Int) == s.size) = false := by rw [beq_eq_false_iff_ne]; omega
      have HF : Hid (wordL (L s) = (0, 3)) := by unfold Hid; rw [hX.out, h1, h2]; simp [h3]
      clear hX h1 h2 h3
      go_wp2_with (first | (go_at_call 170; refine (numeric_any _ _ (by omega)).mono ?_; rintro e w' ⟨rfl, rfl⟩) | (go_at_call 171; refine (Bare_any _ _ (by simp only [maxLen]; omega)).mono ?_; rintro e w' ⟨rfl, rfl⟩))
      go_ret2
      exact ⟨by rw [HF.out]; rfl, rfl⟩
end Go.Proofs.YtlnpfpjncnkekaaGreatDoor

namespace Go.Proofs.YtlnpfpjncnkekaaGreatDoor
open Go.RowKit
set_option maxHeartbeats 1000000
set_option maxRecDepth 100000

theorem comF_fuel (block : Bool) : ∀ (f g : Nat) (l : List UInt8), l.length ≤ f → l.length ≤ g → comF block f l = comF block g l
  | 0, 0, _, _, _ => rfl
  | 0, g + 1, l, h, _ => by
    have : l = [] := List.eq_nil_of_length_eq_zero (by omega)
    subst this
    rfl
  | f + 1, 0, l, _, h => by
    have : l = [] := List.eq_nil_of_length_eq_zero (by omega)
    subst this
    rfl
  | f + 1, g + 1, [], _, _ => rfl
  | f + 1, g + 1, b :: t, h1, h2 => by
    by_cases hn : (dec (b :: t)).2 = 0
    · simp only [comF, hn, if_true]
    · have hl : ((b :: t).drop (dec (b :: t)).2).length ≤ f ∧ ((b :: t).drop (dec (b :: t)).2).length ≤ g := by
        rw [List.length_drop]
        omega
      have ih := comF_fuel block f g ((b :: t).drop (dec (b :: t)).2) hl.1 hl.2
      simp only [comF, ih]
def comG (block : Bool) (l : List UInt8) : Nat × Nat := comF block l.length l
def comFin (k : Nat) (x : Nat × Nat) : Nat × Nat := if x.2 ≠ 0 then (0, x.2) else (k + x.1, 0)
theorem comG_cons (block : Bool) (b : UInt8) (t : List UInt8) : comG block (b :: t) =
    if block = false ∧ (b.toNat = 10 ∨ pre (b :: t) [13, 10]) then (0, 0)
    else if block = true ∧ pre (b :: t) [42, 47] then (2, 0)
    else if (dec (b :: t)).2 = 0 then (0, 5)
    else comFin (dec (b :: t)).2 (comG block ((b :: t).drop (dec (b :: t)).2)) := by
  unfold comG comFin
  rw [List.length_cons, comF]
  by_cases hn : (dec (b :: t)).2 = 0
  · simp only [hn, if_true]
  · rw [comF_fuel block t.length ((b :: t).drop (dec (b :: t)).2).length _ (by rw [List.length_drop, List.length_cons]; omega) (Nat.le_refl _)]
theorem comFin_fin (k n : Nat) (x : Nat × Nat) : comFin k (comFin n x) = comFin (k + n) x := by
  unfold comFin
  by_cases h : x.2 = 0
  · simp [h]; omega
  · simp [h]
theorem comL_eq (a c : UInt8) (t : List UInt8) : comL (a :: c :: t) = if c.toNat = 47 then comFin 2 (comG false t) else if c.toNat = 42 then comFin 2 (comG true t) else (0, 3) := rfl

theorem comment_any (s : ByteArray) (w : World) (hs : s.size ≤ 100000000000) :
    Calls Tryz.prog 134 #[.string s] w fun e w' => e = .returned (.tuple #[.int .i64 (comL (L s)).1, .int .i64 (comL (L s)).2]) ∧ w = w' := by
  have hm : s.size ≤ maxLen := by simp only [maxLen]; omega
  by_cases h2 : s.size < 2
  · have HL : Hid (comL (L s) = (0, 4)) := by
      unfold Hid
      have := L_len s
      rcases hl : L s with _ | ⟨a, _ | ⟨c, t⟩⟩
      · rfl
      · rfl
      · rw [hl] at this; simp at this; omega
    have h2' : (s.size : Int) < 2 := by omega
    clear h2
    go_enter Tryz.func134, Tryz.ntmps134
    go_wp2_with fail
    go_ret2
    exact ⟨by rw [HL.out]; rfl, rfl⟩
  have hp : 1 < s.size := by omega
  have hX : Hid (comL (L s) = if s[1].toNat = 47 then comFin 2 (comG false ((L s).drop 2)) else if s[1].toNat = 42 then comFin 2 (comG true ((L s).drop 2)) else (0, 3)) := by
    unfold Hid
    rw [L_cons0 s (by omega), L_drop s 1 hp, comL_eq]
    rfl
  by_cases h47 : s[1].toNat = 47
  · have HX : Hid (comL (L s) = comFin 2 (comG false ((L s).drop 2))) := by unfold Hid; rw [hX.out, if_pos h47]
    have e1 : ((s[1].toNat : Int) != 47) = false := by rw [bne_eq_false_iff_eq]; omega
    have e2 : ((s[1].toNat : Int) == 47) = true := by rw [beq_iff_eq]; omega
    have e3 : ((s[1].toNat : Int) == 42) = false := by rw [beq_eq_false_iff_ne]; omega
    clear h47 hX
    go_enter Tryz.func134, Tryz.ntmps134
    go_wp2_with fail
    go_loop [4, 5, 6] (fun n _ _ => ∃ k : Nat, 2 ≤ k ∧ k ≤ s.size ∧ n = .int .i64 k ∧ Hid (comL (L s) = comFin k (comG false ((L s).drop k)))) (fun n _ _ => s.size - (intOf n).toNat)
    case atStart => exact ⟨2, by omega, by omega, rfl, HX⟩
    case round =>
      clear HX
      obtain ⟨k, hk2, hk, rfl, hr⟩ := hrel
      by_cases hlt : k < s.size
      · have hG := comG_cons false s[k] ((L s).drop (k + 1))
        rw [← L_drop s k hlt] at hG
        have HG := Lib.hid hG; clear hG
        have hx : (s.extract k s.size).size ≤ maxLen := by rw [ext_size]; simp only [maxLen]; omega
        have hpr : ∀ p : ByteArray, pre (L (s.extract k s.size)) (L p) = pre ((L s).drop k) (L p) := fun p => by rw [L_from]
        have HP := Lib.hid hpr; clear hpr
        by_cases h10 : s[k].toNat = 10
        · have g : ((s[k].toNat : Int) == 10) = true := by rw [beq_iff_eq]; omega
          have HF : Hid (comL (L s) = (k, 0)) := by unfold Hid; rw [hr.out, HG.out, if_pos ⟨rfl, .inl h10⟩]; rfl
          clear h10
          go_wp2_with fail
          go_ret2
          exact ⟨by rw [HF.out]; rfl, rfl⟩
        have g : ((s[k].toNat : Int) == 10) = false := by rw [beq_eq_false_iff_ne]; omega
        cases hpp : pre ((L s).drop k) [13, 10]
        case true =>
          have HF : Hid (comL (L s) = (k, 0)) := by unfold Hid; rw [hr.out, HG.out, if_pos ⟨rfl, .inr hpp⟩]; rfl
          have hq : pre (L (s.extract k s.size)) (L ⟨#[13, 10]⟩) = true := by rw [HP.out]; exact hpp
          clear h10 hpp
          go_wp2_with (first | (go_at_call 32; refine (HasPrefix_any _ _ _ hx (by decide)).mono ?_; rintro e w' ⟨rfl, rfl⟩) | (go_at_call 85; refine (Decode_any s k _ hm).mono ?_; rintro e w' ⟨rfl, rfl⟩))
          go_ret2
          exact ⟨by rw [HF.out]; rfl, rfl⟩
        have hq : pre (L (s.extract k s.size)) (L ⟨#[13, 10]⟩) = false := by rw [HP.out]; exact hpp
        have HG2 : Hid (comL (L s) = comFin k (if (dec ((L s).drop k)).2 = 0 then (0, 5) else comFin (dec ((L s).drop k)).2 (comG false (((L s).drop k).drop (dec ((L s).drop k)).2)))) := by
          unfold Hid
          rw [hr.out, HG.out, if_neg (by rintro ⟨_, h | h⟩; exact h10 h; rw [hpp] at h; cases h), if_neg (by simp)]
        clear h10 hpp HG hr
        have hle := dec_le ((L s).drop k)
        rw [List.length_drop, L_len] at hle
        by_cases hn : (dec ((L s).drop k)).2 = 0
        · have hn0 : (((dec ((L s).drop k)).2 : Int) == 0) = true := by rw [beq_iff_eq]; omega
          have HF : Hid (comL (L s) = (0, 5)) := by unfold Hid; rw [HG2.out, if_pos hn]; rfl
          clear hn HG2
          go_wp2_with (first | (go_at_call 32; refine (HasPrefix_any _ _ _ hx (by decide)).mono ?_; rintro e w' ⟨rfl, rfl⟩) | (go_at_call 85; refine (Decode_any s k _ hm).mono ?_; rintro e w' ⟨rfl, rfl⟩))
          go_ret2
          exact ⟨by rw [HF.out]; rfl, rfl⟩
        · have hn0 : (((dec ((L s).drop k)).2 : Int) == 0) = false := by rw [beq_eq_false_iff_ne]; omega
          have HF : Hid (comL (L s) = comFin (k + (dec ((L s).drop k)).2) (comG false ((L s).drop (k + (dec ((L s).drop k)).2)))) := by
            unfold Hid; rw [HG2.out, if_neg hn, comFin_fin, List.drop_drop]
          clear HG2
          go_wp2_with (first | (go_at_call 32; refine (HasPrefix_any _ _ _ hx (by decide)).mono ?_; rintro e w' ⟨rfl, rfl⟩) | (go_at_call 85; refine (Decode_any s k _ hm).mono ?_; rintro e w' ⟨rfl, rfl⟩))
          exact ⟨⟨k + (dec ((L s).drop k)).2, by omega, by omega, rfl, HF⟩, by simp [intOf]; omega⟩
      · obtain rfl : k = s.size := by omega
        have HF : Hid (comL (L s) = (s.size, 0)) := by unfold Hid; rw [hr.out, L_drop_nil s _ (Nat.le_refl _)]; rfl
        clear hr
        go_wp2_with fail
        go_ret2
        exact ⟨by rw [HF.out]; rfl, rfl⟩
  by_cases h42 : s[1].toNat = 42
  · have HX : Hid (comL (L s) = comFin 2 (comG true ((L s).drop 2))) := by unfold Hid; rw [hX.out, if_neg h47, if_pos h42]
    have e1 : ((s[1].toNat : Int) != 47) = true := by rw [bne_iff_ne]; omega
    have e4 : ((s[1].toNat : Int) != 42) = false := by rw [bne_eq_false_iff_eq]; omega
    have e2 : ((s[1].toNat : Int) == 47) = false := by rw [beq_eq_false_iff_ne]; omega
    have e3 : ((s[1].toNat : Int) == 42) = true := by rw [beq_iff_eq]; omega
    clear h47 h42 hX
    go_enter Tryz.func134, Tryz.ntmps134
    go_wp2_with fail
    go_loop [4, 5, 6] (fun n _ _ => ∃ k : Nat, 2 ≤ k ∧ k ≤ s.size ∧ n = .int .i64 k ∧ Hid (comL (L s) = comFin k (comG true ((L s).drop k)))) (fun n _ _ => s.size - (intOf n).toNat)
    case atStart => exact ⟨2, by omega, by omega, rfl, HX⟩
    case round =>
      clear HX
      obtain ⟨k, hk2, hk, rfl, hr⟩ := hrel
      by_cases hlt : k < s.size
      · have hG := comG_cons true s[k] ((L s).drop (k + 1))
        rw [← L_drop s k hlt] at hG
        have HG := Lib.hid hG; clear hG
        have hx : (s.extract k s.size).size ≤ maxLen := by rw [ext_size]; simp only [maxLen]; omega
        have hpr : ∀ p : ByteArray, pre (L (s.extract k s.size)) (L p) = pre ((L s).drop k) (L p) := fun p => by rw [L_from]
        have HP := Lib.hid hpr; clear hpr
        cases hpp : pre ((L s).drop k) [42, 47]
        case true =>
          have HF : Hid (comL (L s) = (k + 2, 0)) := by unfold Hid; rw [hr.out, HG.out, if_neg (by simp), if_pos ⟨rfl, hpp⟩]; rfl
          have hq : pre (L (s.extract k s.size)) (L ⟨#[42, 47]⟩) = true := by rw [HP.out]; exact hpp
          clear hpp
          go_wp2_with (first | (go_at_call 32; refine (HasPrefix_any _ _ _ hx (by decide)).mono ?_; rintro e w' ⟨rfl, rfl⟩) | (go_at_call 85; refine (Decode_any s k _ hm).mono ?_; rintro e w' ⟨rfl, rfl⟩))
          go_ret2
          exact ⟨by rw [HF.out]; rfl, rfl⟩
        have hq : pre (L (s.extract k s.size)) (L ⟨#[42, 47]⟩) = false := by rw [HP.out]; exact hpp
        have HG2 : Hid (comL (L s) = comFin k (if (dec ((L s).drop k)).2 = 0 then (0, 5) else comFin (dec ((L s).drop k)).2 (comG true (((L s).drop k).drop (dec ((L s).drop k)).2)))) := by
          unfold Hid
          rw [hr.out, HG.out, if_neg (by simp), if_neg (by rintro ⟨_, h⟩; rw [hpp] at h; cases h)]
        clear hpp HG hr
        have hle := dec_le ((L s).drop k)
        rw [List.length_drop, L_len] at hle
        by_cases hn : (dec ((L s).drop k)).2 = 0
        · have hn0 : (((dec ((L s).drop k)).2 : Int) == 0) = true := by rw [beq_iff_eq]; omega
          have HF : Hid (comL (L s) = (0, 5)) := by unfold Hid; rw [HG2.out, if_pos hn]; rfl
          clear hn HG2
          go_wp2_with (first | (go_at_call 32; refine (HasPrefix_any _ _ _ hx (by decide)).mono ?_; rintro e w' ⟨rfl, rfl⟩) | (go_at_call 85; refine (Decode_any s k _ hm).mono ?_; rintro e w' ⟨rfl, rfl⟩))
          go_ret2
          exact ⟨by rw [HF.out]; rfl, rfl⟩
        · have hn0 : (((dec ((L s).drop k)).2 : Int) == 0) = false := by rw [beq_eq_false_iff_ne]; omega
          have HF : Hid (comL (L s) = comFin (k + (dec ((L s).drop k)).2) (comG true ((L s).drop (k + (dec ((L s).drop k)).2)))) := by
            unfold Hid; rw [HG2.out, if_neg hn, comFin_fin, List.drop_drop]
          clear HG2
          go_wp2_with (first | (go_at_call 32; refine (HasPrefix_any _ _ _ hx (by decide)).mono ?_; rintro e w' ⟨rfl, rfl⟩) | (go_at_call 85; refine (Decode_any s k _ hm).mono ?_; rintro e w' ⟨rfl, rfl⟩))
          exact ⟨⟨k + (dec ((L s).drop k)).2, by omega, by omega, rfl, HF⟩, by simp [intOf]; omega⟩
      · obtain rfl : k = s.size := by omega
        have HF : Hid (comL (L s) = (0, 4)) := by unfold Hid; rw [hr.out, L_drop_nil s _ (Nat.le_refl _)]; rfl
        clear hr
        go_wp2_with fail
        go_ret2
        exact ⟨by rw [HF.out]; rfl, rfl⟩
  have HF : Hid (comL (L s) = (0, 3)) := by unfold Hid; rw [hX.out, if_neg h47, if_neg h42]
  have e1 : ((s[1].toNat : Int) != 47) = true := by rw [bne_iff_ne]; omega
  have e4 : ((s[1].toNat : Int) != 42) = true := by rw [bne_iff_ne]; omega
  clear h47 h42 hX
  go_enter Tryz.func134, Tryz.ntmps134
  go_wp2_with fail
  go_ret2
  exact ⟨by rw [HF.out]; rfl, rfl⟩
end Go.Proofs.YtlnpfpjncnkekaaGreatDoor

namespace Go.Proofs.YtlnpfpjncnkekaaGreatDoor
open Go.RowKit
set_option maxHeartbeats 1000000
set_option maxRecDepth 100000

/-- What escape hands back: the number and the length count only without an error. -/
def EscPost (x : Nat × Nat × Nat) (e : Ending) : Prop :=
  ∃ r n : Nat, e = .returned (.tuple #[.int .i64 r, .int .i64 n, .int .i64 x.2.2]) ∧ (x.2.2 = 0 → r = x.1 ∧ n = x.2.1)
theorem EscPost_mk {x : Nat × Nat × Nat} {r n k : Nat} (h : x.2.2 = k) (h2 : k = 0 → r = x.1 ∧ n = x.2.1) : EscPost x (.returned (.tuple #[.int .i64 r, .int .i64 n, .int .i64 k])) := by
  subst h
  exact ⟨r, n, rfl, h2⟩
theorem EscPost_ok {x : Nat × Nat × Nat} {a b : Int} (h0 : x.2.2 = 0) (ha : a = x.1) (hb : b = x.2.1) : EscPost x (.returned (.tuple #[.int .i64 a, .int .i64 b, .int .i64 0])) :=
  ⟨x.1, x.2.1, by rw [ha, hb, h0]; rfl, fun _ => ⟨rfl, rfl⟩⟩
theorem hexN_len : ∀ (k n : Nat) (l : List UInt8), (hexN k n l).2 = 0 → k ≤ l.length
  | 0, _, _, _ => Nat.zero_le _
  | k + 1, n, [], h => by simp [hexN] at h
  | k + 1, n, b :: t, h => by
    unfold hexN at h
    cases hv : hexv b with
    | none => rw [hv] at h; simp at h
    | some d =>
      rw [hv] at h
      have := hexN_len k _ t h
      simp; omega
theorem hex4_lt (l : List UInt8) : (hexN 4 0 l).1 < 65536 := hexN_lt 4 0 l
/-- An escape without an error stands for a character, and takes bytes that are there. -/
theorem escL_ok (l : List UInt8) (h : (escL l).2.2 = 0) : scal (escL l).1 = true ∧ 1 ≤ (escL l).2.1 ∧ (escL l).2.1 ≤ l.length := by
  rcases l with _ | ⟨c, t⟩
  · simp [escL] at h
  unfold escL at h ⊢
  by_cases hu : c.toNat = 117
  · simp only [hu, if_true] at h ⊢
    unfold uniEsc at h ⊢
    have hl := hex4_lt t
    by_cases h1 : (hexN 4 0 t).2 = 0
    · have hlen := hexN_len 4 0 t h1
      simp only [h1, ne_eq, not_true_eq_false, if_false] at h ⊢
      by_cases h2 : (hexN 4 0 t).1 < 55296 ∨ 57343 < (hexN 4 0 t).1
      · simp only [h2, if_true] at h ⊢
        refine ⟨by simp [scal]; omega, by omega, by simp; omega⟩
      · simp only [h2, if_false] at h ⊢
        by_cases h3 : 56319 < (hexN 4 0 t).1
        · simp [h3] at h
        · simp only [h3, if_false] at h ⊢
          rcases hd : t.drop 4 with _ | ⟨x, _ | ⟨y, t3⟩⟩
          · simp [hd] at h
          · simp only [hd] at h
            split at h <;> simp at h
          · simp only [hd] at h ⊢
            by_cases h4 : x.toNat = 92
            · simp only [h4, not_true_eq_false, if_false] at h ⊢
              by_cases h5 : y.toNat = 117
              · simp only [h5, not_true_eq_false, if_false] at h ⊢
                by_cases h6 : (hexN 4 0 t3).2 = 0
                · have hlen3 := hexN_len 4 0 t3 h6
                  have hl3 := hex4_lt t3
                  simp only [h6, not_true_eq_false, if_false] at h ⊢
                  by_cases h7 : (hexN 4 0 t3).1 < 56320 ∨ 57343 < (hexN 4 0 t3).1
                  · simp [h7] at h
                  · simp only [h7, if_false] at h ⊢
                    have := congrArg List.length hd
                    simp only [List.length_drop, List.length_cons] at this
                    refine ⟨by simp [scal]; omega, by omega, by simp; omega⟩
                · simp [h6] at h
              · simp [h5] at h
            · simp [h4] at h
    · simp [h1] at h
  · simp only [hu, if_false] at h ⊢
    cases hs : simpleEsc c with
    | none => simp [hs] at h
    | some r =>
      have : r < 128 := by
        unfold simpleEsc at hs
        repeat' split at hs
        all_goals first | (cases hs; decide) | cases hs
      refine ⟨by simp [scal]; omega, by simp, by simp⟩

theorem idx_esc (c : UInt8) : Lib.indexByte (L ⟨#[34, 92, 47, 98, 102, 110, 114, 116]⟩) c = if c.toNat = 34 then 0 else if c.toNat = 92 then 1 else if c.toNat = 47 then 2 else if c.toNat = 98 then 3 else if c.toNat = 102 then 4 else if c.toNat = 110 then 5 else if c.toNat = 114 then 6 else if c.toNat = 116 then 7 else -1 := by
  have h : ∀ n : Fin 256, Lib.indexByte (L ⟨#[34, 92, 47, 98, 102, 110, 114, 116]⟩) (UInt8.ofNat n.val) = if n.val = 34 then 0 else if n.val = 92 then 1 else if n.val = 47 then 2 else if n.val = 98 then 3 else if n.val = 102 then 4 else if n.val = 110 then 5 else if n.val = 114 then 6 else if n.val = 116 then 7 else -1 := by decide +kernel
  have := h ⟨c.toNat, c.toNat_lt⟩
  simpa using this
theorem esc_any (s : ByteArray) (w : World) (hs : s.size ≤ 100000000000) :
    Calls Tryz.prog 137 #[.string s] w fun e w' => EscPost (escL (L s)) e ∧ Below w.heap.size w w' := by
  by_cases he : L s = []
  · have he1 : s.toList.isEmpty = true := by rw [empty_L]; simpa using he
    have HF : Hid (escL (L s) = (0, 0, 4)) := by unfold Hid; rw [he]; rfl
    clear he
    go_enter Tryz.func137, Tryz.ntmps137
    go_wp2_with fail
    go_ret3
    exact ⟨by rw [HF.out]; exact EscPost_mk rfl (by simp), Below.refl _ _⟩
  have he1 : s.toList.isEmpty = false := by rw [empty_L]; simpa using he
  have hp := size_pos he
  have hX : Hid (escL (L s) = if s[0].toNat = 117 then uniEsc ((L s).drop 1) else match simpleEsc s[0] with | some r => (r, 1, 0) | none => (0, 0, 3)) := by
    unfold Hid; rw [L_cons0 s hp]; rfl
  clear he
  by_cases hu : s[0].toNat = 117
  · have g : ((s[0].toNat : Int) != 117) = false := by rw [bne_eq_false_iff_eq]; omega
    have hX2 : Hid (escL (L s) = uniEsc (L (s.extract 1 s.size))) := by unfold Hid; rw [hX.out, if_pos hu, L_from]
    have hL1 : Hid (∀ k, (L (s.extract 1 s.size)).drop k = (L s).drop (1 + k)) := by unfold Hid; intro k; rw [L_from, List.drop_drop]
    clear hX hu
    have hle : (1 : Int) ≤ s.size := by omega
    have hm1 : (s.extract 1 s.size).size ≤ maxLen := by rw [ext_size]; simp only [maxLen]; omega
    have hm7 : (s.extract 7 s.size).size ≤ maxLen := by rw [ext_size]; simp only [maxLen]; omega
    have hlen := hexN_len 4 0 (L (s.extract 1 s.size))
    rw [L_len, ext_size] at hlen
    have HLEN := Lib.hid hlen; clear hlen
    by_cases hz : (hexN 4 0 (L (s.extract 1 s.size))).2 = 0
    case neg =>
      have HF : Hid ((escL (L s)).2.2 = (hexN 4 0 (L (s.extract 1 s.size))).2) := by unfold Hid; rw [hX2.out, uniEsc, if_pos hz]
      have e1 : (((hexN 4 0 (L (s.extract 1 s.size))).2 : Int) != 0) = true := by rw [bne_iff_ne]; omega
      have HZ := Lib.hid hz; clear hz hX2
      go_enter Tryz.func137, Tryz.ntmps137
      go_wp2_with (go_at_call 172; refine (hex_any _ _ hm1).mono ?_; rintro e w' ⟨rfl, rfl⟩)
      go_ret3
      exact ⟨EscPost_mk HF.out (fun h => absurd h HZ.out), Below.refl _ _⟩
    have HL := HLEN.out hz
    have e1 : (((hexN 4 0 (L (s.extract 1 s.size))).2 : Int) != 0) = false := by rw [bne_eq_false_iff_eq]; omega
    have hY : Hid (escL (L s) = if (hexN 4 0 (L (s.extract 1 s.size))).1 < 55296 ∨ 57343 < (hexN 4 0 (L (s.extract 1 s.size))).1 then ((hexN 4 0 (L (s.extract 1 s.size))).1, 5, 0) else if 56319 < (hexN 4 0 (L (s.extract 1 s.size))).1 then (0, 0, 5) else match (L s).drop 5 with
        | [] => (0, 0, 4)
        | c :: t2 => if c.toNat ≠ 92 then (0, 0, 5) else match t2 with
          | [] => (0, 0, 4)
          | d :: t3 => if d.toNat ≠ 117 then (0, 0, 5)
            else if (hexN 4 0 t3).2 ≠ 0 then (0, 0, (hexN 4 0 t3).2)
            else if (hexN 4 0 t3).1 < 56320 ∨ 57343 < (hexN 4 0 t3).1 then (0, 0, 5)
            else (65536 + ((hexN 4 0 (L (s.extract 1 s.size))).1 - 55296) * 1024 + (hexN 4 0 t3).1 - 56320, 11, 0)) := by
      unfold Hid
      rw [hX2.out, uniEsc, if_neg (by simp [hz]), show (L (s.extract 1 s.size)).drop 4 = (L s).drop 5 from hL1.out 4]
      rfl
    have HZ := Lib.hid hz; clear hz hX2 hL1 HLEN
    go_enter Tryz.func137, Tryz.ntmps137
    go_wp2_with fail
    refine (hex_any _ _ hm1).mono ?_
    rintro e w' ⟨rfl, rfl⟩
    generalize (hexN 4 0 (L (s.extract 1 s.size))).2 = er at *
    obtain rfl := HZ.out
    clear e1 HZ
    generalize (hexN 4 0 (L (s.extract 1 s.size))).1 = a at *
    by_cases h1 : a < 55296
    · have q : (a : Int) < 55296 := by omega
      have HF : Hid (escL (L s) = (a, 5, 0)) := by unfold Hid; rw [hY.out, if_pos (.inl h1)]
      clear h1 hY
      go_wp2_with fail
      go_ret3
      exact ⟨by rw [HF.out]; exact EscPost_ok rfl rfl rfl, Below.refl _ _⟩
    have q1 : ¬ (a : Int) < 55296 := by omega
    by_cases h2 : 57343 < a
    · have q : (57343 : Int) < a := by omega
      have HF : Hid (escL (L s) = (a, 5, 0)) := by unfold Hid; rw [hY.out, if_pos (.inr h2)]
      clear h1 h2 hY
      go_wp2_with fail
      go_ret3
      exact ⟨by rw [HF.out]; exact EscPost_ok rfl rfl rfl, Below.refl _ _⟩
    have q2 : ¬ (57343 : Int) < a := by omega
    by_cases h3 : 56319 < a
    · have q : (56319 : Int) < a := by omega
      have HF : Hid (escL (L s) = (0, 0, 5)) := by unfold Hid; rw [hY.out, if_neg (by omega), if_pos h3]
      clear h1 h2 h3 hY
      go_wp2_with fail
      go_ret3
      exact ⟨by rw [HF.out]; exact EscPost_mk rfl (by simp), Below.refl _ _⟩
    have q3 : ¬ (56319 : Int) < a := by omega
    have hY1 : Hid (escL (L s) = match (L s).drop 5 with
        | [] => (0, 0, 4)
        | c :: t2 => if c.toNat ≠ 92 then (0, 0, 5) else match t2 with
          | [] => (0, 0, 4)
          | d :: t3 => if d.toNat ≠ 117 then (0, 0, 5)
            else if (hexN 4 0 t3).2 ≠ 0 then (0, 0, (hexN 4 0 t3).2)
            else if (hexN 4 0 t3).1 < 56320 ∨ 57343 < (hexN 4 0 t3).1 then (0, 0, 5)
            else (65536 + (a - 55296) * 1024 + (hexN 4 0 t3).1 - 56320, 11, 0)) := by
      unfold Hid; rw [hY.out, if_neg (by omega), if_neg h3]
    clear h1 h2 h3 hY
    have hcv := conv_mark2
    have hc0 : (w.alloc (.cells #[.int .u8 92, .int .u8 117] 5 (2, 3))).cell? ⟨w.heap.size, 0, none⟩ = some (.int .u8 92) := World.cell?_alloc_mark w _ _ _ 0
    have hc1 : (w.alloc (.cells #[.int .u8 92, .int .u8 117] 5 (2, 3))).cell? ⟨w.heap.size, 1, none⟩ = some (.int .u8 117) := World.cell?_alloc_mark w _ _ _ 1
    go_wp2_with fail
    refine wp_loop_rounds 3 ?_
    rw [rounds_succ]
    by_cases k5 : s.size ≤ 5
    · have q : (s.size : Int) ≤ 5 := by omega
      have HF : Hid (escL (L s) = (0, 0, 4)) := by unfold Hid; rw [hY1.out, L_drop_nil s 5 k5]
      clear k5 hY1
      go_wp2_with fail
      go_ret3
      exact ⟨by rw [HF.out]; exact EscPost_mk rfl (by simp), (Below.refl _ _).alloc (Nat.le_refl _) _⟩
    have p5 : 5 < s.size := by omega
    by_cases c5 : s[5].toNat = 92
    case neg =>
      have q : ((s[5].toNat : Int) != 92) = true := by rw [bne_iff_ne]; omega
      have HF : Hid (escL (L s) = (0, 0, 5)) := by unfold Hid; rw [hY1.out, L_drop s 5 p5]; simp only; rw [if_pos c5]
      clear k5 c5 hY1
      go_wp2_with fail
      go_ret3
      exact ⟨by rw [HF.out]; exact EscPost_mk rfl (by simp), (Below.refl _ _).alloc (Nat.le_refl _) _⟩
    have g5 : ((s[5].toNat : Int) != 92) = false := by rw [bne_eq_false_iff_eq]; omega
    have hY2 : Hid (escL (L s) = match (L s).drop 6 with
          | [] => (0, 0, 4)
          | d :: t3 => if d.toNat ≠ 117 then (0, 0, 5)
            else if (hexN 4 0 t3).2 ≠ 0 then (0, 0, (hexN 4 0 t3).2)
            else if (hexN 4 0 t3).1 < 56320 ∨ 57343 < (hexN 4 0 t3).1 then (0, 0, 5)
            else (65536 + (a - 55296) * 1024 + (hexN 4 0 t3).1 - 56320, 11, 0)) := by
      unfold Hid; rw [hY1.out, L_drop s 5 p5]; simp only; rw [if_neg (by simpa using c5)]
    clear k5 c5 hY1
    go_wp2_with fail
    rw [rounds_succ]
    by_cases k6 : s.size ≤ 6
    · have q : (s.size : Int) ≤ 6 := by omega
      have HF : Hid (escL (L s) = (0, 0, 4)) := by unfold Hid; rw [hY2.out, L_drop_nil s 6 k6]
      clear k6 hY2
      go_wp2_with fail
      go_ret3
      exact ⟨by rw [HF.out]; exact EscPost_mk rfl (by simp), (Below.refl _ _).alloc (Nat.le_refl _) _⟩
    have p6 : 6 < s.size := by omega
    by_cases c6 : s[6].toNat = 117
    case neg =>
      have q : ((s[6].toNat : Int) != 117) = true := by rw [bne_iff_ne]; omega
      have HF : Hid (escL (L s) = (0, 0, 5)) := by unfold Hid; rw [hY2.out, L_drop s 6 p6]; simp only; rw [if_pos c6]
      clear k6 c6 hY2
      go_wp2_with fail
      go_ret3
      exact ⟨by rw [HF.out]; exact EscPost_mk rfl (by simp), (Below.refl _ _).alloc (Nat.le_refl _) _⟩
    have g6 : ((s[6].toNat : Int) != 117) = false := by rw [bne_eq_false_iff_eq]; omega
    have hY3 : Hid (escL (L s) = if (hexN 4 0 (L (s.extract 7 s.size))).2 ≠ 0 then (0, 0, (hexN 4 0 (L (s.extract 7 s.size))).2)
            else if (hexN 4 0 (L (s.extract 7 s.size))).1 < 56320 ∨ 57343 < (hexN 4 0 (L (s.extract 7 s.size))).1 then (0, 0, 5)
            else (65536 + (a - 55296) * 1024 + (hexN 4 0 (L (s.extract 7 s.size))).1 - 56320, 11, 0)) := by
      unfold Hid; rw [hY2.out, L_drop s 6 p6, L_from]; simp only; rw [if_neg (by simpa using c6)]
    clear k6 c6 hY2
    go_wp2_with fail
    rw [rounds_succ]
    go_wp2_with fail
    refine (hex_any _ _ hm7).mono ?_
    rintro e w' ⟨rfl, rfl⟩
    have hl7 := hex4_lt (L (s.extract 7 s.size))
    have HL7 := Lib.hid hl7; clear hl7
    generalize (hexN 4 0 (L (s.extract 7 s.size))).2 = er at *
    generalize (hexN 4 0 (L (s.extract 7 s.size))).1 = b at *
    have hbel : Below w.heap.size w (w.alloc (.cells #[.int .u8 92, .int .u8 117] 5 (2, 3))) := (Below.refl _ _).alloc (Nat.le_refl _) _
    by_cases hz : er = 0
    case neg =>
      have e1 : ((er : Int) != 0) = true := by rw [bne_iff_ne]; omega
      have HF : Hid (escL (L s) = (0, 0, er)) := by unfold Hid; rw [hY3.out, if_pos hz]
      have HZ := Lib.hid hz; clear hz hY3
      go_wp2_with fail
      go_ret3
      exact ⟨by rw [HF.out]; exact EscPost_mk rfl (fun h => absurd h HZ.out), hbel⟩
    subst hz
    by_cases h1 : b < 56320
    · have q : (b : Int) < 56320 := by omega
      have HF : Hid (escL (L s) = (0, 0, 5)) := by unfold Hid; rw [hY3.out, if_neg (by simp), if_pos (.inl h1)]
      clear h1 hY3
      go_wp2_with fail
      go_ret3
      exact ⟨by rw [HF.out]; exact EscPost_mk rfl (by simp), hbel⟩
    have r1 : ¬ (b : Int) < 56320 := by omega
    by_cases h2 : 57343 < b
    · have q : (57343 : Int) < b := by omega
      have HF : Hid (escL (L s) = (0, 0, 5)) := by unfold Hid; rw [hY3.out, if_neg (by simp), if_pos (.inr h2)]
      clear h1 h2 hY3
      go_wp2_with fail
      go_ret3
      exact ⟨by rw [HF.out]; exact EscPost_mk rfl (by simp), hbel⟩
    have r2 : ¬ (57343 : Int) < b := by omega
    have HF : Hid (escL (L s) = (65536 + (a - 55296) * 1024 + b - 56320, 11, 0)) := by unfold Hid; rw [hY3.out, if_neg (by simp), if_neg (by omega)]
    have HR : Hid ((65536 : Int) + ((a : Int) - 55296) * 1024 + b - 56320 = ((65536 + (a - 55296) * 1024 + b - 56320 : Nat) : Int)) := by unfold Hid; omega
    clear h1 h2 hY3
    go_wp2_with fail
    go_ret3
    refine ⟨by rw [HF.out]; exact EscPost_ok rfl HR.out rfl, hbel⟩
  have g : ((s[0].toNat : Int) != 117) = true := by rw [bne_iff_ne]; omega
  have hX2 : Hid (escL (L s) = match simpleEsc s[0] with | some r => (r, 1, 0) | none => (0, 0, 3)) := by unfold Hid; rw [hX.out, if_neg hu]
  clear hX hu
  have hidx := idx_esc s[0]
  by_cases h34 : s[0].toNat = 34
  · have HF : Hid (escL (L s) = (34, 1, 0)) := by unfold Hid; rw [hX2.out]; unfold simpleEsc; simp [h34]
    have hi : Lib.indexByte (L ⟨#[34, 92, 47, 98, 102, 110, 114, 116]⟩) s[0] = 0 := by rw [hidx]; simp [h34]
    clear hidx hX2 h34
    go_enter Tryz.func137, Tryz.ntmps137
    go_wp2_with (go_at_call 77; refine (IndexByte_any _ _ _).mono ?_; rintro e w' ⟨rfl, rfl⟩; rw [hi])
    go_ret3
    exact ⟨by rw [HF.out]; exact EscPost_ok rfl (IntWalk.wrap64_in _ (by decide)) rfl, Below.refl _ _⟩
  by_cases h92 : s[0].toNat = 92
  · have HF : Hid (escL (L s) = (92, 1, 0)) := by unfold Hid; rw [hX2.out]; unfold simpleEsc; simp [h92]
    have hi : Lib.indexByte (L ⟨#[34, 92, 47, 98, 102, 110, 114, 116]⟩) s[0] = 1 := by rw [hidx]; simp [h92]
    clear hidx hX2 h34 h92
    go_enter Tryz.func137, Tryz.ntmps137
    go_wp2_with (go_at_call 77; refine (IndexByte_any _ _ _).mono ?_; rintro e w' ⟨rfl, rfl⟩; rw [hi])
    go_ret3
    exact ⟨by rw [HF.out]; exact EscPost_ok rfl (IntWalk.wrap64_in _ (by decide)) rfl, Below.refl _ _⟩
  by_cases h47 : s[0].toNat = 47
  · have HF : Hid (escL (L s) = (47, 1, 0)) := by unfold Hid; rw [hX2.out]; unfold simpleEsc; simp [h47]
    have hi : Lib.indexByte (L ⟨#[34, 92, 47, 98, 102, 110, 114, 116]⟩) s[0] = 2 := by rw [hidx]; simp [h47]
    clear hidx hX2 h34 h92 h47
    go_enter Tryz.func137, Tryz.ntmps137
    go_wp2_with (go_at_call 77; refine (IndexByte_any _ _ _).mono ?_; rintro e w' ⟨rfl, rfl⟩; rw [hi])
    go_ret3
    exact ⟨by rw [HF.out]; exact EscPost_ok rfl (IntWalk.wrap64_in _ (by decide)) rfl, Below.refl _ _⟩
  by_cases h98 : s[0].toNat = 98
  · have HF : Hid (escL (L s) = (8, 1, 0)) := by unfold Hid; rw [hX2.out]; unfold simpleEsc; simp [h98]
    have hi : Lib.indexByte (L ⟨#[34, 92, 47, 98, 102, 110, 114, 116]⟩) s[0] = 3 := by rw [hidx]; simp [h98]
    clear hidx hX2 h34 h92 h47 h98
    go_enter Tryz.func137, Tryz.ntmps137
    go_wp2_with (go_at_call 77; refine (IndexByte_any _ _ _).mono ?_; rintro e w' ⟨rfl, rfl⟩; rw [hi])
    go_ret3
    exact ⟨by rw [HF.out]; exact EscPost_ok rfl (IntWalk.wrap64_in _ (by decide)) rfl, Below.refl _ _⟩
  by_cases h102 : s[0].toNat = 102
  · have HF : Hid (escL (L s) = (12, 1, 0)) := by unfold Hid; rw [hX2.out]; unfold simpleEsc; simp [h102]
    have hi : Lib.indexByte (L ⟨#[34, 92, 47, 98, 102, 110, 114, 116]⟩) s[0] = 4 := by rw [hidx]; simp [h102]
    clear hidx hX2 h34 h92 h47 h98 h102
    go_enter Tryz.func137, Tryz.ntmps137
    go_wp2_with (go_at_call 77; refine (IndexByte_any _ _ _).mono ?_; rintro e w' ⟨rfl, rfl⟩; rw [hi])
    go_ret3
    exact ⟨by rw [HF.out]; exact EscPost_ok rfl (IntWalk.wrap64_in _ (by decide)) rfl, Below.refl _ _⟩
  by_cases h110 : s[0].toNat = 110
  · have HF : Hid (escL (L s) = (10, 1, 0)) := by unfold Hid; rw [hX2.out]; unfold simpleEsc; simp [h110]
    have hi : Lib.indexByte (L ⟨#[34, 92, 47, 98, 102, 110, 114, 116]⟩) s[0] = 5 := by rw [hidx]; simp [h110]
    clear hidx hX2 h34 h92 h47 h98 h102 h110
    go_enter Tryz.func137, Tryz.ntmps137
    go_wp2_with (go_at_call 77; refine (IndexByte_any _ _ _).mono ?_; rintro e w' ⟨rfl, rfl⟩; rw [hi])
    go_ret3
    exact ⟨by rw [HF.out]; exact EscPost_ok rfl (IntWalk.wrap64_in _ (by decide)) rfl, Below.refl _ _⟩
  by_cases h114 : s[0].toNat = 114
  · have HF : Hid (escL (L s) = (13, 1, 0)) := by unfold Hid; rw [hX2.out]; unfold simpleEsc; simp [h114]
    have hi : Lib.indexByte (L ⟨#[34, 92, 47, 98, 102, 110, 114, 116]⟩) s[0] = 6 := by rw [hidx]; simp [h114]
    clear hidx hX2 h34 h92 h47 h98 h102 h110 h114
    go_enter Tryz.func137, Tryz.ntmps137
    go_wp2_with (go_at_call 77; refine (IndexByte_any _ _ _).mono ?_; rintro e w' ⟨rfl, rfl⟩; rw [hi])
    go_ret3
    exact ⟨by rw [HF.out]; exact EscPost_ok rfl (IntWalk.wrap64_in _ (by decide)) rfl, Below.refl _ _⟩
  by_cases h116 : s[0].toNat = 116
  · have HF : Hid (escL (L s) = (9, 1, 0)) := by unfold Hid; rw [hX2.out]; unfold simpleEsc; simp [h116]
    have hi : Lib.indexByte (L ⟨#[34, 92, 47, 98, 102, 110, 114, 116]⟩) s[0] = 7 := by rw [hidx]; simp [h116]
    clear hidx hX2 h34 h92 h47 h98 h102 h110 h114 h116
    go_enter Tryz.func137, Tryz.ntmps137
    go_wp2_with (go_at_call 77; refine (IndexByte_any _ _ _).mono ?_; rintro e w' ⟨rfl, rfl⟩; rw [hi])
    go_ret3
    exact ⟨by rw [HF.out]; exact EscPost_ok rfl (IntWalk.wrap64_in _ (by decide)) rfl, Below.refl _ _⟩
  have HF : Hid (escL (L s) = (0, 0, 3)) := by unfold Hid; rw [hX2.out]; unfold simpleEsc; simp [h34, h92, h47, h98, h102, h110, h114, h116]
  have hi : Lib.indexByte (L ⟨#[34, 92, 47, 98, 102, 110, 114, 116]⟩) s[0] = -1 := by rw [hidx]; simp [h34, h92, h47, h98, h102, h110, h114, h116]
  clear hidx hX2 h34 h92 h47 h98 h102 h110 h114 h116
  go_enter Tryz.func137, Tryz.ntmps137
  go_wp2_with (go_at_call 77; refine (IndexByte_any _ _ _).mono ?_; rintro e w' ⟨rfl, rfl⟩; rw [hi])
  go_ret3
  exact ⟨by rw [HF.out]; exact EscPost_mk rfl (by simp), Below.refl _ _⟩
end Go.Proofs.YtlnpfpjncnkekaaGreatDoor

namespace Go.Proofs.YtlnpfpjncnkekaaGreatDoor
open Go.RowKit
set_option maxHeartbeats 1000000
set_option maxRecDepth 100000

theorem quotF_fuel : ∀ (f g : Nat) (l : List UInt8), l.length ≤ f → l.length ≤ g → quotF f l = quotF g l
  | 0, 0, _, _, _ => rfl
  | 0, g + 1, l, h, _ => by
    have : l = [] := List.eq_nil_of_length_eq_zero (by omega)
    subst this
    rfl
  | f + 1, 0, l, _, h => by
    have : l = [] := List.eq_nil_of_length_eq_zero (by omega)
    subst this
    rfl
  | f + 1, g + 1, [], _, _ => rfl
  | f + 1, g + 1, b :: t, h1, h2 => by
    have h1' : t.length ≤ f := by simpa using h1
    have h2' : t.length ≤ g := by simpa using h2
    have ih1 := quotF_fuel f g (t.drop (escL t).2.1) (by rw [List.length_drop]; omega) (by rw [List.length_drop]; omega)
    by_cases hn : (dec (b :: t)).2 = 0
    · simp only [quotF, hn, ih1, or_true, if_true]
    · have ih := quotF_fuel f g ((b :: t).drop (dec (b :: t)).2) (by rw [List.length_drop, List.length_cons]; omega) (by rw [List.length_drop, List.length_cons]; omega)
      simp only [quotF, ih1, ih]
/-- What was read before, and the rest. -/
def quotFin (acc : List UInt8) (k : Nat) (x : List UInt8 × Nat × Nat) : List UInt8 × Nat × Nat := if x.2.2 ≠ 0 then ([], 0, x.2.2) else (acc ++ x.1, k + x.2.1, 0)
theorem quotFin_fin (a b : List UInt8) (k n : Nat) (x : List UInt8 × Nat × Nat) : quotFin a k (quotFin b n x) = quotFin (a ++ b) (k + n) x := by
  unfold quotFin
  by_cases h : x.2.2 = 0
  · simp [h]; omega
  · simp [h]
theorem quotL_nil : quotL [] = ([], 0, 4) := rfl
theorem quotL_cons (b : UInt8) (t : List UInt8) : quotL (b :: t) =
    if b.toNat = 34 then ([], 1, 0)
    else if b.toNat = 92 then (if (escL t).2.2 ≠ 0 then ([], 0, (escL t).2.2) else quotFin (enc (escL t).1) (1 + (escL t).2.1) (quotL (t.drop (escL t).2.1)))
    else if b.toNat < 32 ∨ (dec (b :: t)).2 = 0 then ([], 0, 5)
    else quotFin ((b :: t).take (dec (b :: t)).2) (dec (b :: t)).2 (quotL ((b :: t).drop (dec (b :: t)).2)) := by
  unfold quotL quotFin
  rw [List.length_cons, quotF]
  rw [quotF_fuel t.length (t.drop (escL t).2.1).length (t.drop (escL t).2.1) (by rw [List.length_drop]; omega) (Nat.le_refl _)]
  by_cases hn : (dec (b :: t)).2 = 0
  · simp only [hn, or_true, if_true]
  · rw [quotF_fuel t.length ((b :: t).drop (dec (b :: t)).2).length _ (by rw [List.length_drop, List.length_cons]; omega) (Nat.le_refl _)]
theorem bytesT : BytesT Tryz.prog 26 9 5 := bytesT_of Tryz.underlying26 Tryz.underlying9 Tryz.underlying5 (by kernel_rfl)
theorem wid_le (r : Nat) : wid r ≤ 4 := by unfold wid; repeat' split
                                           all_goals omega
/-- What quoted hands back: the string, the length with both quotation marks, the error. -/
def quotR (l : List UInt8) : List UInt8 × Nat × Nat := quotFin [] 1 (quotL l)
theorem ret3_str {l : List UInt8} {a b : Nat} {x : List UInt8 × Nat × Nat} (h : x = (l, a, b)) : Ending.returned (.tuple #[.string ⟨l.toArray⟩, .int .i64 a, .int .i64 b]) = Ending.returned (.tuple #[.string ⟨x.1.toArray⟩, .int .i64 x.2.1, .int .i64 x.2.2]) := by rw [h]
theorem quoted_any (s : ByteArray) (w : World) (h1 : 0 < s.size) (hs : s.size ≤ 100000000000) :
    Calls Tryz.prog 84 #[.string s] w fun e w' => e = .returned (.tuple #[.string ⟨(quotR ((L s).drop 1)).1.toArray⟩, .int .i64 (quotR ((L s).drop 1)).2.1, .int .i64 (quotR ((L s).drop 1)).2.2]) ∧ Below w.heap.size w w' := by
  have hm : s.size ≤ maxLen := by simp only [maxLen]; omega
  go_enter Tryz.func84, Tryz.ntmps84
  go_wp2_with fail
  go_loopw [5, 6, 7, 8, 9, 10, 11, 12, 13, 14] (fun v i _ _ _ _ _ _ _ _ wr => ∃ (k : Nat) (acc : List UInt8), 1 ≤ k ∧ k ≤ s.size ∧ i = .int .i64 k ∧ acc.length ≤ 4 * k ∧ wr.ownsRow w.heap.size 5 1 v acc.length (acc.map bv) ∧ Hid (quotR ((L s).drop 1) = quotFin acc k (quotL ((L s).drop k))) ∧ Below w.heap.size w wr) (fun _ i _ _ _ _ _ _ _ _ _ => s.size - (intOf i).toNat)
  case atStart => exact ⟨1, [], Nat.le_refl _, h1, rfl, by simp, World.ownsRow_nil _ _ _ _, rfl, Below.refl _ _⟩
  case round =>
    obtain ⟨k, acc, hk1, hk, rfl, hal, hown, HR, hbw⟩ := hrel
    by_cases hlt : k < s.size
    case neg =>
      have HF : Hid (quotR ((L s).drop 1) = ([], 0, 4)) := by unfold Hid; rw [HR.out, L_drop_nil s k (by omega)]; rfl
      clear HR hown
      go_wp2_with fail
      go_ret3
      exact ⟨ret3_str HF.out, hbw⟩
    have hQ := quotL_cons s[k] ((L s).drop (k + 1))
    rw [← L_drop s k hlt] at hQ
    have HQ := Lib.hid hQ; clear hQ
    by_cases h34 : s[k].toNat = 34
    · have g : ((s[k].toNat : Int) == 34) = true := by rw [beq_iff_eq]; omega
      have HF : Hid (quotR ((L s).drop 1) = (acc, k + 1, 0)) := by unfold Hid; rw [HR.out, HQ.out, if_pos h34]; simp [quotFin]
      have hcv := conv_own bytesT hown
      clear h34 HR HQ hown
      go_wp2_with fail
      go_ret3
      exact ⟨ret3_str HF.out, hbw⟩
    have g34 : ((s[k].toNat : Int) == 34) = false := by rw [beq_eq_false_iff_ne]; omega
    by_cases h92 : s[k].toNat = 92
    · have g92 : ((s[k].toNat : Int) == 92) = true := by rw [beq_iff_eq]; omega
      have HE : Hid (quotR ((L s).drop 1) = quotFin acc k (if (escL (L (s.extract (k + 1) s.size))).2.2 ≠ 0 then ([], 0, (escL (L (s.extract (k + 1) s.size))).2.2) else quotFin (enc (escL (L (s.extract (k + 1) s.size))).1) (1 + (escL (L (s.extract (k + 1) s.size))).2.1) (quotL ((L (s.extract (k + 1) s.size)).drop (escL (L (s.extract (k + 1) s.size))).2.1)))) := by
        unfold Hid; rw [HR.out, HQ.out, if_neg h34, if_pos h92, L_from]
      have hok := escL_ok (L (s.extract (k + 1) s.size))
      have HOK := Lib.hid hok; clear hok
      have hx := ext_size s (k + 1)
      have HX := Lib.hid hx; clear hx
      clear h34 h92 HR HQ
      go_wp2_with fail
      refine (esc_any _ _ (by rw [HX.out]; omega)).mono ?_
      rintro e w1 ⟨⟨r, n, rfl, hrn⟩, hb1⟩
      have HN := Lib.hid hrn; clear hrn
      have hown1 := own_below hown hb1
      have hbw1 : Below w.heap.size w w1 := hbw.trans (hb1.mono hbw.size)
      clear hown hbw hb1
      by_cases hz : (escL (L (s.extract (k + 1) s.size))).2.2 = 0
      case neg =>
        have e1 : (((escL (L (s.extract (k + 1) s.size))).2.2 : Int) != 0) = true := by rw [bne_iff_ne]; omega
        have HF : Hid (quotR ((L s).drop 1) = ([], 0, (escL (L (s.extract (k + 1) s.size))).2.2)) := by unfold Hid; rw [HE.out, if_pos hz, quotFin, if_pos hz]
        clear hz HE
        go_wp2_with fail
        go_ret3
        exact ⟨ret3_str HF.out, hbw1⟩
      have e1 : (((escL (L (s.extract (k + 1) s.size))).2.2 : Int) != 0) = false := by rw [bne_eq_false_iff_eq]; omega
      obtain ⟨hsc, hn1, hn2⟩ := HOK.out hz
      obtain ⟨hr, hn⟩ := HN.out hz
      rw [← hr] at hsc
      rw [← hn] at hn1 hn2
      rw [L_len, HX.out] at hn2
      have HF : Hid (quotR ((L s).drop 1) = quotFin (acc ++ enc r) (k + 1 + n) (quotL ((L s).drop (k + 1 + n)))) := by
        unfold Hid
        rw [HE.out, if_neg (by simpa using hz), quotFin_fin, ← hr, ← hn, L_from, List.drop_drop]
        congr 1
        omega
      clear HE HN HOK hr hn
      have HZ := Lib.hid hz; clear hz
      go_wp2_with fail
      refine (Encode_any r _ hsc).mono ?_
      rintro e w2 ⟨rfl, hb2⟩
      have hown2 := own_below hown1 hb2
      have hbw2 : Below w.heap.size w w2 := hbw1.trans (hb2.mono hbw1.size)
      have hz2 : w.heap.size ≤ w2.heap.size := hbw2.size
      have hel : (⟨(enc r).toArray⟩ : ByteArray).size ≤ 4 := by
        rw [← L_len, L_mk, enc_len]; exact wid_le r
      clear hown1 hbw1 hb2
      go_wp2_with (at_builtin; refine wp_pushS bytesT rfl _ _ rfl hown2 ⟨(enc r).toArray⟩ rfl rfl (by omega) hz2 ?_; intro v' w3 hown3 hg3 hb3)
      have hle : acc.length + (⟨(enc r).toArray⟩ : ByteArray).size = (acc ++ enc r).length := by rw [List.length_append, ← L_len, L_mk]
      rw [hle, L_mk] at hown3
      refine ⟨⟨k + (1 + n), acc ++ enc r, by omega, by omega, rfl, by rw [← hle]; omega, hown3, ?_, hbw2.trans hb3⟩, by simp [intOf]; omega⟩
      rw [show k + (1 + n) = k + 1 + n by omega]
      exact HF
    have g92 : ((s[k].toNat : Int) == 92) = false := by rw [beq_eq_false_iff_ne]; omega
    have HE : Hid (quotR ((L s).drop 1) = quotFin acc k (if s[k].toNat < 32 ∨ (dec ((L s).drop k)).2 = 0 then ([], 0, 5) else quotFin (((L s).drop k).take (dec ((L s).drop k)).2) (dec ((L s).drop k)).2 (quotL (((L s).drop k).drop (dec ((L s).drop k)).2)))) := by
      unfold Hid; rw [HR.out, HQ.out, if_neg h34, if_neg h92]
    clear h34 h92 HR HQ
    have hle := dec_le ((L s).drop k)
    rw [List.length_drop, L_len] at hle
    by_cases hbadc : s[k].toNat < 32 ∨ (dec ((L s).drop k)).2 = 0
    · have HF : Hid (quotR ((L s).drop 1) = ([], 0, 5)) := by unfold Hid; rw [HE.out, if_pos hbadc]; rfl
      clear HE hown
      by_cases h32 : s[k].toNat < 32
      · have g : (s[k].toNat : Int) < 32 := by omega
        clear h32 hbadc
        go_wp2_with (go_at_call 85; refine (Decode_any s k _ hm).mono ?_; rintro e w' ⟨rfl, rfl⟩)
        go_ret3
        exact ⟨ret3_str HF.out, hbw⟩
      · have g : ¬ (s[k].toNat : Int) < 32 := by omega
        have hz : (((dec ((L s).drop k)).2 : Int) == 0) = true := by rw [beq_iff_eq]; omega
        clear h32 hbadc
        go_wp2_with (go_at_call 85; refine (Decode_any s k _ hm).mono ?_; rintro e w' ⟨rfl, rfl⟩)
        go_ret3
        exact ⟨ret3_str HF.out, hbw⟩
    · have g : ¬ (s[k].toNat : Int) < 32 := by omega
      have hz : (((dec ((L s).drop k)).2 : Int) == 0) = false := by rw [beq_eq_false_iff_ne]; omega
      have hn1 : 1 ≤ (dec ((L s).drop k)).2 := by omega
      have HF : Hid (quotR ((L s).drop 1) = quotFin (acc ++ ((L s).drop k).take (dec ((L s).drop k)).2) (k + (dec ((L s).drop k)).2) (quotL ((L s).drop (k + (dec ((L s).drop k)).2)))) := by
        unfold Hid; rw [HE.out, if_neg hbadc, quotFin_fin, List.drop_drop]
      have hn4 : (dec ((L s).drop k)).2 ≤ 4 := by
        rcases dec_cases ((L s).drop k) with h | ⟨_, _, h, _, _, _, h4, _⟩ <;> rw [h]
        · exact Nat.zero_le _
        · exact h4
      clear HE hbadc
      have hz2 : w.heap.size ≤ wr.heap.size := hbw.size
      generalize hnn : (dec ((L s).drop k)).2 = n at *
      have HNN := Lib.hid hnn; clear hnn
      have hsz : (s.extract k (k + n)).size ≤ 4 := by rw [ByteArray.size_extract]; omega
      go_wp2_with (first | (go_at_call 85; refine (Decode_any s k _ hm).mono ?_; rintro e w' ⟨rfl, rfl⟩; rw [HNN.out]) | (at_builtin; refine wp_pushS bytesT rfl _ _ rfl hown (s.extract k (k + n)) rfl rfl (by omega) hz2 ?_; intro v' w3 hown3 hg3 hb3))
      have he : L (s.extract k (k + n)) = ((L s).drop k).take n := by rw [L_extract, Nat.add_sub_cancel_left]
      have hle2 : acc.length + (s.extract k (k + n)).size = (acc ++ ((L s).drop k).take n).length := by rw [List.length_append, ← L_len, he]
      rw [hle2, he] at hown3
      exact ⟨⟨k + n, acc ++ ((L s).drop k).take n, by omega, by omega, rfl, by rw [← hle2]; omega, hown3, HF, hbw.trans hb3⟩, by simp [intOf]; omega⟩
end Go.Proofs.YtlnpfpjncnkekaaGreatDoor

namespace Go.Proofs.YtlnpfpjncnkekaaGreatDoor
open Go.RowKit
set_option maxHeartbeats 1000000
set_option maxRecDepth 100000

/-- What invalid hands back. -/
def invR (l : List UInt8) : Int := if badL l = l.length then -1 else badL l
theorem below_iter (w : World) (s : ByteArray) (p : Nat) : Below w.heap.size w (w.iter s p) := (Below.refl _ _).alloc (Nat.le_refl _) _
theorem invalid_any (s : ByteArray) (w : World) (hs : s.size ≤ 100000000000) :
    Calls Tryz.prog 100 #[.string s] w fun e w' => e = .returned (.int .i64 (invR (L s))) ∧ Below w.heap.size w w' := by
  have hm : s.size ≤ maxLen := by simp only [maxLen]; omega
  go_enter Tryz.func100, Tryz.ntmps100
  go_wp2_with fail
  go_loopw [3, 4, 5, 6] (fun _ _ _ _ wr => ∃ k : Nat, wr = w.iter s k ∧ k ≤ s.size ∧ Hid (badL (L s) = k + badL ((L s).drop k))) (fun _ _ _ _ wr => s.size - wr.iterPos w.heap.size)
  case atStart => exact ⟨0, rfl, Nat.zero_le _, by unfold Hid; simp⟩
  case round =>
    obtain ⟨k, rfl, hk, HR⟩ := hrel
    by_cases hlt : k < s.size
    · have hu := utf8_dec s k hlt
      have hB := badL_eq ((L s).drop k)
      have hle := dec_le ((L s).drop k)
      rw [List.length_drop, L_len] at hle
      have hn := fun ty => run_next_any (P := Tryz.prog) w s k ty hlt
      by_cases hz : (dec ((L s).drop k)).2 = 0
      · rw [if_pos hz] at hu hB
        simp only [hu] at hn
        have hz0 : (((dec ((L s).drop k)).2 : Int) == 0) = true := by rw [beq_iff_eq]; omega
        have hv : invR (L s) = k := by
          unfold invR
          rw [HR.out, hB, if_neg (by rw [L_len]; omega)]
          omega
        have HV := Lib.hid hv
        clear hu hB hz hv HR
        go_wp2_with (go_at_call 85; refine (Decode_any s k _ hm).mono ?_; rintro e w' ⟨rfl, rfl⟩)
        go_ret
        exact ⟨ret_i64 HV.out.symm, below_iter _ _ _⟩
      · rw [if_neg hz] at hu hB
        simp only [hu] at hn
        have hz0 : (((dec ((L s).drop k)).2 : Int) == 0) = false := by rw [beq_eq_false_iff_ne]; omega
        have HB : Hid (badL (L s) = (k + (dec ((L s).drop k)).2) + badL ((L s).drop (k + (dec ((L s).drop k)).2))) := by
          unfold Hid
          rw [HR.out, hB, List.drop_drop]
          omega
        clear hu hB HR
        have HZ := Lib.hid hz; clear hz
        go_wp2_with (go_at_call 85; refine (Decode_any s k _ hm).mono ?_; rintro e w' ⟨rfl, rfl⟩)
        all_goals
          have hz := HZ.out
          exact ⟨⟨_, rfl, by omega, HB⟩, by simp; omega⟩
    · have hn := fun ty => run_next_end (P := Tryz.prog) w s k ty hlt
      have hv : invR (L s) = -1 := by
        unfold invR
        rw [if_pos]
        rw [HR.out, L_drop_nil s k (by omega), L_len]
        show k + 0 = s.size
        omega
      have HV := Lib.hid hv; clear hv HR
      go_wp2_with fail
      go_ret
      exact ⟨ret_i64 HV.out.symm, below_iter _ _ _⟩

/-- What Unquote hands back. -/
def unqL : List UInt8 → List UInt8 × Nat
  | [] => ([], 4)
  | b :: t => if b.toNat ≠ 34 then ([], 3) else if (quotR t).2.2 ≠ 0 then ([], (quotR t).2.2) else if (quotR t).2.1 < t.length + 1 then ([], 3) else ((quotR t).1, 0)
theorem ret2_str {l : List UInt8} {a : Nat} {x : List UInt8 × Nat} (h : x = (l, a)) : Ending.returned (.tuple #[.string ⟨l.toArray⟩, .int .i64 a]) = Ending.returned (.tuple #[.string ⟨x.1.toArray⟩, .int .i64 x.2]) := by rw [h]
theorem Unquote_any (s : ByteArray) (w : World) (hs : s.size ≤ 100000000000) :
    Calls Tryz.prog 39 #[.string s] w fun e w' => e = .returned (.tuple #[.string ⟨(unqL (L s)).1.toArray⟩, .int .i64 (unqL (L s)).2]) ∧ Below w.heap.size w w' := by
  by_cases he : L s = []
  · have he1 : s.toList.isEmpty = true := by rw [empty_L]; simpa using he
    have HF : Hid (unqL (L s) = ([], 4)) := by unfold Hid; rw [he]; rfl
    clear he
    go_enter Tryz.func39, Tryz.ntmps39
    go_wp2_with fail
    go_ret2
    exact ⟨ret2_str HF.out, Below.refl _ _⟩
  have he1 : s.toList.isEmpty = false := by rw [empty_L]; simpa using he
  have hp := size_pos he
  have hX : Hid (unqL (L s) = if s[0].toNat ≠ 34 then ([], 3) else if (quotR ((L s).drop 1)).2.2 ≠ 0 then ([], (quotR ((L s).drop 1)).2.2) else if (quotR ((L s).drop 1)).2.1 < s.size then ([], 3) else ((quotR ((L s).drop 1)).1, 0)) := by
    unfold Hid
    rw [L_cons0 s hp, unqL, show ((L s).drop 1).length + 1 = s.size by rw [List.length_drop, L_len]; omega]
    rfl
  clear he
  by_cases h34 : s[0].toNat = 34
  case neg =>
    have g : ((s[0].toNat : Int) != 34) = true := by rw [bne_iff_ne]; omega
    have HF : Hid (unqL (L s) = ([], 3)) := by unfold Hid; rw [hX.out, if_pos h34]
    clear hX h34
    go_enter Tryz.func39, Tryz.ntmps39
    go_wp2_with fail
    go_ret2
    exact ⟨ret2_str HF.out, Below.refl _ _⟩
  have g : ((s[0].toNat : Int) != 34) = false := by rw [bne_eq_false_iff_eq]; omega
  have hY : Hid (unqL (L s) = if (quotR ((L s).drop 1)).2.2 ≠ 0 then ([], (quotR ((L s).drop 1)).2.2) else if (quotR ((L s).drop 1)).2.1 < s.size then ([], 3) else ((quotR ((L s).drop 1)).1, 0)) := by
    unfold Hid; rw [hX.out, if_neg (by simpa using h34)]
  clear hX h34
  go_enter Tryz.func39, Tryz.ntmps39
  go_wp2_with fail
  refine (quoted_any s _ hp hs).mono ?_
  rintro e w1 ⟨rfl, hb⟩
  generalize (quotR ((L s).drop 1)).1 = t at *
  generalize (quotR ((L s).drop 1)).2.1 = n at *
  generalize (quotR ((L s).drop 1)).2.2 = er at *
  by_cases hz : er = 0
  case neg =>
    have e1 : ((er : Int) != 0) = true := by rw [bne_iff_ne]; omega
    have HF : Hid (unqL (L s) = ([], er)) := by unfold Hid; rw [hY.out, if_pos hz]
    clear hY hz
    go_wp2_with fail
    go_ret2
    exact ⟨ret2_str HF.out, hb⟩
  subst hz
  by_cases hn : n < s.size
  · have hn' : (n : Int) < s.size := by omega
    have HF : Hid (unqL (L s) = ([], 3)) := by unfold Hid; rw [hY.out, if_neg (by simp), if_pos hn]
    clear hY hn
    go_wp2_with fail
    go_ret2
    exact ⟨ret2_str HF.out, hb⟩
  · have hn' : ¬ (n : Int) < s.size := by omega
    have HF : Hid (unqL (L s) = (t, 0)) := by unfold Hid; rw [hY.out, if_neg (by simp), if_neg hn]
    clear hY hn
    go_wp2_with fail
    go_ret2
    exact ⟨ret2_str HF.out, hb⟩
end Go.Proofs.YtlnpfpjncnkekaaGreatDoor

namespace Go.Proofs.YtlnpfpjncnkekaaGreatDoor
open Go.RowKit
set_option maxHeartbeats 1000000
set_option maxRecDepth 100000

end Go.Proofs.YtlnpfpjncnkekaaGreatDoor

namespace Go.Proofs.YtlnpfpjncnkekaaGreatDoor
open Go.RowKit
set_option maxHeartbeats 1000000
set_option maxRecDepth 100000

end Go.Proofs.YtlnpfpjncnkekaaGreatDoor

namespace Go.Proofs.YtlnpfpjncnkekaaGreatDoor
open Go.RowKit
set_option maxHeartbeats 1000000
set_option maxRecDepth 100000

theorem idx_punct (c : UInt8) : decide (0 ≤ Lib.indexByte (L ⟨#[91, 93, 123, 125, 44, 58]⟩) c) = punct c := by
  have h : ∀ n : Fin 256, decide (0 ≤ Lib.indexByte (L ⟨#[91, 93, 123, 125, 44, 58]⟩) (UInt8.ofNat n.val)) = (n.val == 91 || n.val == 93 || n.val == 123 || n.val == 125 || n.val == 44 || n.val == 58) := by decide +kernel
  have := h ⟨c.toNat, c.toNat_lt⟩
  simpa [punct] using this
theorem EscPost_same {x : Nat × Nat × Nat} {r n k : Nat} (h : x = (r, n, k)) : EscPost x (.returned (.tuple #[.int .i64 r, .int .i64 n, .int .i64 k])) := by
  subst h
  exact ⟨r, n, rfl, fun _ => ⟨rfl, rfl⟩⟩
theorem EscPost_tok {k m n er : Nat} {y : Nat × Nat × Nat} (h : y = tok k (n, er)) (hm : er = 0 → m = n) : EscPost y (.returned (.tuple #[.int .i64 k, .int .i64 m, .int .i64 er])) := by
  subst h
  unfold tok
  by_cases hz : er = 0
  · subst hz
    obtain rfl := hm rfl
    exact ⟨k, m, rfl, fun _ => ⟨rfl, rfl⟩⟩
  · rw [if_pos hz]
    exact ⟨k, m, rfl, fun h => absurd h hz⟩
theorem spaceLen_cons (b : UInt8) (t : List UInt8) : spaceLen (b :: t) = if blank b then spaceLen t + 1 else 0 := rfl

theorem quotF_le : ∀ (f : Nat) (l : List UInt8), (quotF f l).2.1 ≤ l.length
  | 0, l => Nat.zero_le _
  | f + 1, [] => Nat.zero_le _
  | f + 1, b :: t => by
    unfold quotF
    by_cases h34 : b.toNat = 34
    · rw [if_pos h34]; simp
    rw [if_neg h34]
    by_cases h92 : b.toNat = 92
    · rw [if_pos h92]
      by_cases he : (escL t).2.2 = 0
      · rw [if_neg (by simpa using he)]
        have h1 := escL_ok t he
        have h2 := quotF_le f (t.drop (escL t).2.1)
        rw [List.length_drop] at h2
        split
        · exact Nat.zero_le _
        · simp only [List.length_cons]; omega
      · rw [if_pos he]; exact Nat.zero_le _
    · rw [if_neg h92]
      split
      · exact Nat.zero_le _
      · have h1 := dec_le (b :: t)
        have h2 := quotF_le f ((b :: t).drop (dec (b :: t)).2)
        rw [List.length_drop] at h2
        split
        · exact Nat.zero_le _
        · simp only [] at *; omega
theorem quotR_le (t : List UInt8) : (quotR t).2.1 ≤ 1 + t.length := by
  have := quotF_le t.length t
  unfold quotR quotFin
  split
  · exact Nat.zero_le _
  · show 1 + (quotF t.length t).2.1 ≤ _
    omega
theorem quotR_err (t : List UInt8) : (quotR t).2.2 = (quotL t).2.2 := by
  unfold quotR quotFin
  by_cases h : (quotL t).2.2 = 0
  · simp [h]
  · simp [h]
theorem quotR_len (t : List UInt8) (h : (quotL t).2.2 = 0) : (quotR t).2.1 = 1 + (quotL t).2.1 := by
  unfold quotR quotFin
  simp [h]
/-- The blanks. -/
theorem one_blank (s : ByteArray) (w : World) (hp : 0 < s.size) (hs : s.size ≤ 100000000000) (hb : Hid (blank s[0] = true)) (g : ((s[0].toNat : Int) == 32) = true ∨ (((s[0].toNat : Int) == 32) = false ∧ ((s[0].toNat : Int) == 9) = true)) :
    Calls Tryz.prog 83 #[.string s] w fun e w' => EscPost (1, spaceLen (L s), 0) e ∧ Below w.heap.size w w' := by
  rcases g with g | ⟨g, g2⟩
  · go_enter Tryz.func83, Tryz.ntmps83
    go_wp2_with fail
    go_loop [6] (fun n => ∃ k : Nat, 1 ≤ k ∧ k ≤ s.size ∧ n = .int .i64 k ∧ Hid (spaceLen (L s) = k + spaceLen ((L s).drop k))) (fun n => s.size - (intOf n).toNat)
    case atStart => exact ⟨1, Nat.le_refl _, by omega, rfl, by unfold Hid; rw [L_cons0 s hp, spaceLen_cons, hb.out, if_pos rfl]; simp; omega⟩
    case round =>
      obtain ⟨k, hk1, hk, rfl, hr⟩ := hrel
      by_cases hlt : k < s.size
      case neg =>
        have HF : Hid (spaceLen (L s) = k) := by unfold Hid; rw [hr.out, L_drop_nil s k (by omega)]; rfl
        clear hr
        go_wp2_with fail
        go_ret3
        exact ⟨EscPost_same (by rw [HF.out]), Below.refl _ _⟩
      have hS : Hid (spaceLen ((L s).drop k) = if blank s[k] then spaceLen ((L s).drop (k + 1)) + 1 else 0) := by unfold Hid; rw [L_drop s k hlt, spaceLen_cons]
      by_cases h32 : s[k].toNat = 32
      · have q : ((s[k].toNat : Int) == 32) = true := by rw [beq_iff_eq]; omega
        have HF : Hid (spaceLen (L s) = (k + 1) + spaceLen ((L s).drop (k + 1))) := by unfold Hid; rw [hr.out, hS.out, if_pos (by simp [blank, h32])]; omega
        clear h32 hr hS
        go_wp2_with fail
        exact ⟨⟨k + 1, by omega, by omega, rfl, HF⟩, by simp [intOf]; omega⟩
      have q : ((s[k].toNat : Int) == 32) = false := by rw [beq_eq_false_iff_ne]; omega
      by_cases h9 : s[k].toNat = 9
      · have q2 : ((s[k].toNat : Int) == 9) = true := by rw [beq_iff_eq]; omega
        have HF : Hid (spaceLen (L s) = (k + 1) + spaceLen ((L s).drop (k + 1))) := by unfold Hid; rw [hr.out, hS.out, if_pos (by simp [blank, h9])]; omega
        clear h32 h9 hr hS
        go_wp2_with fail
        exact ⟨⟨k + 1, by omega, by omega, rfl, HF⟩, by simp [intOf]; omega⟩
      · have q2 : ((s[k].toNat : Int) == 9) = false := by rw [beq_eq_false_iff_ne]; omega
        have HF : Hid (spaceLen (L s) = k) := by unfold Hid; rw [hr.out, hS.out, if_neg (by simp [blank, h32, h9])]; rfl
        clear h32 h9 hr hS
        go_wp2_with fail
        go_ret3
        exact ⟨EscPost_same (by rw [HF.out]), Below.refl _ _⟩
  · go_enter Tryz.func83, Tryz.ntmps83
    go_wp2_with fail
    go_loop [6] (fun n => ∃ k : Nat, 1 ≤ k ∧ k ≤ s.size ∧ n = .int .i64 k ∧ Hid (spaceLen (L s) = k + spaceLen ((L s).drop k))) (fun n => s.size - (intOf n).toNat)
    case atStart => exact ⟨1, Nat.le_refl _, by omega, rfl, by unfold Hid; rw [L_cons0 s hp, spaceLen_cons, hb.out, if_pos rfl]; simp; omega⟩
    case round =>
      obtain ⟨k, hk1, hk, rfl, hr⟩ := hrel
      by_cases hlt : k < s.size
      case neg =>
        have HF : Hid (spaceLen (L s) = k) := by unfold Hid; rw [hr.out, L_drop_nil s k (by omega)]; rfl
        clear hr
        go_wp2_with fail
        go_ret3
        exact ⟨EscPost_same (by rw [HF.out]), Below.refl _ _⟩
      have hS : Hid (spaceLen ((L s).drop k) = if blank s[k] then spaceLen ((L s).drop (k + 1)) + 1 else 0) := by unfold Hid; rw [L_drop s k hlt, spaceLen_cons]
      by_cases h32 : s[k].toNat = 32
      · have q : ((s[k].toNat : Int) == 32) = true := by rw [beq_iff_eq]; omega
        have HF : Hid (spaceLen (L s) = (k + 1) + spaceLen ((L s).drop (k + 1))) := by unfold Hid; rw [hr.out, hS.out, if_pos (by simp [blank, h32])]; omega
        clear h32 hr hS
        go_wp2_with fail
        exact ⟨⟨k + 1, by omega, by omega, rfl, HF⟩, by simp [intOf]; omega⟩
      have q : ((s[k].toNat : Int) == 32) = false := by rw [beq_eq_false_iff_ne]; omega
      by_cases h9 : s[k].toNat = 9
      · have q2 : ((s[k].toNat : Int) == 9) = true := by rw [beq_iff_eq]; omega
        have HF : Hid (spaceLen (L s) = (k + 1) + spaceLen ((L s).drop (k + 1))) := by unfold Hid; rw [hr.out, hS.out, if_pos (by simp [blank, h9])]; omega
        clear h32 h9 hr hS
        go_wp2_with fail
        exact ⟨⟨k + 1, by omega, by omega, rfl, HF⟩, by simp [intOf]; omega⟩
      · have q2 : ((s[k].toNat : Int) == 9) = false := by rw [beq_eq_false_iff_ne]; omega
        have HF : Hid (spaceLen (L s) = k) := by unfold Hid; rw [hr.out, hS.out, if_neg (by simp [blank, h32, h9])]; rfl
        clear h32 h9 hr hS
        go_wp2_with fail
        go_ret3
        exact ⟨EscPost_same (by rw [HF.out]), Below.refl _ _⟩

/-- Line ends. -/
theorem one_line (s : ByteArray) (w : World) (hp : 0 < s.size) (hs : s.size ≤ 100000000000) (g32 : ((s[0].toNat : Int) == 32) = false) (g9 : ((s[0].toNat : Int) == 9) = false) (g : ((s[0].toNat : Int) == 10) = true ∨ (((s[0].toNat : Int) == 10) = false ∧ ((s[0].toNat : Int) == 13) = true)) :
    Calls Tryz.prog 83 #[.string s] w fun e w' => EscPost (tok 2 (lineL (L s))) e ∧ Below w.heap.size w w' := by
  rcases g with g | ⟨g, g2⟩
  · go_enter Tryz.func83, Tryz.ntmps83
    go_wp2_with (go_at_call 133; refine (lineEnd_any s _ hp (by simp only [maxLen]; omega)).mono ?_; rintro e w' ⟨rfl, rfl⟩)
    go_ret3
    exact ⟨EscPost_tok rfl (fun _ => rfl), Below.refl _ _⟩
  · go_enter Tryz.func83, Tryz.ntmps83
    go_wp2_with (go_at_call 133; refine (lineEnd_any s _ hp (by simp only [maxLen]; omega)).mono ?_; rintro e w' ⟨rfl, rfl⟩)
    go_ret3
    exact ⟨EscPost_tok rfl (fun _ => rfl), Below.refl _ _⟩

/-- Comments. -/
theorem one_com (s : ByteArray) (w : World) (hp : 0 < s.size) (hs : s.size ≤ 100000000000) (g32 : ((s[0].toNat : Int) == 32) = false) (g9 : ((s[0].toNat : Int) == 9) = false) (g10 : ((s[0].toNat : Int) == 10) = false) (g13 : ((s[0].toNat : Int) == 13) = false) (g : ((s[0].toNat : Int) == 47) = true) :
    Calls Tryz.prog 83 #[.string s] w fun e w' => EscPost (tok 3 (comL (L s))) e ∧ Below w.heap.size w w' := by
  go_enter Tryz.func83, Tryz.ntmps83
  go_wp2_with (go_at_call 134; refine (comment_any s _ hs).mono ?_; rintro e w' ⟨rfl, rfl⟩)
  go_ret3
  exact ⟨EscPost_tok rfl (fun _ => rfl), Below.refl _ _⟩

/-- Punctuation. -/
theorem one_punct (s : ByteArray) (w : World) (hp : 0 < s.size) (_hs : s.size ≤ 100000000000) (g32 : ((s[0].toNat : Int) == 32) = false) (g9 : ((s[0].toNat : Int) == 9) = false) (g10 : ((s[0].toNat : Int) == 10) = false) (g13 : ((s[0].toNat : Int) == 13) = false) (g47 : ((s[0].toNat : Int) == 47) = false) (g : 0 ≤ Lib.indexByte (L ⟨#[91, 93, 123, 125, 44, 58]⟩) s[0]) :
    Calls Tryz.prog 83 #[.string s] w fun e w' => EscPost (4, 1, 0) e ∧ Below w.heap.size w w' := by
  go_enter Tryz.func83, Tryz.ntmps83
  go_wp2_with (go_at_call 77; refine (IndexByte_any _ _ _).mono ?_; rintro e w' ⟨rfl, rfl⟩)
  go_ret3
  exact ⟨EscPost_same rfl, Below.refl _ _⟩

/-- Quoted strings. -/
theorem one_quot (s : ByteArray) (w : World) (hp : 0 < s.size) (hs : s.size ≤ 100000000000) (g32 : ((s[0].toNat : Int) == 32) = false) (g9 : ((s[0].toNat : Int) == 9) = false) (g10 : ((s[0].toNat : Int) == 10) = false) (g13 : ((s[0].toNat : Int) == 13) = false) (g47 : ((s[0].toNat : Int) == 47) = false) (gp : ¬ 0 ≤ Lib.indexByte (L ⟨#[91, 93, 123, 125, 44, 58]⟩) s[0]) (g : ((s[0].toNat : Int) == 34) = true) :
    Calls Tryz.prog 83 #[.string s] w fun e w' => EscPost (tok 5 (1 + (quotL ((L s).drop 1)).2.1, (quotL ((L s).drop 1)).2.2)) e ∧ Below w.heap.size w w' := by
  go_enter Tryz.func83, Tryz.ntmps83
  go_wp2_with (first | (go_at_call 77; refine (IndexByte_any _ _ _).mono ?_; rintro e w' ⟨rfl, rfl⟩) | (go_at_call 84; refine (quoted_any s _ hp hs).mono ?_; rintro e w1 ⟨rfl, hb⟩; generalize hq : quotR ((L s).drop 1) = q; have HQ := Lib.hid hq; clear hq))
  go_ret3
  refine ⟨EscPost_tok (n := 1 + (quotL ((L s).drop 1)).2.1) (by rw [← HQ.out, quotR_err]) (fun h => ?_), hb⟩
  rw [← HQ.out, quotR_err] at h
  rw [← HQ.out]
  exact quotR_len _ h

/-- Strings of a sort. -/
theorem one_sort (s : ByteArray) (w : World) (hp : 0 < s.size) (hs : s.size ≤ 100000000000) (g32 : ((s[0].toNat : Int) == 32) = false) (g9 : ((s[0].toNat : Int) == 9) = false) (g10 : ((s[0].toNat : Int) == 10) = false) (g13 : ((s[0].toNat : Int) == 13) = false) (g47 : ((s[0].toNat : Int) == 47) = false) (gp : ¬ 0 ≤ Lib.indexByte (L ⟨#[91, 93, 123, 125, 44, 58]⟩) s[0]) (g34 : ((s[0].toNat : Int) == 34) = false) (g : ((s[0].toNat : Int) == 116) = true ∨ (((s[0].toNat : Int) == 116) = false ∧ ((s[0].toNat : Int) == 98) = true)) (h1 : 1 < s.size) (g1 : ((s[1].toNat : Int) == 34) = true) :
    Calls Tryz.prog 83 #[.string s] w fun e w' => EscPost (tok 5 (2 + (quotL ((L s).drop 2)).2.1, (quotL ((L s).drop 2)).2.2)) e ∧ Below w.heap.size w w' := by
  have hq1 : 0 < (s.extract 1 s.size).size := by rw [ext_size]; omega
  have hq2 : (s.extract 1 s.size).size ≤ 100000000000 := by rw [ext_size]; omega
  have HD : Hid ((L (s.extract 1 s.size)).drop 1 = (L s).drop 2) := by unfold Hid; rw [L_from, List.drop_drop]
  have h1' : (1 : Int) < s.size := by omega
  rcases g with g | ⟨g, g2⟩
  · go_enter Tryz.func83, Tryz.ntmps83
    go_wp2_with (first | (go_at_call 77; refine (IndexByte_any _ _ _).mono ?_; rintro e w' ⟨rfl, rfl⟩) | (go_at_call 84; refine (quoted_any (s.extract 1 s.size) _ hq1 hq2).mono ?_; rintro e w1 ⟨rfl, hb⟩; rw [HD.out]; have hqle := quotR_le ((L s).drop 2); rw [List.length_drop, L_len] at hqle; generalize hq : quotR ((L s).drop 2) = q at *; have HQ := Lib.hid hq; clear hq))
    go_ret3
    refine ⟨EscPost_tok (k := 5) (m := q.2.1 + 1) (n := 2 + (quotL ((L s).drop 2)).2.1) (er := q.2.2) ?_ (fun h => ?_), hb⟩
    · rw [← HQ.out, quotR_err]
    · rw [← HQ.out, quotR_err] at h
      rw [← HQ.out, quotR_len _ h]
      omega
  · go_enter Tryz.func83, Tryz.ntmps83
    go_wp2_with (first | (go_at_call 77; refine (IndexByte_any _ _ _).mono ?_; rintro e w' ⟨rfl, rfl⟩) | (go_at_call 84; refine (quoted_any (s.extract 1 s.size) _ hq1 hq2).mono ?_; rintro e w1 ⟨rfl, hb⟩; rw [HD.out]; have hqle := quotR_le ((L s).drop 2); rw [List.length_drop, L_len] at hqle; generalize hq : quotR ((L s).drop 2) = q at *; have HQ := Lib.hid hq; clear hq))
    go_ret3
    refine ⟨EscPost_tok (k := 5) (m := q.2.1 + 1) (n := 2 + (quotL ((L s).drop 2)).2.1) (er := q.2.2) ?_ (fun h => ?_), hb⟩
    · rw [← HQ.out, quotR_err]
    · rw [← HQ.out, quotR_err] at h
      rw [← HQ.out, quotR_len _ h]
      omega

/-- Words. -/
theorem one_word (s : ByteArray) (w : World) (hp : 0 < s.size) (hs : s.size ≤ 100000000000) (g32 : ((s[0].toNat : Int) == 32) = false) (g9 : ((s[0].toNat : Int) == 9) = false) (g10 : ((s[0].toNat : Int) == 10) = false) (g13 : ((s[0].toNat : Int) == 13) = false) (g47 : ((s[0].toNat : Int) == 47) = false) (gp : ¬ 0 ≤ Lib.indexByte (L ⟨#[91, 93, 123, 125, 44, 58]⟩) s[0]) (g34 : ((s[0].toNat : Int) == 34) = false) (g : (((s[0].toNat : Int) == 116) = false ∧ ((s[0].toNat : Int) == 98) = false) ∨ (((((s[0].toNat : Int) == 116) = true) ∨ (((s[0].toNat : Int) == 116) = false ∧ ((s[0].toNat : Int) == 98) = true)) ∧ (s.size ≤ 1 ∨ ∃ h : 1 < s.size, ((s[1].toNat : Int) == 34) = false))) (gw : wordb s[0] = true) :
    Calls Tryz.prog 83 #[.string s] w fun e w' => EscPost (tok 6 (wordL (L s))) e ∧ Below w.heap.size w w' := by
  go_enter Tryz.func83, Tryz.ntmps83
  go_upto_region 18 with (go_at_call 77; refine (IndexByte_any _ _ _).mono ?_; rintro e w' ⟨rfl, rfl⟩)
  go_cut [86] (fun v wx => v = .bool false ∧ wx = w)
  case first =>
    rcases g with ⟨g, g2⟩ | ⟨g | ⟨g, g2⟩, h | ⟨h, h2⟩⟩
    · go_wp2_with fail
      go_meet
      exact ⟨rfl, rfl⟩
    · have h' : (s.size : Int) ≤ 1 := by omega
      go_wp2_with fail
      go_meet
      exact ⟨rfl, rfl⟩
    · have h' : (1 : Int) < s.size := by omega
      go_wp2_with fail
      go_meet
      exact ⟨rfl, rfl⟩
    · have h' : (s.size : Int) ≤ 1 := by omega
      go_wp2_with fail
      go_meet
      exact ⟨rfl, rfl⟩
    · have h' : (1 : Int) < s.size := by omega
      go_wp2_with fail
      go_meet
      exact ⟨rfl, rfl⟩
  case rest =>
    obtain ⟨rfl, rfl⟩ := hcut
    clear g
    go_wp2_with (first | (go_at_call 135; refine (wordByte_any _ _).mono ?_; rintro e w' ⟨rfl, rfl⟩) | (go_at_call 136; refine (word_any s _ hs).mono ?_; rintro e w' ⟨rfl, rfl⟩))
    go_ret3
    exact ⟨EscPost_tok rfl (fun _ => rfl), Below.refl _ _⟩

/-- What is no token. -/
theorem one_none (s : ByteArray) (w : World) (hp : 0 < s.size) (_hs : s.size ≤ 100000000000) (g32 : ((s[0].toNat : Int) == 32) = false) (g9 : ((s[0].toNat : Int) == 9) = false) (g10 : ((s[0].toNat : Int) == 10) = false) (g13 : ((s[0].toNat : Int) == 13) = false) (g47 : ((s[0].toNat : Int) == 47) = false) (gp : ¬ 0 ≤ Lib.indexByte (L ⟨#[91, 93, 123, 125, 44, 58]⟩) s[0]) (g34 : ((s[0].toNat : Int) == 34) = false) (g : (((s[0].toNat : Int) == 116) = false ∧ ((s[0].toNat : Int) == 98) = false) ∨ (((((s[0].toNat : Int) == 116) = true) ∨ (((s[0].toNat : Int) == 116) = false ∧ ((s[0].toNat : Int) == 98) = true)) ∧ (s.size ≤ 1 ∨ ∃ h : 1 < s.size, ((s[1].toNat : Int) == 34) = false))) (gw : wordb s[0] = false) :
    Calls Tryz.prog 83 #[.string s] w fun e w' => EscPost (0, 0, 3) e ∧ Below w.heap.size w w' := by
  go_enter Tryz.func83, Tryz.ntmps83
  go_upto_region 18 with (go_at_call 77; refine (IndexByte_any _ _ _).mono ?_; rintro e w' ⟨rfl, rfl⟩)
  go_cut [86] (fun v wx => v = .bool false ∧ wx = w)
  case first =>
    rcases g with ⟨g, g2⟩ | ⟨g | ⟨g, g2⟩, h | ⟨h, h2⟩⟩
    · go_wp2_with fail
      go_meet
      exact ⟨rfl, rfl⟩
    · have h' : (s.size : Int) ≤ 1 := by omega
      go_wp2_with fail
      go_meet
      exact ⟨rfl, rfl⟩
    · have h' : (1 : Int) < s.size := by omega
      go_wp2_with fail
      go_meet
      exact ⟨rfl, rfl⟩
    · have h' : (s.size : Int) ≤ 1 := by omega
      go_wp2_with fail
      go_meet
      exact ⟨rfl, rfl⟩
    · have h' : (1 : Int) < s.size := by omega
      go_wp2_with fail
      go_meet
      exact ⟨rfl, rfl⟩
  case rest =>
    obtain ⟨rfl, rfl⟩ := hcut
    clear g
    go_wp2_with (go_at_call 135; refine (wordByte_any _ _).mono ?_; rintro e w' ⟨rfl, rfl⟩)
    go_ret3
    exact ⟨EscPost_same rfl, Below.refl _ _⟩

theorem one_any (s : ByteArray) (w : World) (hp : 0 < s.size) (hs : s.size ≤ 100000000000) :
    Calls Tryz.prog 83 #[.string s] w fun e w' => EscPost (oneL (L s)) e ∧ Below w.heap.size w w' := by
  have hX : oneL (L s) = if blank s[0] then (1, spaceLen (L s), 0)
    else if s[0].toNat = 10 ∨ s[0].toNat = 13 then tok 2 (lineL (L s))
    else if s[0].toNat = 47 then tok 3 (comL (L s))
    else if punct s[0] then (4, 1, 0)
    else if s[0].toNat = 34 then tok 5 (1 + (quotL ((L s).drop 1)).2.1, (quotL ((L s).drop 1)).2.2)
    else if (s[0].toNat = 116 ∨ s[0].toNat = 98) ∧ pre ((L s).drop 1) [34] then tok 5 (2 + (quotL ((L s).drop 2)).2.1, (quotL ((L s).drop 2)).2.2)
    else if wordb s[0] then tok 6 (wordL (L s))
    else (0, 0, 3) := by
    have h2 : ((L s).drop 1).drop 1 = (L s).drop 2 := by rw [List.drop_drop]
    rw [← h2]
    obtain ⟨t, ht⟩ : ∃ t, (L s).drop 1 = t := ⟨_, rfl⟩
    have hl : L s = s[0] :: t := by rw [← ht]; exact L_cons0 s hp
    rw [ht, hl]
    rfl
  have hpre : pre ((L s).drop 1) [34] = true ↔ ∃ h : 1 < s.size, s[1].toNat = 34 := by
    by_cases h : 1 < s.size
    · rw [L_drop s 1 h]
      constructor
      · intro hh
        refine ⟨h, ?_⟩
        have : s[1] = 34 := by simpa [pre] using hh
        rw [this]; rfl
      · rintro ⟨_, hh⟩
        have : s[1] = 34 := UInt8.toNat_inj.1 hh
        simp [pre, this]
    · rw [L_drop_nil s 1 (by omega)]
      constructor
      · intro hh; simp [pre] at hh
      · rintro ⟨h', _⟩; exact absurd h' h
  have hix := idx_punct s[0]
  have beqT : ∀ n : Nat, s[0].toNat = n → ((s[0].toNat : Int) == (n : Int)) = true := fun n h => by rw [beq_iff_eq]; omega
  have beqF : ∀ n : Nat, ¬ s[0].toNat = n → ((s[0].toNat : Int) == (n : Int)) = false := fun n h => by rw [beq_eq_false_iff_ne]; omega
  rw [hX]
  by_cases hb : blank s[0] = true
  · rw [if_pos hb]
    refine one_blank s w hp hs hb ?_
    by_cases h : s[0].toNat = 32
    · exact .inl (beqT 32 h)
    · refine .inr ⟨beqF 32 h, beqT 9 ?_⟩
      simpa [blank, h] using hb
  rw [if_neg hb]
  have g32 := beqF 32 (fun h => hb (by simp [blank, h]))
  have g9 := beqF 9 (fun h => hb (by simp [blank, h]))
  by_cases hl : s[0].toNat = 10 ∨ s[0].toNat = 13
  · rw [if_pos hl]
    refine one_line s w hp hs g32 g9 ?_
    by_cases h : s[0].toNat = 10
    · exact .inl (beqT 10 h)
    · exact .inr ⟨beqF 10 h, beqT 13 (by omega)⟩
  rw [if_neg hl]
  have g10 := beqF 10 (fun h => hl (.inl h))
  have g13 := beqF 13 (fun h => hl (.inr h))
  by_cases hc : s[0].toNat = 47
  · rw [if_pos hc]
    exact one_com s w hp hs g32 g9 g10 g13 (beqT 47 hc)
  rw [if_neg hc]
  have g47 := beqF 47 hc
  by_cases hpu : punct s[0] = true
  · rw [if_pos hpu]
    rw [hpu] at hix
    exact one_punct s w hp hs g32 g9 g10 g13 g47 (of_decide_eq_true hix)
  rw [if_neg hpu]
  have gp : ¬ 0 ≤ Lib.indexByte (L ⟨#[91, 93, 123, 125, 44, 58]⟩) s[0] := by
    intro h
    exact hpu (by rw [← hix]; exact decide_eq_true h)
  by_cases hq : s[0].toNat = 34
  · rw [if_pos hq]
    exact one_quot s w hp hs g32 g9 g10 g13 g47 gp (beqT 34 hq)
  rw [if_neg hq]
  have g34 := beqF 34 hq
  by_cases ht : (s[0].toNat = 116 ∨ s[0].toNat = 98) ∧ pre ((L s).drop 1) [34] = true
  · rw [if_pos ht]
    obtain ⟨h1, h2⟩ := hpre.1 ht.2
    refine one_sort s w hp hs g32 g9 g10 g13 g47 gp g34 ?_ h1 (by rw [beq_iff_eq]; omega)
    by_cases h : s[0].toNat = 116
    · exact .inl (beqT 116 h)
    · exact .inr ⟨beqF 116 h, beqT 98 (by omega)⟩
  rw [if_neg ht]
  have g : ((((s[0].toNat : Int) == 116) = false ∧ ((s[0].toNat : Int) == 98) = false) ∨ (((((s[0].toNat : Int) == 116) = true) ∨ (((s[0].toNat : Int) == 116) = false ∧ ((s[0].toNat : Int) == 98) = true)) ∧ (s.size ≤ 1 ∨ ∃ h : 1 < s.size, ((s[1].toNat : Int) == 34) = false))) := by
    by_cases h : s[0].toNat = 116 ∨ s[0].toNat = 98
    · refine .inr ⟨?_, ?_⟩
      · by_cases h' : s[0].toNat = 116
        · exact .inl (beqT 116 h')
        · exact .inr ⟨beqF 116 h', beqT 98 (by omega)⟩
      · by_cases h1 : 1 < s.size
        · refine .inr ⟨h1, ?_⟩
          rw [beq_eq_false_iff_ne]
          intro h2
          exact ht ⟨h, hpre.2 ⟨h1, by omega⟩⟩
        · exact .inl (by omega)
    · exact .inl ⟨beqF 116 (fun h' => h (.inl h')), beqF 98 (fun h' => h (.inr h'))⟩
  cases hw : wordb s[0]
  · exact one_none s w hp hs g32 g9 g10 g13 g47 gp g34 g hw
  · exact one_word s w hp hs g32 g9 g10 g13 g47 gp g34 g hw

end Go.Proofs.YtlnpfpjncnkekaaGreatDoor

namespace Go.Proofs.YtlnpfpjncnkekaaGreatDoor
open Go.RowKit
set_option maxHeartbeats 1000000
set_option maxRecDepth 100000

end Go.Proofs.YtlnpfpjncnkekaaGreatDoor
