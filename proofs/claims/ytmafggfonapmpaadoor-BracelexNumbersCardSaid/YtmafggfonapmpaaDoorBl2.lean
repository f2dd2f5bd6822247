/- The package bracelex, walked: numbers. Conditions: strings of at most 2^40 bytes. -/
import Derived.Test.YtmafggfonapmpaaDoorBl1
import Derived.Deep.DeepCutAuto
import Derived.Deep.CutBlock
namespace Go.Proofs.YtmafggfonapmpaaDoor
open Go.RowKit
set_option maxHeartbeats 1000000
set_option maxRecDepth 100000

theorem ext_size (s : ByteArray) (a : Nat) : (s.extract a s.size).size = s.size - a := by
  rw [ByteArray.size_extract]; omega
theorem empty_L (s : ByteArray) : s.toList.isEmpty = decide (L s = []) := by
  rw [toList_L]
  cases L s <;> rfl
theorem len0 {s : ByteArray} (h : s.size = 0) : L s = [] := List.eq_nil_of_length_eq_zero (by rw [L_len]; exact h)
theorem size_pos {s : ByteArray} (h : L s ≠ []) : 0 < s.size := by
  rcases Nat.eq_zero_or_pos s.size with h0 | h0
  · exact absurd (len0 h0) h
  · exact h0
theorem L_cons0 (s : ByteArray) (h : 0 < s.size) : L s = s[0] :: (L s).drop 1 := by
  have := L_drop s 0 h
  simpa using this
/-- The end of a number: an exponent, or nothing. -/
theorem numeric_any (s : ByteArray) (w : World) (hs : s.size ≤ 1000000000000) :
    Calls Tryd.prog 11 #[.string s] w fun e w' => e = .returned (.bool (numB (L s))) ∧ w = w' := by
  have hm : s.size ≤ maxLen := by simp only [maxLen]; omega
  go_enter Tryd.func11, Tryd.ntmps11
  go_wp2_with fail
  refine (TrimPrefix_any s _ _ hm (by decide)).mono ?_
  rintro e w' ⟨rfl, rfl⟩
  have h1 : numB (L s) = intB (L (trimP s ⟨#[45]⟩)) := by rw [L_trimP]; rfl
  have HX := Lib.hid h1; clear h1
  have hs1 : (trimP s ⟨#[45]⟩).size ≤ 1000000000000 := by
    unfold trimP; split
    · rw [ext_size]; omega
    · exact hs
  generalize trimP s ⟨#[45]⟩ = s1 at *
  clear hm
  go_wp2_with fail
  refine (run_any s1 _ (by simp only [maxLen]; omega)).mono ?_
  rintro e w' ⟨rfl, rfl⟩
  have hr := runL_le (L s1)
  rw [L_len] at hr
  have h2 : intB (L s1) = if runL (L s1) = 0 ∨ (1 < runL (L s1) ∧ zero0 (L s1)) then false else fracB (L (s1.extract (runL (L s1)) s1.size)) := by rw [L_from]; rfl
  have hs2 := ext_size s1 (runL (L s1))
  have H2 := Lib.hid h2; clear h2
  have HS2 := Lib.hid hs2; clear hs2
  generalize runL (L s1) = n at *
  by_cases hn : n = 0
  · have hn0 : ((n : Int) == 0) = true := beq_iff_eq.2 (by omega)
    have HN := Lib.hid hn; clear hn
    go_wp2_with fail
    go_ret
    exact ⟨ret_bool (by rw [HX.out, H2.out, if_pos (.inl HN.out)]), rfl⟩
  have hn0 : ((n : Int) == 0) = false := beq_eq_false_iff_ne.2 (by omega)
  have hp : 0 < s1.size := by omega
  have hz0 : Hid (zero0 (L s1) = (s1[0].toNat == 48)) := by unfold Hid; rw [L_cons0 s1 hp]; rfl
  by_cases hz : 1 < n ∧ zero0 (L s1) = true
  · have h1n : (1 : Int) < n := by omega
    have hz1 : ((s1[0].toNat : Int) == 48) = true := by
      have := hz.2
      rw [hz0.out] at this
      rw [beq_iff_eq] at this ⊢
      omega
    have HN := Lib.hid hz; clear hz
    go_wp2_with fail
    go_ret
    exact ⟨ret_bool (by rw [HX.out, H2.out, if_pos (.inr HN.out)]), rfl⟩
  have H3 : Hid (numB (L s) = fracB (L (s1.extract n s1.size))) := by unfold Hid; rw [HX.out, H2.out, if_neg (fun h => h.elim hn hz)]
  have hq : decide ((1 : Int) < n) = false ∨ (decide ((1 : Int) < n) = true ∧ ((s1[0].toNat : Int) == 48) = false) := by
    by_cases h1n : 1 < n
    · refine .inr ⟨decide_eq_true (by omega), ?_⟩
      rw [beq_eq_false_iff_ne]
      intro h
      exact hz ⟨h1n, by rw [hz0.out, beq_iff_eq]; omega⟩
    · exact .inl (decide_eq_false (by omega))
  clear HX H2 hz0 hz
  go_upto_region 3 with fail
  go_cut [18] (fun c wx => c = .bool false ∧ wx = w)
  case first =>
    rcases hq with hq | ⟨hq1, hq2⟩
    · go_wp2_with fail
      go_meet
      exact ⟨rfl, rfl⟩
    · go_wp2_with fail
      go_meet
      exact ⟨rfl, rfl⟩
  case rest =>
    obtain ⟨rfl, rfl⟩ := hcut
    clear hq
    have hm2 : (s1.extract n s1.size).size ≤ maxLen := by rw [HS2.out]; simp only [maxLen]; omega
    have hs2' : (s1.extract n s1.size).size ≤ s1.size := by rw [HS2.out]; omega
    clear HS2
    go_upto_if 23 with (go_at_call 23; refine (HasPrefix_any _ _ _ hm2 (by decide)).mono ?_; rintro e w' ⟨rfl, rfl⟩)
    generalize s1.extract n s1.size = s2 at *
    have hp46' : pre (L s2) (L ⟨#[46]⟩) = pre (L s2) [46] := rfl
    rw [hp46']
    clear hp46'
    go_cut [0] (fun v wx => ∃ s3 : ByteArray, v = .string s3 ∧ s3.size ≤ s1.size ∧ Hid (numB (L s) = expB (L s3)) ∧ wx = wc)
    case first =>
      cases hp46 : pre (L s2) [46]
      · have HE : Hid (numB (L s) = expB (L s2)) := by unfold Hid; rw [H3.out, fracB, hp46]; rfl
        go_wp2_with fail
        go_meet
        exact ⟨s2, rfl, hs2', HE, rfl⟩
      · have hle : 1 ≤ s2.size := pre_yes (p := ⟨#[46]⟩) hp46
        have hle' : (1 : Int) ≤ s2.size := by omega
        have hE : numB (L s) = if runL (L (s2.extract 1 s2.size)) = 0 then false else expB (L (s2.extract (1 + runL (L (s2.extract 1 s2.size))) s2.size)) := by
          rw [H3.out, fracB, hp46, L_from, L_from]; rfl
        have HE := Lib.hid hE; clear hE
        have hr2 := runL_le (L (s2.extract 1 s2.size))
        rw [L_len, ext_size] at hr2
        go_wp2_with fail
        refine (run_any (s2.extract 1 s2.size) _ (by rw [ext_size]; simp only [maxLen]; omega)).mono ?_
        rintro e w' ⟨rfl, rfl⟩
        generalize runL (L (s2.extract 1 s2.size)) = m at *
        by_cases hm0 : m = 0
        · have hm1 : ((m : Int) == 0) = true := beq_iff_eq.2 (by omega)
          have HM := Lib.hid hm0; clear hm0
          go_wp2_with fail
          go_ret
          exact ⟨ret_bool (by rw [HE.out, if_pos HM.out]), rfl⟩
        · have hm1 : ((m : Int) == 0) = false := beq_eq_false_iff_ne.2 (by omega)
          have HF : Hid (numB (L s) = expB (L (s2.extract (1 + m) s2.size))) := by unfold Hid; rw [HE.out, if_neg hm0]
          have hz := ext_size s2 (1 + m)
          have HZ := Lib.hid hz; clear hz HE
          have hm3 : (1 : Int) + m ≤ s2.size := by omega
          go_wp2_with fail
          go_meet
          exact ⟨_, rfl, by rw [HZ.out]; omega, HF, rfl⟩
    case rest =>
      obtain ⟨s3, rfl, hs3, H4, rfl⟩ := hcut
      clear H3
      by_cases he : L s3 = []
      · have he1 : s3.toList.isEmpty = true := by rw [empty_L]; simpa using he
        have H5 : Hid (numB (L s) = true) := by unfold Hid; rw [H4.out, he]; rfl
        clear he H4
        go_wp2_with fail
        go_ret
        exact ⟨ret_bool (by rw [H5.out]), rfl⟩
      have he1 : s3.toList.isEmpty = false := by rw [empty_L]; simpa using he
      have hp3 := size_pos he
      have H5 : Hid (numB (L s) = ((s3[0].toNat == 101 || s3[0].toNat == 69) && (decide (dropSign (L (s3.extract 1 s3.size)) ≠ []) && decide (runL (dropSign (L (s3.extract 1 s3.size))) = (dropSign (L (s3.extract 1 s3.size))).length)))) := by
        unfold Hid
        rw [H4.out, L_cons0 s3 hp3, L_from]
        rfl
      clear he H4
      by_cases hexp : s3[0].toNat = 101 ∨ s3[0].toNat = 69
      · have H6 : Hid (numB (L s) = (decide (dropSign (L (s3.extract 1 s3.size)) ≠ []) && decide (runL (dropSign (L (s3.extract 1 s3.size))) = (dropSign (L (s3.extract 1 s3.size))).length))) := by
          unfold Hid
          rw [H5.out]
          rcases hexp with h | h <;> simp [h]
        clear H5
        have hle3 : (1 : Int) ≤ s3.size := by omega
        have hsz : (s3.extract 1 s3.size).size ≤ s3.size := by rw [ext_size]; omega
        go_upto_region 13 with fail
        go_cut [42] (fun v wx => v = .bool false ∧ wx = wc)
        case first =>
          rcases hexp with h | h
          · have e1 : ((s3[0].toNat : Int) != 101) = false := by rw [bne_eq_false_iff_eq]; omega
            clear h
            go_wp2_with fail
            go_meet
            exact ⟨rfl, rfl⟩
          · have e1 : ((s3[0].toNat : Int) != 101) = true := by rw [bne_iff_ne]; omega
            have e2 : ((s3[0].toNat : Int) != 69) = false := by rw [bne_eq_false_iff_eq]; omega
            clear h
            go_wp2_with fail
            go_meet
            exact ⟨rfl, rfl⟩
        case rest =>
          obtain ⟨rfl, rfl⟩ := hcut
          go_upto_region 16 with fail
          generalize s3.extract 1 s3.size = s4 at *
          clear hle3 hexp
          go_cut [56] (fun c wx => c = .bool (match L s4 with | [] => false | d :: _ => sgn d) ∧ wx = wc)
          case first =>
            by_cases h4 : L s4 = []
            · have he4 : s4.toList.isEmpty = true := by rw [empty_L]; simpa using h4
              have HC : Hid ((match L s4 with | [] => false | d :: _ => sgn d) = false) := by unfold Hid; rw [h4]
              clear h4
              go_wp2_with fail
              go_meet
              exact ⟨by rw [HC.out], rfl⟩
            · have he4 : s4.toList.isEmpty = false := by rw [empty_L]; simpa using h4
              have hp4 := size_pos h4
              have HC : Hid ((match L s4 with | [] => false | d :: _ => sgn d) = sgn s4[0]) := by unfold Hid; rw [L_cons0 s4 hp4]
              clear h4
              by_cases e43 : s4[0].toNat = 43
              · have g : ((s4[0].toNat : Int) == 43) = true := by rw [beq_iff_eq]; omega
                have HE : Hid (sgn s4[0] = true) := by unfold Hid; simp [sgn, e43]
                clear e43
                go_wp2_with fail
                go_meet
                exact ⟨by rw [HC.out, HE.out], rfl⟩
              have g : ((s4[0].toNat : Int) == 43) = false := by rw [beq_eq_false_iff_ne]; omega
              by_cases e45 : s4[0].toNat = 45
              · have g2 : ((s4[0].toNat : Int) == 45) = true := by rw [beq_iff_eq]; omega
                have HE : Hid (sgn s4[0] = true) := by unfold Hid; simp [sgn, e45]
                clear e43 e45
                go_wp2_with fail
                go_meet
                exact ⟨by rw [HC.out, HE.out], rfl⟩
              · have g2 : ((s4[0].toNat : Int) == 45) = false := by rw [beq_eq_false_iff_ne]; omega
                have HE : Hid (sgn s4[0] = false) := by unfold Hid; simp [sgn, e43, e45]
                clear e43 e45
                go_wp2_with fail
                go_meet
                exact ⟨by rw [HC.out, HE.out], rfl⟩
          case rest =>
            obtain ⟨rfl, rfl⟩ := hcut
            cases hb : (match L s4 with | [] => false | d :: _ => sgn d)
            · have hd : dropSign (L s4) = L s4 := by
                cases hl : L s4
                · rfl
                · rw [hl] at hb
                  simp only at hb
                  simp [dropSign, hb]
              rw [hd] at H6
              have hm4 : s4.size ≤ maxLen := by simp only [maxLen]; omega
              clear hb hd
              by_cases h4 : L s4 = []
              · have he4 : (s4).toList.isEmpty = true := by rw [empty_L]; simpa using h4
                have H7 : Hid (numB (L s) = false) := by unfold Hid; rw [H6.out, h4]; rfl
                clear h4
                go_wp2_with fail
                go_ret
                exact ⟨ret_bool (by rw [H7.out]), rfl⟩
              · have he4 : (s4).toList.isEmpty = false := by rw [empty_L]; simpa using h4
                have H7 : Hid (numB (L s) = ((runL (L s4) : Int) == (s4).size)) := by
                  unfold Hid
                  rw [H6.out, L_len, Bool.eq_iff_iff]
                  simp [h4]
                  omega
                clear h4
                go_wp2_with (go_at_call 22; refine (run_any s4 _ hm4).mono ?_; rintro e w' ⟨rfl, rfl⟩)
                go_ret
                exact ⟨ret_bool (by rw [H7.out]), rfl⟩
            · have hp4 : 0 < s4.size := by
                refine size_pos (fun h => ?_)
                rw [h] at hb
                cases hb
              have hd : dropSign (L s4) = L (s4.extract 1 s4.size) := by
                rw [L_from]
                rw [L_cons0 s4 hp4] at hb ⊢
                simp only at hb
                simp [dropSign, hb]
              rw [hd] at H6
              have hm4 : (s4.extract 1 s4.size).size ≤ maxLen := by rw [ext_size]; simp only [maxLen]; omega
              have hle4 : (1 : Int) ≤ s4.size := by omega
              clear hb hd
              by_cases h4 : L (s4.extract 1 s4.size) = []
              · have he4 : ((s4.extract 1 s4.size)).toList.isEmpty = true := by rw [empty_L]; simpa using h4
                have H7 : Hid (numB (L s) = false) := by unfold Hid; rw [H6.out, h4]; rfl
                clear h4
                go_wp2_with fail
                go_ret
                exact ⟨ret_bool (by rw [H7.out]), rfl⟩
              · have he4 : ((s4.extract 1 s4.size)).toList.isEmpty = false := by rw [empty_L]; simpa using h4
                have H7 : Hid (numB (L s) = ((runL (L (s4.extract 1 s4.size)) : Int) == ((s4.extract 1 s4.size)).size)) := by
                  unfold Hid
                  rw [H6.out, L_len, Bool.eq_iff_iff]
                  simp [h4]
                  omega
                clear h4
                go_wp2_with (go_at_call 22; refine (run_any (s4.extract 1 s4.size) _ hm4).mono ?_; rintro e w' ⟨rfl, rfl⟩)
                go_ret
                exact ⟨ret_bool (by rw [H7.out, ext_size]), rfl⟩
      · have H6 : Hid (numB (L s) = false) := by
          unfold Hid
          rw [H5.out]
          have h1 : ¬ s3[0].toNat = 101 := fun h => hexp (.inl h)
          have h2 : ¬ s3[0].toNat = 69 := fun h => hexp (.inr h)
          simp [h1, h2]
        have e1 : ((s3[0].toNat : Int) != 101) = true := by rw [bne_iff_ne]; omega
        have e2 : ((s3[0].toNat : Int) != 69) = true := by rw [bne_iff_ne]; omega
        clear hexp H5
        go_wp2_with fail
        go_ret
        exact ⟨ret_bool (by rw [H6.out]), rfl⟩
end Go.Proofs.YtmafggfonapmpaaDoor
