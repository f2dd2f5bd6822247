/- The package datakitref19, walked: comments. Conditions: strings of at most 10^11 bytes. -/
import Derived.Test.YtmafggfonapmpaaR3
import Derived.Deep.DeepCutAuto
import Derived.Deep.CutBlock
namespace Go.Proofs.Ytmafggfonapmpaa
open Go.RowKit
set_option maxHeartbeats 1000000
set_option maxRecDepth 100000

/-- What comment hands back at an offset. -/
def CPost (i : Nat) (x : Nat × Nat) (e : Ending) : Prop :=
  ∃ m : Nat, e = .returned (.tuple #[.int .i64 m, .int .i64 x.2]) ∧ (x.2 = 0 → m = i + x.1)
theorem CPost_err {i : Nat} {x : Nat × Nat} {n k : Nat} (h : x = (n, k)) (hk : k ≠ 0) : CPost i x (.returned (.tuple #[.int .i64 0, .int .i64 k])) := by
  subst h
  exact ⟨0, rfl, fun h => absurd h hk⟩
theorem CPost_ok {i : Nat} {x : Nat × Nat} {n m : Nat} (h : x = (n, 0)) (hm : m = i + n) : CPost i x (.returned (.tuple #[.int .i64 m, .int .i64 0])) := by
  subst h
  exact ⟨m, rfl, fun _ => hm⟩
theorem pre2_iff (s : ByteArray) (k : Nat) (h : k < s.size) (a b : UInt8) : pre ((L s).drop k) [a, b] = true ↔ s[k] = a ∧ ∃ h2 : k + 1 < s.size, s[k + 1] = b := by
  rw [L_drop s k h]
  by_cases h2 : k + 1 < s.size
  · rw [L_drop s (k + 1) h2]
    simp [pre, h2]
  · rw [L_drop_nil s (k + 1) (by omega)]
    simp [pre, h2]
theorem beqB (b : UInt8) (n : Int) (h : (b.toNat : Int) = n) : ((b.toNat : Int) == n) = true := by rw [beq_iff_eq]; exact h
theorem beqNB (b : UInt8) (n : Int) (h : ¬ (b.toNat : Int) = n) : ((b.toNat : Int) == n) = false := by rw [beq_eq_false_iff_ne]; exact h
theorem bneB (b : UInt8) (n : Int) (h : (b.toNat : Int) = n) : ((b.toNat : Int) != n) = false := by rw [bne_eq_false_iff_eq]; exact h
theorem bneNB (b : UInt8) (n : Int) (h : ¬ (b.toNat : Int) = n) : ((b.toNat : Int) != n) = true := by rw [bne_iff_ne]; exact h
theorem u8_of {b : UInt8} {n : Nat} (h : b.toNat = n) : b = UInt8.ofNat n := by rw [← h]; simp

theorem comment3_any (s : ByteArray) (i : Nat) (w : World) (hi : i < s.size) (hs : s.size ≤ 100000000000) :
    Calls Try.prog 37 #[.string s, .int .i64 i] w fun e w' => CPost i (comL ((L s).drop i)) e ∧ Below w.heap.size w w' := by
  have hm : s.size ≤ maxLen := by simp only [maxLen]; omega
  by_cases h2 : s.size ≤ i + 1
  · have HL : Hid (comL ((L s).drop i) = (0, 4)) := by
      unfold Hid
      rw [L_drop s i hi, L_drop_nil s (i + 1) h2]
      rfl
    have h2' : (s.size : Int) ≤ (i : Int) + 1 := by omega
    clear h2
    go_enter Try.func37, Try.ntmps37
    go_wp2_with fail
    go_ret2
    exact ⟨by rw [HL.out]; exact CPost_err rfl (by decide), Below.refl _ _⟩
  have hp : i + 1 < s.size := by omega
  have h2' : ¬ (s.size : Int) ≤ (i : Int) + 1 := by omega
  have hX : Hid (comL ((L s).drop i) = if s[i + 1].toNat = 47 then comFin 2 (comG false ((L s).drop (i + 2))) else if s[i + 1].toNat = 42 then comFin 2 (comG true ((L s).drop (i + 2))) else (0, 3)) := by
    unfold Hid
    rw [L_drop s i hi, L_drop s (i + 1) hp, comL_eq]
  by_cases h47 : s[i + 1].toNat = 47
  · have HX : Hid (comL ((L s).drop i) = comFin 2 (comG false ((L s).drop (i + 2)))) := by unfold Hid; rw [hX.out, if_pos h47]
    have e1 := bneB s[i + 1] 47 (by omega)
    have e3 := beqNB s[i + 1] 42 (by omega)
    clear h47 hX h2
    go_enter Try.func37, Try.ntmps37
    go_wp2_with fail
    go_loopw [7, 8, 9] (fun n _ _ wr => ∃ k : Nat, i + 2 ≤ k ∧ k ≤ s.size ∧ n = .int .i64 k ∧ Hid (comL ((L s).drop i) = comFin (k - i) (comG false ((L s).drop k))) ∧ Below w.heap.size w wr) (fun n _ _ _ => s.size - (intOf n).toNat)
    case atStart => exact ⟨i + 2, Nat.le_refl _, by omega, rfl, by rw [show i + 2 - i = 2 by omega]; exact HX, Below.refl _ _⟩
    case round =>
      clear HX
      obtain ⟨k, hk2, hk, rfl, hr, hbw⟩ := hrel
      by_cases hlt : k < s.size
      case neg =>
        obtain rfl : k = s.size := by omega
        have HF : Hid (comL ((L s).drop i) = (s.size - i, 0)) := by unfold Hid; rw [hr.out, L_drop_nil s _ (Nat.le_refl _)]; rfl
        clear hr
        go_wp2_with fail
        go_ret2
        exact ⟨CPost_ok HF.out (by omega), hbw⟩
      have hG := comG_cons false s[k] ((L s).drop (k + 1))
      rw [← L_drop s k hlt] at hG
      have HG := Lib.hid hG; clear hG
      have hpp := pre2_iff s k hlt 13 10
      have hP2 := pre2_iff s k hlt 42 47
      go_upto_region 10 with fail
      go_cut [88] (fun v wx => v = .bool (decide (s[k].toNat = 10) || pre ((L s).drop k) [13, 10]) ∧ wx = wr)
      case first =>
        by_cases a0 : s[k].toNat = 10
        · have q0 := beqB s[k] 10 (by omega)
          have HV : Hid ((decide (s[k].toNat = 10) || pre ((L s).drop k) [13, 10]) = true) := by unfold Hid; rw [decide_eq_true a0]; rfl
          clear hpp hP2 a0
          go_wp2_with fail
          go_meet
          exact ⟨by rw [HV.out], rfl⟩
        have q0 := beqNB s[k] 10 (by omega)
        have HD : Hid ((decide (s[k].toNat = 10) || pre ((L s).drop k) [13, 10]) = pre ((L s).drop k) [13, 10]) := by unfold Hid; rw [decide_eq_false a0]; rfl
        clear a0
        by_cases a1 : s[k].toNat = 13
        · have q1 := beqB s[k] 13 (by omega)
          by_cases a2 : k + 1 < s.size
          · have q2 : (k : Int) + 1 < s.size := by omega
            by_cases a3 : s[k + 1].toNat = 10
            · have q3 := beqB s[k + 1] 10 (by omega)
              have HV : Hid (pre ((L s).drop k) [13, 10] = true) := hpp.2 ⟨u8_of a1, a2, u8_of a3⟩
              clear hpp hP2 a1 a3
              go_wp2_with fail
              go_meet
              exact ⟨by rw [HD.out, HV.out], rfl⟩
            · have q3 := beqNB s[k + 1] 10 (by omega)
              have HV : Hid (pre ((L s).drop k) [13, 10] = false) := by
                unfold Hid; rw [Bool.eq_false_iff]; intro h
                obtain ⟨_, _, h3⟩ := hpp.1 h
                exact a3 (by rw [h3]; rfl)
              clear hpp hP2 a1 a3
              go_wp2_with fail
              go_meet
              exact ⟨by rw [HD.out, HV.out], rfl⟩
          · have q2 : ¬ (k : Int) + 1 < s.size := by omega
            have HV : Hid (pre ((L s).drop k) [13, 10] = false) := by
              unfold Hid; rw [Bool.eq_false_iff]; intro h
              obtain ⟨_, h2, _⟩ := hpp.1 h
              exact a2 h2
            clear hpp hP2 a1
            go_wp2_with fail
            go_meet
            exact ⟨by rw [HD.out, HV.out], rfl⟩
        · have q1 := beqNB s[k] 13 (by omega)
          have HV : Hid (pre ((L s).drop k) [13, 10] = false) := by
            unfold Hid; rw [Bool.eq_false_iff]; intro h
            obtain ⟨h1, _⟩ := hpp.1 h
            exact a1 (by rw [h1]; rfl)
          clear hpp hP2 a1
          go_wp2_with fail
          go_meet
          exact ⟨by rw [HD.out, HV.out], rfl⟩
      case rest =>
        obtain ⟨rfl, rfl⟩ := hcut
        clear hpp hP2
        cases hv : (decide (s[k].toNat = 10) || pre ((L s).drop k) [13, 10])
        case true =>
          have HF : Hid (comL ((L s).drop i) = (k - i, 0)) := by
            unfold Hid
            rw [hr.out, HG.out, if_pos ⟨rfl, by simpa using hv⟩]; rfl
          clear hv hr HG
          go_wp2_with fail
          go_ret2
          exact ⟨CPost_ok (m := k) HF.out (by omega), hbw⟩
        have HG2 : Hid (comL ((L s).drop i) = comFin (k - i) (if (dec ((L s).drop k)).2 = 0 then (0, 5) else comFin (dec ((L s).drop k)).2 (comG false (((L s).drop k).drop (dec ((L s).drop k)).2)))) := by
          unfold Hid
          rw [hr.out, HG.out, if_neg (by rintro ⟨_, h⟩; simp at hv; rcases h with h | h; exact hv.1 h; rw [hv.2] at h; cases h), if_neg (by simp)]
        clear hv hr HG
        have hle := dec_le ((L s).drop k)
        rw [List.length_drop, L_len] at hle
        by_cases hn : (dec ((L s).drop k)).2 = 0
        · have hn0 : (((dec ((L s).drop k)).2 : Int) == 0) = true := by rw [beq_iff_eq]; omega
          have HF : Hid (comL ((L s).drop i) = (0, 5)) := by unfold Hid; rw [HG2.out, if_pos hn]; rfl
          clear hn HG2
          go_wp2_with (go_at_call 47; refine (Decode3_any s k _ hm).mono ?_; rintro e w2 ⟨rfl, hb2⟩)
          go_ret2
          exact ⟨CPost_err HF.out (by decide), hbw.trans (hb2.mono hbw.size)⟩
        · have hn0 : (((dec ((L s).drop k)).2 : Int) == 0) = false := by rw [beq_eq_false_iff_ne]; omega
          have HF : Hid (comL ((L s).drop i) = comFin (k + (dec ((L s).drop k)).2 - i) (comG false ((L s).drop (k + (dec ((L s).drop k)).2)))) := by
            unfold Hid
            rw [HG2.out, if_neg hn, comFin_fin, List.drop_drop]
            congr 1
            omega
          clear HG2
          go_wp2_with (go_at_call 47; refine (Decode3_any s k _ hm).mono ?_; rintro e w2 ⟨rfl, hb2⟩)
          first
            | exact ⟨⟨k + (dec ((L s).drop k)).2, by omega, by omega, rfl, HF, hbw.trans (hb2.mono hbw.size)⟩, by simp [intOf]; omega⟩
            | (go_roundw
               case rel => (repeat apply Exists.intro); exact ⟨⟨k + (dec ((L s).drop k)).2, by omega, by omega, rfl, HF, hbw.trans (hb2.mono hbw.size)⟩, rfl⟩
               case measure => simp [intOf]; omega)
  by_cases h42 : s[i + 1].toNat = 42
  · have HX : Hid (comL ((L s).drop i) = comFin 2 (comG true ((L s).drop (i + 2)))) := by unfold Hid; rw [hX.out, if_neg h47, if_pos h42]
    have e1 := bneNB s[i + 1] 47 (by omega)
    have e4 := bneB s[i + 1] 42 (by omega)
    have e3 := beqB s[i + 1] 42 (by omega)
    clear h47 h42 hX h2
    go_enter Try.func37, Try.ntmps37
    go_wp2_with fail
    go_loopw [7, 8, 9] (fun n _ _ wr => ∃ k : Nat, i + 2 ≤ k ∧ k ≤ s.size ∧ n = .int .i64 k ∧ Hid (comL ((L s).drop i) = comFin (k - i) (comG true ((L s).drop k))) ∧ Below w.heap.size w wr) (fun n _ _ _ => s.size - (intOf n).toNat)
    case atStart => exact ⟨i + 2, Nat.le_refl _, by omega, rfl, by rw [show i + 2 - i = 2 by omega]; exact HX, Below.refl _ _⟩
    case round =>
      clear HX
      obtain ⟨k, hk2, hk, rfl, hr, hbw⟩ := hrel
      by_cases hlt : k < s.size
      case neg =>
        obtain rfl : k = s.size := by omega
        have HF : Hid (comL ((L s).drop i) = (0, 4)) := by unfold Hid; rw [hr.out, L_drop_nil s _ (Nat.le_refl _)]; rfl
        clear hr
        go_wp2_with fail
        go_ret2
        exact ⟨CPost_err HF.out (by decide), hbw⟩
      have hG := comG_cons true s[k] ((L s).drop (k + 1))
      rw [← L_drop s k hlt] at hG
      have HG := Lib.hid hG; clear hG
      have hpp := pre2_iff s k hlt 42 47
      have hP2 := pre2_iff s k hlt 42 47
      go_upto_region 8 with fail
      go_cut [58] (fun v wx => v = .bool (pre ((L s).drop k) [42, 47]) ∧ wx = wr)
      case first =>
        by_cases a1 : s[k].toNat = 42
        · have q1 := beqB s[k] 42 (by omega)
          by_cases a2 : k + 1 < s.size
          · have q2 : (k : Int) + 1 < s.size := by omega
            by_cases a3 : s[k + 1].toNat = 47
            · have q3 := beqB s[k + 1] 47 (by omega)
              have HV : Hid (pre ((L s).drop k) [42, 47] = true) := hpp.2 ⟨u8_of a1, a2, u8_of a3⟩
              clear hpp hP2 a1 a3
              go_wp2_with fail
              go_meet
              exact ⟨by rw [HV.out], rfl⟩
            · have q3 := beqNB s[k + 1] 47 (by omega)
              have HV : Hid (pre ((L s).drop k) [42, 47] = false) := by
                unfold Hid; rw [Bool.eq_false_iff]; intro h
                obtain ⟨_, _, h3⟩ := hpp.1 h
                exact a3 (by rw [h3]; rfl)
              clear hpp hP2 a1 a3
              go_wp2_with fail
              go_meet
              exact ⟨by rw [HV.out], rfl⟩
          · have q2 : ¬ (k : Int) + 1 < s.size := by omega
            have HV : Hid (pre ((L s).drop k) [42, 47] = false) := by
              unfold Hid; rw [Bool.eq_false_iff]; intro h
              obtain ⟨_, h2, _⟩ := hpp.1 h
              exact a2 h2
            clear hpp hP2 a1
            go_wp2_with fail
            go_meet
            exact ⟨by rw [HV.out], rfl⟩
        · have q1 := beqNB s[k] 42 (by omega)
          have HV : Hid (pre ((L s).drop k) [42, 47] = false) := by
            unfold Hid; rw [Bool.eq_false_iff]; intro h
            obtain ⟨h1, _⟩ := hpp.1 h
            exact a1 (by rw [h1]; rfl)
          clear hpp hP2 a1
          go_wp2_with fail
          go_meet
          exact ⟨by rw [HV.out], rfl⟩
      case rest =>
        obtain ⟨rfl, rfl⟩ := hcut
        clear hpp hP2
        cases hv : pre ((L s).drop k) [42, 47]
        case true =>
          have HF : Hid (comL ((L s).drop i) = (k - i + 2, 0)) := by unfold Hid; rw [hr.out, HG.out, if_neg (by simp), if_pos ⟨rfl, hv⟩]; rfl
          clear hv hr HG
          go_wp2_with fail
          go_ret2
          exact ⟨CPost_ok (m := k + 2) HF.out (by omega), hbw⟩
        have HG2 : Hid (comL ((L s).drop i) = comFin (k - i) (if (dec ((L s).drop k)).2 = 0 then (0, 5) else comFin (dec ((L s).drop k)).2 (comG true (((L s).drop k).drop (dec ((L s).drop k)).2)))) := by
          unfold Hid
          rw [hr.out, HG.out, if_neg (by simp), if_neg (by rintro ⟨_, h⟩; rw [hv] at h; cases h)]
        clear hv hr HG
        have hle := dec_le ((L s).drop k)
        rw [List.length_drop, L_len] at hle
        by_cases hn : (dec ((L s).drop k)).2 = 0
        · have hn0 : (((dec ((L s).drop k)).2 : Int) == 0) = true := by rw [beq_iff_eq]; omega
          have HF : Hid (comL ((L s).drop i) = (0, 5)) := by unfold Hid; rw [HG2.out, if_pos hn]; rfl
          clear hn HG2
          go_wp2_with (go_at_call 47; refine (Decode3_any s k _ hm).mono ?_; rintro e w2 ⟨rfl, hb2⟩)
          go_ret2
          exact ⟨CPost_err HF.out (by decide), hbw.trans (hb2.mono hbw.size)⟩
        · have hn0 : (((dec ((L s).drop k)).2 : Int) == 0) = false := by rw [beq_eq_false_iff_ne]; omega
          have HF : Hid (comL ((L s).drop i) = comFin (k + (dec ((L s).drop k)).2 - i) (comG true ((L s).drop (k + (dec ((L s).drop k)).2)))) := by
            unfold Hid
            rw [HG2.out, if_neg hn, comFin_fin, List.drop_drop]
            congr 1
            omega
          clear HG2
          go_wp2_with (go_at_call 47; refine (Decode3_any s k _ hm).mono ?_; rintro e w2 ⟨rfl, hb2⟩)
          first
            | exact ⟨⟨k + (dec ((L s).drop k)).2, by omega, by omega, rfl, HF, hbw.trans (hb2.mono hbw.size)⟩, by simp [intOf]; omega⟩
            | (go_roundw
               case rel => (repeat apply Exists.intro); exact ⟨⟨k + (dec ((L s).drop k)).2, by omega, by omega, rfl, HF, hbw.trans (hb2.mono hbw.size)⟩, rfl⟩
               case measure => simp [intOf]; omega)
  have HF : Hid (comL ((L s).drop i) = (0, 3)) := by unfold Hid; rw [hX.out, if_neg h47, if_neg h42]
  have e1 := bneNB s[i + 1] 47 (by omega)
  have e4 := bneNB s[i + 1] 42 (by omega)
  clear h47 h42 hX
  go_enter Try.func37, Try.ntmps37
  go_wp2_with fail
  go_ret2
  exact ⟨CPost_err HF.out (by decide), Below.refl _ _⟩
end Go.Proofs.Ytmafggfonapmpaa
