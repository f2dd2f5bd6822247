/- utf.Lines and datakitref03.Lines walked. Conditions: strings of at most 10^10 bytes. -/
import Derived.Test.YtlnpfpjncnkekaaGreatDoorZt11
import Derived.Test.YtlnpfpjncnkekaaGreatDoorZt3
import Derived.Test.YtlnpfpjncnkekaaGreatDoorZt9
import Derived.Deep.QuietTactic
import Derived.BigQuiet
import Derived.WalkMore
import Derived.Deep.LoopGhost
import Derived.Test.YtlnpfpjncnkekaaGreatDoorZt7
import Derived.Deep.DeepCutAuto
import Derived.Deep.CutBlock
import Derived.Test.YtlnpfpjncnkekaaGreatDoorZt4
namespace Go.Proofs.YtlnpfpjncnkekaaGreatDoor
open Go.RowKit
set_option maxHeartbeats 4000000
set_option maxRecDepth 100000

theorem drewNB' (w : World) (n : Nat) : Below w.heap.size w (w.drewN n) := ⟨rfl, rfl, rfl, Nat.le_refl _, fun _ _ => rfl⟩
theorem drop_cons (s : ByteArray) (k : Nat) (h : k < s.size) : (L s).drop k = s[k] :: (L s).drop (k + 1) := L_drop s k h
theorem partner_any (s : ByteArray) (w : World) (hs : s.size ≤ 100000000000) (h0 : 0 < s.size) (hT : TabU w) :
    Calls Tryz.prog 132 #[.string s] w fun e w' => e = .returned (.int .i64 (addP 1 (partW s[0] ((L s).drop 1)) : Nat)) ∧ Below w.heap.size w w' := by
  have hm : s.size ≤ maxLen := by simp only [maxLen]; omega
  have HT := Lib.hid hT
  clear hT
  obtain ⟨r, hr⟩ : ∃ r, r = addP 1 (partW s[0] ((L s).drop 1)) := ⟨_, rfl⟩
  rw [← hr]
  have HR := Lib.hid hr
  clear hr
  go_enter Tryz.func132, Tryz.ntmps132
  go_wp2_with fail
  go_loopw [3] (fun iv wr => ∃ k : Nat, iv = .int .i64 (k : Int) ∧ 1 ≤ k ∧ k ≤ s.size ∧ Hid (r = addP k (partW s[0] ((L s).drop k))) ∧ Hid (Below w.heap.size w wr)) (fun iv _ => s.size - (intOf iv).toNat)
  case atStart => exact ⟨1, rfl, Nat.le_refl _, h0, HR.out, Below.refl _ _⟩
  case round =>
    clear HR
    obtain ⟨k, rfl, hk1, hks, HR, HBW⟩ := hrel
    by_cases hlt : k < s.size
    case neg =>
      have HF : Hid (r = 0) := by
        unfold Hid
        rw [HR.out, L_drop_nil s k (by omega), partW_nil]
        rfl
      clear HR
      go_wp2_with fail
      go_ret
      exact ⟨by rw [HF.out]; rfl, HBW.out⟩
    have hst := HR.out
    rw [drop_cons s k hlt, partW_cons] at hst
    have hk0 : (0 : Int) ≤ (k : Int) := by omega
    by_cases hA : s[0].toNat = 34 ∧ s[k].toNat = 92
    case pos =>
      rw [if_pos hA, addP_add] at hst
      have hq1 := beqB s[0] 34 (by have := hA.1; omega)
      have hq2 := beqB s[k] 92 (by have := hA.2; omega)
      have HN : Hid (k + (decG ((L s).drop (k + 1))).2 + 1 ≤ s.size ∧ r = addP (k + (decG ((L s).drop (k + 1))).2 + 1) (partW s[0] ((L s).drop (k + (decG ((L s).drop (k + 1))).2 + 1)))) := by
        unfold Hid
        by_cases he : k + 1 = s.size
        · rw [L_drop_nil s (k + 1) (by omega)] at hst ⊢
          rw [List.drop_nil, partW_nil] at hst
          refine ⟨by show k + 0 + 1 ≤ _; omega, ?_⟩
          show r = addP (k + 0 + 1) (partW s[0] ((L s).drop (k + 0 + 1)))
          rw [L_drop_nil s (k + 0 + 1) (by omega), partW_nil, hst]
          rfl
        · have hne : (L s).drop (k + 1) ≠ [] := by
            intro h
            have := congrArg List.length h
            rw [List.length_drop, L_len, List.length_nil] at this
            omega
          obtain ⟨h1, h2, h3⟩ := decG_wid _ hne
          rw [List.length_drop, L_len] at h2
          rw [← h3, List.drop_drop] at hst
          refine ⟨by omega, ?_⟩
          rw [hst]
          congr 1
          · omega
          · congr 2
            omega
      have HD := Lib.hid (fun w' (hT : TabU w') => DecodeG_any (s.extract (k + 1) s.size) w' hT)
      rw [L_from] at HD
      generalize decG ((L s).drop (k + 1)) = dn at *
      obtain ⟨x, n⟩ := dn
      dsimp only at HN HD
      have hn1 : k + n + 1 ≤ s.size := HN.out.1
      have HN2 := Lib.hid HN.out.2
      clear hst hA HN HR
      go_wp2_with (go_at_call 80; refine (HD.out _ (HT.out.below HBW.out)).mono ?_; rintro e w' ⟨rfl, hb⟩; have HBn := Lib.hid (HBW.out.trans (hb.mono HBW.out.size)); clear hb)
      exact ⟨⟨k + n + 1, by go_num, by omega, by omega, HN2.out, HBn.out⟩, by simp [intOf]; omega⟩
    case neg =>
      rw [if_neg hA] at hst
      have HA : Hid (¬ (s[0].toNat = 34 ∧ s[k].toNat = 92)) := hA
      by_cases hcq : s[k] = s[0]
      case pos =>
        have hqe : ((s[k].toNat : Int) == (s[0].toNat : Int)) = true := by rw [hcq]; exact beq_self_eq_true _
        rw [if_pos hcq] at hst
        by_cases h39 : s[0].toNat = 39
        case neg =>
          rw [if_neg (fun h => h39 h.1)] at hst
          have hq3 := beqNB s[0] 39 (by omega)
          have HF : Hid (r = k + 1) := by unfold Hid; rw [hst]; rfl
          clear hst hA HR h39
          by_cases h34 : s[0].toNat = 34
          all_goals
            first
              | have hq1 := beqB s[0] 34 (by omega)
                have hq2 := beqNB s[k] 92 (by have := HA.out; omega)
              | have hq1 := beqNB s[0] 34 (by omega)
            clear HA h34 hcq
            go_wp2_with fail
            go_quiet (fail)
            go_wp2_with fail
            go_ret
            exact ⟨by rw [HF.out]; rfl, HBW.out.trans ((drewNB' _ _).mono HBW.out.size)⟩
        have hq1 := beqNB s[0] 34 (by omega)
        have hq3 := beqB s[0] 39 (by omega)
        by_cases hl : k + 1 < s.size
        case neg =>
          have HF : Hid (r = k + 1) := by
            unfold Hid
            rw [hst, L_drop_nil s (k + 1) (by omega), if_neg (fun h => by cases h.2)]
            rfl
          clear hst hA HR h39 HA hcq
          go_wp2_with fail
          go_quiet (fail)
          go_wp2_with fail
          go_ret
          exact ⟨by rw [HF.out]; rfl, HBW.out.trans ((drewNB' _ _).mono HBW.out.size)⟩
        rw [drop_cons s (k + 1) hl, List.head?_cons] at hst
        by_cases hn : s[k + 1] = 39
        case pos =>
          rw [if_pos ⟨h39, by rw [hn]⟩, addP_add] at hst
          have hq4 := beqB s[k + 1] 39 (by rw [hn]; rfl)
          have HN : Hid (r = addP (k + 2) (partW s[0] ((L s).drop (k + 2)))) := hst
          clear hst hA HR h39 HA hcq hn
          go_wp2_with fail
          go_quiet (fail)
          go_wp2_with fail
          exact ⟨⟨k + 2, by go_num, by omega, by omega, HN.out, HBW.out.trans ((drewNB' _ _).mono HBW.out.size)⟩, by simp [intOf]; omega⟩
        case neg =>
          rw [if_neg (fun h => hn (Option.some.inj h.2))] at hst
          have hq4 := beqNB s[k + 1] 39 (fun h => hn (UInt8.toNat_inj.1 (show s[k + 1].toNat = 39 by omega)))
          have HF : Hid (r = k + 1) := by unfold Hid; rw [hst]; rfl
          clear hst hA HR h39 HA hcq hn
          go_wp2_with fail
          go_quiet (fail)
          go_wp2_with fail
          go_ret
          exact ⟨by rw [HF.out]; rfl, HBW.out.trans ((drewNB' _ _).mono HBW.out.size)⟩
      case neg =>
        rw [if_neg hcq, addP_add] at hst
        have hqe : ((s[k].toNat : Int) == (s[0].toNat : Int)) = false := by
          rw [beq_eq_false_iff_ne]
          intro h
          exact hcq (UInt8.toNat_inj.1 (by omega))
        have HN : Hid (r = addP (k + 1) (partW s[0] ((L s).drop (k + 1)))) := hst
        clear hst hA HR hcq
        by_cases h34 : s[0].toNat = 34
        all_goals
          first
            | have hq1 := beqB s[0] 34 (by omega)
              have hq2 := beqNB s[k] 92 (by have := HA.out; omega)
            | have hq1 := beqNB s[0] 34 (by omega)
          clear HA h34
          go_wp2_with fail
          go_quiet (fail)
          go_wp2_with fail
          exact ⟨⟨k + 1, by go_num, by omega, by omega, HN.out, HBW.out.trans ((drewNB' _ _).mono HBW.out.size)⟩, by simp [intOf]; omega⟩
end Go.Proofs.YtlnpfpjncnkekaaGreatDoor

namespace Go.Proofs.YtlnpfpjncnkekaaGreatDoor
open Go.RowKit
set_option maxHeartbeats 4000000
set_option maxRecDepth 100000

/-- The byte ahead of an offset; a space at the beginning. -/
def pv (s : ByteArray) (k : Nat) : UInt8 := if k = 0 then 32 else (L s).getD (k - 1) 0
theorem pv_zero (s : ByteArray) : pv s 0 = 32 := rfl
theorem pv_at (s : ByteArray) (k : Nat) (h : k < s.size) : pv s (k + 1) = s[k] := by
  unfold pv
  rw [if_neg (by omega), Nat.add_sub_cancel, List.getD_eq_getElem?_getD, List.getElem?_eq_getElem (by rw [L_len]; exact h)]
  rfl
theorem pv_pos (s : ByteArray) (k : Nat) (h0 : 0 < k) (h : k - 1 < s.size) : pv s k = s[k - 1] := by
  obtain ⟨j, rfl⟩ : ∃ j, k = j + 1 := ⟨k - 1, by omega⟩
  exact pv_at s j h
theorem idxS0 : ∀ n : Fin 256, (0 ≤ Lib.indexByte [32, 91, 123, 44] (UInt8.ofNat n.val)) = (n.val = 32 ∨ n.val = 91 ∨ n.val = 123 ∨ n.val = 44) := by decide +kernel
theorem idxS (b : UInt8) : (0 ≤ Lib.indexByte [32, 91, 123, 44] b) = (b.toNat = 32 ∨ b.toNat = 91 ∨ b.toNat = 123 ∨ b.toNat = 44) := by
  have h := idxS0 ⟨b.toNat, b.toNat_lt⟩
  simpa using h
theorem partner_at (s : ByteArray) (k : Nat) (w : World) (hs : s.size ≤ 100000000000) (hk : k < s.size) (hT : TabU w) :
    Calls Tryz.prog 132 #[.string (s.extract k s.size)] w fun e w' => e = .returned (.int .i64 (addP 1 (partW s[k] ((L s).drop (k + 1))) : Nat)) ∧ Below w.heap.size w w' := by
  have hz : (s.extract k s.size).size = s.size - k := by rw [← L_len, L_from, List.length_drop, L_len]
  have h0 : 0 < (s.extract k s.size).size := by omega
  have h := partner_any (s.extract k s.size) w (by omega) h0 hT
  have e1 : (s.extract k s.size)[0] = s[k] := by
    have h1 : (L (s.extract k s.size))[0]? = ((L s).drop k)[0]? := by rw [L_from]
    rw [L_drop s k hk, List.getElem?_eq_getElem (by rw [L_len]; exact h0), List.getElem?_cons_zero] at h1
    exact Option.some.inj h1
  rw [e1, L_from, List.drop_drop] at h
  exact h
theorem IndexS_any (b : UInt8) (w : World) : Calls Tryz.prog 77 #[.string ⟨#[32, 91, 123, 44]⟩, .int .u8 (b.toNat : Int)] w fun e w' => e = .returned (.int .i64 (Lib.indexByte [32, 91, 123, 44] b)) ∧ w = w' := by
  have h := Tryz.strings_IndexByte ⟨#[32, 91, 123, 44]⟩ (b.toNat : Int) w
  have hb : ((b.toNat : Int)).toNat.toUInt8 = b := by
    rw [Int.toNat_natCast]
    exact UInt8.ofNat_toNat
  rw [hb] at h
  exact h.mono fun _ _ h => ⟨h.1, h.2.symm⟩
theorem hash_any (s : ByteArray) (w : World) (hs : s.size ≤ 100000000000) (hT : TabU w) :
    Calls Tryz.prog 82 #[.string s] w fun e w' => e = .returned (.int .i64 (hashW 32 (L s) : Nat)) ∧ Below w.heap.size w w' := by
  have hm : s.size ≤ maxLen := by simp only [maxLen]; omega
  have HT := Lib.hid hT
  clear hT
  obtain ⟨r, hr⟩ : ∃ r, r = hashW 32 (L s) := ⟨_, rfl⟩
  rw [← hr]
  have HR0 : Hid (r = 0 + hashW (pv s 0) ((L s).drop 0)) := by unfold Hid; rw [hr, pv_zero, List.drop_zero, Nat.zero_add]
  clear hr
  go_enter Tryz.func82, Tryz.ntmps82
  go_wp2_with fail
  go_step3
  go_wp2_with fail
  go_step3
  go_wp2_with fail
  go_loopw [3] (fun iv wr => ∃ k : Nat, iv = .int .i64 (k : Int) ∧ k ≤ s.size ∧ Hid (r = k + hashW (pv s k) ((L s).drop k)) ∧ Hid (Below w.heap.size w wr)) (fun iv _ => s.size - (intOf iv).toNat)
  case atStart => exact ⟨0, rfl, Nat.zero_le _, HR0.out, Below.refl _ _⟩
  case round =>
    clear HR0
    obtain ⟨k, rfl, hks, HR, HBW⟩ := hrel
    have hk0 : (0 : Int) ≤ (k : Int) := by omega
    by_cases hlt : k < s.size
    case neg =>
      have HF : Hid (r = s.size) := by
        unfold Hid
        rw [HR.out, L_drop_nil s k (by omega), hashW_nil]
        omega
      clear HR
      go_wp2_with fail
      rw [Exit.noGoto_ret]
      go_ret
      exact ⟨by rw [HF.out]; rfl, HBW.out⟩
    have hst := HR.out
    rw [drop_cons s k hlt, hashW_cons] at hst
    have HP := Lib.hid (fun w' hT => partner_at s k w' hs hlt hT)
    have HNX : Hid (pv s (k + 1) = s[k]) := pv_at s k hlt
    have HPZ : Hid (k = 0 → (pv s k).toNat = 32) := fun h => by subst h; rfl
    have hk1 : k - 1 < s.size := by omega
    have HPP : Hid (0 < k → pv s k = s[k - 1]) := fun h => pv_pos s k h hk1
    clear HR
    by_cases h35 : s[k].toNat = 35
    case pos =>
      have hq35 := beqB s[k] 35 (by omega)
      have hq39 := beqNB s[k] 39 (by omega)
      have hq34 := beqNB s[k] 34 (by omega)
      by_cases h32 : (pv s k).toNat = 32
      case pos =>
        rw [if_pos ⟨h35, h32⟩] at hst
        have HF : Hid (r = k) := hst
        by_cases hz : k = 0
        case pos =>
          have hqz : ((k : Int) == 0) = true := by rw [beq_iff_eq]; omega
          clear hst h35 h32 hz
          go_wp2_with fail
          rw [Exit.noGoto_ret]
          go_ret
          exact ⟨by rw [HF.out]; rfl, HBW.out⟩
        case neg =>
          have hqz : ((k : Int) == 0) = false := by rw [beq_eq_false_iff_ne]; omega
          have hkp : 1 ≤ (k : Int) := by omega
          have hkl : (k : Int) - 1 < (s.size : Int) := by omega
          have hp := HPP.out (by omega)
          rw [hp] at h32
          have hqp := beqB s[k - 1] 32 (by omega)
          clear hst h35 h32 hz hp
          go_wp2_with fail
          rw [Exit.noGoto_ret]
          go_ret
          exact ⟨by rw [HF.out]; rfl, HBW.out⟩
      case neg =>
        have hz : k ≠ 0 := fun h => h32 (HPZ.out h)
        have hqz : ((k : Int) == 0) = false := by rw [beq_eq_false_iff_ne]; omega
        have hkp : 1 ≤ (k : Int) := by omega
        have hkl : (k : Int) - 1 < (s.size : Int) := by omega
        have hp := HPP.out (by omega)
        rw [if_neg (fun h => h32 h.2), if_neg (fun h => by omega)] at hst
        rw [hp] at h32
        have hqp := beqNB s[k - 1] 32 (by omega)
        have HN : Hid (r = k + 1 + hashW (pv s (k + 1)) ((L s).drop (k + 1))) := by
          unfold Hid
          rw [HNX.out, hst]
          omega
        clear hst h35 h32 hz hp
        go_wp2_with fail
        exact ⟨⟨k + 1, by go_num, by omega, HN.out, HBW.out⟩, by simp [intOf]; omega⟩
    have hq35 := beqNB s[k] 35 (by omega)
    rw [if_neg (fun h => h35 h.1)] at hst
    by_cases hqt : s[k].toNat = 39 ∨ s[k].toNat = 34
    case neg =>
      rw [if_neg (fun h => hqt h.1)] at hst
      have hq39 := beqNB s[k] 39 (by omega)
      have hq34 := beqNB s[k] 34 (by omega)
      have HN : Hid (r = k + 1 + hashW (pv s (k + 1)) ((L s).drop (k + 1))) := by
        unfold Hid
        rw [HNX.out, hst]
        omega
      clear hst h35 hqt
      go_wp2_with fail
      exact ⟨⟨k + 1, by go_num, by omega, HN.out, HBW.out⟩, by simp [intOf]; omega⟩
    case pos =>
      by_cases hpp : (pv s k).toNat = 32 ∨ (pv s k).toNat = 91 ∨ (pv s k).toNat = 123 ∨ (pv s k).toNat = 44
      case neg =>
        have hz : k ≠ 0 := fun h => hpp (.inl (HPZ.out h))
        have hqz : ((k : Int) == 0) = false := by rw [beq_eq_false_iff_ne]; omega
        have hkp : 1 ≤ (k : Int) := by omega
        have hkl : (k : Int) - 1 < (s.size : Int) := by omega
        have hp := HPP.out (by omega)
        rw [if_neg (fun h => hpp h.2)] at hst
        have HN : Hid (r = k + 1 + hashW (pv s (k + 1)) ((L s).drop (k + 1))) := by
          unfold Hid
          rw [HNX.out, hst]
          omega
        rw [hp, ← idxS] at hpp
        have HI := Lib.hid (fun w' => IndexS_any s[k - 1] w')
        have hix : Lib.indexByte [32, 91, 123, 44] s[k - 1] < 0 := by omega
        generalize Lib.indexByte [32, 91, 123, 44] s[k - 1] = ix at *
        clear hst h35 hz hp hpp
        by_cases h39 : s[k].toNat = 39
        all_goals
          first
            | have hq39 := beqB s[k] 39 (by omega)
            | have hq39 := beqNB s[k] 39 (by omega)
              have hq34 := beqB s[k] 34 (by omega)
          clear h39 hqt
          go_wp2_with (go_at_call 77; refine (HI.out _).mono ?_; rintro e w' ⟨rfl, rfl⟩)
          exact ⟨⟨k + 1, by go_num, by omega, HN.out, HBW.out⟩, by simp [intOf]; omega⟩
      case pos =>
        rw [if_pos ⟨hqt, hpp⟩] at hst
        have HLS := Lib.hid (partW_last s[k] _ ((L s).drop (k + 1)) (Nat.le_refl _))
        have hple := partW_len s[k] ((L s).drop (k + 1))
        rw [List.length_drop, L_len] at hple
        rw [List.drop_drop] at hst
        have HST := Lib.hid hst
        clear hst
        have HIX : Hid (∀ h : 0 < k, 0 ≤ Lib.indexByte [32, 91, 123, 44] s[k - 1]) := fun h => by rw [idxS, ← HPP.out h]; exact hpp
        have HI := Lib.hid (fun w' => IndexS_any s[k - 1] w')
        generalize Lib.indexByte [32, 91, 123, 44] s[k - 1] = ix at *
        generalize hpw : partW s[k] ((L s).drop (k + 1)) = pw at *
        clear hpp h35
        by_cases hp0 : pw = 0
        case pos =>
          have HF : Hid (r = s.size) := by
            unfold Hid
            rw [HST.out, if_pos hp0, List.length_drop, L_len]
            omega
          have hap : addP 1 pw = 0 := by rw [hp0]; rfl
          rw [hap] at HP
          clear HST hap hp0 HLS hpw
          by_cases hz : k = 0
          all_goals
            first
              | have hqz : ((k : Int) == 0) = true := by rw [beq_iff_eq]; omega
              | have hqz : ((k : Int) == 0) = false := by rw [beq_eq_false_iff_ne]; omega
                have hkp : 1 ≤ (k : Int) := by omega
                have hkl : (k : Int) - 1 < (s.size : Int) := by omega
                have hix : 0 ≤ ix := HIX.out (by omega)
            by_cases h39 : s[k].toNat = 39
            all_goals
              first
                | have hq39 := beqB s[k] 39 (by omega)
                | have hq39 := beqNB s[k] 39 (by omega)
                  have hq34 := beqB s[k] 34 (by omega)
              clear h39 hqt hz
              go_wp2_with (first
                | (go_at_call 77; refine (HI.out _).mono ?_; rintro e w' ⟨rfl, rfl⟩)
                | (go_at_call 132; refine (HP.out _ (HT.out.below HBW.out)).mono ?_; rintro e w' ⟨rfl, hb⟩; have HBn := Lib.hid (HBW.out.trans (hb.mono HBW.out.size)); clear hb))
              rw [Exit.noGoto_ret]
              go_ret
              exact ⟨by rw [HF.out]; rfl, HBn.out⟩
        case neg =>
          have HN : Hid (r = k + (1 + pw) + hashW (pv s (k + (1 + pw))) ((L s).drop (k + (1 + pw)))) := by
            unfold Hid
            have hl := HLS.out hp0
            rw [List.getElem?_drop] at hl
            have hpv : pv s (k + (1 + pw)) = s[k] := by
              unfold pv
              rw [if_neg (by omega), List.getD_eq_getElem?_getD, show k + (1 + pw) - 1 = k + 1 + (pw - 1) by omega, hl]
              rfl
            rw [HST.out, if_neg hp0, hpv, show k + (1 + pw) = k + 1 + pw by omega]
            omega
          have hap : addP 1 pw = 1 + pw := if_neg hp0
          rw [hap] at HP
          have hne : ((((1 + pw : Nat)) : Int) == 0) = false := by rw [beq_eq_false_iff_ne]; omega
          clear HST hap hp0 HLS hpw
          by_cases hz : k = 0
          all_goals
            first
              | have hqz : ((k : Int) == 0) = true := by rw [beq_iff_eq]; omega
              | have hqz : ((k : Int) == 0) = false := by rw [beq_eq_false_iff_ne]; omega
                have hkp : 1 ≤ (k : Int) := by omega
                have hkl : (k : Int) - 1 < (s.size : Int) := by omega
                have hix : 0 ≤ ix := HIX.out (by omega)
            by_cases h39 : s[k].toNat = 39
            all_goals
              first
                | have hq39 := beqB s[k] 39 (by omega)
                | have hq39 := beqNB s[k] 39 (by omega)
                  have hq34 := beqB s[k] 34 (by omega)
              clear h39 hqt hz
              go_wp2_with (first
                | (go_at_call 77; refine (HI.out _).mono ?_; rintro e w' ⟨rfl, rfl⟩)
                | (go_at_call 132; refine (HP.out _ (HT.out.below HBW.out)).mono ?_; rintro e w' ⟨rfl, hb⟩; have HBn := Lib.hid (HBW.out.trans (hb.mono HBW.out.size)); clear hb))
              exact ⟨⟨k + (1 + pw), by go_num, by omega, HN.out, HBn.out⟩, by simp [intOf]; omega⟩
end Go.Proofs.YtlnpfpjncnkekaaGreatDoor

namespace Go.Proofs.YtlnpfpjncnkekaaGreatDoor
open Go.RowKit
set_option maxHeartbeats 4000000
set_option maxRecDepth 100000

end Go.Proofs.YtlnpfpjncnkekaaGreatDoor

namespace Go.Proofs.YtlnpfpjncnkekaaGreatDoor
open Go.RowKit
set_option maxHeartbeats 4000000
set_option maxRecDepth 100000

end Go.Proofs.YtlnpfpjncnkekaaGreatDoor

namespace Go.Proofs.YtlnpfpjncnkekaaGreatDoor
open Go.RowKit
set_option maxHeartbeats 4000000
set_option maxRecDepth 100000

/-- The lines of what stands from an offset on, the scan at k. -/
def lnF (s : ByteArray) : Nat → Nat → Nat → List ByteArray
  | 0, fr, _ => if fr < s.size then [s.extract fr s.size] else []
  | f + 1, fr, k => if h : k < s.size then (if s[k] = 10 then s.extract fr (k + 1) :: lnF s f (k + 1) (k + 1) else lnF s f fr (k + 1)) else if fr < s.size then [s.extract fr s.size] else []
def lnsB (s : ByteArray) : List ByteArray := lnF s s.size 0 0
theorem elem_str : Elem Tryz.prog 67 9 1 := elem_of (z := .string ⟨#[]⟩) (bytes := 16) Tryz.underlying67 (by kernel_rfl) (by decide) (by decide) rfl
theorem strs_one (l : List ByteArray) : ∀ u ∈ l.map Value.string, u.oneCell' = true := by
  intro u hu
  obtain ⟨n, _, rfl⟩ := List.mem_map.1 hu
  rfl
def LnsPost (w : World) (l : List ByteArray) (e : Ending) (w' : World) : Prop := ∃ v, e = .returned v ∧ w'.ownsRow w.heap.size 9 1 v l.length (l.map Value.string) ∧ Below w.heap.size w w'
theorem ULines_any (s : ByteArray) (w : World) (hs : s.size ≤ 10000000000) :
    Calls Tryz.prog 36 #[.string s] w (LnsPost w (lnsB s)) := by
  have hm : s.size ≤ maxLen := by simp only [maxLen]; omega
  obtain ⟨ll, hll⟩ : ∃ ll, ll = lnsB s := ⟨_, rfl⟩
  rw [← hll]
  have HL0 : Hid (ll = [] ++ lnF s (s.size - 0) 0 0) := hll
  clear hll
  go_enter Tryz.func36, Tryz.ntmps36
  go_wp2_with fail
  go_loopw [3, 4, 5] (fun ov fv iv wr => ∃ (k fr : Nat) (acc : List ByteArray), iv = .int .i64 (k : Int) ∧ fv = .int .i64 (fr : Int) ∧ fr ≤ k ∧ k ≤ s.size ∧ acc.length ≤ k ∧ Hid (wr.ownsRow w.heap.size 9 1 ov acc.length (acc.map Value.string)) ∧ Hid (ll = acc ++ lnF s (s.size - k) fr k) ∧ Hid (Below w.heap.size w wr)) (fun _ _ iv _ => s.size - (intOf iv).toNat)
  case atStart => exact ⟨0, 0, [], rfl, rfl, Nat.le_refl _, Nat.zero_le _, Nat.le_refl _, World.ownsRow_nil _ _ _ _, HL0.out, Below.refl _ _⟩
  case round =>
    clear HL0
    obtain ⟨k, fr, acc, rfl, rfl, hfk, hks, hal, HOWN, HL, HBW⟩ := hrel
    have HAL : Hid (acc.length < 100000000000) := by unfold Hid; omega
    have hk0 : (0 : Int) ≤ (k : Int) := by omega
    have hf0 : (0 : Int) ≤ (fr : Int) := by omega
    by_cases hlt : k < s.size
    case neg =>
      have hst := HL.out
      rw [show s.size - k = 0 by omega, lnF] at hst
      by_cases hfl : fr < s.size
      case neg =>
        rw [if_neg hfl, List.append_nil] at hst
        have HF := Lib.hid hst
        have hfi : ¬ (fr : Int) < (s.size : Int) := by omega
        clear hst HL
        go_wp2_with fail
        go_ret
        exact ⟨_, rfl, by rw [HF.out]; exact HOWN.out, HBW.out⟩
      case pos =>
        rw [if_pos hfl] at hst
        have HF := Lib.hid hst
        have hfi : (fr : Int) < (s.size : Int) := by omega
        clear hst HL
        go_wp2_with (at_builtin; refine wp_push elem_str rfl _ _ rfl HOWN.out [.string (s.extract fr s.size)] rfl (strs_one [(s.extract fr s.size)]) rfl rfl HAL.out HBW.out.size ?_; intro v9 w9 hn9 hg9 hb9; have HO9 := Lib.hid hn9; have HB9 := Lib.hid (HBW.out.trans hb9); clear hn9 hg9 hb9)
        go_ret
        exact ⟨_, rfl, by rw [HF.out, List.length_append, List.map_append]; exact HO9.out, HB9.out⟩
    case pos =>
      have hst := HL.out
      rw [show s.size - k = (s.size - (k + 1)) + 1 by omega, lnF, dif_pos hlt] at hst
      by_cases h10 : s[k] = 10
      case pos =>
        rw [if_pos h10] at hst
        have hq := beqB s[k] 10 (by rw [h10]; rfl)
        have HN : Hid (ll = (acc ++ [s.extract fr (k + 1)]) ++ lnF s (s.size - (k + 1)) (k + 1) (k + 1)) := by unfold Hid; rw [hst, List.append_assoc]; rfl
        clear hst h10 HL
        go_wp2_with (at_builtin; refine wp_push elem_str rfl _ _ rfl HOWN.out [.string (s.extract fr (k + 1))] rfl (strs_one [(s.extract fr (k + 1))]) rfl rfl HAL.out HBW.out.size ?_; intro v9 w9 hn9 hg9 hb9; have HO9 := Lib.hid hn9; have HB9 := Lib.hid (HBW.out.trans hb9); clear hn9 hg9 hb9)
        exact ⟨⟨k + 1, k + 1, acc ++ [s.extract fr (k + 1)], by go_num, by go_num, Nat.le_refl _, by omega, by rw [List.length_append]; simp; omega, by unfold Hid; rw [List.length_append, List.map_append]; exact HO9.out, HN.out, HB9.out⟩, by simp [intOf]; omega⟩
      case neg =>
        rw [if_neg h10] at hst
        have hq := beqNB s[k] 10 (fun h => h10 (UInt8.toNat_inj.1 (show s[k].toNat = 10 by omega)))
        have HN := Lib.hid hst
        clear hst h10 HL
        go_wp2_with fail
        exact ⟨⟨k + 1, fr, acc, by go_num, rfl, by omega, by omega, by omega, HOWN.out, HN.out, HBW.out⟩, by simp [intOf]; omega⟩
end Go.Proofs.YtlnpfpjncnkekaaGreatDoor
