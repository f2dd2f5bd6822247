/- datakitref15.digits walked. Conditions: strings of at most 10^8 bytes. -/
import Derived.Test.YtpkecepelcppiaaGreatDoorZd14
import Derived.Test.YtpkecepelcppiaaGreatDoorZd1
import Derived.Test.YtpkecepelcppiaaGreatDoorZd0
import Derived.StillTailTactics
import Derived.Deep.DeepCutAuto
import Derived.Deep.CutBlock
import Derived.Deep.QuietTactic
import Derived.BigQuiet
import Derived.Test.YtpkecepelcppiaaGreatDoorZd3
namespace Go.Proofs.YtpkecepelcppiaaGreatDoor
open Go.RowKit
set_option maxHeartbeats 4000000
set_option maxRecDepth 100000

def StrQ (l : List UInt8) (w : World) (e : Ending) (w' : World) : Prop := (∃ u : ByteArray, e = .returned (.string u) ∧ L u = l) ∧ Below w.heap.size w w'
theorem sign_idx0 : ∀ n : Fin 256, decide (Lib.indexByte signR (UInt8.ofNat n.val) < 0) = decide (UInt8.ofNat n.val ∉ signR) := by decide +kernel
theorem row_any (op : Int) (w : World) : Calls Tryz.prog 155 #[.int .i64 op] w fun e w' => e = .returned (.int .i64 (rowR op : Nat)) ∧ w = w' := by
 obtain ⟨r, hr⟩ : ∃ r : Nat, r = rowR op := ⟨_, rfl⟩
 rw [← hr]
 have HR : Hid (r = if op = 4 then 1 else if op = 6 then 2 else if op = 3 then 3 else if op = 7 then 4 else if op = 5 then 5 else 6) := hr
 clear hr
 go_enter Tryz.func155, Tryz.ntmps155
 go_wp2_with fail
 all_goals
  go_ret
  refine ⟨?_, rfl⟩
  rw [HR.out]
  simp_all
theorem sign_idx (b : Nat) (h : b ≤ 255) : (Lib.indexByte signR (UInt8.ofNat b) < 0) ↔ UInt8.ofNat b ∉ signR := by
 have := sign_idx0 ⟨b, by omega⟩
 simp only at this
 constructor
 ·intro h
  rw [decide_eq_true h] at this
  exact of_decide_eq_true this.symm
 ·intro h
  rw [decide_eq_true h] at this
  exact of_decide_eq_true this
theorem hex_one0 : ∀ n : Fin 16, L ((⟨#[48, 49, 50, 51, 52, 53, 54, 55, 56, 57, 97, 98, 99, 100, 101, 102]⟩ : ByteArray).extract n.val (n.val + 1)) = [hexR n.val] := by decide +kernel
theorem hex_one (n : Nat) (h : n < 16) : L ((⟨#[48, 49, 50, 51, 52, 53, 54, 55, 56, 57, 97, 98, 99, 100, 101, 102]⟩ : ByteArray).extract n (n + 1)) = [hexR n] := hex_one0 ⟨n, h⟩
theorem conv_one (w : World) (a : Int) : (convert 56 9 (.slice (some ⟨w.heap.size, 0, none⟩) 1 1)).run Tryz.prog (w.alloc (.cells #[.int .u8 a] 5)) = .ok (.string ⟨#[UInt8.ofNat a.toNat]⟩) (w.alloc (.cells #[.int .u8 a] 5)) := by
 refine run_convert_bytes_arg (P := Tryz.prog) _ 56 5 Tryz.underlying56 Tryz.underlying5 w.heap.size 0 1 1 [a] rfl (fun i hi => ?_) 9 Tryz.underlying9
 obtain rfl : i = 0 := by simp at hi; omega
 exact cell_of_row (w.alloc (.cells #[.int .u8 a] 5)) w.heap.size _ _ _ (0, 0) (heap_alloc_new w _)
theorem and15i : ∀ n : Fin 256, bits .and .i64 (n.val : Int) 15 = ((n.val % 16 : Nat) : Int) := by decide +kernel
theorem byteP_any (b : Nat) (hb : b ≤ 255) (w : World) : Calls Tryz.prog 131 #[.int .i64 (b : Int)] w (StrQ (byteT b) w) := by
 have hidx := Lib.hid (fun w' => Tryz.strings_IndexByte ⟨#[124, 38, 33, 42, 43, 63, 123, 125, 40, 41, 91, 93, 46, 92]⟩ (b : Int) w')
 obtain ⟨q, hq⟩ : ∃ q, q = decide (33 ≤ b ∧ b ≤ 126 ∧ UInt8.ofNat b ∉ signR) := ⟨_, rfl⟩
 have HQ := Lib.hid hq
 clear hq
 have HB := Lib.hid hb
 clear hb
 go_enter Tryz.func131, Tryz.ntmps131
 go_upto_region 1 with fail
 go_cut [14] (fun v wx => v = .bool q ∧ w = wx)
 case first =>
  by_cases h1 : 33 ≤ b
  case neg =>
   have HF : Hid (q = false) := by unfold Hid; rw [HQ.out, decide_eq_false (fun h => h1 h.1)]
   have e1 : ((33 : Int) ≤ b) = False := eq_false (by omega)
   clear h1
   go_wp2_with fail
   go_meet
   exact ⟨by rw [HF.out], rfl⟩
  by_cases h2 : b ≤ 126
  case neg =>
   have HF : Hid (q = false) := by unfold Hid; rw [HQ.out, decide_eq_false (fun h => h2 h.2.1)]
   have e1 : ((33 : Int) ≤ b) = True := eq_true (by omega)
   have e2 : ((b : Int) ≤ 126) = False := eq_false (by omega)
   clear h1 h2
   go_wp2_with fail
   go_meet
   exact ⟨by rw [HF.out], rfl⟩
  have e1 : ((33 : Int) ≤ b) = True := eq_true (by omega)
  have e2 : ((b : Int) ≤ 126) = True := eq_true (by omega)
  have HK : Hid (33 ≤ b ∧ b ≤ 126) := ⟨h1, h2⟩
  clear h1 h2
  have HK2 := Lib.hid (hidx.out w)
  go_wp2_with fail
  have hmod : ((b : Int) % 256) = b := by have := HK.out; omega
  rw [hmod]
  refine HK2.out.mono ?_
  rintro e w1 ⟨rfl, rfl⟩
  have hX : (Lib.indexByte (⟨#[124, 38, 33, 42, 43, 63, 123, 125, 40, 41, 91, 93, 46, 92]⟩ : ByteArray).data.toList ((b : Int)).toNat.toUInt8) = Lib.indexByte signR (UInt8.ofNat b) := rfl
  rw [hX]
  have hq2 : (Lib.indexByte signR (UInt8.ofNat b) < 0) = (q = true) := by
   rw [HQ.out]
   apply propext
   rw [decide_eq_true_eq, sign_idx b HB.out]
   exact ⟨fun h => ⟨HK.out.1, HK.out.2, h⟩, fun h => h.2.2⟩
  clear hX hmod HK2 HQ
  generalize Lib.indexByte signR (UInt8.ofNat b) = ix at *
  cases q
  ·have e3 : (ix < 0) = False := by rw [hq2]; simp
   clear hq2
   go_wp2_with fail
   go_meet
   exact ⟨rfl, rfl⟩
  ·have e3 : (ix < 0) = True := by rw [hq2]; simp
   clear hq2
   go_wp2_with fail
   go_meet
   exact ⟨rfl, rfl⟩
 case rest =>
 obtain ⟨rfl, rfl⟩ := hcut
 cases q with
 | true =>
  have hqq := of_decide_eq_true HQ.out.symm
  have HF : Hid (byteT b = [UInt8.ofNat b]) := by unfold Hid byteT; rw [if_pos hqq]
  clear hqq
  have hmod : ((b : Int) % 256) = b := by have := HB.out; omega
  have hcv := conv_one w (b : Int)
  go_wp2_with fail
  go_ret
  refine ⟨⟨_, rfl, ?_⟩, (Below.refl _ _).alloc (Nat.le_refl _) _⟩
  rw [HF.out]
  rfl
 | false =>
  have hqq := of_decide_eq_false HQ.out.symm
  have HF : Hid (byteT b = [92, 120, hexR (b / 16), hexR (b % 16)]) := by unfold Hid byteT; rw [if_neg hqq]
  clear hqq
  have hb : b < 256 := by have := HB.out; omega
  have h15 := and15i ⟨b, hb⟩
  simp only at h15
  go_upto_region 3 with fail
  go_quiet (fail)
  go_wp2_with fail
  go_ret
  refine ⟨⟨_, rfl, ?_⟩, rfl, rfl, rfl, Nat.le_refl _, fun _ _ => rfl⟩
  rw [HF.out]
  rw [L_append, L_append, hex_one _ (by omega), hex_one _ (by omega)]
  rfl
theorem decT_small (n : Nat) (h : n < 100) : Lib.decDigits n = decT n := by
 unfold decT
 by_cases h1 : n < 10
 ·rw [if_pos h1, Lib.decDigits_one h1]
 ·rw [if_neg h1, if_pos h, Lib.decDigits_two h1 h]
theorem itoa_any (n : Nat) (h : n < 100) (w : World) : Calls Tryz.prog 122 #[.int .i64 (n : Int)] w fun e w' => e = .returned (.string ⟨(decT n).toArray⟩) ∧ w' = w := by
 rw [← decT_small n h]
 exact Tryz.strconv_Itoa_small n h w
theorem decT_len (n : Nat) : (decT n).length ≤ 3 := by
 unfold decT
 split
 ·simp
 split <;> simp
theorem bounds_any (mn : Nat) (mx : Int) (h1 : mn ≤ 64) (h2 : mx = -1 ∨ (0 ≤ mx ∧ mx ≤ 64)) (w : World) :
  Calls Tryz.prog 134 #[.int .i64 (mn : Int), .int .i64 mx] w (StrQ (bndT mn mx) w) := by
 obtain ⟨r, hr⟩ : ∃ r, r = bndT mn mx := ⟨_, rfl⟩
 rw [← hr]
 unfold bndT at hr
 rw [Int.toNat_natCast] at hr
 have HI := Lib.hid (fun w' => itoa_any mn (by omega) w')
 have hl1 := decT_len mn
 obtain ⟨t1, ht1⟩ : ∃ t1 : ByteArray, (⟨(decT mn).toArray⟩ : ByteArray) = t1 := ⟨_, rfl⟩
 have hL1 : L t1 = decT mn := by rw [← ht1, L_mk]
 have hz1 : t1.size ≤ 3 := by rw [← L_len, hL1]; exact hl1
 rw [ht1] at HI
 have HL1 := Lib.hid hL1
 clear ht1 hL1 hl1
 by_cases c1 : mn = 0 ∧ mx = -1
 ·obtain ⟨rfl, rfl⟩ := c1
  rw [if_pos ⟨rfl, rfl⟩] at hr
  have HR := Lib.hid hr
  clear hr h1 h2 hz1
  go_enter Tryz.func134, Tryz.ntmps134
  go_wp2_with fail
  go_ret
  exact ⟨⟨_, rfl, by rw [HR.out]; rfl⟩, Below.refl _ _⟩
 rw [if_neg (by omega)] at hr
 by_cases c2 : mn = 1 ∧ mx = -1
 ·obtain ⟨rfl, rfl⟩ := c2
  rw [if_pos ⟨rfl, rfl⟩] at hr
  have HR := Lib.hid hr
  clear hr h1 h2 hz1 c1
  go_enter Tryz.func134, Tryz.ntmps134
  go_wp2_with fail
  go_ret
  exact ⟨⟨_, rfl, by rw [HR.out]; rfl⟩, Below.refl _ _⟩
 rw [if_neg (by omega)] at hr
 by_cases c3 : mn = 0 ∧ mx = 1
 ·obtain ⟨rfl, rfl⟩ := c3
  rw [if_pos ⟨rfl, rfl⟩] at hr
  have HR := Lib.hid hr
  clear hr h1 h2 hz1 c1 c2
  go_enter Tryz.func134, Tryz.ntmps134
  go_wp2_with fail
  go_ret
  exact ⟨⟨_, rfl, by rw [HR.out]; rfl⟩, Below.refl _ _⟩
 rw [if_neg (by omega)] at hr
 by_cases c4 : mx = -1
 ·subst c4
  rw [if_pos rfl] at hr
  have HR := Lib.hid hr
  have e0 : ((mn : Int) == 0) = false := beq_false_of_ne (by omega)
  have e1 : ((mn : Int) == 1) = false := beq_false_of_ne (by omega)
  clear hr h1 h2 c1 c2 c3
  go_enter Tryz.func134, Tryz.ntmps134
  go_wp2_with fail
  refine (HI.out _).mono ?_
  rintro e w1 ⟨rfl, rfl⟩
  clear HI
  go_wp2_with fail
  go_ret
  refine ⟨⟨_, rfl, ?_⟩, Below.refl _ _⟩
  rw [HR.out, L_append, L_append, HL1.out]
  simp
  rfl
 ·rw [if_neg c4] at hr
  obtain ⟨m, rfl⟩ : ∃ m : Nat, mx = (m : Int) := ⟨mx.toNat, by omega⟩
  rw [Int.toNat_natCast] at hr
  have HI2 := Lib.hid (fun w' => itoa_any m (by omega) w')
  have hl2 := decT_len m
  obtain ⟨t2, ht2⟩ : ∃ t2 : ByteArray, (⟨(decT m).toArray⟩ : ByteArray) = t2 := ⟨_, rfl⟩
  have hL2 : L t2 = decT m := by rw [← ht2, L_mk]
  have hz2 : t2.size ≤ 3 := by rw [← L_len, hL2]; exact hl2
  rw [ht2] at HI2
  have HL2 := Lib.hid hL2
  have HR := Lib.hid hr
  have e0 : ((m : Int) == -1) = false := beq_false_of_ne (by omega)
  clear ht2 hL2 hl2 hr c4 c1 c2 h1 h2
  by_cases z : mn = 0
  ·subst z
   have f2 : ((m : Int) == 1) = false := beq_false_of_ne (by omega)
   clear c3
   go_enter Tryz.func134, Tryz.ntmps134
   go_wp2_with fail
   refine (HI.out _).mono ?_
   rintro e w1 ⟨rfl, rfl⟩
   clear HI
   go_wp2_with fail
   refine (HI2.out _).mono ?_
   rintro e w1 ⟨rfl, rfl⟩
   clear HI2
   go_wp2_with fail
   go_ret
   refine ⟨⟨_, rfl, ?_⟩, Below.refl _ _⟩
   rw [HR.out, L_append, L_append, L_append, L_append, HL1.out, HL2.out]
   simp
   rfl
  by_cases z1 : mn = 1
  ·subst z1
   clear c3 z
   go_enter Tryz.func134, Tryz.ntmps134
   go_wp2_with fail
   refine (HI.out _).mono ?_
   rintro e w1 ⟨rfl, rfl⟩
   clear HI
   go_wp2_with fail
   refine (HI2.out _).mono ?_
   rintro e w1 ⟨rfl, rfl⟩
   clear HI2
   go_wp2_with fail
   go_ret
   refine ⟨⟨_, rfl, ?_⟩, Below.refl _ _⟩
   rw [HR.out, L_append, L_append, L_append, L_append, HL1.out, HL2.out]
   simp
   rfl
  ·have f1 : ((mn : Int) == 0) = false := beq_false_of_ne (by omega)
   have f2 : ((mn : Int) == 1) = false := beq_false_of_ne (by omega)
   clear c3 z z1
   go_enter Tryz.func134, Tryz.ntmps134
   go_wp2_with fail
   refine (HI.out _).mono ?_
   rintro e w1 ⟨rfl, rfl⟩
   clear HI
   go_wp2_with fail
   refine (HI2.out _).mono ?_
   rintro e w1 ⟨rfl, rfl⟩
   clear HI2
   go_wp2_with fail
   go_ret
   refine ⟨⟨_, rfl, ?_⟩, Below.refl _ _⟩
   rw [HR.out, L_append, L_append, L_append, L_append, HL1.out, HL2.out]
   simp
   rfl
end Go.Proofs.YtpkecepelcppiaaGreatDoor

namespace Go.Proofs.YtpkecepelcppiaaGreatDoor
open Go.RowKit
set_option maxHeartbeats 4000000
set_option maxRecDepth 100000

theorem byteR_any (b : Nat) (hb : b ≤ 255) (w : World) : Calls Tryz.prog 136 #[.int .i64 (b : Int)] w (StrQ (byteT b) w) := by
 obtain ⟨q, hq⟩ : ∃ q, q = decide (33 ≤ b ∧ b ≤ 126 ∧ UInt8.ofNat b ∉ signR) := ⟨_, rfl⟩
 have HQ := Lib.hid hq
 clear hq
 have HB := Lib.hid hb
 clear hb
 have HX : Hid (q = false → byteT b = [92, 120, hexR (b / 16), hexR (b % 16)]) := by
  intro h
  rw [HQ.out] at h
  unfold byteT
  rw [if_neg (of_decide_eq_false h)]
 go_enter Tryz.func136, Tryz.ntmps136
 go_upto_region 1 with fail
 go_cut [9] (fun v wx => v = .bool (decide (b < 33 ∨ 126 < b)) ∧ w = wx)
 case first =>
  by_cases h1 : b < 33
  ·have e1 : ((b : Int) < 33) = True := eq_true (by omega)
   have e2 := decide_eq_true (show b < 33 ∨ 126 < b from .inl h1)
   go_wp2_with fail
   go_meet
   exact ⟨by rw [e2], rfl⟩
  ·have e1 : ((b : Int) < 33) = False := eq_false (by omega)
   by_cases h2 : 126 < b
   ·have e3 : ((126 : Int) < b) = True := eq_true (by omega)
    have e2 := decide_eq_true (show b < 33 ∨ 126 < b from .inr h2)
    go_wp2_with fail
    go_meet
    exact ⟨by rw [e2], rfl⟩
   ·have e3 : ((126 : Int) < b) = False := eq_false (by omega)
    have e2 := decide_eq_false (show ¬ (b < 33 ∨ 126 < b) by omega)
    go_wp2_with fail
    go_meet
    exact ⟨by rw [e2], rfl⟩
 case rest =>
 obtain ⟨rfl, rfl⟩ := hcut
 by_cases hout : b < 33 ∨ 126 < b
 ·rw [decide_eq_true hout] at *
  have HF := Lib.hid (HX.out (by rw [HQ.out]; exact decide_eq_false (by omega)))
  have hb : b < 256 := by have := HB.out; omega
  clear hout
  go_upto_region 2 with fail
  go_quiet (fail)
  go_wp2_with fail
  go_ret
  refine ⟨⟨_, rfl, ?_⟩, rfl, rfl, rfl, Nat.le_refl _, fun _ _ => rfl⟩
  rw [HF.out]
  rw [L_append, L_append, hex_one _ (by omega), hex_one _ (by omega)]
  rfl
 ·rw [decide_eq_false hout] at *
  have HO := Lib.hid hout
  clear hout
  go_wp2_with fail
  go_loop [2, 3] (fun _ iv => ∃ k : Nat, k ≤ 14 ∧ iv = .int .i64 (k : Int) ∧ Hid (UInt8.ofNat b ∉ signR.take k)) (fun _ iv => 14 - (intOf iv).toNat)
  case atStart => exact ⟨0, by omega, rfl, by unfold Hid; simp⟩
  case round =>
   obtain ⟨k, hk, rfl, HK⟩ := hrel
   by_cases hlt : k < 14
   case neg =>
    have e1 : ((k : Int) < 14) = False := eq_false (by omega)
    have HF : Hid (byteT b = [UInt8.ofNat b]) := by
     have h1 := HK.out
     have h2 := HO.out
     rw [List.take_of_length_le (by show 14 ≤ k; omega)] at h1
     unfold Hid byteT
     rw [if_pos ⟨by omega, by omega, h1⟩]
    have hmod : ((b : Int) % 256) = b := by have := HB.out; omega
    have hcv := conv_one w (b : Int)
    go_wp2_with fail
    go_ret
    refine ⟨⟨_, rfl, ?_⟩, (Below.refl _ _).alloc (Nat.le_refl _) _⟩
    rw [HF.out]
    rfl
   case pos =>
    have e1 : ((k : Int) < 14) = True := eq_true (by omega)
    have hk14 : k < signR.length := hlt
    have hw : wrap64 (((⟨#[124, 38, 33, 42, 43, 63, 123, 125, 40, 41, 91, 93, 46, 92]⟩ : ByteArray)[k]'hlt).toNat : Int) = (signR[k].toNat : Int) := by
     have h1 : ((⟨#[124, 38, 33, 42, 43, 63, 123, 125, 40, 41, 91, 93, 46, 92]⟩ : ByteArray)[k]'hlt) = signR[k] := rfl
     rw [h1]
     have := signR[k].toNat_lt
     unfold wrap64
     omega
    by_cases hc : UInt8.ofNat b = signR[k]
    ·have ht : (wrap64 (((⟨#[124, 38, 33, 42, 43, 63, 123, 125, 40, 41, 91, 93, 46, 92]⟩ : ByteArray)[k]'hlt).toNat : Int) == (b : Int)) = true := by
      rw [hw, ← hc, beq_iff_eq]
      have := HB.out
      have h2 : (UInt8.ofNat b).toNat = b % 256 := rfl
      rw [h2]
      omega
     have HF : Hid (byteT b = [92, 120, hexR (b / 16), hexR (b % 16)]) := by
      have h1 : UInt8.ofNat b ∈ signR := by rw [hc]; exact List.getElem_mem hk14
      unfold Hid byteT
      rw [if_neg (fun h => h.2.2 h1)]
     have hb : b < 256 := by have := HB.out; omega
     clear hw hc
     go_upto_region 7 with fail
     go_quiet (fail)
     go_wp2_with fail
     go_ret
     refine ⟨⟨_, rfl, ?_⟩, rfl, rfl, rfl, Nat.le_refl _, fun _ _ => rfl⟩
     rw [HF.out]
     rw [L_append, L_append, hex_one _ (by omega), hex_one _ (by omega)]
     rfl
    ·have ht : (wrap64 (((⟨#[124, 38, 33, 42, 43, 63, 123, 125, 40, 41, 91, 93, 46, 92]⟩ : ByteArray)[k]'hlt).toNat : Int) == (b : Int)) = false := by
      rw [hw, beq_eq_false_iff_ne]
      intro h
      apply hc
      have h2 : signR[k].toNat = b := by omega
      rw [← h2]
      exact UInt8.ofNat_toNat
     have HK2 : Hid (UInt8.ofNat b ∉ signR.take (k + 1)) := by
      have h1 := HK.out
      unfold Hid
      rw [List.take_succ_eq_append_getElem hk14, List.mem_append, List.mem_singleton]
      rintro (h | h)
      ·exact h1 h
      ·exact hc h
     clear hw hc
     go_wp2_with fail
     exact ⟨⟨k + 1, by omega, by simp, HK2.out⟩, by simp [intOf]; omega⟩
end Go.Proofs.YtpkecepelcppiaaGreatDoor

namespace Go.Proofs.YtpkecepelcppiaaGreatDoor
open Go.RowKit Go.Shelf
set_option maxHeartbeats 4000000
set_option maxRecDepth 100000

def hdI : List UInt8 → Int
 | [] => -1
 | c :: _ => (c.toNat : Int)
theorem hdI_le (l : List UInt8) : -1 ≤ hdI l ∧ hdI l ≤ 255 := by
 cases l with
 | nil => exact ⟨by decide, by decide⟩
 | cons c t =>
  have := c.toNat_lt
  show -1 ≤ (c.toNat : Int) ∧ (c.toNat : Int) ≤ 255
  omega
theorem hdI_at (l : List UInt8) (i : Nat) : hdI (l.drop i) = match l[i]? with | none => -1 | some c => (c.toNat : Int) := by
 by_cases h : i < l.length
 ·rw [List.drop_eq_getElem_cons h, List.getElem?_eq_getElem h]
  rfl
 ·rw [List.drop_of_length_le (by omega), List.getElem?_eq_none (by omega)]
  rfl
theorem at_any (s : ByteArray) (i : Nat) (hs : s.size ≤ 100000000) (hi : i ≤ 1000000000) (w : World) :
  Calls Tryz.prog 101 #[.string s, .int .i64 (i : Int)] w fun e w' => e = .returned (.int .i64 (hdI ((L s).drop i))) ∧ w = w' := by
 have hsi : (s.size : Int) ≤ 100000000 := by omega
 have h0 : ¬ (i : Int) < 0 := by omega
 by_cases hlt : i < s.size
 ·have HV : Hid (hdI ((L s).drop i) = (s[i].toNat : Int)) := by
   unfold Hid
   rw [L_drop s i hlt]
   rfl
  have hb8 : s[i].toNat < 256 := s[i].toNat_lt
  have hwr : IntKind.i64.wrap (s[i].toNat : Int) = (s[i].toNat : Int) := IntWalk.i64_in _ (by omega)
  have hwr2 : wrap64 (s[i].toNat : Int) = (s[i].toNat : Int) := by unfold wrap64; omega
  have hii : ¬ (s.size : Int) ≤ (i : Int) := by omega
  have hii2 : (i : Int) < s.size := by omega
  clear hs hi
  go_enter Tryz.func101, Tryz.ntmps101
  go_wp2_with fail
  go_ret
  exact ⟨by (rw [HV.out]; rfl), rfl⟩
 ·have HV : Hid (hdI ((L s).drop i) = -1) := by
   unfold Hid
   rw [List.drop_of_length_le (by rw [L_len]; omega)]
   rfl
  have hii : (s.size : Int) ≤ (i : Int) := by omega
  clear hs hi hlt
  go_enter Tryz.func101, Tryz.ntmps101
  go_wp2_with fail
  go_ret
  exact ⟨by (rw [HV.out]; rfl), rfl⟩
def hexI (c : Int) : Int := if 48 ≤ c ∧ c ≤ 57 then c - 48 else if 97 ≤ c ∧ c ≤ 102 then c - 87 else -1
theorem hexI_any (c : Int) (hc : -1 ≤ c ∧ c ≤ 255) (w : World) :
  Calls Tryz.prog 189 #[.int .i64 c] w fun e w' => e = .returned (.int .i64 (hexI c)) ∧ w = w' := by
 have HV : Hid (hexI c = if 48 ≤ c ∧ c ≤ 57 then c - 48 else if 97 ≤ c ∧ c ≤ 102 then c - 87 else -1) := rfl
 generalize hexI c = r at *
 obtain ⟨h1, h2⟩ := hc
 by_cases k1 : 48 ≤ c
 ·by_cases k2 : c ≤ 57
  ·have HR : Hid (r = c - 48) := by unfold Hid; rw [HV.out, if_pos ⟨k1, k2⟩]
   clear HV
   go_enter Tryz.func189, Tryz.ntmps189
   go_wp2_with fail
   go_ret
   exact ⟨by (rw [HR.out]; rfl), rfl⟩
  ·by_cases k3 : 97 ≤ c
   ·by_cases k4 : c ≤ 102
    ·have HR : Hid (r = c - 97 + 10) := by unfold Hid; rw [HV.out, if_neg (by omega), if_pos ⟨k3, k4⟩]; omega
     clear HV
     go_enter Tryz.func189, Tryz.ntmps189
     go_wp2_with fail
     go_ret
     exact ⟨by (rw [HR.out]; rfl), rfl⟩
    ·have HR : Hid (r = -1) := by unfold Hid; rw [HV.out, if_neg (by omega), if_neg (by omega)]
     clear HV
     go_enter Tryz.func189, Tryz.ntmps189
     go_wp2_with fail
     go_ret
     exact ⟨by (rw [HR.out]; rfl), rfl⟩
   ·have HR : Hid (r = -1) := by unfold Hid; rw [HV.out, if_neg (by omega), if_neg (by omega)]
    clear HV
    go_enter Tryz.func189, Tryz.ntmps189
    go_wp2_with fail
    go_ret
    exact ⟨by (rw [HR.out]; rfl), rfl⟩
 ·have k3 : ¬ 97 ≤ c := by omega
  have HR : Hid (r = -1) := by unfold Hid; rw [HV.out, if_neg (by omega), if_neg (by omega)]
  clear HV
  go_enter Tryz.func189, Tryz.ntmps189
  go_wp2_with fail
  go_ret
  exact ⟨by (rw [HR.out]; rfl), rfl⟩
def LetO (s : ByteArray) (i : Nat) (o : Option (Nat × List UInt8)) (e : Ending) : Prop :=
 match o with
 | none => e = .returned (.tuple #[.int .i64 (-1), .int .i64 (i : Int)])
 | some (b, r) => ∃ k : Nat, i < k ∧ k ≤ s.size ∧ (L s).drop k = r ∧ b ≤ 255 ∧ e = .returned (.tuple #[.int .i64 (b : Int), .int .i64 (k : Int)])
theorem hexQ_I (c : UInt8) : hexI (c.toNat : Int) = match hexQ c with | none => -1 | some a => (a : Int) := by
 unfold hexI hexQ
 by_cases h1 : 48 ≤ c.toNat ∧ c.toNat ≤ 57
 ·rw [if_pos (by omega), if_pos h1]
  show (c.toNat : Int) - 48 = ((c.toNat - 48 : Nat) : Int)
  omega
 ·rw [if_neg (by omega), if_neg h1]
  by_cases h2 : 97 ≤ c.toNat ∧ c.toNat ≤ 102
  ·rw [if_pos (by omega), if_pos h2]
   show (c.toNat : Int) - 87 = ((c.toNat - 87 : Nat) : Int)
   omega
  ·rw [if_neg (by omega), if_neg h2]
end Go.Proofs.YtpkecepelcppiaaGreatDoor

namespace Go.Proofs.YtpkecepelcppiaaGreatDoor
open Go.RowKit Go.Shelf
set_option maxHeartbeats 4000000
set_option maxRecDepth 100000

end Go.Proofs.YtpkecepelcppiaaGreatDoor
