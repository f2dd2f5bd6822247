/- datakitref05.Text walked by kinds (printed by gen_mt5.py). Conditions: none. -/
import Derived.Test.YtlnpfpjncnkekaaGreatDoorZt32
import Derived.Test.YtlnpfpjncnkekaaGreatDoorZt20
import Derived.Test.YtlnpfpjncnkekaaGreatDoorZt25
import Derived.Test.YtlnpfpjncnkekaaGreatDoorZt16
import Derived.Test.YtlnpfpjncnkekaaGreatDoorZt19
import Derived.RegionTactic
import Derived.BigRegion
namespace Go.Proofs.YtlnpfpjncnkekaaGreatDoor
open Go.RowKit
set_option maxHeartbeats 4000000
set_option maxRecDepth 100000

/-! Texts: plain words. -/
def dateL (y m d : Nat) : List UInt8 := padL 4 y ++ ([45] ++ (padL 2 m ++ ([45] ++ padL 2 d)))
/-- Without the noughts at the end. -/
def stripZ (l : List UInt8) : List UInt8 := (l.reverse.dropWhile (fun b => decide (b.toNat = 48))).reverse
theorem stripZ_snoc (l : List UInt8) (b : UInt8) : stripZ (l ++ [b]) = if b.toNat = 48 then stripZ l else l ++ [b] := by
  unfold stripZ
  rw [List.reverse_append]
  show (List.dropWhile _ (b :: l.reverse)).reverse = _
  rw [List.dropWhile_cons]
  by_cases h : b.toNat = 48
  · rw [if_pos (decide_eq_true h), if_pos h]
  · rw [if_neg (by rw [decide_eq_true_iff]; exact h), if_neg h, List.reverse_cons, List.reverse_reverse]
def fracL (r : Nat) : List UInt8 := if r = 0 then [] else 46 :: stripZ (padL 9 r)
def clockL (n : Nat) : List UInt8 := padL 2 (n / 1000000000 / 3600) ++ ([58] ++ (padL 2 (n / 1000000000 / 60 % 60) ++ ([58] ++ (padL 2 (n / 1000000000 % 60) ++ fracL (n % 1000000000)))))
def offL (n : Int) : List UInt8 := if n = 0 then [90] else (if n < 0 then 45 else 43) :: (padL 2 (n.natAbs / 60) ++ ([58] ++ padL 2 (n.natAbs % 60)))
theorem valL_pad : ∀ (c n a : Nat), valL a (padL c n) = a * 10 ^ c + n % 10 ^ c
  | 0, n, a => by
    show a = a * 10 ^ 0 + n % 10 ^ 0
    rw [Nat.pow_zero, Nat.mul_one, Nat.mod_one, Nat.add_zero]
  | c + 1, n, a => by
    show valL (10 * a + ((UInt8.ofNat (48 + n / 10 ^ c % 10)).toNat - 48)) (padL c n) = _
    rw [ofn _ (by omega), Nat.add_sub_cancel_left, valL_pad c n, Nat.mod_pow_succ, Nat.pow_succ, Nat.add_mul, Nat.mul_comm 10 a, Nat.mul_assoc, Nat.mul_comm 10 (10 ^ c), Nat.mul_comm (n / 10 ^ c % 10)]
    omega
theorem valL_zero : ∀ l : List UInt8, (∀ b ∈ l, b.toNat = 48) → valL 0 l = 0
  | [], _ => rfl
  | b :: t, h => by
    show valL (10 * 0 + (b.toNat - 48)) t = 0
    rw [h b (List.mem_cons_self ..)]
    exact valL_zero t (fun c hc => h c (List.mem_cons_of_mem _ hc))
theorem stripZ_nil (l : List UInt8) (h : stripZ l = []) : ∀ b ∈ l, b.toNat = 48 := by
  unfold stripZ at h
  rw [List.reverse_eq_nil_iff] at h
  have key : ∀ m : List UInt8, m.dropWhile (fun b => decide (b.toNat = 48)) = [] → ∀ b ∈ m, b.toNat = 48 := by
    intro m
    induction m with
    | nil => exact fun _ b hb => by cases hb
    | cons c t ih =>
      intro hm b hb
      rw [List.dropWhile_cons] at hm
      by_cases h48 : c.toNat = 48
      · rw [if_pos (decide_eq_true h48)] at hm
        rcases List.mem_cons.1 hb with rfl | hb
        · exact h48
        · exact ih hm b hb
      · rw [if_neg (by rw [decide_eq_true_iff]; exact h48)] at hm
        cases hm
  exact fun b hb => key _ h b (List.mem_reverse.2 hb)
def strLen : Value → Nat
  | .string s => s.size
  | _ => 0
def StrP (l : List UInt8) (w : World) (e : Ending) (w' : World) : Prop := (∃ tb : ByteArray, e = .returned (.string tb) ∧ L tb = l) ∧ Below w.heap.size w w'
theorem digits_s (n wd : Nat) (w : World) (hn : n < 4000000000000000000) (hw : wd ≤ 100) (hw1 : 1 ≤ wd) :
    Calls Tryz.prog 99 #[.int .i64 (n : Int), .int .i64 (wd : Int)] w fun e w' => (∃ tb : ByteArray, e = .returned (.string tb) ∧ L tb = padL wd n ∧ tb.size = wd) ∧ Below w.heap.size w w' := by
  refine (digits_any n wd w hn hw hw1).mono ?_
  rintro e w' ⟨rfl, hb⟩
  exact ⟨⟨_, rfl, rfl, by rw [← L_len]; exact padL_len wd n⟩, hb⟩
theorem dateText_any (n : Nat) (w : World) (h : n ≤ 3652058) :
    Calls Tryz.prog 48 #[.int .i64 (n : Int)] w fun e w' => ∃ y m d, DateIs n y m d ∧ StrP (dateL y m d) w e w' := by
  have HDT := Lib.hid (fun w' => Date_any n w' h)
  go_enter Tryz.func48, Tryz.ntmps48
  go_wp2_with fail
  refine (HDT.out _).mono ?_
  rintro e w1 ⟨⟨y, m, d, hd, rfl⟩, hb1⟩
  have HD := Lib.hid hd
  have HB1 := Lib.hid hb1
  have hdd : d ≤ 31 := Nat.le_trans hd.d2 (monC_le y m)
  have H4 := Lib.hid (fun w' => digits_s y 4 w' (by have := hd.y2; omega) (by decide) (by decide))
  have H2 := Lib.hid (fun w' => digits_s m 2 w' (by have := hd.m2; omega) (by decide) (by decide))
  have H1 := Lib.hid (fun w' => digits_s d 2 w' (by omega) (by decide) (by decide))
  clear hd hb1 HDT
  go_wp2_with fail
  refine (H4.out _).mono ?_
  rintro e w2 ⟨⟨p2, rfl, hp2, hs2⟩, hb2⟩
  have HB2 := Lib.hid (HB1.out.trans (hb2.mono HB1.out.size))
  have HP2 := Lib.hid hp2
  clear hb2 hp2 H4
  go_wp2_with fail
  refine (H2.out _).mono ?_
  rintro e w3 ⟨⟨p3, rfl, hp3, hs3⟩, hb3⟩
  have HB3 := Lib.hid (HB2.out.trans (hb3.mono HB2.out.size))
  have HP3 := Lib.hid hp3
  clear hb3 hp3 H2
  go_wp2_with fail
  refine (H1.out _).mono ?_
  rintro e w4 ⟨⟨p4, rfl, hp4, hs4⟩, hb4⟩
  have HB4 := Lib.hid (HB3.out.trans (hb4.mono HB3.out.size))
  have HP4 := Lib.hid hp4
  clear hb4 hp4 H1
  go_wp2_with fail
  go_ret
  refine ⟨y, m, d, HD.out, ⟨_, rfl, ?_⟩, HB4.out⟩
  simp only [L_append, HP2.out, HP3.out, HP4.out, List.append_assoc]
  rfl
theorem clockText_any (n : Nat) (w : World) (h : n < 360000000000000) :
    Calls Tryz.prog 49 #[.int .i64 (n : Int)] w (StrP (clockL n) w) := by
  have e1 : ((n : Int) / 1000000000) = ((n / 1000000000 : Nat) : Int) := by omega
  have e2 : ((n : Int) % 1000000000) = ((n % 1000000000 : Nat) : Int) := by omega
  have HF : Hid (clockL n = padL 2 (n / 1000000000 / 3600) ++ ([58] ++ (padL 2 (n / 1000000000 / 60 % 60) ++ ([58] ++ (padL 2 (n / 1000000000 % 60) ++ fracL (n % 1000000000)))))) := rfl
  have hsb : n / 1000000000 < 360000 := by omega
  have hrb : n % 1000000000 < 1000000000 := Nat.mod_lt _ (by decide)
  generalize clockL n = R at *
  have HE1 := Lib.hid e1
  have HE2 := Lib.hid e2
  generalize n / 1000000000 = sc at *
  generalize n % 1000000000 = r at *
  have f1 : ((sc : Int) / 3600) = ((sc / 3600 : Nat) : Int) := by omega
  have f2 : ((sc : Int) / 60 % 60) = ((sc / 60 % 60 : Nat) : Int) := by omega
  have f3 : ((sc : Int) % 60) = ((sc % 60 : Nat) : Int) := by omega
  have H4 := Lib.hid (fun w' => digits_s (sc / 3600) 2 w' (by omega) (by decide) (by decide))
  have H2 := Lib.hid (fun w' => digits_s (sc / 60 % 60) 2 w' (by omega) (by decide) (by decide))
  have H1 := Lib.hid (fun w' => digits_s (sc % 60) 2 w' (by omega) (by decide) (by decide))
  have H9 := Lib.hid (fun w' => digits_s r 9 w' (by omega) (by decide) (by decide))
  rw [← f1] at H4
  rw [← f2] at H2
  rw [← f3] at H1
  clear f1 f2 f3 e1 e2
  go_enter Tryz.func49, Tryz.ntmps49
  go_upto_region 2 with fail
  rw [HE1.out]
  rw [HE2.out]

  go_wp2_with fail
  refine (H4.out _).mono ?_
  rintro e w1 ⟨⟨p1, rfl, hp1, hs1⟩, hb1⟩
  have HB1 := Lib.hid hb1
  have HP1 := Lib.hid hp1
  clear hb1 hp1 H4
  go_wp2_with fail
  refine (H2.out _).mono ?_
  rintro e w2 ⟨⟨p2, rfl, hp2, hs2⟩, hb2⟩
  have HB2 := Lib.hid (HB1.out.trans (hb2.mono HB1.out.size))
  have HP2 := Lib.hid hp2
  clear hb2 hp2 H2
  go_wp2_with fail
  refine (H1.out _).mono ?_
  rintro e w3 ⟨⟨p3, rfl, hp3, hs3⟩, hb3⟩
  have HB3 := Lib.hid (HB2.out.trans (hb3.mono HB2.out.size))
  have HP3 := Lib.hid hp3
  clear hb3 hp3 H1
  by_cases hr : r = 0
  · subst hr
    go_wp2_with fail
    go_ret
    refine ⟨⟨_, rfl, ?_⟩, HB3.out⟩
    rw [HF.out]
    simp only [L_append, HP1.out, HP2.out, HP3.out, List.append_assoc]
    rfl
  have hri : ((r : Int) == 0) = false := by rw [beq_eq_false_iff_ne]; omega
  have HR := Lib.hid hr
  clear hr
  go_wp2_with fail
  refine (H9.out _).mono ?_
  rintro e w4 ⟨⟨p4, rfl, hp4, hs4⟩, hb4⟩
  have HB4 := Lib.hid (HB3.out.trans (hb4.mono HB3.out.size))
  have HP4 := Lib.hid hp4
  clear hb4 hp4 H9
  obtain ⟨ps, hps⟩ : ∃ ps : ByteArray, p1 ++ ⟨#[58]⟩ ++ p2 ++ ⟨#[58]⟩ ++ p3 = ps := ⟨_, rfl⟩
  have HPS : Hid (L ps = padL 2 (sc / 3600) ++ ([58] ++ (padL 2 (sc / 60 % 60) ++ ([58] ++ padL 2 (sc % 60))))) := by
    unfold Hid
    rw [← hps]
    simp only [L_append, HP1.out, HP2.out, HP3.out, List.append_assoc]
    rfl
  have hss : ps.size = 8 := by
    have := L_len ps
    rw [HPS.out] at this
    simp only [List.length_append, padL_len, List.length_cons, List.length_nil] at this
    omega
  rw [hps]
  clear hps
  have HZN : Hid (stripZ (padL 9 r) ≠ []) := fun h => HR.out (by
    have h1 := valL_pad 9 r 0
    rw [valL_zero _ (stripZ_nil _ h), Nat.mod_eq_of_lt (show r < 10 ^ 9 from hrb)] at h1
    omega)
  generalize hZ : stripZ (padL 9 r) = Z at *
  have HZ := Lib.hid hZ
  clear hZ
  go_wp2_with fail
  go_loopw [6] (fun fv wr => ∃ f : ByteArray, fv = .string f ∧ f.size ≤ 9 ∧ Hid (stripZ (L f) = Z) ∧ w4 = wr) (fun fv _ => strLen fv)
  case atStart => exact ⟨p4, rfl, by omega, by unfold Hid; rw [HP4.out]; exact HZ.out, rfl⟩
  case round =>
    obtain ⟨f, rfl, hf9, HFZ, rfl⟩ := hrel
    have hfp : 0 < f.size := by
      rcases Nat.eq_zero_or_pos f.size with h0 | h0
      · have hn : L f = [] := List.eq_nil_of_length_eq_zero (by rw [L_len]; exact h0)
        have := HFZ.out
        rw [hn] at this
        exact absurd this.symm HZN.out
      · exact h0
    have hsn : L f = (L f).take (f.size - 1) ++ [f[f.size - 1]] := by
      have := L_take_succ f (f.size - 1) (by omega)
      rwa [show f.size - 1 + 1 = f.size by omega, List.take_of_length_le (by rw [L_len]; exact Nat.le_refl _)] at this
    have hst := HFZ.out
    rw [hsn, stripZ_snoc] at hst
    have hkp : 1 ≤ (f.size : Int) := by omega
    have hkl : (f.size : Int) - 1 < (f.size : Int) := by omega
    by_cases h48 : f[f.size - 1].toNat = 48
    · rw [if_pos h48] at hst
      have hq := beqB f[f.size - 1] 48 (by omega)
      have hLe : L (f.extract 0 (f.size - 1)) = (L f).take (f.size - 1) := L_upto f _
      have HN : Hid (stripZ (L (f.extract 0 (f.size - 1))) = Z) := by unfold Hid; rw [hLe]; exact hst
      have hse : (f.extract 0 (f.size - 1)).size = f.size - 1 := by
        have := L_len (f.extract 0 (f.size - 1))
        rw [hLe, List.length_take, L_len] at this
        omega
      have HSE := Lib.hid hse
      clear hst hsn HFZ h48 hse hLe
      go_wp2_with fail
      exact ⟨⟨f.extract 0 (f.size - 1), rfl, by have := HSE.out; omega, HN.out, trivial⟩, by have := HSE.out; show (f.extract 0 (f.size - 1)).size < f.size; omega⟩
    · rw [if_neg h48, ← hsn] at hst
      have hq := beqNB f[f.size - 1] 48 (by omega)
      have HFN := Lib.hid hst
      clear hst hsn HFZ h48
      go_wp2_with fail
      go_ret
      refine ⟨⟨_, rfl, ?_⟩, HB4.out⟩
      rw [HF.out]
      unfold fracL
      rw [if_neg HR.out, HZ.out]
      simp only [L_append, HPS.out, HFN.out, List.append_assoc]
      rfl
theorem offsetText_any (n : Int) (w : World) (h1 : -1439 ≤ n) (h2 : n ≤ 1439) :
    Calls Tryz.prog 50 #[.int .i64 n] w (StrP (offL n) w) := by
  by_cases h0 : n = 0
  · subst h0
    go_enter Tryz.func50, Tryz.ntmps50
    go_wp2_with fail
    go_ret
    exact ⟨⟨_, rfl, rfl⟩, Below.refl _ _⟩
  by_cases hneg : n < 0
  · obtain ⟨m, rfl⟩ : ∃ m : Nat, n = -(m : Int) := ⟨n.natAbs, by omega⟩
    have hm1 : 1 ≤ m := by omega
    have hm2 : m ≤ 1439 := by omega
    have HF : Hid (offL (-(m : Int)) = 45 :: (padL 2 (m / 60) ++ ([58] ++ padL 2 (m % 60)))) := by unfold Hid offL; rw [if_neg h0, if_pos hneg, Int.natAbs_neg, Int.natAbs_natCast]
    have g0 : (-(m : Int) == 0) = false := by rw [beq_eq_false_iff_ne]; exact h0
    have gl : (-(m : Int) < 0) = True := eq_true hneg
    have H4 := Lib.hid (fun w' => digits_s (m / 60) 2 w' (by omega) (by decide) (by decide))
    have H2 := Lib.hid (fun w' => digits_s (m % 60) 2 w' (by omega) (by decide) (by decide))
    rw [show ((m / 60 : Nat) : Int) = (m : Int) / 60 by omega] at H4
    rw [show ((m % 60 : Nat) : Int) = (m : Int) % 60 by omega] at H2
    obtain ⟨R, hR⟩ : ∃ R, R = offL (-(m : Int)) := ⟨_, rfl⟩
    rw [← hR] at HF ⊢
    clear hR h0 hneg h1 h2
    go_enter Tryz.func50, Tryz.ntmps50
    go_wp2_with fail
    refine (H4.out _).mono ?_
    rintro e w1 ⟨⟨p1, rfl, hp1, hs1⟩, hb1⟩
    have HB1 := Lib.hid hb1
    have HP1 := Lib.hid hp1
    clear hb1 hp1 H4
    go_wp2_with fail
    refine (H2.out _).mono ?_
    rintro e w2 ⟨⟨p2, rfl, hp2, hs2⟩, hb2⟩
    have HB2 := Lib.hid (HB1.out.trans (hb2.mono HB1.out.size))
    have HP2 := Lib.hid hp2
    clear hb2 hp2 H2
    go_wp2_with fail
    go_ret
    refine ⟨⟨_, rfl, ?_⟩, HB2.out⟩
    rw [HF.out]
    simp only [L_append, HP1.out, HP2.out, List.append_assoc]
    rfl
  · obtain ⟨m, rfl⟩ : ∃ m : Nat, n = (m : Int) := ⟨n.natAbs, by omega⟩
    have hm1 : 1 ≤ m := by omega
    have hm2 : m ≤ 1439 := by omega
    have HF : Hid (offL (m : Int) = 43 :: (padL 2 (m / 60) ++ ([58] ++ padL 2 (m % 60)))) := by unfold Hid offL; rw [if_neg h0, if_neg hneg, Int.natAbs_natCast]
    have g0 : ((m : Int) == 0) = false := by rw [beq_eq_false_iff_ne]; exact h0
    have H4 := Lib.hid (fun w' => digits_s (m / 60) 2 w' (by omega) (by decide) (by decide))
    have H2 := Lib.hid (fun w' => digits_s (m % 60) 2 w' (by omega) (by decide) (by decide))
    rw [show ((m / 60 : Nat) : Int) = (m : Int) / 60 by omega] at H4
    rw [show ((m % 60 : Nat) : Int) = (m : Int) % 60 by omega] at H2
    obtain ⟨R, hR⟩ : ∃ R, R = offL (m : Int) := ⟨_, rfl⟩
    rw [← hR] at HF ⊢
    clear hR h0 hneg h1 h2
    go_enter Tryz.func50, Tryz.ntmps50
    go_wp2_with fail
    refine (H4.out _).mono ?_
    rintro e w1 ⟨⟨p1, rfl, hp1, hs1⟩, hb1⟩
    have HB1 := Lib.hid hb1
    have HP1 := Lib.hid hp1
    clear hb1 hp1 H4
    go_wp2_with fail
    refine (H2.out _).mono ?_
    rintro e w2 ⟨⟨p2, rfl, hp2, hs2⟩, hb2⟩
    have HB2 := Lib.hid (HB1.out.trans (hb2.mono HB1.out.size))
    have HP2 := Lib.hid hp2
    clear hb2 hp2 H2
    go_wp2_with fail
    go_ret
    refine ⟨⟨_, rfl, ?_⟩, HB2.out⟩
    rw [HF.out]
    simp only [L_append, HP1.out, HP2.out, List.append_assoc]
    rfl
end Go.Proofs.YtlnpfpjncnkekaaGreatDoor

namespace Go.Proofs.YtlnpfpjncnkekaaGreatDoor
open Go.RowKit
set_option maxHeartbeats 4000000
set_option maxRecDepth 100000

/-- The text of a time. -/
def tmL (k : Int) (y m d : Nat) (n : Nat) (o : Int) : List UInt8 :=
  if k = 1 then dateL y m d else if k = 2 then clockL n else if k = 3 then dateL y m d ++ ([84] ++ clockL n) else dateL y m d ++ ([84] ++ (clockL n ++ offL o))
theorem dateL_len (y m d : Nat) : (dateL y m d).length = 10 := by
  unfold dateL
  simp only [List.length_append, padL_len, List.length_cons, List.length_nil]
theorem stripZ_len (l : List UInt8) : (stripZ l).length ≤ l.length := by
  unfold stripZ
  rw [List.length_reverse]
  exact Nat.le_trans (List.dropWhile_sublist _).length_le (by rw [List.length_reverse]; exact Nat.le_refl _)
theorem clockL_len (n : Nat) : (clockL n).length ≤ 18 := by
  have h := stripZ_len (padL 9 (n % 1000000000))
  rw [padL_len] at h
  unfold clockL fracL
  simp only [List.length_append, padL_len, List.length_cons, List.length_nil]
  split
  · simp
  · simp only [List.length_cons]
    omega
theorem offL_len (n : Int) : (offL n).length ≤ 6 := by
  unfold offL
  split
  · simp
  · simp only [List.length_append, padL_len, List.length_cons, List.length_nil]
    omega
theorem drewBm (w : World) : Below w.heap.size w w.drew := ⟨rfl, rfl, rfl, Nat.le_refl _, fun _ _ => rfl⟩
theorem timeB_yes (k d n o : Int) (h : timeB k d n o = true) : 1 ≤ k ∧ k ≤ 4 ∧ 0 ≤ d ∧ d ≤ 3652058 ∧ 0 ≤ n ∧ n ≤ 86399999999999 ∧ -1439 ≤ o ∧ o ≤ 1439 ∧ (k = 2 → d = 0) ∧ (k = 1 → n = 0) ∧ (k ≠ 4 → o = 0) := by
  unfold timeB at h
  simp only [decide_eq_true_eq] at h
  omega

theorem MText1_any (d n : Nat) (o : Int) (w : World) (hv : timeB 1 (d : Int) (n : Int) o = true) :
    Calls Tryz.prog 17 #[.agg #[.int .i64 1, .int .i64 (d : Int), .int .i64 (n : Int), .int .i64 o]] w fun e w' => ∃ y m dd, DateIs d y m dd ∧ StrP (tmL 1 y m dd n o) w e w' := by
  obtain ⟨-, -, -, hd, -, hn, ho1, ho2, hk2, hk1, hk4⟩ := timeB_yes _ _ _ _ hv
  have HV := Lib.hid (fun w' => momValid_any 1 d n o w')
  rw [hv] at HV
  have HDT := Lib.hid (fun w' => dateText_any d w' (by omega))
  have HCL := Lib.hid (fun w' => clockText_any n w' (by omega))
  have HOF := Lib.hid (fun w' => offsetText_any o w' ho1 ho2)
  clear hv hd hn ho1 ho2 hk1 hk4
  clear hk2
  go_enter Tryz.func17, Tryz.ntmps17
  go_upto_region 1 with fail
  generalize hW : World.alloc w _ = w1
  obtain ⟨ha1, -, hz1, hb1⟩ := alloc_of hW
  have HB1 := Lib.hid hb1
  obtain ⟨c0, c1, c2, c3⟩ := row4 ha1
  clear hW hb1
  go_wp2_with fail
  refine (HV.out _).mono ?_
  rintro e w2 ⟨rfl, hb2⟩
  have HB2 := Lib.hid (HB1.out.trans (hb2.mono HB1.out.size))
  have ha2 := (hb2.block _ (by omega)).trans ha1
  have hz2 : w.heap.size < w2.heap.size := by have := hb2.size; omega
  clear c0 c1 c2 c3
  obtain ⟨c0, c1, c2, c3⟩ := row4 ha2
  clear hb2 ha1 hz1
  go_wp2_with fail
  refine (HDT.out _).mono ?_
  rintro e w3 ⟨y, m, dd, hdi, ⟨tb, rfl, ht⟩, hb3⟩
  have HD := Lib.hid hdi
  have HT := Lib.hid ht
  have HB3 := Lib.hid (HB2.out.trans (hb3.mono HB2.out.size))
  clear hdi ht hb3
  go_wp2_with fail
  go_ret
  exact ⟨y, m, dd, HD.out, ⟨_, rfl, HT.out⟩, HB3.out⟩
theorem MText2_any (d n : Nat) (o : Int) (w : World) (hv : timeB 2 (d : Int) (n : Int) o = true) :
    Calls Tryz.prog 17 #[.agg #[.int .i64 2, .int .i64 (d : Int), .int .i64 (n : Int), .int .i64 o]] w fun e w' => ∃ y m dd, DateIs d y m dd ∧ StrP (tmL 2 y m dd n o) w e w' := by
  obtain ⟨-, -, -, hd, -, hn, ho1, ho2, hk2, hk1, hk4⟩ := timeB_yes _ _ _ _ hv
  have HV := Lib.hid (fun w' => momValid_any 2 d n o w')
  rw [hv] at HV
  have HDT := Lib.hid (fun w' => dateText_any d w' (by omega))
  have HCL := Lib.hid (fun w' => clockText_any n w' (by omega))
  have HOF := Lib.hid (fun w' => offsetText_any o w' ho1 ho2)
  clear hv hd hn ho1 ho2 hk1 hk4
  have HK2 : Hid ((d : Int) = 0) := hk2 rfl
  clear hk2
  go_enter Tryz.func17, Tryz.ntmps17
  go_upto_region 1 with fail
  generalize hW : World.alloc w _ = w1
  obtain ⟨ha1, -, hz1, hb1⟩ := alloc_of hW
  have HB1 := Lib.hid hb1
  obtain ⟨c0, c1, c2, c3⟩ := row4 ha1
  clear hW hb1
  go_wp2_with fail
  refine (HV.out _).mono ?_
  rintro e w2 ⟨rfl, hb2⟩
  have HB2 := Lib.hid (HB1.out.trans (hb2.mono HB1.out.size))
  have ha2 := (hb2.block _ (by omega)).trans ha1
  have hz2 : w.heap.size < w2.heap.size := by have := hb2.size; omega
  clear c0 c1 c2 c3
  obtain ⟨c0, c1, c2, c3⟩ := row4 ha2
  clear hb2 ha1 hz1
  go_wp2_with fail
  refine (HCL.out _).mono ?_
  rintro e w3 ⟨⟨tb, rfl, ht⟩, hb3⟩
  have HT := Lib.hid ht
  have HB3 := Lib.hid (HB2.out.trans (hb3.mono HB2.out.size))
  have HD0 : Hid (DateIs d 1 1 1) := by
    have : d = 0 := by have := HK2.out; omega
    rw [this]
    exact ⟨by decide, by decide, by decide, by decide, by decide, by decide, by decide⟩
  clear ht hb3
  go_wp2_with fail
  go_ret
  exact ⟨1, 1, 1, HD0.out, ⟨_, rfl, HT.out⟩, HB3.out⟩
theorem MText3_any (d n : Nat) (o : Int) (w : World) (hv : timeB 3 (d : Int) (n : Int) o = true) :
    Calls Tryz.prog 17 #[.agg #[.int .i64 3, .int .i64 (d : Int), .int .i64 (n : Int), .int .i64 o]] w fun e w' => ∃ y m dd, DateIs d y m dd ∧ StrP (tmL 3 y m dd n o) w e w' := by
  obtain ⟨-, -, -, hd, -, hn, ho1, ho2, hk2, hk1, hk4⟩ := timeB_yes _ _ _ _ hv
  have HV := Lib.hid (fun w' => momValid_any 3 d n o w')
  rw [hv] at HV
  have HDT := Lib.hid (fun w' => dateText_any d w' (by omega))
  have HCL := Lib.hid (fun w' => clockText_any n w' (by omega))
  have HOF := Lib.hid (fun w' => offsetText_any o w' ho1 ho2)
  clear hv hd hn ho1 ho2 hk1 hk4
  clear hk2
  go_enter Tryz.func17, Tryz.ntmps17
  go_upto_region 1 with fail
  generalize hW : World.alloc w _ = w1
  obtain ⟨ha1, -, hz1, hb1⟩ := alloc_of hW
  have HB1 := Lib.hid hb1
  obtain ⟨c0, c1, c2, c3⟩ := row4 ha1
  clear hW hb1
  go_wp2_with fail
  refine (HV.out _).mono ?_
  rintro e w2 ⟨rfl, hb2⟩
  have HB2 := Lib.hid (HB1.out.trans (hb2.mono HB1.out.size))
  have ha2 := (hb2.block _ (by omega)).trans ha1
  have hz2 : w.heap.size < w2.heap.size := by have := hb2.size; omega
  clear c0 c1 c2 c3
  obtain ⟨c0, c1, c2, c3⟩ := row4 ha2
  clear hb2 ha1 hz1
  go_upto_region 9 with fail
  have HSX : Hid (∀ w', Below w2.heap.size w2 w' → w'.cell? ⟨w.heap.size, 1, none⟩ = some (.int .i64 (d : Int)) ∧ w'.cell? ⟨w.heap.size, 2, none⟩ = some (.int .i64 (n : Int)) ∧ w'.cell? ⟨w.heap.size, 3, none⟩ = some (.int .i64 o)) := fun w' hb => ⟨(hb.cell (p := ⟨w.heap.size, 1, none⟩) hz2).trans c1, (hb.cell (p := ⟨w.heap.size, 2, none⟩) hz2).trans c2, (hb.cell (p := ⟨w.heap.size, 3, none⟩) hz2).trans c3⟩
  clear c0 c1 c2 c3 ha2
  refine wp_region_held_drew (S := fun w' => w'.cell? ⟨w.heap.size, 1, none⟩ = some (.int .i64 (d : Int)) ∧ w'.cell? ⟨w.heap.size, 2, none⟩ = some (.int .i64 (n : Int)) ∧ w'.cell? ⟨w.heap.size, 3, none⟩ = some (.int .i64 o)) (by kernel_rfl) (HSX.out _ (drewBm w2)) (fun hHeld => ?_)
  have HBX := Lib.hid (drewBm w2)
  replace HB2 := Lib.hid (HB2.out.trans ((drewBm w2).mono HB2.out.size))
  generalize w2.drew = wd at *
  refine take_at 0 (some 20) rfl rfl (by kernel_rfl) (by kernel_rfl) (by kernel_rfl) (fun _ _ _ h => h) (Or.inl ⟨by rfl, fun w hSw => by (obtain ⟨q1, q2, q3⟩ := hSw; go_simp; with_reducible rfl)⟩) hHeld ?_
  simp only [Act.put, List.setIfInBounds_toArray, List.set_cons_zero, List.set_cons_succ]
  refine take_at 1 (some 21) rfl rfl (by kernel_rfl) (by kernel_rfl) (by kernel_rfl) (fun _ _ _ h => h) (Or.inl ⟨by rfl, fun w hSw => by (obtain ⟨q1, q2, q3⟩ := hSw; go_simp; with_reducible rfl)⟩) hHeld ?_
  simp only [Act.put, List.setIfInBounds_toArray, List.set_cons_zero, List.set_cons_succ]
  refine take_at 4 (some 24) rfl rfl (by kernel_rfl) (by kernel_rfl) (by kernel_rfl) (fun _ _ _ h => h) (Or.inl ⟨by rfl, fun w hSw => by (obtain ⟨q1, q2, q3⟩ := hSw; go_simp; with_reducible rfl)⟩) hHeld ?_
  simp only [Act.put, List.setIfInBounds_toArray, List.set_cons_zero, List.set_cons_succ]
  refine take_at 5 (some 25) rfl rfl (by kernel_rfl) (by kernel_rfl) (by kernel_rfl) (fun _ _ _ h => h) (Or.inl ⟨by rfl, fun w hSw => by (obtain ⟨q1, q2, q3⟩ := hSw; go_simp; with_reducible rfl)⟩) hHeld ?_
  simp only [Act.put, List.setIfInBounds_toArray, List.set_cons_zero, List.set_cons_succ]
  refine wpAnyH_ready (rs := [2]) (by kernel_rfl) (by simp) ?_
  refine AllReadyH.cons rfl (fun K hK => ?_) AllReadyH.nil
  go_simp
  refine (HDT.out _).mono ?_
  rintro e u1 ⟨y, m, dd, hdi, ⟨t1, rfl, ht1⟩, hb1⟩
  have HD := Lib.hid hdi
  clear hdi
  have HT1 := Lib.hid ht1
  replace HBX := Lib.hid (HBX.out.trans (hb1.mono HBX.out.size))
  replace HB2 := Lib.hid (HB2.out.trans (hb1.mono HB2.out.size))
  have hs1 : t1.size ≤ 20 := by
    have := L_len t1
    rw [ht1] at this
    have h2 := dateL_len y m dd
    omega
  clear ht1 hb1 HDT hHeld
  refine hK.out _ _ (HSX.out _ HBX.out) (fun hHeld => ?_)
  clear hK K
  refine take_at 3 (some 23) rfl rfl (by kernel_rfl) (by kernel_rfl) (by kernel_rfl) (fun _ _ _ h => h) (Or.inl ⟨by rfl, fun w hSw => by (go_simp; rw [if_neg (by omega)])⟩) hHeld ?_
  simp only [Act.put, List.setIfInBounds_toArray, List.set_cons_zero, List.set_cons_succ]
  refine wpAnyH_ready (rs := [6]) (by kernel_rfl) (by simp) ?_
  refine AllReadyH.cons rfl (fun K hK => ?_) AllReadyH.nil
  go_simp
  refine (HCL.out _).mono ?_
  rintro e u2 ⟨⟨t2, rfl, ht2⟩, hb2⟩
  have HT2 := Lib.hid ht2
  replace HBX := Lib.hid (HBX.out.trans (hb2.mono HBX.out.size))
  replace HB2 := Lib.hid (HB2.out.trans (hb2.mono HB2.out.size))
  have hs2 : t2.size ≤ 20 := by
    have := L_len t2
    rw [ht2] at this
    have h2 := clockL_len n
    omega
  clear ht2 hb2 HCL hHeld
  refine hK.out _ _ (HSX.out _ HBX.out) (fun hHeld => ?_)
  clear hK K
  refine take_at 7 (some 27) rfl rfl (by kernel_rfl) (by kernel_rfl) (by kernel_rfl) (fun _ _ _ h => h) (Or.inl ⟨by rfl, fun w hSw => by (go_simp; rw [if_neg (by omega)])⟩) hHeld ?_
  simp only [Act.put, List.setIfInBounds_toArray, List.set_cons_zero, List.set_cons_succ]
  refine take_at 8 (some 2) rfl rfl (by kernel_rfl) (by kernel_rfl) (by kernel_rfl) (fun _ _ _ h => h) (Or.inl ⟨by rfl, fun w hSw => by (obtain ⟨q1, q2, q3⟩ := hSw; go_simp; with_reducible rfl)⟩) hHeld ?_
  simp only [Act.put, List.setIfInBounds_toArray, List.set_cons_zero, List.set_cons_succ]
  refine wpAnyH_done (by kernel_rfl) ?_ _
  clear hHeld
  go_wp2_with fail
  go_ret
  refine ⟨y, m, dd, HD.out, ⟨_, rfl, ?_⟩, HB2.out⟩
  unfold tmL
  simp only [L_append, HT1.out, HT2.out, List.append_assoc]
  rfl
theorem MText4_any (d n : Nat) (o : Int) (w : World) (hv : timeB 4 (d : Int) (n : Int) o = true) :
    Calls Tryz.prog 17 #[.agg #[.int .i64 4, .int .i64 (d : Int), .int .i64 (n : Int), .int .i64 o]] w fun e w' => ∃ y m dd, DateIs d y m dd ∧ StrP (tmL 4 y m dd n o) w e w' := by
  obtain ⟨-, -, -, hd, -, hn, ho1, ho2, hk2, hk1, hk4⟩ := timeB_yes _ _ _ _ hv
  have HV := Lib.hid (fun w' => momValid_any 4 d n o w')
  rw [hv] at HV
  have HDT := Lib.hid (fun w' => dateText_any d w' (by omega))
  have HCL := Lib.hid (fun w' => clockText_any n w' (by omega))
  have HOF := Lib.hid (fun w' => offsetText_any o w' ho1 ho2)
  clear hv hd hn ho1 ho2 hk1 hk4
  clear hk2
  go_enter Tryz.func17, Tryz.ntmps17
  go_upto_region 1 with fail
  generalize hW : World.alloc w _ = w1
  obtain ⟨ha1, -, hz1, hb1⟩ := alloc_of hW
  have HB1 := Lib.hid hb1
  obtain ⟨c0, c1, c2, c3⟩ := row4 ha1
  clear hW hb1
  go_wp2_with fail
  refine (HV.out _).mono ?_
  rintro e w2 ⟨rfl, hb2⟩
  have HB2 := Lib.hid (HB1.out.trans (hb2.mono HB1.out.size))
  have ha2 := (hb2.block _ (by omega)).trans ha1
  have hz2 : w.heap.size < w2.heap.size := by have := hb2.size; omega
  clear c0 c1 c2 c3
  obtain ⟨c0, c1, c2, c3⟩ := row4 ha2
  clear hb2 ha1 hz1
  go_upto_region 10 with fail
  have HSX : Hid (∀ w', Below w2.heap.size w2 w' → w'.cell? ⟨w.heap.size, 1, none⟩ = some (.int .i64 (d : Int)) ∧ w'.cell? ⟨w.heap.size, 2, none⟩ = some (.int .i64 (n : Int)) ∧ w'.cell? ⟨w.heap.size, 3, none⟩ = some (.int .i64 o)) := fun w' hb => ⟨(hb.cell (p := ⟨w.heap.size, 1, none⟩) hz2).trans c1, (hb.cell (p := ⟨w.heap.size, 2, none⟩) hz2).trans c2, (hb.cell (p := ⟨w.heap.size, 3, none⟩) hz2).trans c3⟩
  clear c0 c1 c2 c3 ha2
  refine wp_region_held_drew (S := fun w' => w'.cell? ⟨w.heap.size, 1, none⟩ = some (.int .i64 (d : Int)) ∧ w'.cell? ⟨w.heap.size, 2, none⟩ = some (.int .i64 (n : Int)) ∧ w'.cell? ⟨w.heap.size, 3, none⟩ = some (.int .i64 o)) (by kernel_rfl) (HSX.out _ (drewBm w2)) (fun hHeld => ?_)
  have HBX := Lib.hid (drewBm w2)
  replace HB2 := Lib.hid (HB2.out.trans ((drewBm w2).mono HB2.out.size))
  generalize w2.drew = wd at *
  refine take_at 0 (some 28) rfl rfl (by kernel_rfl) (by kernel_rfl) (by kernel_rfl) (fun _ _ _ h => h) (Or.inl ⟨by rfl, fun w hSw => by (obtain ⟨q1, q2, q3⟩ := hSw; go_simp; with_reducible rfl)⟩) hHeld ?_
  simp only [Act.put, List.setIfInBounds_toArray, List.set_cons_zero, List.set_cons_succ]
  refine take_at 1 (some 29) rfl rfl (by kernel_rfl) (by kernel_rfl) (by kernel_rfl) (fun _ _ _ h => h) (Or.inl ⟨by rfl, fun w hSw => by (obtain ⟨q1, q2, q3⟩ := hSw; go_simp; with_reducible rfl)⟩) hHeld ?_
  simp only [Act.put, List.setIfInBounds_toArray, List.set_cons_zero, List.set_cons_succ]
  refine take_at 4 (some 32) rfl rfl (by kernel_rfl) (by kernel_rfl) (by kernel_rfl) (fun _ _ _ h => h) (Or.inl ⟨by rfl, fun w hSw => by (obtain ⟨q1, q2, q3⟩ := hSw; go_simp; with_reducible rfl)⟩) hHeld ?_
  simp only [Act.put, List.setIfInBounds_toArray, List.set_cons_zero, List.set_cons_succ]
  refine take_at 5 (some 33) rfl rfl (by kernel_rfl) (by kernel_rfl) (by kernel_rfl) (fun _ _ _ h => h) (Or.inl ⟨by rfl, fun w hSw => by (obtain ⟨q1, q2, q3⟩ := hSw; go_simp; with_reducible rfl)⟩) hHeld ?_
  simp only [Act.put, List.setIfInBounds_toArray, List.set_cons_zero, List.set_cons_succ]
  refine take_at 8 (some 36) rfl rfl (by kernel_rfl) (by kernel_rfl) (by kernel_rfl) (fun _ _ _ h => h) (Or.inl ⟨by rfl, fun w hSw => by (obtain ⟨q1, q2, q3⟩ := hSw; go_simp; with_reducible rfl)⟩) hHeld ?_
  simp only [Act.put, List.setIfInBounds_toArray, List.set_cons_zero, List.set_cons_succ]
  refine take_at 9 (some 37) rfl rfl (by kernel_rfl) (by kernel_rfl) (by kernel_rfl) (fun _ _ _ h => h) (Or.inl ⟨by rfl, fun w hSw => by (obtain ⟨q1, q2, q3⟩ := hSw; go_simp; with_reducible rfl)⟩) hHeld ?_
  simp only [Act.put, List.setIfInBounds_toArray, List.set_cons_zero, List.set_cons_succ]
  refine wpAnyH_ready (rs := [2]) (by kernel_rfl) (by simp) ?_
  refine AllReadyH.cons rfl (fun K hK => ?_) AllReadyH.nil
  go_simp
  refine (HDT.out _).mono ?_
  rintro e u1 ⟨y, m, dd, hdi, ⟨t1, rfl, ht1⟩, hb1⟩
  have HD := Lib.hid hdi
  clear hdi
  have HT1 := Lib.hid ht1
  replace HBX := Lib.hid (HBX.out.trans (hb1.mono HBX.out.size))
  replace HB2 := Lib.hid (HB2.out.trans (hb1.mono HB2.out.size))
  have hs1 : t1.size ≤ 20 := by
    have := L_len t1
    rw [ht1] at this
    have h2 := dateL_len y m dd
    omega
  clear ht1 hb1 HDT hHeld
  refine hK.out _ _ (HSX.out _ HBX.out) (fun hHeld => ?_)
  clear hK K
  refine take_at 3 (some 31) rfl rfl (by kernel_rfl) (by kernel_rfl) (by kernel_rfl) (fun _ _ _ h => h) (Or.inl ⟨by rfl, fun w hSw => by (go_simp; rw [if_neg (by omega)])⟩) hHeld ?_
  simp only [Act.put, List.setIfInBounds_toArray, List.set_cons_zero, List.set_cons_succ]
  refine wpAnyH_ready (rs := [6]) (by kernel_rfl) (by simp) ?_
  refine AllReadyH.cons rfl (fun K hK => ?_) AllReadyH.nil
  go_simp
  refine (HCL.out _).mono ?_
  rintro e u2 ⟨⟨t2, rfl, ht2⟩, hb2⟩
  have HT2 := Lib.hid ht2
  replace HBX := Lib.hid (HBX.out.trans (hb2.mono HBX.out.size))
  replace HB2 := Lib.hid (HB2.out.trans (hb2.mono HB2.out.size))
  have hs2 : t2.size ≤ 20 := by
    have := L_len t2
    rw [ht2] at this
    have h2 := clockL_len n
    omega
  clear ht2 hb2 HCL hHeld
  refine hK.out _ _ (HSX.out _ HBX.out) (fun hHeld => ?_)
  clear hK K
  refine take_at 7 (some 35) rfl rfl (by kernel_rfl) (by kernel_rfl) (by kernel_rfl) (fun _ _ _ h => h) (Or.inl ⟨by rfl, fun w hSw => by (go_simp; rw [if_neg (by omega)])⟩) hHeld ?_
  simp only [Act.put, List.setIfInBounds_toArray, List.set_cons_zero, List.set_cons_succ]
  refine wpAnyH_ready (rs := [10]) (by kernel_rfl) (by simp) ?_
  refine AllReadyH.cons rfl (fun K hK => ?_) AllReadyH.nil
  go_simp
  refine (HOF.out _).mono ?_
  rintro e u3 ⟨⟨t3, rfl, ht3⟩, hb3⟩
  have HT3 := Lib.hid ht3
  replace HBX := Lib.hid (HBX.out.trans (hb3.mono HBX.out.size))
  replace HB2 := Lib.hid (HB2.out.trans (hb3.mono HB2.out.size))
  have hs3 : t3.size ≤ 20 := by
    have := L_len t3
    rw [ht3] at this
    have h2 := offL_len o
    omega
  clear ht3 hb3 HOF hHeld
  refine hK.out _ _ (HSX.out _ HBX.out) (fun hHeld => ?_)
  clear hK K
  refine take_at 11 (some 39) rfl rfl (by kernel_rfl) (by kernel_rfl) (by kernel_rfl) (fun _ _ _ h => h) (Or.inl ⟨by rfl, fun w hSw => by (go_simp; rw [if_neg (by omega)])⟩) hHeld ?_
  simp only [Act.put, List.setIfInBounds_toArray, List.set_cons_zero, List.set_cons_succ]
  refine take_at 12 (some 2) rfl rfl (by kernel_rfl) (by kernel_rfl) (by kernel_rfl) (fun _ _ _ h => h) (Or.inl ⟨by rfl, fun w hSw => by (obtain ⟨q1, q2, q3⟩ := hSw; go_simp; with_reducible rfl)⟩) hHeld ?_
  simp only [Act.put, List.setIfInBounds_toArray, List.set_cons_zero, List.set_cons_succ]
  refine wpAnyH_done (by kernel_rfl) ?_ _
  clear hHeld
  go_wp2_with fail
  go_ret
  refine ⟨y, m, dd, HD.out, ⟨_, rfl, ?_⟩, HB2.out⟩
  unfold tmL
  simp only [L_append, HT1.out, HT2.out, HT3.out, List.append_assoc]
  rfl
end Go.Proofs.YtlnpfpjncnkekaaGreatDoor

namespace Go.Proofs.YtlnpfpjncnkekaaGreatDoor
open Go.RowKit
set_option maxHeartbeats 4000000
set_option maxRecDepth 100000

end Go.Proofs.YtlnpfpjncnkekaaGreatDoor
