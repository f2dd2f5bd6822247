/- datakitref08.Text walked: Number, sign, one, Text. Conditions: valid paths. -/
import Derived.Test.YtjbhjnelepbkcaaDoorPs3
import Derived.Test.YtjbhjnelepbkcaaDoorPa3
namespace Go.Proofs.YtjbhjnelepbkcaaDoor
open Go.RowKit Go.Shelf
set_option maxHeartbeats 1000000
set_option maxRecDepth 100000

def digZ (n : Nat) : List UInt8 := if n = 0 then [] else Lib.decDigits n
theorem digZ_step (n : Nat) (h : 0 < n) : digZ n = digZ (n / 10) ++ [UInt8.ofNat (48 + n % 10)] := by
  unfold digZ
  rw [if_neg (by omega), Lib.decDigits]
  split
  · rename_i h10
    rw [if_pos (by omega), Nat.mod_eq_of_lt h10]
    rfl
  · rename_i h10
    rw [if_neg (by omega)]
theorem digZ_len (n : Nat) (h : n ≤ 65536) : (digZ n).length ≤ 5 := by
  unfold digZ
  split
  · simp
  · exact decDigits_len n h
theorem FromInt_any (n : Nat) (hn : n ≤ 65536) (w : World) :
    Calls Tryd.prog 66 #[.int .i64 n] w fun e w' => e = .returned (.string ⟨(digZ n).toArray⟩) ∧ Below w.heap.size w w' := by
  have hnl := digZ_len n hn
  go_enter Tryd.func66, Tryd.ntmps66
  go_wp2_with fail
  go_loopw [0, 3] (fun m t wr => ∃ (k : Nat) (acc : ByteArray), k ≤ 65536 ∧ m = .int .i64 k ∧ t = .string acc ∧ Hid (digZ n = digZ k ++ L acc) ∧ Below w.heap.size w wr) (fun m _ _ => (intOf m).toNat)
  case atStart => exact ⟨n, ⟨#[]⟩, hn, rfl, rfl, by unfold Hid; simp [L], Below.refl _ _⟩
  case round =>
    obtain ⟨k, acc, hk, rfl, rfl, HD, hbw⟩ := hrel
    have hz := hbw.size
    by_cases h0 : k = 0
    · have HF : Hid (digZ n = L acc) := by unfold Hid; rw [HD.out, h0]; rfl
      have hk0 : ¬ (0 : Int) < k := by omega
      clear HD h0
      go_wp2_with fail
      go_ret
      exact ⟨by rw [HF.out]; rfl, hbw⟩
    · have hk0 : (0 : Int) < k := by omega
      have has : acc.size ≤ 5 := by
        have h := congrArg List.length HD.out
        rw [List.length_append, L_len] at h
        omega
      have hcv := conv1 wr (48 + (k : Int) % 10)
      have hbt : (48 + (k : Int) % 10).toNat = 48 + k % 10 := by omega
      have HF : Hid (digZ n = digZ (k / 10) ++ L (⟨#[48 + UInt8.ofNat (k % 10)]⟩ ++ acc)) := by
        unfold Hid
        rw [HD.out, digZ_step k (by omega), L_append]
        simp [L]
      have m0 : 0 ≤ (k : Int) % 10 := by omega
      have m1 : (k : Int) % 10 < 10 := by omega
      have hkd : ((k : Int) / 10) = ((k / 10 : Nat) : Int) := by omega
      have HKD := Lib.hid hkd
      clear HD h0 hbt hkd
      go_wp2_with fail
      refine ⟨⟨k / 10, _, by omega, by rw [HKD.out], rfl, HF, hbw.alloc hz _⟩, by simp [intOf]; omega⟩
theorem Number_any (n : Int) (h0 : 0 ≤ n) (h1 : n ≤ 65536) (w : World) :
    Calls Tryd.prog 50 #[.int .i64 n] w fun e w' => e = .returned (.string ⟨(Lib.itoa n).toArray⟩) ∧ Below w.heap.size w w' := by
  obtain ⟨k, rfl⟩ : ∃ k : Nat, n = (k : Int) := ⟨n.toNat, by omega⟩
  have hi : Lib.itoa (k : Int) = Lib.decDigits k := by unfold Lib.itoa; rw [if_neg (by omega)]; simp
  by_cases hk : k = 0
  · have HF : Hid (Lib.itoa (k : Int) = [48]) := by unfold Hid; rw [hi, hk, Lib.decDigits]; rfl
    have e0 : ((k : Int) == 0) = true := by rw [beq_iff_eq]; omega
    clear hi hk
    go_enter Tryd.func50, Tryd.ntmps50
    go_wp2_with fail
    go_ret
    exact ⟨by rw [HF.out]; rfl, Below.refl _ _⟩
  · have HF : Hid (Lib.itoa (k : Int) = digZ k) := by unfold Hid digZ; rw [hi, if_neg hk]
    have e0 : ((k : Int) == 0) = false := by rw [beq_eq_false_iff_ne]; omega
    have HFI := Lib.hid (FromInt_any k (by omega) w)
    clear hi hk
    go_enter Tryd.func50, Tryd.ntmps50
    go_wp2_with fail
    refine HFI.out.mono ?_
    rintro e w1 ⟨rfl, hb⟩
    go_wp2_with fail
    go_ret
    exact ⟨by rw [HF.out]; rfl, hb⟩
theorem sub_hex : ∀ n : Fin 16, (⟨#[48, 49, 50, 51, 52, 53, 54, 55, 56, 57, 97, 98, 99, 100, 101, 102]⟩ : ByteArray).extract n.val (n.val + 1) = ⟨#[hx n.val]⟩ := by decide +kernel
theorem sign_any (b : UInt8) (w : World) :
    Calls Tryd.prog 52 #[.int .u8 b.toNat] w fun e w' => e = .returned (.string ⟨(sgn b).toArray⟩) ∧ Below w.heap.size w w' := by
  have hb255 : b.toNat < 256 := b.toNat_lt
  by_cases c1 : b.toNat = 34
  · have e1 : ((b.toNat : Int) == 34) = true := beqB _ _ (by omega)
    have HF : Hid (sgn b = [92, 34]) := by unfold Hid sgn; rw [if_pos c1]
    clear c1 
    go_enter Tryd.func52, Tryd.ntmps52
    go_wp2_with fail
    go_ret
    exact ⟨by rw [HF.out]; rfl, Below.refl _ _⟩
  have e1 : ((b.toNat : Int) == 34) = false := beqNB _ _ (by omega)
  by_cases c2 : b.toNat = 92
  · have e2 : ((b.toNat : Int) == 92) = true := beqB _ _ (by omega)
    have HF : Hid (sgn b = [92, 92]) := by unfold Hid sgn; rw [if_neg c1, if_pos c2]
    clear c2 c1
    go_enter Tryd.func52, Tryd.ntmps52
    go_wp2_with fail
    go_ret
    exact ⟨by rw [HF.out]; rfl, Below.refl _ _⟩
  have e2 : ((b.toNat : Int) == 92) = false := beqNB _ _ (by omega)
  by_cases c3 : b.toNat = 10
  · have e3 : ((b.toNat : Int) == 10) = true := beqB _ _ (by omega)
    have HF : Hid (sgn b = [92, 110]) := by unfold Hid sgn; rw [if_neg c1, if_neg c2, if_pos c3]
    clear c3 c1 c2
    go_enter Tryd.func52, Tryd.ntmps52
    go_wp2_with fail
    go_ret
    exact ⟨by rw [HF.out]; rfl, Below.refl _ _⟩
  have e3 : ((b.toNat : Int) == 10) = false := beqNB _ _ (by omega)
  by_cases c4 : b.toNat = 9
  · have e4 : ((b.toNat : Int) == 9) = true := beqB _ _ (by omega)
    have HF : Hid (sgn b = [92, 116]) := by unfold Hid sgn; rw [if_neg c1, if_neg c2, if_neg c3, if_pos c4]
    clear c4 c1 c2 c3
    go_enter Tryd.func52, Tryd.ntmps52
    go_wp2_with fail
    go_ret
    exact ⟨by rw [HF.out]; rfl, Below.refl _ _⟩
  have e4 : ((b.toNat : Int) == 9) = false := beqNB _ _ (by omega)
  by_cases c5 : b.toNat = 13
  · have e5 : ((b.toNat : Int) == 13) = true := beqB _ _ (by omega)
    have HF : Hid (sgn b = [92, 114]) := by unfold Hid sgn; rw [if_neg c1, if_neg c2, if_neg c3, if_neg c4, if_pos c5]
    clear c5 c1 c2 c3 c4
    go_enter Tryd.func52, Tryd.ntmps52
    go_wp2_with fail
    go_ret
    exact ⟨by rw [HF.out]; rfl, Below.refl _ _⟩
  have e5 : ((b.toNat : Int) == 13) = false := beqNB _ _ (by omega)
  by_cases c6 : b.toNat = 127
  · have e6 : ((b.toNat : Int) == 127) = true := beqB _ _ (by omega)
    have HF : Hid (sgn b = [92, 117, 123, 55, 102, 125]) := by rw [u8_of c6]; rfl
    clear c1 c2 c3 c4 c5 c6
    go_enter Tryd.func52, Tryd.ntmps52
    go_wp2_with fail
    go_ret
    exact ⟨by rw [HF.out]; rfl, Below.refl _ _⟩
  have e6 : ((b.toNat : Int) == 127) = false := beqNB _ _ (by omega)
  by_cases c7 : 32 ≤ b.toNat
  · have e7 : (32 : Int) ≤ b.toNat := by omega
    have HF : Hid (sgn b = [b]) := by unfold Hid sgn; rw [if_neg c1, if_neg c2, if_neg c3, if_neg c4, if_neg c5, if_neg (by omega)]
    have hcv := conv1 w (b.toNat : Int)
    have hbb : UInt8.ofNat ((b.toNat : Int)).toNat = b := by simp
    rw [hbb] at hcv
    clear c1 c2 c3 c4 c5 c6 c7 hbb
    go_enter Tryd.func52, Tryd.ntmps52
    go_wp2_with fail
    go_ret
    exact ⟨by rw [HF.out]; rfl, (Below.refl _ w).alloc (Nat.le_refl _) _⟩
  have e7 : ¬ (32 : Int) ≤ b.toNat := by omega
  have HF : Hid (sgn b = 92 :: 117 :: 123 :: (hexT b.toNat ++ [125])) := by unfold Hid sgn; rw [if_neg c1, if_neg c2, if_neg c3, if_neg c4, if_neg c5, if_pos (by omega)]
  by_cases c8 : b.toNat < 16
  · have e8 : (b.toNat : Int) < 16 := by omega
    have HX : Hid ((⟨#[48, 49, 50, 51, 52, 53, 54, 55, 56, 57, 97, 98, 99, 100, 101, 102]⟩ : ByteArray).extract b.toNat (b.toNat + 1) = ⟨#[hx b.toNat]⟩) := sub_hex ⟨b.toNat, c8⟩
    have HT : Hid (hexT b.toNat = [hx b.toNat]) := by unfold Hid hexT; rw [if_pos c8]
    clear c1 c2 c3 c4 c5 c6 c7 c8
    go_enter Tryd.func52, Tryd.ntmps52
    go_wp2_with fail
    go_ret
    refine ⟨?_, Below.refl _ _⟩
    rw [HF.out, HT.out]
    show Ending.returned (.string (⟨#[92, 117, 123]⟩ ++ ByteArray.extract _ _ _ ++ ⟨#[125]⟩)) = _
    rw [HX.out]
    exact congrArg (fun x => Ending.returned (.string x)) (L_inj (by rw [L_append, L_append]; rfl))
  · have e8 : ¬ (b.toNat : Int) < 16 := by omega
    have HX : Hid ((⟨#[48, 49, 50, 51, 52, 53, 54, 55, 56, 57, 97, 98, 99, 100, 101, 102]⟩ : ByteArray).extract (b.toNat - 16) (b.toNat - 16 + 1) = ⟨#[hx (b.toNat - 16)]⟩) := sub_hex ⟨b.toNat - 16, by omega⟩
    have HT : Hid (hexT b.toNat = [49, hx (b.toNat - 16)]) := by
      unfold Hid hexT
      rw [if_neg c8, show b.toNat / 16 = 1 by omega, show b.toNat % 16 = b.toNat - 16 by omega]
      rfl
    have s1 : (0 : Int) ≤ (b.toNat : Int) - 16 := by omega
    clear c1 c2 c3 c4 c5 c6 c7
    go_enter Tryd.func52, Tryd.ntmps52
    go_wp2_with fail
    go_ret
    refine ⟨?_, Below.refl _ _⟩
    rw [HF.out, HT.out]
    show Ending.returned (.string (⟨#[92, 117, 123, 49]⟩ ++ ByteArray.extract _ _ _ ++ ⟨#[125]⟩)) = _
    rw [show b.toNat - 15 = b.toNat - 16 + 1 by omega, HX.out]
    exact congrArg (fun x => Ending.returned (.string x)) (L_inj (by rw [L_append, L_append]; rfl))
end Go.Proofs.YtjbhjnelepbkcaaDoor
