/- strings.TrimLeft at one zero, digits.ToInt, datakitref01.Strip, ToInt walked. Conditions: at most 18 digits. -/
import Derived.Test.YtmafggfonapmpaaDoorNd1
namespace Go.Proofs.YtmafggfonapmpaaDoor
open Go.RowKit
set_option maxHeartbeats 1000000
set_option maxRecDepth 100000

/-- What is left behind the removal of the zeros ahead. -/
def TrimLPost (s : ByteArray) (w : World) (e : Ending) (w' : World) : Prop := ∃ t : ByteArray, e = .returned (.string t) ∧ L t = zl (L s) ∧ w = w'
theorem trimLByte_any (s : ByteArray) (w : World) :
    Calls Tryd.prog 43 #[.string s, .int .u8 48] w (TrimLPost s w) := by
  go_enter Tryd.func43, Tryd.ntmps43
  go_wp2_with fail
  go_loop [0] (fun v => ∃ t : ByteArray, v = .string t ∧ t.size ≤ s.size ∧ Hid (zl (L t) = zl (L s))) (fun v => match v with | .string t => t.size | _ => 0)
  case atStart => exact ⟨s, rfl, Nat.le_refl _, rfl⟩
  case round =>
    obtain ⟨t, rfl, hts, HC⟩ := hrel
    by_cases h0 : t.size = 0
    · have HF : Hid (TrimLPost s w (.returned (.string t)) w) := by
        have : L t = [] := List.length_eq_zero_iff.1 ((L_len t).trans h0)
        refine ⟨t, rfl, ?_, rfl⟩
        rw [← HC.out, this]
        rfl
      have h0i : ¬ (0 : Int) < t.size := by omega
      have h0n : ¬ 0 < t.size := by omega
      clear h0 HC
      go_wp2_with fail
      go_ret
      exact HF.out
    · have hp : 0 < t.size := by omega
      have h0i : (0 : Int) < t.size := by omega
      have HL : Hid (L t = t[0] :: (L t).drop 1) := by have := L_drop t 0 hp; rw [List.drop_zero] at this; exact this
      by_cases h1 : (t[0]).toNat = 48
      · have hx : L (t.extract 1 t.size) = (L t).drop 1 := L_from t 1
        have hz : (t.extract 1 t.size).size = t.size - 1 := by rw [← L_len, hx, List.length_drop, L_len]
        have HN : Hid (zl (L (t.extract 1 t.size)) = zl (L s)) := by
          unfold Hid
          rw [hx, ← HC.out, HL.out]
          show _ = if _ then _ else _
          rw [if_pos h1]
          rfl
        have HZ := Lib.hid hz
        have q := b8t t[0] 48 (by omega)
        clear HL HC h1 hx hz h0
        go_wp2_with fail
        exact ⟨⟨t.extract 1 t.size, rfl, by rw [HZ.out]; omega, HN⟩, by simp only []; rw [HZ.out]; omega⟩
      · have HF : Hid (TrimLPost s w (.returned (.string t)) w) := by
          refine ⟨t, rfl, ?_, rfl⟩
          rw [← HC.out, HL.out]
          show _ = if _ then _ else _
          rw [if_neg h1]
        have q := b8f t[0] 48 (by omega)
        clear HL HC h1 h0
        go_wp2_with fail
        go_ret
        exact HF.out
theorem TrimLeft0_any (s : ByteArray) (w : World) :
    Calls Tryd.prog 26 #[.string s, .string ⟨#[48]⟩] w (TrimLPost s w) := by
  have HT := Lib.hid (trimLByte_any s w)
  by_cases h0 : L s = []
  · have HF : Hid (TrimLPost s w (.returned (.string s)) w) := by
      refine ⟨s, rfl, ?_, rfl⟩
      rw [h0]
      rfl
    have hq := isEm.2 h0
    clear h0 HT
    go_enter Tryd.func26, Tryd.ntmps26
    go_wp2_with fail
    go_ret
    exact HF.out
  · have hq : s.toList.isEmpty = false := by rw [Bool.eq_false_iff]; exact fun h => h0 (isEm.1 h)
    clear h0
    go_enter Tryd.func26, Tryd.ntmps26
    go_wp2_with fail
    refine HT.out.mono ?_
    rintro e w1 ⟨t, rfl, h1, rfl⟩
    have HF : Hid (TrimLPost s w (.returned (.string t)) w) := ⟨t, rfl, h1, rfl⟩
    clear h1
    go_wp2_with fail
    go_ret
    exact HF.out
theorem Strip_any (s : ByteArray) (w : World) (hs : s.size ≤ 1000000000) :
    Calls Tryd.prog 48 #[.string s] w (TrimLPost s w) := by
  go_enter Tryd.func48, Tryd.ntmps48
  go_wp2_with fail
  go_loop [3] (fun v => ∃ k : Nat, v = .int .i64 k ∧ k ≤ s.size ∧ Hid (zl ((L s).drop k) = zl (L s))) (fun v => s.size - (intOf v).toNat)
  case atStart => exact ⟨0, rfl, Nat.zero_le _, by unfold Hid; rw [List.drop_zero]⟩
  case round =>
    obtain ⟨k, rfl, hk, HC⟩ := hrel
    by_cases hlt : k < s.size
    case neg =>
      have HF : Hid (TrimLPost s w (.returned (.string (s.extract k s.size))) w) := ⟨_, rfl, by rw [← HC.out, L_from, L_drop_nil s k (by omega)]; rfl, rfl⟩
      clear HC
      go_wp2_with fail
      go_ret
      exact HF.out
    have HL := Lib.hid (L_drop s k hlt)
    by_cases h1 : (s[k]).toNat = 48
    · have HN : Hid (zl ((L s).drop (k + 1)) = zl (L s)) := by
        unfold Hid
        rw [← HC.out, HL.out]
        show _ = if _ then _ else _
        rw [if_pos h1]
      have q := b8t s[k] 48 (by omega)
      clear HL HC h1
      go_wp2_with fail
      exact ⟨⟨k + 1, rfl, by omega, HN⟩, by simp [intOf]; omega⟩
    · have HF : Hid (TrimLPost s w (.returned (.string (s.extract k s.size))) w) := by
        refine ⟨_, rfl, ?_, rfl⟩
        rw [← HC.out, L_from, HL.out]
        show _ = if _ then _ else _
        rw [if_neg h1]
      have q := b8f s[k] 48 (by omega)
      clear HL HC h1
      go_wp2_with fail
      go_ret
      exact HF.out
theorem rii {a b c d : Int} (h : a = b) (h2 : c = d) : Ending.returned (.tuple #[.int .i64 a, .int .i64 c]) = Ending.returned (.tuple #[.int .i64 b, .int .i64 d]) := by rw [h, h2]
/-! Numbers out of digits. -/
theorem valL_snoc : ∀ (l : List UInt8) (a : Nat) (b : UInt8), valL a (l ++ [b]) = 10 * valL a l + (b.toNat - 48)
  | [], a, b => rfl
  | c :: t, a, b => by
    rw [List.cons_append]
    show valL (10 * a + (c.toNat - 48)) (t ++ [b]) = _
    rw [valL_snoc t _ b]
    rfl
theorem valL_lt : ∀ (l : List UInt8) (a : Nat), (∀ b ∈ l, dig b = true) → valL a l < (a + 1) * 10 ^ l.length
  | [], a, _ => by show a < (a + 1) * 1; omega
  | b :: t, a, h => by
    have hd : dig b = true := h b List.mem_cons_self
    have hd2 : b.toNat ≤ 57 := by unfold dig at hd; simp at hd; omega
    have ih := valL_lt t (10 * a + (b.toNat - 48)) (fun c hc => h c (List.mem_cons_of_mem _ hc))
    show valL (10 * a + (b.toNat - 48)) t < _
    rw [List.length_cons, Nat.pow_succ]
    refine Nat.lt_of_lt_of_le ih ?_
    calc (10 * a + (b.toNat - 48) + 1) * 10 ^ t.length ≤ ((a + 1) * 10) * 10 ^ t.length := Nat.mul_le_mul_right _ (by omega)
      _ = (a + 1) * (10 ^ t.length * 10) := by rw [Nat.mul_assoc, Nat.mul_comm 10]
theorem take_succ_L (s : ByteArray) (k : Nat) (h : k < s.size) : (L s).take (k + 1) = (L s).take k ++ [s[k]] := by
  rw [List.take_succ_eq_append_getElem (by rw [L_len]; exact h), L_get]
theorem valL_bd (s : ByteArray) (k : Nat) (hk : k ≤ s.size) (h12 : s.size ≤ 12) (h : (L s).all dig = true) : valL 0 ((L s).take k) < 1000000000000 := by
  have h1 := valL_lt ((L s).take k) 0 (fun b hb => List.all_eq_true.1 h b (List.mem_of_mem_take hb))
  have h2 : ((L s).take k).length ≤ 12 := by rw [List.length_take, L_len]; omega
  have h3 : (10 : Nat) ^ ((L s).take k).length ≤ 10 ^ 12 := Nat.pow_le_pow_right (by decide) h2
  have h4 : (10 : Nat) ^ 12 = 1000000000000 := by decide
  omega
theorem dig_at (s : ByteArray) (k : Nat) (h : k < s.size) (ha : (L s).all dig = true) : 48 ≤ (s[k]).toNat ∧ (s[k]).toNat ≤ 57 := by
  have hd : dig s[k] = true := List.all_eq_true.1 ha _ (by rw [← L_get s k h]; exact List.getElem_mem _)
  unfold dig at hd
  simp at hd
  omega
theorem dToInt_any (s : ByteArray) (w : World) (h12 : s.size ≤ 12) (hn : natB (L s) = true) :
    Calls Tryd.prog 42 #[.string s] w fun e w' => e = .returned (.tuple #[.int .i64 (valL 0 (L s)), .int .i64 0]) ∧ w = w' := by
  have ha : (L s).all dig = true := by
    unfold natB at hn
    rw [Bool.and_eq_true, Bool.and_eq_true] at hn
    exact hn.2.1
  have HV := Lib.hid (dValid_any s w (by omega))
  rw [hn] at HV
  have HA := Lib.hid ha
  clear hn ha
  go_enter Tryd.func42, Tryd.ntmps42
  go_wp2_with fail
  refine HV.out.mono ?_
  rintro e w' ⟨rfl, rfl⟩
  go_wp2_with fail
  go_loop [4, 12] (fun n v => ∃ k : Nat, v = .int .i64 k ∧ k ≤ s.size ∧ n = .int .i64 (valL 0 ((L s).take k) : Nat)) (fun _ v => s.size - (intOf v).toNat)
  case atStart => exact ⟨0, rfl, Nat.zero_le _, rfl⟩
  case round =>
    obtain ⟨k, rfl, hk, rfl⟩ := hrel
    by_cases hlt : k < s.size
    case neg =>
      have HF : Hid (valL 0 ((L s).take k) = valL 0 (L s)) := by unfold Hid; rw [List.take_of_length_le (by rw [L_len]; omega)]
      clear HA
      go_wp2_with fail
      go_ret2
      exact ⟨rii (by rw [HF.out]) rfl, rfl⟩
    have HB := Lib.hid (valL_bd s k hk h12 HA.out)
    have hbd : ((valL 0 ((L s).take k) : Nat) : Int) ≤ 1000000000000 := by have := HB.out; omega
    have HN : Hid (valL 0 ((L s).take (k + 1)) = 10 * valL 0 ((L s).take k) + ((s[k]).toNat - 48)) := by unfold Hid; rw [take_succ_L s k hlt, valL_snoc]
    obtain ⟨hd1, hd2⟩ := dig_at s k hlt HA.out
    have hd1i : (48 : Int) ≤ ((s[k]).toNat : Int) := by omega
    have hd2i : ((s[k]).toNat : Int) ≤ 57 := by omega
    clear HA
    generalize valL 0 ((L s).take k) = n at *
    go_wp2_with fail
    exact ⟨⟨k + 1, by go_num, by omega, congrArg (Value.int .i64) (by have := HN.out; omega)⟩, by simp [intOf]; omega⟩
theorem RToInt_any (s : ByteArray) (w : World) (h12 : s.size ≤ 12) (hn : natB (L s) = true) :
    Calls Tryd.prog 49 #[.string s] w fun e w' => e = .returned (.tuple #[.int .i64 (valL 0 (L s)), .int .i64 0]) ∧ w = w' := by
  have ha : (L s).all dig = true := by
    unfold natB at hn
    rw [Bool.and_eq_true, Bool.and_eq_true] at hn
    exact hn.2.1
  have HV := Lib.hid (Valid1_any s w (by omega))
  rw [hn] at HV
  have HA := Lib.hid ha
  have hq : ((s.size : Int) == 19) = false := by rw [beq_eq_false_iff_ne]; omega
  clear hn ha
  go_enter Tryd.func49, Tryd.ntmps49
  go_wp2_with fail
  refine HV.out.mono ?_
  rintro e w' ⟨rfl, rfl⟩
  go_wp2_with fail
  go_loop [4, 5] (fun n v => ∃ k : Nat, v = .int .i64 k ∧ k ≤ s.size ∧ n = .int .i64 (valL 0 ((L s).take k) : Nat)) (fun _ v => s.size - (intOf v).toNat)
  case atStart => exact ⟨0, rfl, Nat.zero_le _, rfl⟩
  case round =>
    obtain ⟨k, rfl, hk, rfl⟩ := hrel
    by_cases hlt : k < s.size
    case neg =>
      have HF : Hid (valL 0 ((L s).take k) = valL 0 (L s)) := by unfold Hid; rw [List.take_of_length_le (by rw [L_len]; omega)]
      clear HA
      go_wp2_with fail
      go_ret2
      exact ⟨rii (by rw [HF.out]) rfl, rfl⟩
    have HB := Lib.hid (valL_bd s k hk h12 HA.out)
    have hbd : ((valL 0 ((L s).take k) : Nat) : Int) ≤ 1000000000000 := by have := HB.out; omega
    have HN : Hid (valL 0 ((L s).take (k + 1)) = 10 * valL 0 ((L s).take k) + ((s[k]).toNat - 48)) := by unfold Hid; rw [take_succ_L s k hlt, valL_snoc]
    obtain ⟨hd1, hd2⟩ := dig_at s k hlt HA.out
    have hd1i : (48 : Int) ≤ ((s[k]).toNat : Int) := by omega
    have hd2i : ((s[k]).toNat : Int) ≤ 57 := by omega
    clear HA hq
    generalize valL 0 ((L s).take k) = n at *
    go_wp2_with fail
    exact ⟨⟨k + 1, by go_num, by omega, congrArg (Value.int .i64) (by have := HN.out; omega)⟩, by simp [intOf]; omega⟩
end Go.Proofs.YtmafggfonapmpaaDoor
