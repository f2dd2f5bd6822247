/- Quoting: the plain words, and datakitref19.Quote walked. Conditions: strings of at most 10^9 bytes. -/
import Derived.Test.YtmafggfonapmpaaL2
namespace Go.Proofs.Ytmafggfonapmpaa
open Go.RowKit
set_option maxHeartbeats 1000000
set_option maxRecDepth 100000

/-- A hexadecimal digit. -/
def hexd (n : Nat) : UInt8 := UInt8.ofNat (if n < 10 then 48 + n else 87 + n)
/-- A byte, in a quoted string. -/
def qb (c : UInt8) : List UInt8 :=
  if c.toNat = 34 then [92, 34] else if c.toNat = 92 then [92, 92] else if c.toNat = 8 then [92, 98] else if c.toNat = 12 then [92, 102]
  else if c.toNat = 10 then [92, 110] else if c.toNat = 13 then [92, 114] else if c.toNat = 9 then [92, 116]
  else if c.toNat < 32 then [92, 117, 48, 48, hexd (c.toNat / 16), hexd (c.toNat % 16)] else [c]
theorem qb_len (c : UInt8) : (qb c).length ≤ 6 := by
  unfold qb
  repeat' split
  all_goals simp
/-- What Quote hands back. -/
def quoR (l : List UInt8) : List UInt8 × Nat := if badL l = l.length then (34 :: l.flatMap qb ++ [34], 0) else ([], 5)

theorem hex_two : ∀ n : Fin 256, L ((⟨#[48, 49, 50, 51, 52, 53, 54, 55, 56, 57, 97, 98, 99, 100, 101, 102]⟩ : ByteArray).extract (n.val / 16) (n.val / 16 + 1) ++ (⟨#[48, 49, 50, 51, 52, 53, 54, 55, 56, 57, 97, 98, 99, 100, 101, 102]⟩ : ByteArray).extract (n.val % 16) (n.val % 16 + 1)) = [hexd (n.val / 16), hexd (n.val % 16)] := by decide +kernel
theorem s16_any (c : UInt8) (w : World) :
    Calls Try.prog 25 #[.int .u8 (c.toNat : Int)] w fun e w' => e = .returned (.string ⟨#[hexd (c.toNat / 16), hexd (c.toNat % 16)]⟩) ∧ Below w.heap.size w w' := by
  have hc : c.toNat < 256 := c.toNat_lt
  have hh := Lib.hid (hex_two ⟨c.toNat, c.toNat_lt⟩)
  go_enter Try.func25, Try.ntmps25
  go_wp2_with fail
  go_quiet (fail)
  go_wp2_with fail
  go_ret
  refine ⟨?_, rfl, rfl, rfl, Nat.le_refl _, fun _ _ => rfl⟩
  have h2 : ∀ (a : ByteArray) (x y : UInt8), L a = [x, y] → a = ⟨#[x, y]⟩ := by
    intro a x y h
    cases a with
    | mk a =>
      cases a with
      | mk a =>
        have : a = [x, y] := h
        rw [this]
  exact congrArg (fun x => Ending.returned (.string x)) (h2 _ _ _ hh.out)

theorem take_snoc (s : ByteArray) (k : Nat) (h : k < s.size) : (L s).take (k + 1) = (L s).take k ++ [s[k]] := by
  have hk : k < (L s).length := by rw [L_len]; exact h
  rw [List.take_succ_eq_append_getElem hk]
  rfl
theorem quo_step (s out : ByteArray) (k : Nat) (h : k < s.size) (hq : L out = 34 :: ((L s).take k).flatMap qb) (t : ByteArray) (ht : L t = qb s[k]) : L (out ++ t) = 34 :: ((L s).take (k + 1)).flatMap qb := by
  rw [L_append, hq, ht, take_snoc s k h]
  simp
theorem size_L (t : ByteArray) : t.size = (L t).length := (L_len t).symm
theorem quo_size (s out t : ByteArray) (k : Nat) (h : k < s.size) (ho : out.size ≤ 6 * k + 1) (ht : L t = qb s[k]) : (out ++ t).size ≤ 6 * (k + 1) + 1 := by
  have := qb_len s[k]
  rw [← ht, L_len] at this
  rw [ByteArray.size_append]
  omega
theorem Quote3_any (s : ByteArray) (w : World) (hs : s.size ≤ 1000000000) :
    Calls Try.prog 13 #[.string s] w fun e w' => e = .returned (.tuple #[.string ⟨(quoR (L s)).1.toArray⟩, .int .i64 (quoR (L s)).2]) ∧ Below w.heap.size w w' := by
  cases hv : validL (L s)
  case false =>
    have HF : Hid (quoR (L s) = ([], 5)) := by unfold Hid quoR; rw [if_neg (by simpa [validL] using hv)]
    go_enter Try.func13, Try.ntmps13
    go_wp2_with (go_at_call 24; refine (Valid3_any s _ hs).mono ?_; rintro e w1 ⟨rfl, hb1⟩; rw [hv])
    go_ret2
    exact ⟨ret2_str HF.out, hb1⟩
  have HF : Hid (quoR (L s) = (34 :: (L s).flatMap qb ++ [34], 0)) := by unfold Hid quoR; rw [if_pos (by simpa [validL] using hv)]
  go_enter Try.func13, Try.ntmps13
  go_wp2_with (go_at_call 24; refine (Valid3_any s _ hs).mono ?_; rintro e w1 ⟨rfl, hb1⟩; rw [hv])
  go_loopw [4, 5, 6] (fun o i _ wr => ∃ (k : Nat) (out : ByteArray), k ≤ s.size ∧ i = .int .i64 k ∧ o = .string out ∧ out.size ≤ 6 * k + 1 ∧ Hid (L out = 34 :: ((L s).take k).flatMap qb) ∧ Below w.heap.size w wr) (fun _ i _ _ => s.size - (intOf i).toNat)
  case atStart => exact ⟨0, ⟨#[34]⟩, Nat.zero_le _, rfl, rfl, by decide, rfl, hb1⟩
  case round =>
    clear hb1
    obtain ⟨k, out, hk, rfl, rfl, hol, HO, hbw⟩ := hrel
    by_cases hlt : k < s.size
    case neg =>
      obtain rfl : k = s.size := by omega
      have HX : Hid (quoR (L s) = (L (out ++ ⟨#[34]⟩), 0)) := by
        unfold Hid
        rw [HF.out, L_append, HO.out, List.take_of_length_le (by rw [L_len]; exact Nat.le_refl _)]
        rfl
      clear HO HF
      go_wp2_with fail
      go_ret2
      exact ⟨ret2_str HX.out, hbw⟩
    have HS := Lib.hid (quo_step s out k hlt HO.out)
    have HZ := Lib.hid (quo_size s out · k hlt hol)
    clear HO HF
    by_cases h34 : s[k].toNat = 34
    · have HQ : Hid (L ⟨#[92, 34]⟩ = qb s[k]) := by unfold Hid qb; rw [if_pos h34]; rfl
      have q34 := beqB s[k] 34 (by omega)
      clear h34
      go_wp2_with fail
      exact ⟨⟨k + 1, _, by omega, rfl, rfl, HZ.out _ HQ.out, HS.out _ HQ.out, hbw⟩, by simp [intOf]; omega⟩
    have q34 := beqNB s[k] 34 (by omega)
    by_cases h92 : s[k].toNat = 92
    · have HQ : Hid (L ⟨#[92, 92]⟩ = qb s[k]) := by unfold Hid qb; rw [if_neg h34, if_pos h92]; rfl
      have q92 := beqB s[k] 92 (by omega)
      clear h34 h92
      go_wp2_with fail
      exact ⟨⟨k + 1, _, by omega, rfl, rfl, HZ.out _ HQ.out, HS.out _ HQ.out, hbw⟩, by simp [intOf]; omega⟩
    have q92 := beqNB s[k] 92 (by omega)
    by_cases h8 : s[k].toNat = 8
    · have HQ : Hid (L ⟨#[92, 98]⟩ = qb s[k]) := by unfold Hid qb; rw [if_neg h34, if_neg h92, if_pos h8]; rfl
      have q8 := beqB s[k] 8 (by omega)
      clear h34 h92 h8
      go_wp2_with fail
      exact ⟨⟨k + 1, _, by omega, rfl, rfl, HZ.out _ HQ.out, HS.out _ HQ.out, hbw⟩, by simp [intOf]; omega⟩
    have q8 := beqNB s[k] 8 (by omega)
    by_cases h12 : s[k].toNat = 12
    · have HQ : Hid (L ⟨#[92, 102]⟩ = qb s[k]) := by unfold Hid qb; rw [if_neg h34, if_neg h92, if_neg h8, if_pos h12]; rfl
      have q12 := beqB s[k] 12 (by omega)
      clear h34 h92 h8 h12
      go_wp2_with fail
      exact ⟨⟨k + 1, _, by omega, rfl, rfl, HZ.out _ HQ.out, HS.out _ HQ.out, hbw⟩, by simp [intOf]; omega⟩
    have q12 := beqNB s[k] 12 (by omega)
    by_cases h10 : s[k].toNat = 10
    · have HQ : Hid (L ⟨#[92, 110]⟩ = qb s[k]) := by unfold Hid qb; rw [if_neg h34, if_neg h92, if_neg h8, if_neg h12, if_pos h10]; rfl
      have q10 := beqB s[k] 10 (by omega)
      clear h34 h92 h8 h12 h10
      go_wp2_with fail
      exact ⟨⟨k + 1, _, by omega, rfl, rfl, HZ.out _ HQ.out, HS.out _ HQ.out, hbw⟩, by simp [intOf]; omega⟩
    have q10 := beqNB s[k] 10 (by omega)
    by_cases h13 : s[k].toNat = 13
    · have HQ : Hid (L ⟨#[92, 114]⟩ = qb s[k]) := by unfold Hid qb; rw [if_neg h34, if_neg h92, if_neg h8, if_neg h12, if_neg h10, if_pos h13]; rfl
      have q13 := beqB s[k] 13 (by omega)
      clear h34 h92 h8 h12 h10 h13
      go_wp2_with fail
      exact ⟨⟨k + 1, _, by omega, rfl, rfl, HZ.out _ HQ.out, HS.out _ HQ.out, hbw⟩, by simp [intOf]; omega⟩
    have q13 := beqNB s[k] 13 (by omega)
    by_cases h9 : s[k].toNat = 9
    · have HQ : Hid (L ⟨#[92, 116]⟩ = qb s[k]) := by unfold Hid qb; rw [if_neg h34, if_neg h92, if_neg h8, if_neg h12, if_neg h10, if_neg h13, if_pos h9]; rfl
      have q9 := beqB s[k] 9 (by omega)
      clear h34 h92 h8 h12 h10 h13 h9
      go_wp2_with fail
      exact ⟨⟨k + 1, _, by omega, rfl, rfl, HZ.out _ HQ.out, HS.out _ HQ.out, hbw⟩, by simp [intOf]; omega⟩
    have q9 := beqNB s[k] 9 (by omega)
    by_cases h32 : s[k].toNat < 32
    · have HQ : Hid (L (⟨#[92, 117, 48, 48]⟩ ++ ⟨#[hexd (s[k].toNat / 16), hexd (s[k].toNat % 16)]⟩) = qb s[k]) := by
        unfold Hid qb; rw [if_neg h34, if_neg h92, if_neg h8, if_neg h12, if_neg h10, if_neg h13, if_neg h9, if_pos h32]; rfl
      have q32 : (s[k].toNat : Int) < 32 := by omega
      have hsz : (⟨#[92, 117, 48, 48]⟩ ++ ⟨#[hexd (s[k].toNat / 16), hexd (s[k].toNat % 16)]⟩ : ByteArray).size ≤ 6 := by rw [ByteArray.size_append]; exact Nat.le_refl _
      clear h34 h92 h8 h12 h10 h13 h9 h32
      go_wp2_with (go_at_call 25; refine (s16_any _ _).mono ?_; rintro e w2 ⟨rfl, hb2⟩)
      exact ⟨⟨k + 1, _, by omega, rfl, rfl, HZ.out _ HQ.out, HS.out _ HQ.out, hbw.trans (hb2.mono hbw.size)⟩, by simp [intOf]; omega⟩
    · have HQ : Hid (L (s.extract k (k + 1)) = qb s[k]) := by
        unfold Hid qb; rw [if_neg h34, if_neg h92, if_neg h8, if_neg h12, if_neg h10, if_neg h13, if_neg h9, if_neg h32, L_extract, L_drop s k hlt]
        simp
      have q32 : ¬ (s[k].toNat : Int) < 32 := by omega
      have hsz : (s.extract k (k + 1)).size ≤ 1 := by rw [ByteArray.size_extract]; omega
      clear h34 h92 h8 h12 h10 h13 h9 h32
      go_wp2_with fail
      exact ⟨⟨k + 1, _, by omega, rfl, rfl, HZ.out _ HQ.out, HS.out _ HQ.out, hbw⟩, by simp [intOf]; omega⟩
end Go.Proofs.Ytmafggfonapmpaa
