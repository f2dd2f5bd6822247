/- A quoted string is read back: plain laws, no program in sight. Conditions: none. -/
import Derived.Test.YtlnpfpjncnkekaaGreatDoorZs9
import Derived.Deep.DeepCutAuto
import Derived.Deep.CutBlock
import Derived.Deep.QuietTactic
import Derived.BigQuiet
namespace Go.Proofs.YtlnpfpjncnkekaaGreatDoor
open Go.RowKit
set_option maxHeartbeats 1000000
set_option maxRecDepth 100000

end Go.Proofs.YtlnpfpjncnkekaaGreatDoor

namespace Go.Proofs.YtlnpfpjncnkekaaGreatDoor
open Go.RowKit
set_option maxHeartbeats 1000000
set_option maxRecDepth 100000

/-- A hexadecimal digit. -/
def hexd (n : Nat) : UInt8 := UInt8.ofNat (if n < 10 then 48 + n else 87 + n)
/-- A byte, in a quoted string. -/
def qb (c : UInt8) : List UInt8 :=
  if c.toNat = 34 then [92, 34] else if c.toNat = 92 then [92, 92] else if c.toNat = 8 then [92, 98] else if c.toNat = 12 then [92, 102]
  else if c.toNat = 10 then [92, 110] else if c.toNat = 13 then [92, 114] else if c.toNat = 9 then [92, 116]
  else if c.toNat < 32 then [92, 117, 48, 48, hexd (c.toNat / 16), hexd (c.toNat % 16)] else [c]
theorem qb_len (c : UInt8) : (qb c).length ≤ 6 := by
  unfold qb
  repeat' split
  all_goals simp
/-- What Quote hands back. -/
def quoR (l : List UInt8) : List UInt8 × Nat := if badL l = l.length then (34 :: l.flatMap qb ++ [34], 0) else ([], 5)

theorem hex_two : ∀ n : Fin 256, L ((⟨#[48, 49, 50, 51, 52, 53, 54, 55, 56, 57, 97, 98, 99, 100, 101, 102]⟩ : ByteArray).extract (n.val / 16) (n.val / 16 + 1) ++ (⟨#[48, 49, 50, 51, 52, 53, 54, 55, 56, 57, 97, 98, 99, 100, 101, 102]⟩ : ByteArray).extract (n.val % 16) (n.val % 16 + 1)) = [hexd (n.val / 16), hexd (n.val % 16)] := by decide +kernel
theorem s16_any (c : UInt8) (w : World) :
    Calls Tryz.prog 113 #[.int .u8 (c.toNat : Int)] w fun e w' => e = .returned (.string ⟨#[hexd (c.toNat / 16), hexd (c.toNat % 16)]⟩) ∧ Below w.heap.size w w' := by
  have hc : c.toNat < 256 := c.toNat_lt
  have hh := Lib.hid (hex_two ⟨c.toNat, c.toNat_lt⟩)
  go_enter Tryz.func113, Tryz.ntmps113
  go_wp2_with fail
  go_quiet (fail)
  go_wp2_with fail
  go_ret
  refine ⟨?_, rfl, rfl, rfl, Nat.le_refl _, fun _ _ => rfl⟩
  have h2 : ∀ (a : ByteArray) (x y : UInt8), L a = [x, y] → a = ⟨#[x, y]⟩ := by
    intro a x y h
    cases a with
    | mk a =>
      cases a with
      | mk a =>
        have : a = [x, y] := h
        rw [this]
  exact congrArg (fun x => Ending.returned (.string x)) (h2 _ _ _ hh.out)

theorem take_snoc (s : ByteArray) (k : Nat) (h : k < s.size) : (L s).take (k + 1) = (L s).take k ++ [s[k]] := by
  have hk : k < (L s).length := by rw [L_len]; exact h
  rw [List.take_succ_eq_append_getElem hk]
  rfl
theorem quo_step (s out : ByteArray) (k : Nat) (h : k < s.size) (hq : L out = 34 :: ((L s).take k).flatMap qb) (t : ByteArray) (ht : L t = qb s[k]) : L (out ++ t) = 34 :: ((L s).take (k + 1)).flatMap qb := by
  rw [L_append, hq, ht, take_snoc s k h]
  simp
theorem quo_size (s out t : ByteArray) (k : Nat) (h : k < s.size) (ho : out.size ≤ 6 * k + 1) (ht : L t = qb s[k]) : (out ++ t).size ≤ 6 * (k + 1) + 1 := by
  have := qb_len s[k]
  rw [← ht, L_len] at this
  rw [ByteArray.size_append]
  omega
theorem Quote3_any (s : ByteArray) (w : World) (hs : s.size ≤ 1000000000) :
    Calls Tryz.prog 64 #[.string s] w fun e w' => e = .returned (.tuple #[.string ⟨(quoR (L s)).1.toArray⟩, .int .i64 (quoR (L s)).2]) ∧ Below w.heap.size w w' := by
  cases hv : validL (L s)
  case false =>
    have HF : Hid (quoR (L s) = ([], 5)) := by unfold Hid quoR; rw [if_neg (by simpa [validL] using hv)]
    go_enter Tryz.func64, Tryz.ntmps64
    go_wp2_with (go_at_call 88; refine (Valid3_any s _ hs).mono ?_; rintro e w1 ⟨rfl, hb1⟩; rw [hv])
    go_ret2
    exact ⟨ret2_str HF.out, hb1⟩
  have HF : Hid (quoR (L s) = (34 :: (L s).flatMap qb ++ [34], 0)) := by unfold Hid quoR; rw [if_pos (by simpa [validL] using hv)]
  go_enter Tryz.func64, Tryz.ntmps64
  go_wp2_with (go_at_call 88; refine (Valid3_any s _ hs).mono ?_; rintro e w1 ⟨rfl, hb1⟩; rw [hv])
  go_loopw [4, 5, 6] (fun o i _ wr => ∃ (k : Nat) (out : ByteArray), k ≤ s.size ∧ i = .int .i64 k ∧ o = .string out ∧ out.size ≤ 6 * k + 1 ∧ Hid (L out = 34 :: ((L s).take k).flatMap qb) ∧ Below w.heap.size w wr) (fun _ i _ _ => s.size - (intOf i).toNat)
  case atStart => exact ⟨0, ⟨#[34]⟩, Nat.zero_le _, rfl, rfl, by decide, rfl, hb1⟩
  case round =>
    clear hb1
    obtain ⟨k, out, hk, rfl, rfl, hol, HO, hbw⟩ := hrel
    by_cases hlt : k < s.size
    case neg =>
      obtain rfl : k = s.size := by omega
      have HX : Hid (quoR (L s) = (L (out ++ ⟨#[34]⟩), 0)) := by
        unfold Hid
        rw [HF.out, L_append, HO.out, List.take_of_length_le (by rw [L_len]; exact Nat.le_refl _)]
        rfl
      clear HO HF
      go_wp2_with fail
      go_ret2
      exact ⟨ret2_str HX.out, hbw⟩
    have HS := Lib.hid (quo_step s out k hlt HO.out)
    have HZ := Lib.hid (quo_size s out · k hlt hol)
    clear HO HF
    by_cases h34 : s[k].toNat = 34
    · have HQ : Hid (L ⟨#[92, 34]⟩ = qb s[k]) := by unfold Hid qb; rw [if_pos h34]; rfl
      have q34 := beqB s[k] 34 (by omega)
      clear h34
      go_wp2_with fail
      exact ⟨⟨k + 1, _, by omega, rfl, rfl, HZ.out _ HQ.out, HS.out _ HQ.out, hbw⟩, by simp [intOf]; omega⟩
    have q34 := beqNB s[k] 34 (by omega)
    by_cases h92 : s[k].toNat = 92
    · have HQ : Hid (L ⟨#[92, 92]⟩ = qb s[k]) := by unfold Hid qb; rw [if_neg h34, if_pos h92]; rfl
      have q92 := beqB s[k] 92 (by omega)
      clear h34 h92
      go_wp2_with fail
      exact ⟨⟨k + 1, _, by omega, rfl, rfl, HZ.out _ HQ.out, HS.out _ HQ.out, hbw⟩, by simp [intOf]; omega⟩
    have q92 := beqNB s[k] 92 (by omega)
    by_cases h8 : s[k].toNat = 8
    · have HQ : Hid (L ⟨#[92, 98]⟩ = qb s[k]) := by unfold Hid qb; rw [if_neg h34, if_neg h92, if_pos h8]; rfl
      have q8 := beqB s[k] 8 (by omega)
      clear h34 h92 h8
      go_wp2_with fail
      exact ⟨⟨k + 1, _, by omega, rfl, rfl, HZ.out _ HQ.out, HS.out _ HQ.out, hbw⟩, by simp [intOf]; omega⟩
    have q8 := beqNB s[k] 8 (by omega)
    by_cases h12 : s[k].toNat = 12
    · have HQ : Hid (L ⟨#[92, 102]⟩ = qb s[k]) := by unfold Hid qb; rw [if_neg h34, if_neg h92, if_neg h8, if_pos h12]; rfl
      have q12 := beqB s[k] 12 (by omega)
      clear h34 h92 h8 h12
      go_wp2_with fail
      exact ⟨⟨k + 1, _, by omega, rfl, rfl, HZ.out _ HQ.out, HS.out _ HQ.out, hbw⟩, by simp [intOf]; omega⟩
    have q12 := beqNB s[k] 12 (by omega)
    by_cases h10 : s[k].toNat = 10
    · have HQ : Hid (L ⟨#[92, 110]⟩ = qb s[k]) := by unfold Hid qb; rw [if_neg h34, if_neg h92, if_neg h8, if_neg h12, if_pos h10]; rfl
      have q10 := beqB s[k] 10 (by omega)
      clear h34 h92 h8 h12 h10
      go_wp2_with fail
      exact ⟨⟨k + 1, _, by omega, rfl, rfl, HZ.out _ HQ.out, HS.out _ HQ.out, hbw⟩, by simp [intOf]; omega⟩
    have q10 := beqNB s[k] 10 (by omega)
    by_cases h13 : s[k].toNat = 13
    · have HQ : Hid (L ⟨#[92, 114]⟩ = qb s[k]) := by unfold Hid qb; rw [if_neg h34, if_neg h92, if_neg h8, if_neg h12, if_neg h10, if_pos h13]; rfl
      have q13 := beqB s[k] 13 (by omega)
      clear h34 h92 h8 h12 h10 h13
      go_wp2_with fail
      exact ⟨⟨k + 1, _, by omega, rfl, rfl, HZ.out _ HQ.out, HS.out _ HQ.out, hbw⟩, by simp [intOf]; omega⟩
    have q13 := beqNB s[k] 13 (by omega)
    by_cases h9 : s[k].toNat = 9
    · have HQ : Hid (L ⟨#[92, 116]⟩ = qb s[k]) := by unfold Hid qb; rw [if_neg h34, if_neg h92, if_neg h8, if_neg h12, if_neg h10, if_neg h13, if_pos h9]; rfl
      have q9 := beqB s[k] 9 (by omega)
      clear h34 h92 h8 h12 h10 h13 h9
      go_wp2_with fail
      exact ⟨⟨k + 1, _, by omega, rfl, rfl, HZ.out _ HQ.out, HS.out _ HQ.out, hbw⟩, by simp [intOf]; omega⟩
    have q9 := beqNB s[k] 9 (by omega)
    by_cases h32 : s[k].toNat < 32
    · have HQ : Hid (L (⟨#[92, 117, 48, 48]⟩ ++ ⟨#[hexd (s[k].toNat / 16), hexd (s[k].toNat % 16)]⟩) = qb s[k]) := by
        unfold Hid qb; rw [if_neg h34, if_neg h92, if_neg h8, if_neg h12, if_neg h10, if_neg h13, if_neg h9, if_pos h32]; rfl
      have q32 : (s[k].toNat : Int) < 32 := by omega
      have hsz : (⟨#[92, 117, 48, 48]⟩ ++ ⟨#[hexd (s[k].toNat / 16), hexd (s[k].toNat % 16)]⟩ : ByteArray).size ≤ 6 := by rw [ByteArray.size_append]; exact Nat.le_refl _
      clear h34 h92 h8 h12 h10 h13 h9 h32
      go_wp2_with (go_at_call 113; refine (s16_any _ _).mono ?_; rintro e w2 ⟨rfl, hb2⟩)
      exact ⟨⟨k + 1, _, by omega, rfl, rfl, HZ.out _ HQ.out, HS.out _ HQ.out, hbw.trans (hb2.mono hbw.size)⟩, by simp [intOf]; omega⟩
    · have HQ : Hid (L (s.extract k (k + 1)) = qb s[k]) := by
        unfold Hid qb; rw [if_neg h34, if_neg h92, if_neg h8, if_neg h12, if_neg h10, if_neg h13, if_neg h9, if_neg h32, L_extract, L_drop s k hlt]
        simp
      have q32 : ¬ (s[k].toNat : Int) < 32 := by omega
      have hsz : (s.extract k (k + 1)).size ≤ 1 := by rw [ByteArray.size_extract]; omega
      clear h34 h92 h8 h12 h10 h13 h9 h32
      go_wp2_with fail
      exact ⟨⟨k + 1, _, by omega, rfl, rfl, HZ.out _ HQ.out, HS.out _ HQ.out, hbw⟩, by simp [intOf]; omega⟩
end Go.Proofs.YtlnpfpjncnkekaaGreatDoor

namespace Go.Proofs.YtlnpfpjncnkekaaGreatDoor
open Go.RowKit
set_option maxHeartbeats 1000000
set_option maxRecDepth 100000

/-! A character is read from its own bytes alone. -/
theorem cont_congr : ∀ (n r : Nat) (l m : List UInt8), l.take n = m.take n → n ≤ l.length → n ≤ m.length → cont n r l = cont n r m
  | 0, _, _, _, _, _, _ => rfl
  | n + 1, _, [], _, _, h, _ => by simp at h
  | n + 1, _, _ :: _, [], _, _, h => by simp at h
  | n + 1, r, b :: t, c :: u, h, h1, h2 => by
    simp only [List.take_succ_cons, List.cons.injEq] at h
    obtain ⟨rfl, h⟩ := h
    unfold cont
    rw [cont_congr n _ t u h (by simpa using h1) (by simpa using h2)]
theorem dec_hd (b : UInt8) (t : List UInt8) (h : (dec (b :: t)).2 ≠ 0) : (dec (b :: t)).2 = (hd b.toNat).1 := by
  simp only [dec] at h ⊢
  split at h
  · exact absurd rfl h
  rename_i hc
  rw [if_neg hc]
  split
  · rename_i he; rw [he] at h; exact absurd rfl h
  · rename_i r he
    rw [he] at h
    simp only [] at h ⊢
    split at h
    · rename_i hs; rw [if_pos hs]
    · exact absurd rfl h
theorem dec_congr (l m : List UInt8) (h : (dec l).2 ≠ 0) (ht : l.take (dec l).2 = m.take (dec l).2) : dec m = dec l := by
  have hle := dec_le l
  rcases l with _ | ⟨b, t⟩
  · exact absurd rfl h
  have hml : (dec (b :: t)).2 ≤ m.length := by
    have := congrArg List.length ht
    rw [List.length_take, List.length_take] at this
    omega
  rcases m with _ | ⟨c, u⟩
  · simp at hml; exact absurd hml h
  have hh := dec_hd b t h
  generalize (dec (b :: t)).2 = n at *
  obtain ⟨k, rfl⟩ : ∃ k, n = k + 1 := ⟨n - 1, by omega⟩
  simp only [List.take_succ_cons, List.cons.injEq] at ht
  obtain ⟨rfl, ht⟩ := ht
  simp only [List.length_cons] at hle hml
  simp only [dec]
  rw [← hh, if_neg (by omega), if_neg (by omega), Nat.add_sub_cancel, cont_congr k _ u t ht.symm (by omega) (by omega)]
theorem dec_ascii (b : UInt8) (t : List UInt8) (h : b.toNat < 128) : dec (b :: t) = (b.toNat, 1) := by
  have hd1 : hd b.toNat = (1, b.toNat) := by unfold hd; rw [if_pos h]
  simp only [dec]
  rw [hd1, if_neg (by simp)]
  simp only [Nat.sub_self, cont]
  rw [if_pos ⟨by simp [scal]; omega, by unfold wid; rw [if_pos h]⟩]

/-! Valid lists. -/
/-- The bytes of a character of many bytes. -/
theorem high_bytes (l : List UInt8) (h0 : (dec l).2 ≠ 0) (h1 : (dec l).2 ≠ 1) : ∀ c ∈ l.take (dec l).2, 128 ≤ c.toNat := by
  rcases dec_cases l with h | ⟨r, n, h, hs, hw, _, _, _, he⟩
  · rw [h] at h0; exact absurd rfl h0
  rw [h] at h1 ⊢
  simp only [] at h1 ⊢
  rw [← he]
  have hr : r < 2097152 := by simp [scal] at hs; omega
  unfold wid at hw
  unfold enc
  intro c hc
  by_cases c1 : r < 128
  · rw [if_pos c1] at hw; omega
  rw [if_neg c1] at hc
  by_cases c2 : r < 2048
  · rw [if_pos c2] at hc
    simp only [List.mem_cons, List.not_mem_nil, or_false] at hc
    rcases hc with rfl | rfl <;> simp <;> omega
  rw [if_neg c2] at hc
  by_cases c3 : r < 65536
  · rw [if_pos c3] at hc
    simp only [List.mem_cons, List.not_mem_nil, or_false] at hc
    rcases hc with rfl | rfl | rfl <;> simp <;> omega
  · rw [if_neg c3] at hc
    simp only [List.mem_cons, List.not_mem_nil, or_false] at hc
    rcases hc with rfl | rfl | rfl | rfl <;> simp <;> omega
theorem dec_one (b : UInt8) (t : List UInt8) (h : (dec (b :: t)).2 = 1) : b.toNat < 128 := by
  rcases dec_cases (b :: t) with h' | ⟨r, n, h', _, hw, _, _, _, he⟩
  · rw [h'] at h; cases h
  rw [h'] at h
  simp only [] at h
  subst h
  rw [List.take_succ_cons, List.take_zero] at he
  have hr : r < 128 := by
    unfold wid at hw
    by_cases c1 : r < 128
    · exact c1
    · rw [if_neg c1] at hw
      repeat' split at hw
      all_goals omega
  unfold enc at he
  rw [if_pos hr, List.cons.injEq] at he
  rw [← he.1]
  simp
  omega

/-! A quoted string is valid. -/
end Go.Proofs.YtlnpfpjncnkekaaGreatDoor
