/- A quoted string is read back: plain laws, no program in sight. Conditions: none. -/
import Derived.Test.YtlnpfpjncnkekaaGreatDoorZt9
import Derived.Deep.DeepCutAuto
import Derived.Deep.CutBlock
import Derived.Deep.QuietTactic
import Derived.BigQuiet
namespace Go.Proofs.YtlnpfpjncnkekaaGreatDoor
open Go.RowKit
set_option maxHeartbeats 1000000
set_option maxRecDepth 100000

end Go.Proofs.YtlnpfpjncnkekaaGreatDoor

namespace Go.Proofs.YtlnpfpjncnkekaaGreatDoor
open Go.RowKit
set_option maxHeartbeats 1000000
set_option maxRecDepth 100000

/-- A hexadecimal digit. -/
def hexd (n : Nat) : UInt8 := UInt8.ofNat (if n < 10 then 48 + n else 87 + n)
/-- A byte, in a quoted string. -/
def qb (c : UInt8) : List UInt8 :=
  if c.toNat = 34 then [92, 34] else if c.toNat = 92 then [92, 92] else if c.toNat = 8 then [92, 98] else if c.toNat = 12 then [92, 102]
  else if c.toNat = 10 then [92, 110] else if c.toNat = 13 then [92, 114] else if c.toNat = 9 then [92, 116]
  else if c.toNat < 32 then [92, 117, 48, 48, hexd (c.toNat / 16), hexd (c.toNat % 16)] else [c]
theorem qb_len (c : UInt8) : (qb c).length ≤ 6 := by
  unfold qb
  repeat' split
  all_goals simp
/-- What Quote hands back. -/
def quoR (l : List UInt8) : List UInt8 × Nat := if badL l = l.length then (34 :: l.flatMap qb ++ [34], 0) else ([], 5)

theorem take_snoc (s : ByteArray) (k : Nat) (h : k < s.size) : (L s).take (k + 1) = (L s).take k ++ [s[k]] := by
  have hk : k < (L s).length := by rw [L_len]; exact h
  rw [List.take_succ_eq_append_getElem hk]
  rfl
end Go.Proofs.YtlnpfpjncnkekaaGreatDoor

namespace Go.Proofs.YtlnpfpjncnkekaaGreatDoor
open Go.RowKit
set_option maxHeartbeats 1000000
set_option maxRecDepth 100000

/-! A character is read from its own bytes alone. -/
theorem cont_congr : ∀ (n r : Nat) (l m : List UInt8), l.take n = m.take n → n ≤ l.length → n ≤ m.length → cont n r l = cont n r m
  | 0, _, _, _, _, _, _ => rfl
  | n + 1, _, [], _, _, h, _ => by simp at h
  | n + 1, _, _ :: _, [], _, _, h => by simp at h
  | n + 1, r, b :: t, c :: u, h, h1, h2 => by
    simp only [List.take_succ_cons, List.cons.injEq] at h
    obtain ⟨rfl, h⟩ := h
    unfold cont
    rw [cont_congr n _ t u h (by simpa using h1) (by simpa using h2)]
theorem dec_hd (b : UInt8) (t : List UInt8) (h : (dec (b :: t)).2 ≠ 0) : (dec (b :: t)).2 = (hd b.toNat).1 := by
  simp only [dec] at h ⊢
  split at h
  · exact absurd rfl h
  rename_i hc
  rw [if_neg hc]
  split
  · rename_i he; rw [he] at h; exact absurd rfl h
  · rename_i r he
    rw [he] at h
    simp only [] at h ⊢
    split at h
    · rename_i hs; rw [if_pos hs]
    · exact absurd rfl h
theorem dec_congr (l m : List UInt8) (h : (dec l).2 ≠ 0) (ht : l.take (dec l).2 = m.take (dec l).2) : dec m = dec l := by
  have hle := dec_le l
  rcases l with _ | ⟨b, t⟩
  · exact absurd rfl h
  have hml : (dec (b :: t)).2 ≤ m.length := by
    have := congrArg List.length ht
    rw [List.length_take, List.length_take] at this
    omega
  rcases m with _ | ⟨c, u⟩
  · simp at hml; exact absurd hml h
  have hh := dec_hd b t h
  generalize (dec (b :: t)).2 = n at *
  obtain ⟨k, rfl⟩ : ∃ k, n = k + 1 := ⟨n - 1, by omega⟩
  simp only [List.take_succ_cons, List.cons.injEq] at ht
  obtain ⟨rfl, ht⟩ := ht
  simp only [List.length_cons] at hle hml
  simp only [dec]
  rw [← hh, if_neg (by omega), if_neg (by omega), Nat.add_sub_cancel, cont_congr k _ u t ht.symm (by omega) (by omega)]
theorem dec_ascii (b : UInt8) (t : List UInt8) (h : b.toNat < 128) : dec (b :: t) = (b.toNat, 1) := by
  have hd1 : hd b.toNat = (1, b.toNat) := by unfold hd; rw [if_pos h]
  simp only [dec]
  rw [hd1, if_neg (by simp)]
  simp only [Nat.sub_self, cont]
  rw [if_pos ⟨by simp [scal]; omega, by unfold wid; rw [if_pos h]⟩]

/-! Valid lists. -/
theorem valid_cons (l : List UInt8) (h : badL l = l.length) : l = [] ∨ ((dec l).2 ≠ 0 ∧ badL (l.drop (dec l).2) = (l.drop (dec l).2).length) := by
  rcases l with _ | ⟨b, t⟩
  · exact .inl rfl
  right
  rw [badL_eq] at h
  by_cases h0 : (dec (b :: t)).2 = 0
  · rw [if_pos h0] at h; simp at h
  · rw [if_neg h0] at h
    have := dec_le (b :: t)
    rw [List.length_drop]
    exact ⟨h0, by omega⟩
theorem valid_step (l : List UInt8) (h0 : (dec l).2 ≠ 0) (h : badL (l.drop (dec l).2) = (l.drop (dec l).2).length) : badL l = l.length := by
  have := dec_le l
  rw [badL_eq, if_neg h0, h, List.length_drop]
  omega
theorem valid_ascii (b : UInt8) (t : List UInt8) (hb : b.toNat < 128) (h : badL t = t.length) : badL (b :: t) = (b :: t).length := by
  have hd := dec_ascii b t hb
  exact valid_step (b :: t) (by rw [hd]; simp) (by rw [hd]; exact h)

/-- The bytes of a character of many bytes. -/
theorem high_bytes (l : List UInt8) (h0 : (dec l).2 ≠ 0) (h1 : (dec l).2 ≠ 1) : ∀ c ∈ l.take (dec l).2, 128 ≤ c.toNat := by
  rcases dec_cases l with h | ⟨r, n, h, hs, hw, _, _, _, he⟩
  · rw [h] at h0; exact absurd rfl h0
  rw [h] at h1 ⊢
  simp only [] at h1 ⊢
  rw [← he]
  have hr : r < 2097152 := by simp [scal] at hs; omega
  unfold wid at hw
  unfold enc
  intro c hc
  by_cases c1 : r < 128
  · rw [if_pos c1] at hw; omega
  rw [if_neg c1] at hc
  by_cases c2 : r < 2048
  · rw [if_pos c2] at hc
    simp only [List.mem_cons, List.not_mem_nil, or_false] at hc
    rcases hc with rfl | rfl <;> simp <;> omega
  rw [if_neg c2] at hc
  by_cases c3 : r < 65536
  · rw [if_pos c3] at hc
    simp only [List.mem_cons, List.not_mem_nil, or_false] at hc
    rcases hc with rfl | rfl | rfl <;> simp <;> omega
  · rw [if_neg c3] at hc
    simp only [List.mem_cons, List.not_mem_nil, or_false] at hc
    rcases hc with rfl | rfl | rfl | rfl <;> simp <;> omega
theorem qb_high (c : UInt8) (h : 128 ≤ c.toNat) : qb c = [c] := by
  unfold qb
  rw [if_neg (by omega), if_neg (by omega), if_neg (by omega), if_neg (by omega), if_neg (by omega), if_neg (by omega), if_neg (by omega), if_neg (by omega)]
theorem flat_high (l : List UInt8) (h : ∀ c ∈ l, 128 ≤ c.toNat) : l.flatMap qb = l := by
  induction l with
  | nil => rfl
  | cons c t ih =>
    rw [List.flatMap_cons, qb_high c (h c (by simp)), ih (fun d hd => h d (by simp [hd]))]
    rfl
theorem dec_one (b : UInt8) (t : List UInt8) (h : (dec (b :: t)).2 = 1) : b.toNat < 128 := by
  rcases dec_cases (b :: t) with h' | ⟨r, n, h', _, hw, _, _, _, he⟩
  · rw [h'] at h; cases h
  rw [h'] at h
  simp only [] at h
  subst h
  rw [List.take_succ_cons, List.take_zero] at he
  have hr : r < 128 := by
    unfold wid at hw
    by_cases c1 : r < 128
    · exact c1
    · rw [if_neg c1] at hw
      repeat' split at hw
      all_goals omega
  unfold enc at he
  rw [if_pos hr, List.cons.injEq] at he
  rw [← he.1]
  simp
  omega

/-- The escapes of single bytes, read back. -/
theorem esc_back : ∀ n : Fin 128, (qb (UInt8.ofNat n.val) = [UInt8.ofNat n.val] ∧ 32 ≤ n.val ∧ n.val ≠ 34 ∧ n.val ≠ 92) ∨ (∃ x : Fin 128, qb (UInt8.ofNat n.val) = [92, UInt8.ofNat x.val] ∧ x.val ≠ 117 ∧ simpleEsc (UInt8.ofNat x.val) = some n.val) ∨ (n.val < 32 ∧ qb (UInt8.ofNat n.val) = [92, 117, 48, 48, hexd (n.val / 16), hexd (n.val % 16)] ∧ hexv (hexd (n.val / 16)) = some (n.val / 16) ∧ hexv (hexd (n.val % 16)) = some (n.val % 16)) := by decide +kernel
theorem enc_small (b : UInt8) (h : b.toNat < 128) : enc b.toNat = [b] := by
  unfold enc
  rw [if_pos h, UInt8.ofNat_toNat]
theorem quot_byte (b : UInt8) (hb : b.toNat < 128) (u : List UInt8) : quotL (qb b ++ u) = quotFin [b] (qb b).length (quotL u) := by
  have h := esc_back ⟨b.toNat, hb⟩
  simp only [UInt8.ofNat_toNat] at h
  rcases h with ⟨hq, h32, h34, h92⟩ | ⟨x, hq, hx, hs⟩ | ⟨h32, hq, h1, h2⟩
  · rw [hq]
    show quotL (b :: u) = quotFin [b] 1 (quotL u)
    rw [quotL_cons, if_neg h34, if_neg h92, dec_ascii b u hb, if_neg (by simp; omega)]
    rfl
  · rw [hq]
    show quotL (92 :: UInt8.ofNat x.val :: u) = quotFin [b] 2 (quotL u)
    have he : escL (UInt8.ofNat x.val :: u) = (b.toNat, 1, 0) := by
      have hxn : (UInt8.ofNat x.val).toNat = x.val := by have := x.isLt; simp; omega
      simp only [escL]
      rw [if_neg (by rw [hxn]; exact hx), hs]
    rw [quotL_cons, if_neg (by decide), if_pos (by decide), he, if_neg (by simp), enc_small b hb]
    rfl
  · rw [hq]
    show quotL (92 :: 117 :: 48 :: 48 :: hexd (b.toNat / 16) :: hexd (b.toNat % 16) :: u) = quotFin [b] 6 (quotL u)
    have hx : hexN 4 0 (48 :: 48 :: hexd (b.toNat / 16) :: hexd (b.toNat % 16) :: u) = (b.toNat, 0) := by
      have h48 : hexv 48 = some 0 := by decide
      simp only [hexN, h48, h1, h2]
      have : 16 * (16 * (16 * (16 * 0 + 0) + 0) + b.toNat / 16) + b.toNat % 16 = b.toNat := by omega
      rw [this]
    have he : escL (117 :: 48 :: 48 :: hexd (b.toNat / 16) :: hexd (b.toNat % 16) :: u) = (b.toNat, 5, 0) := by
      show uniEsc (48 :: 48 :: hexd (b.toNat / 16) :: hexd (b.toNat % 16) :: u) = _
      unfold uniEsc
      rw [hx, if_neg (by simp), if_pos (by left; show b.toNat < 55296; omega)]
    rw [quotL_cons, if_neg (by decide), if_pos (by decide), he, if_neg (by simp), enc_small b hb]
    rfl
theorem quot_many (l : List UInt8) (h0 : (dec l).2 ≠ 0) (h1 : (dec l).2 ≠ 1) (u : List UInt8) : quotL (l.take (dec l).2 ++ u) = quotFin (l.take (dec l).2) (dec l).2 (quotL u) := by
  have hle := dec_le l
  have hh := high_bytes l h0 h1
  have hl : (l.take (dec l).2).length = (dec l).2 := by rw [List.length_take]; omega
  have hd : dec (l.take (dec l).2 ++ u) = dec l := dec_congr l _ h0 (by rw [List.take_append_of_le_length (by omega), List.take_take, Nat.min_self])
  generalize hn : (dec l).2 = n at *
  generalize l.take n = p at *
  rcases p with _ | ⟨b, t⟩
  · simp at hl; omega
  have hb := hh b (by simp)
  show quotL (b :: (t ++ u)) = _
  have hd' : dec (b :: (t ++ u)) = dec l := hd
  rw [quotL_cons, if_neg (by omega), if_neg (by omega), hd', hn, if_neg (by omega)]
  have e1 : (b :: (t ++ u)).take n = b :: t := by
    show ((b :: t) ++ u).take n = _
    rw [← hl, List.take_left]
  have e2 : (b :: (t ++ u)).drop n = u := by
    show ((b :: t) ++ u).drop n = _
    rw [← hl, List.drop_left]
  rw [e1, e2]

theorem quot_back : ∀ (k : Nat) (l : List UInt8), l.length ≤ k → badL l = l.length → ∀ u, quotL (l.flatMap qb ++ 34 :: u) = (l, (l.flatMap qb).length + 1, 0)
  | k, [], _, _, u => by
    show quotL (34 :: u) = ([], 1, 0)
    rw [quotL_cons, if_pos (by decide)]
  | 0, _ :: _, h, _, _ => by simp at h
  | k + 1, b :: t, hk, hv, u => by
    rcases valid_cons _ hv with h | ⟨h0, hv'⟩
    · cases h
    have hle := dec_le (b :: t)
    have hsplit : (b :: t).flatMap qb = ((b :: t).take (dec (b :: t)).2).flatMap qb ++ ((b :: t).drop (dec (b :: t)).2).flatMap qb := by
      rw [← List.flatMap_append, List.take_append_drop]
    have ih := quot_back k ((b :: t).drop (dec (b :: t)).2) (by rw [List.length_drop]; simp only [List.length_cons] at *; omega) hv' u
    by_cases h1 : (dec (b :: t)).2 = 1
    · have hb := dec_one b t h1
      rw [hsplit, List.append_assoc, h1]
      rw [h1] at ih
      show quotL (([b].flatMap qb) ++ _) = _
      have hq1 : [b].flatMap qb = qb b := by simp
      rw [hq1, quot_byte b hb, ih]
      simp only [List.drop_succ_cons, List.drop_zero, List.take_succ_cons, List.take_zero]
      rw [hq1, List.length_append]
      unfold quotFin
      simp
      omega
    · have hf := flat_high _ (high_bytes _ h0 h1)
      rw [hsplit, hf, List.append_assoc, quot_many _ h0 h1, ih]
      rw [List.length_append]
      have hl : ((b :: t).take (dec (b :: t)).2).length = (dec (b :: t)).2 := by rw [List.length_take]; omega
      rw [hl]
      unfold quotFin
      rw [if_neg (by simp), List.take_append_drop]
      simp only [Prod.mk.injEq, true_and, and_true]
      omega

/-! A quoted string is valid. -/
theorem valid_app (p : List UInt8) : (∀ c ∈ p, c.toNat < 128) → ∀ u, badL u = u.length → badL (p ++ u) = (p ++ u).length := by
  induction p with
  | nil => intro _ u hu; exact hu
  | cons c p ih => intro h u hu; exact valid_ascii c _ (h c (by simp)) (ih (fun d hd => h d (by simp [hd])) u hu)
theorem qb_ascii : ∀ n : Fin 128, ∀ c ∈ qb (UInt8.ofNat n.val), c.toNat < 128 := by decide +kernel
theorem valid_quot : ∀ (k : Nat) (l : List UInt8), l.length ≤ k → badL l = l.length → badL (l.flatMap qb ++ [34]) = (l.flatMap qb ++ [34]).length
  | k, [], _, _ => by decide
  | 0, _ :: _, h, _ => by simp at h
  | k + 1, b :: t, hk, hv => by
    rcases valid_cons _ hv with h | ⟨h0, hv'⟩
    · cases h
    have hle := dec_le (b :: t)
    have hsplit : (b :: t).flatMap qb = ((b :: t).take (dec (b :: t)).2).flatMap qb ++ ((b :: t).drop (dec (b :: t)).2).flatMap qb := by
      rw [← List.flatMap_append, List.take_append_drop]
    have ih := valid_quot k ((b :: t).drop (dec (b :: t)).2) (by rw [List.length_drop]; simp only [List.length_cons] at *; omega) hv'
    by_cases h1 : (dec (b :: t)).2 = 1
    · have hb := dec_one b t h1
      rw [hsplit, List.append_assoc]
      refine valid_app _ ?_ _ ih
      rw [h1]
      intro c hc
      have hc' : c ∈ qb b := by simpa using hc
      have := qb_ascii ⟨b.toNat, hb⟩ c
      simp only [UInt8.ofNat_toNat] at this
      exact this hc'
    · have hf := flat_high _ (high_bytes _ h0 h1)
      rw [hsplit, hf, List.append_assoc]
      have hl : ((b :: t).take (dec (b :: t)).2).length = (dec (b :: t)).2 := by rw [List.length_take]; omega
      have hd := dec_congr (b :: t) ((b :: t).take (dec (b :: t)).2 ++ (((b :: t).drop (dec (b :: t)).2).flatMap qb ++ [34])) h0 (by rw [List.take_append_of_le_length (by omega), List.take_take, Nat.min_self])
      refine valid_step _ (by rw [hd]; exact h0) ?_
      rw [hd]
      have e2 : ((b :: t).take (dec (b :: t)).2 ++ (((b :: t).drop (dec (b :: t)).2).flatMap qb ++ [34])).drop (dec (b :: t)).2 = ((b :: t).drop (dec (b :: t)).2).flatMap qb ++ [34] := by
        have := List.drop_left (l₁ := (b :: t).take (dec (b :: t)).2) (l₂ := ((b :: t).drop (dec (b :: t)).2).flatMap qb ++ [34])
        rwa [hl] at this
      rw [e2]
      exact ih

/-- What is read back of a quoted string. -/
theorem unq_back (l : List UInt8) (h : badL l = l.length) : unqL (quoR l).1 = (l, 0) := by
  have hq := quot_back l.length l (Nat.le_refl _) h []
  unfold quoR
  rw [if_pos h]
  show unqL (34 :: (l.flatMap qb ++ [34])) = (l, 0)
  show (if (quotR (l.flatMap qb ++ [34])).2.2 ≠ 0 then ([], (quotR (l.flatMap qb ++ [34])).2.2) else if (quotR (l.flatMap qb ++ [34])).2.1 < (l.flatMap qb ++ [34]).length + 1 then ([], 3) else ((quotR (l.flatMap qb ++ [34])).1, 0)) = (l, 0)
  unfold quotR
  rw [hq, List.length_append]
  unfold quotFin
  simp
  omega
theorem bad_back (l : List UInt8) (h : badL l = l.length) : badL (quoR l).1 = (quoR l).1.length := by
  unfold quoR
  rw [if_pos h]
  exact valid_ascii 34 _ (by decide) (valid_quot l.length l (Nat.le_refl _) h)
theorem flat_len (l : List UInt8) : (l.flatMap qb).length ≤ 6 * l.length := by
  induction l with
  | nil => exact Nat.le_refl _
  | cons c t ih =>
    have := qb_len c
    rw [List.flatMap_cons, List.length_append, List.length_cons]
    omega
theorem quo_len (l : List UInt8) : (quoR l).1.length ≤ 6 * l.length + 2 := by
  have := flat_len l
  unfold quoR
  split
  · show (34 :: (l.flatMap qb ++ [34])).length ≤ _
    rw [List.length_cons, List.length_append]
    simp only [List.length_cons, List.length_nil]
    omega
  · simp
end Go.Proofs.YtlnpfpjncnkekaaGreatDoor
