/- The lines of a source make it up: plain laws, no program in sight. Conditions: none. -/
import Derived.Test.YtgddhkanfcpipaaGreatDoorZk16
namespace Go.Proofs.YtgddhkanfcpipaaGreatDoor
open Go.RowKit
set_option maxRecDepth 100000
set_option maxHeartbeats 1000000

/-- The bytes that a line stands for. -/
def lnB (x : Ln) : List UInt8 := List.replicate x.ind 32 ++ x.text ++ x.com ++ x.fin
def joinL (M : List Ln) : List UInt8 := M.flatMap lnB
theorem spc_rep : ∀ l : List UInt8, l = List.replicate (spcN l) 32 ++ l.drop (spcN l)
  | [] => rfl
  | b :: t => by
    have ih := spc_rep t
    rw [spcN]
    by_cases hb : b = 32
    · rw [if_pos hb, Nat.add_comm, List.drop_succ_cons, List.replicate_succ, List.cons_append, ← ih, hb]
    · rw [if_neg hb]
      rfl
theorem lnB_lineP (l : List UInt8) (pos : Nat) : lnB (lineP l pos) = l := by
  unfold lnB lineP
  dsimp only
  have h1 := spc_rep (l.take (bodyN l))
  have h2 : List.replicate (spcN (l.take (bodyN l))) 32 ++ (contL l).take (contN l) ++ (contL l).drop (contN l) = l.take (bodyN l) := by
    rw [List.append_assoc, List.take_append_drop]
    exact h1.symm
  rw [h2, List.take_append_drop]
theorem spc_head : ∀ l : List UInt8, (l.drop (spcN l)).head? ≠ some 32
  | [] => by simp
  | b :: t => by
    have ih := spc_head t
    rw [spcN]
    by_cases hb : b = 32
    · rw [if_pos hb, Nat.add_comm, List.drop_succ_cons]
      exact ih
    · rw [if_neg hb]
      intro h
      exact hb (Option.some.inj h)
theorem backS_last (l : List UInt8) : ∀ n, backS l n ≠ 0 → l[backS l n - 1]? ≠ some 32
  | 0, h => absurd rfl h
  | n + 1, h => by
    rw [backS] at h ⊢
    split
    · rename_i hh
      rw [if_pos hh] at h
      exact backS_last l n h
    · rename_i hh
      exact hh
theorem backS_spc (l : List UInt8) : ∀ n k, backS l n ≤ k → k < n → l[k]? = some 32
  | 0, k, _, h => absurd h (Nat.not_lt_zero _)
  | n + 1, k, h1, h2 => by
    rw [backS] at h1
    split at h1
    · rename_i hh
      by_cases hk : k = n
      · rw [hk]; exact hh
      · exact backS_spc l n k h1 (by omega)
    · omega
theorem hashW_at : ∀ (f : Nat) (p : UInt8) (l : List UInt8), l.length ≤ f → hashW p l < l.length → l[hashW p l]? = some 35
  | 0, p, l, h, h0 => by omega
  | f + 1, p, [], _, h0 => by simp at h0
  | f + 1, p, c :: t, h, h0 => by
    simp only [List.length_cons] at h
    rw [hashW_cons] at h0 ⊢
    split
    · rename_i hh
      rw [List.getElem?_cons_zero]
      congr 1
      exact UInt8.toNat_inj.1 hh.1
    rename_i hh
    rw [if_neg hh] at h0
    split
    · rename_i h2
      rw [if_pos h2] at h0
      split
      · rename_i hp
        rw [if_pos hp, List.length_cons] at h0
        omega
      · rename_i hp
        rw [if_neg hp, List.length_cons] at h0
        have ih := hashW_at f c (t.drop (partW c t)) (by simp only [List.length_drop]; omega) (by rw [List.length_drop]; omega)
        rw [List.getElem?_drop] at ih
        rw [show 1 + partW c t + hashW c (t.drop (partW c t)) = (partW c t + hashW c (t.drop (partW c t))) + 1 by omega, List.getElem?_cons_succ]
        exact ih
    · rename_i h2
      rw [if_neg h2, List.length_cons] at h0
      have ih := hashW_at f c t (by omega) (by omega)
      rw [Nat.add_comm, List.getElem?_cons_succ]
      exact ih
/-- The bytes of a comment ahead of its first # are spaces. -/
def comOK (c : List UInt8) : Prop := ∃ h, h ≤ c.length ∧ (∀ k, k < h → c[k]? = some 32) ∧ (h < c.length → c[h]? = some 35)
theorem com_ok (l : List UInt8) (pos : Nat) : comOK (lineP l pos).com := by
  show comOK ((contL l).drop (contN l))
  have h1 := hashW_len 32 (contL l)
  have h2 : contN l ≤ hashW 32 (contL l) := backS_le _ _
  refine ⟨hashW 32 (contL l) - contN l, by rw [List.length_drop]; omega, fun k hk => ?_, fun hk => ?_⟩
  · rw [List.getElem?_drop]
    exact backS_spc (contL l) (hashW 32 (contL l)) _ (by show contN l ≤ _; omega) (by omega)
  · rw [List.getElem?_drop, show contN l + (hashW 32 (contL l) - contN l) = hashW 32 (contL l) by omega]
    rw [List.length_drop] at hk
    exact hashW_at _ 32 (contL l) (Nat.le_refl _) (by omega)
theorem text_ok (l : List UInt8) (pos : Nat) : (lineP l pos).text.head? ≠ some 32 ∧ (lineP l pos).text.getLast? ≠ some 32 := by
  show ((contL l).take (contN l)).head? ≠ some 32 ∧ ((contL l).take (contN l)).getLast? ≠ some 32
  have h1 := hashW_len 32 (contL l)
  have h2 : contN l ≤ hashW 32 (contL l) := backS_le _ _
  constructor
  · by_cases h0 : contN l = 0
    · rw [h0]; simp
    · have : ((contL l).take (contN l)).head? = (contL l).head? := by
        obtain ⟨j, hj⟩ : ∃ j, contN l = j + 1 := ⟨contN l - 1, by omega⟩
        rw [hj]
        cases contL l <;> rfl
      rw [this]
      exact spc_head _
  · by_cases h0 : contN l = 0
    · rw [h0]; simp
    · rw [List.getLast?_eq_getElem?, List.length_take, Nat.min_eq_left (by omega), List.getElem?_take, if_pos (by omega)]
      exact backS_last (contL l) _ h0
theorem fin_is (l : List UInt8) (pos : Nat) : ((lineP l pos).fin = [10] ∨ (lineP l pos).fin = [13, 10]) ∨ (l.getLast? ≠ some 10 ∧ (lineP l pos).fin = []) := by
  show (l.drop (bodyN l) = [10] ∨ l.drop (bodyN l) = [13, 10]) ∨ _
  unfold bodyN lineP
  dsimp only
  by_cases h : l.getLast? = some 10
  · rw [if_pos h]
    have hl : l[l.length - 1]? = some 10 := by rw [← List.getLast?_eq_getElem?]; exact h
    have hp : 0 < l.length := by
      rcases Nat.eq_zero_or_pos l.length with h0 | h0
      · rw [List.eq_nil_of_length_eq_zero h0] at h; cases h
      · exact h0
    have d1 : l.drop (l.length - 1) = [10] := by
      rw [List.drop_eq_getElem_cons (by omega), show l.length - 1 + 1 = l.length by omega, List.drop_length]
      rw [List.getElem?_eq_getElem (by omega)] at hl
      rw [Option.some.inj hl]
    left
    split
    · rename_i h2
      right
      rw [List.drop_eq_getElem_cons (by omega), show l.length - 2 + 1 = l.length - 1 by omega, d1]
      have := h2.2
      rw [List.getElem?_eq_getElem (by omega)] at this
      rw [Option.some.inj this]
    · left; exact d1
  · right
    refine ⟨h, ?_⟩
    unfold bodyN
    rw [if_neg h, List.drop_length]
/-! The lines of a source. -/
theorem lnF_flat (s : ByteArray) : ∀ (f fr k : Nat), fr ≤ k → k ≤ s.size → s.size ≤ k + f → (lnF s f fr k).flatMap L = (L s).drop fr := by
  have hend : ∀ fr, (if fr < s.size then [s.extract fr s.size] else []).flatMap L = (L s).drop fr := by
    intro fr
    by_cases h : fr < s.size
    · rw [if_pos h]
      simp only [List.flatMap_cons, List.flatMap_nil, List.append_nil]
      exact L_from s fr
    · rw [if_neg h, L_drop_nil s fr (by omega)]
      rfl
  intro f
  induction f with
  | zero => intro fr k _ _ _; rw [lnF]; exact hend fr
  | succ f ih =>
    intro fr k h1 h2 h3
    rw [lnF]
    by_cases hk : k < s.size
    · rw [dif_pos hk]
      split
      · rw [List.flatMap_cons, ih (k + 1) (k + 1) (Nat.le_refl _) hk (by omega), L_extract]
        rw [show (L s).drop (k + 1) = ((L s).drop fr).drop (k + 1 - fr) by rw [List.drop_drop]; congr 1; omega, List.take_append_drop]
      · exact ih fr (k + 1) (by omega) hk (by omega)
    · rw [dif_neg hk]
      exact hend fr
theorem lns_flat (s : ByteArray) : (lnsB s).flatMap L = L s := by
  have := lnF_flat s s.size 0 0 (Nat.le_refl _) (Nat.zero_le _) (by omega)
  rwa [List.drop_zero] at this
theorem lnF_last (s : ByteArray) : ∀ (f fr k : Nat), fr ≤ k → k ≤ s.size → ∀ i, i + 1 < (lnF s f fr k).length → ∀ b, (lnF s f fr k)[i]? = some b → (L b).getLast? = some 10 := by
  have hend : ∀ fr i, ¬ i + 1 < (if fr < s.size then [s.extract fr s.size] else []).length := by
    intro fr i
    split <;> simp
  intro f
  induction f with
  | zero => intro fr k _ _ i hi; rw [lnF] at hi; exact absurd hi (hend fr i)
  | succ f ih =>
    intro fr k h1 h2 i hi b hb
    rw [lnF] at hi hb
    by_cases hk : k < s.size
    · rw [dif_pos hk] at hi hb
      split at hi
      · rename_i h10
        rw [if_pos h10] at hb
        cases i with
        | zero =>
          rw [List.getElem?_cons_zero] at hb
          rw [← Option.some.inj hb, L_extract, List.getLast?_eq_getElem?, List.length_take, List.length_drop, L_len, List.getElem?_take, Nat.min_eq_left (by omega), if_pos (by omega), List.getElem?_drop]
          rw [show fr + (k + 1 - fr - 1) = k by omega, List.getElem?_eq_getElem (by rw [L_len]; exact hk)]
          exact congrArg some h10
        | succ i =>
          rw [List.getElem?_cons_succ] at hb
          rw [List.length_cons] at hi
          exact ih (k + 1) (k + 1) (Nat.le_refl _) hk i (by omega) b hb
      · rename_i h10
        rw [if_neg h10] at hb
        exact ih fr (k + 1) (by omega) hk i hi b hb
    · rw [dif_neg hk] at hi
      exact absurd hi (hend fr i)
theorem lnV_len : ∀ (pos : Nat) (bs : List ByteArray), (lnV pos bs).length = bs.length
  | _, [] => rfl
  | pos, b :: t => by rw [lnV, List.length_cons, List.length_cons, lnV_len]
theorem lnV_at : ∀ (pos : Nat) (bs : List ByteArray) (i : Nat) (h : i < bs.length), (lnV pos bs)[i]? = some (lineP (L bs[i]) (pos + ((bs.take i).flatMap L).length))
  | pos, b :: t, 0, _ => by
    rw [lnV, List.getElem?_cons_zero]
    rfl
  | pos, b :: t, i + 1, h => by
    rw [List.length_cons] at h
    rw [lnV, List.getElem?_cons_succ, lnV_at (pos + b.size) t i (by omega), List.take_succ_cons, List.flatMap_cons, List.length_append, L_len]
    congr 2
    omega
theorem joinL_V : ∀ (pos : Nat) (bs : List ByteArray), joinL (lnV pos bs) = bs.flatMap L
  | _, [] => rfl
  | pos, b :: t => by
    have ih := joinL_V (pos + b.size) t
    unfold joinL at ih ⊢
    rw [lnV, List.flatMap_cons, ih, lnB_lineP, List.flatMap_cons]
theorem join_back (s : ByteArray) : joinL (lnV 0 (lnsB s)) = L s := by rw [joinL_V, lns_flat]
end Go.Proofs.YtgddhkanfcpipaaGreatDoor
