/- Paths: how the reference reads a text; that it reads as the program does: plain laws. Conditions: none. -/
import Derived.Test.YtjbhjnelepbkcaaDoorPa2
namespace Go.Proofs.YtjbhjnelepbkcaaDoor
open Go.RowKit
set_option maxHeartbeats 1000000
set_option maxRecDepth 100000

def digR (acc : Nat) : Nat → List UInt8 → Nat × Nat
  | 0, _ => (acc, 0)
  | _ + 1, [] => (acc, 0)
  | f + 1, b :: t => if dig b then ((digR (10 * acc + (b.toNat - 48)) f t).1, (digR (10 * acc + (b.toNat - 48)) f t).2 + 1) else (acc, 0)
def unsP (s : List UInt8) (n : Nat) : Bool := decide (1 < (sgn (UInt8.ofNat n)).length) && (sgn (UInt8.ofNat n)).isPrefixOf s
def unsR (s : List UInt8) : Nat × Nat := match (List.range 128).find? (unsP s) with
  | some n => (n, (sgn (UInt8.ofNat n)).length)
  | none => match s with
    | b :: _ => if b.toNat ≠ 34 ∧ b.toNat ≠ 92 then (b.toNat, 1) else (0, 0)
    | [] => (0, 0)
def quoF : Nat → List UInt8 → Option (List UInt8 × Nat)
  | 0, _ => none
  | _ + 1, [] => none
  | f + 1, b :: t => if b.toNat = 34 then some ([], 1) else if (unsR (b :: t)).2 = 0 then none else (quoF f ((b :: t).drop (unsR (b :: t)).2)).map fun r => (UInt8.ofNat (unsR (b :: t)).1 :: r.1, r.2 + (unsR (b :: t)).2)
def stepR : List UInt8 → Option (St × Nat)
  | [] => none
  | c :: t => if c.toNat = 91 then
      (if (digR 0 8 t).2 = 0 ∨ t[(digR 0 8 t).2]? ≠ some 93 then none else some ((true, ⟨#[]⟩, ((digR 0 8 t).1 : Int)), (digR 0 8 t).2 + 2))
    else if c.toNat ≠ 46 ∨ t = [] then none
    else if t.head? = some 34 then match quoF t.length (t.drop 1) with
      | some r => some ((false, ⟨r.1.toArray⟩, 0), r.2 + 2)
      | none => none
    else some ((false, ⟨(t.take (nmL t)).toArray⟩, 0), nmL t + 1)
def loopR : Nat → Nat → List UInt8 → Option (List St)
  | 0, _, _ => none
  | f + 1, k, l => if l = [] then some [] else match stepR l with
    | some r => if 48 ≤ k then none else (loopR f (k + 1) (l.drop r.2)).map fun p => r.1 :: p
    | none => none
def acceptR (s : List UInt8) (o : Option (List St)) : List St × Nat := match o with
  | some p => if validP p = true ∧ textL p = s then (p, 0) else ([], 3)
  | none => ([], 3)
def parseR (s : List UInt8) : List St × Nat :=
  if badL s ≠ s.length then ([], 5) else if s = [46] then ([], 0) else acceptR s (loopR 49 0 (strip s))

theorem stepR_cons (c : UInt8) (t : List UInt8) : stepR (c :: t) = if c.toNat = 91 then
      (if (digR 0 8 t).2 = 0 ∨ t[(digR 0 8 t).2]? ≠ some 93 then none else some ((true, ⟨#[]⟩, ((digR 0 8 t).1 : Int)), (digR 0 8 t).2 + 2))
    else if c.toNat ≠ 46 ∨ t = [] then none
    else if t.head? = some 34 then match quoF t.length (t.drop 1) with
      | some r => some ((false, ⟨r.1.toArray⟩, 0), r.2 + 2)
      | none => none
    else some ((false, ⟨(t.take (nmL t)).toArray⟩, 0), nmL t + 1) := rfl
theorem quoF_cons (f : Nat) (b : UInt8) (t : List UInt8) : quoF (f + 1) (b :: t) = if b.toNat = 34 then some ([], 1) else if (unsR (b :: t)).2 = 0 then none else (quoF f ((b :: t).drop (unsR (b :: t)).2)).map fun r => (UInt8.ofNat (unsR (b :: t)).1 :: r.1, r.2 + (unsR (b :: t)).2) := rfl

theorem digR_app (d r : List UInt8) : ∀ (acc n f : Nat), Lib.decFrom acc d = some n → d.length ≤ f → digR acc f (d ++ 93 :: r) = (n, d.length) := by
  induction d with
  | nil =>
    intro acc n f h _
    simp only [Lib.decFrom, Option.some.injEq] at h
    subst h
    rcases f with _ | f
    · rfl
    · simp only [List.nil_append, digR]
      rw [if_neg (by decide)]
      rfl
  | cons b d ih =>
    intro acc n f h hf
    obtain ⟨f, rfl⟩ : ∃ g, f = g + 1 := ⟨f - 1, by simp at hf; omega⟩
    unfold Lib.decFrom at h
    cases hb : Lib.digitVal b with
    | none => rw [hb] at h; simp at h
    | some e =>
      rw [hb] at h
      simp only [] at h
      have hdb : dig b = true ∧ e = b.toNat - 48 := by
        unfold Lib.digitVal at hb
        split at hb
        · rename_i hc
          simp only [Option.some.injEq] at hb
          exact ⟨by unfold dig; simpa using hc, hb.symm⟩
        · cases hb
      obtain ⟨h1, rfl⟩ := hdb
      have := ih (10 * acc + (b.toNat - 48)) n f (by rw [Nat.mul_comm]; exact h) (by simp at hf; omega)
      simp only [List.cons_append, digR]
      rw [if_pos h1, this]
      rfl
theorem sgn_free : ∀ j b : Fin 128, 1 < (sgn (UInt8.ofNat j.val)).length → 1 < (sgn (UInt8.ofNat b.val)).length → j ≠ b → (sgn (UInt8.ofNat j.val)).isPrefixOf (sgn (UInt8.ofNat b.val)) = false := by decide +kernel
theorem sgn_kind : ∀ b : Fin 128, (1 < (sgn (UInt8.ofNat b.val)).length ∧ (sgn (UInt8.ofNat b.val)).head? = some 92) ∨ (sgn (UInt8.ofNat b.val) = [UInt8.ofNat b.val] ∧ b.val ≠ 34 ∧ b.val ≠ 92) := by decide +kernel
theorem uns_none (b : UInt8) (u : List UInt8) (h : b.toNat ≠ 92) : (List.range 128).find? (unsP (b :: u)) = none := by
  rw [List.find?_eq_none]
  intro n hn
  have hn' := List.mem_range.1 hn
  unfold unsP
  simp only [Bool.and_eq_true, decide_eq_true_eq, not_and]
  intro h1 h2
  rcases sgn_kind ⟨n, hn'⟩ with ⟨_, h3⟩ | ⟨h3, _⟩
  · simp only [] at h3
    generalize sgn (UInt8.ofNat n) = l at *
    rcases l with _ | ⟨c, l⟩
    · cases h3
    simp only [List.head?_cons, Option.some.injEq] at h3
    subst h3
    simp only [List.isPrefixOf_cons_cons, Bool.and_eq_true, beq_iff_eq] at h2
    rw [← h2.1] at h
    exact h (by decide)
  · simp only [] at h3
    rw [h3] at h1
    simp at h1
theorem unsR_back (b : UInt8) (u : List UInt8) : unsR (sgn b ++ u) = (b.toNat, (sgn b).length) := by
  have plain : sgn b = [b] → b.toNat ≠ 34 → b.toNat ≠ 92 → unsR (sgn b ++ u) = (b.toNat, (sgn b).length) := by
    intro h1 h2 h3
    rw [h1]
    unfold unsR
    rw [List.cons_append, uns_none b _ h3]
    simp only []
    rw [if_pos ⟨h2, h3⟩]
    rfl
  by_cases hb : b.toNat < 128
  · rcases sgn_kind ⟨b.toNat, hb⟩ with ⟨h1, h2⟩ | ⟨h1, h2, h3⟩
    · simp only [UInt8.ofNat_toNat] at h1 h2
      have hf : (List.range 128).find? (unsP (sgn b ++ u)) = some b.toNat := by
        rw [List.find?_range_eq_some]
        refine ⟨?_, List.mem_range.2 hb, ?_⟩
        · unfold unsP
          rw [UInt8.ofNat_toNat]
          simp only [Bool.and_eq_true, decide_eq_true_eq, List.isPrefixOf_iff_prefix]
          exact ⟨h1, List.prefix_append _ _⟩
        · intro j hj
          have hj' : j < 128 := by omega
          unfold unsP
          simp only [Bool.not_eq_true', Bool.and_eq_false_iff, decide_eq_false_iff_not]
          by_cases hl : 1 < (sgn (UInt8.ofNat j)).length
          · right
            have hne : (⟨j, hj'⟩ : Fin 128) ≠ ⟨b.toNat, hb⟩ := by intro h; simp only [Fin.mk.injEq] at h; omega
            have f1 := sgn_free ⟨j, hj'⟩ ⟨b.toNat, hb⟩ hl (by simpa using h1) hne
            have f2 := sgn_free ⟨b.toNat, hb⟩ ⟨j, hj'⟩ (by simpa using h1) hl hne.symm
            simp only [UInt8.ofNat_toNat] at f1 f2
            rw [Bool.eq_false_iff] at f1 f2 ⊢
            simp only [ne_eq, List.isPrefixOf_iff_prefix] at f1 f2 ⊢
            intro hp
            rcases List.prefix_or_prefix_of_prefix hp (List.prefix_append (sgn b) u) with h | h
            · exact f1 h
            · exact f2 h
          · left; exact hl
      unfold unsR
      rw [hf]
      simp only [UInt8.ofNat_toNat]
    · simp only [UInt8.ofNat_toNat] at h1
      exact plain h1 h2 h3
  · exact plain (sgn_high b (by omega)) (by omega) (by omega)
theorem sgn_pos (b : UInt8) : 1 ≤ (sgn b).length := by
  unfold sgn
  repeat' split
  all_goals simp
theorem sgn_head (b : UInt8) : ∃ c t, sgn b = c :: t ∧ c.toNat ≠ 34 := by
  by_cases hb : b.toNat < 128
  · rcases sgn_kind ⟨b.toNat, hb⟩ with ⟨h1, h2⟩ | ⟨h1, h2, h3⟩
    · simp only [UInt8.ofNat_toNat] at h1 h2
      generalize sgn b = l at *
      rcases l with _ | ⟨c, l⟩
      · cases h2
      simp only [List.head?_cons, Option.some.injEq] at h2
      exact ⟨c, l, rfl, by rw [h2]; decide⟩
    · simp only [UInt8.ofNat_toNat] at h1
      exact ⟨b, [], h1, h2⟩
  · exact ⟨b, [], sgn_high b (by omega), by omega⟩
theorem quoF_back : ∀ (k r : List UInt8) (f : Nat), k.length < f → quoF f (k.flatMap sgn ++ 34 :: r) = some (k, (k.flatMap sgn).length + 1)
  | [], r, f, h => by
    obtain ⟨f, rfl⟩ : ∃ g, f = g + 1 := ⟨f - 1, by simp at h; omega⟩
    simp [quoF]
  | b :: k, r, f, h => by
    obtain ⟨f, rfl⟩ : ∃ g, f = g + 1 := ⟨f - 1, by simp at h; omega⟩
    have ih := quoF_back k r f (by simp at h; omega)
    rw [List.flatMap_cons, List.append_assoc]
    have hu := unsR_back b (k.flatMap sgn ++ 34 :: r)
    have hp := sgn_pos b
    obtain ⟨c, t, hc, h34⟩ := sgn_head b
    have hd : (sgn b ++ (k.flatMap sgn ++ 34 :: r)).drop (sgn b).length = k.flatMap sgn ++ 34 :: r := drop_len _ _
    generalize hn : (sgn b).length = n at *
    rw [hc] at hu hd ⊢
    rw [List.cons_append] at hu hd ⊢
    rw [quoF_cons, if_neg h34, hu]
    simp only []
    rw [if_neg (by omega), hd, ih]
    simp only [Option.map_some, UInt8.ofNat_toNat, List.length_append, Option.some.injEq, Prod.mk.injEq, true_and]
    rw [← hc, hn]
    omega
theorem stepR_back (s : St) (r : List UInt8) (hs : okSt s = true) (hr : ends r) : stepR (stepT s ++ r) = some (s, (stepT s).length) := by
  obtain ⟨b, k, i⟩ := s
  unfold okSt at hs
  unfold stepT
  simp only [] at hs ⊢
  cases b with
  | true =>
    simp only [decide_eq_true_eq, if_pos] at hs ⊢
    have hk : k = ⟨#[]⟩ := L_inj (List.length_eq_zero_iff.1 (by rw [L_len]; exact hs.1))
    subst hk
    obtain ⟨u, rfl⟩ : ∃ u : Nat, i = (u : Int) := ⟨i.toNat, by omega⟩
    have hi : Lib.itoa (u : Int) = Lib.decDigits u := by unfold Lib.itoa; rw [if_neg (by omega)]; simp
    have hl := decDigits_len u (by omega)
    have hv := decDigits_val u
    rw [hi]
    generalize Lib.decDigits u = d at *
    have hn : d.length ≠ 0 := by
      intro h
      exact hv.2 (List.length_eq_zero_iff.1 h)
    simp only [List.cons_append, List.append_assoc, List.nil_append]
    rw [stepR_cons, if_pos (by decide), digR_app d r 0 u 8 hv.1 (by omega)]
    simp only []
    rw [if_neg]
    · simp
    · rw [not_or]
      exact ⟨hn, by simp⟩
  | false =>
    rw [if_neg (by simp)] at hs ⊢
    simp only [decide_eq_true_eq] at hs
    obtain ⟨rfl, _⟩ := hs
    split
    · rename_i hn
      unfold isName at hn
      simp only [decide_eq_true_eq] at hn
      obtain ⟨h0, hf⟩ := hn
      have hk : k = ⟨(L k).toArray⟩ := rfl
      rw [hk]
      generalize L k = l at *
      have hnm : nmL l = l.length := by
        rcases l with _ | ⟨c, l⟩
        · rfl
        simp only [folL] at hf
        split at hf
        · rename_i hc
          simp only [nmL]
          rw [hc, Bool.true_or, if_pos rfl]
          exact hf
        · simp at hf
      have ha := nmL_app l r hnm hr
      have hh : ¬ ((l ++ r).head? = some 34) := by
        intro he
        rcases l with _ | ⟨c, l⟩
        · exact h0 rfl
        simp at he
        subst he
        simp only [folL] at hf
        rw [if_neg (by decide)] at hf
        simp at hf
      rw [show L ({ data := l.toArray } : ByteArray) = l from rfl, List.cons_append, stepR_cons, if_neg (by decide), if_neg (by rw [not_or]; exact ⟨by decide, by simp [h0]⟩), if_neg hh, ha, take_len]
      rfl
    · have hfl := flat_len (L k)
      simp only [List.cons_append, List.append_assoc, List.nil_append]
      rw [stepR_cons, if_neg (by decide), if_neg (by rw [not_or]; exact ⟨by decide, by simp⟩), if_pos (by rfl)]
      simp only [List.drop_succ_cons, List.drop_zero]
      rw [quoF_back (L k) r _ (by simp only [List.length_cons, List.length_append]; omega)]
      simp only [mk_L, List.length_cons, List.length_append, List.length_nil]
theorem loopR_back : ∀ (p : List St) (f k : Nat), p.all okSt = true → k + p.length ≤ 48 → p.length < f → loopR f k (p.flatMap stepT) = some p
  | [], f, k, _, _, hf => by
    obtain ⟨f, rfl⟩ : ∃ g, f = g + 1 := ⟨f - 1, by simp at hf; omega⟩
    simp [loopR]
  | s :: p, f, k, h, hk, hf => by
    obtain ⟨f, rfl⟩ : ∃ g, f = g + 1 := ⟨f - 1, by simp at hf; omega⟩
    simp only [List.all_cons, Bool.and_eq_true] at h
    simp only [List.length_cons] at hk hf
    rw [List.flatMap_cons]
    unfold loopR
    rw [if_neg (by simp [stepT_ne]), stepR_back s _ h.1 (ends_flat p)]
    simp only []
    rw [if_neg (by omega), drop_len, loopR_back p f (k + 1) h.2 (by omega) (by omega)]
    rfl
theorem loopR_text (p : List St) (h0 : p ≠ []) (h : validP p = true) : loopR 49 0 (strip (textL p)) = some p := by
  obtain ⟨h1, h2⟩ := all_ok h
  rw [strip_text p h0 h1]
  exact loopR_back p 49 0 h1 (by omega) (by omega)
/-- The reference reads as the program does. -/
theorem parse_same (s : List UInt8) : parseR s = parseL s := by
  unfold parseR parseL
  by_cases hb : badL s ≠ s.length
  · rw [if_pos hb, if_pos hb]
  rw [if_neg hb, if_neg hb]
  by_cases hs : s = [46]
  · rw [if_pos hs, if_pos hs]
  rw [if_neg hs, if_neg hs]
  by_cases he : ∃ p, p ≠ [] ∧ validP p = true ∧ textL p = s
  · obtain ⟨p, h0, hv, rfl⟩ := he
    rw [loop_text p h0 hv, loopR_text p h0 hv]
    simp only [acceptR, accept]
    rw [if_pos ⟨hv, trivial⟩, if_pos ⟨h0, hv, trivial⟩]
  · have h1 : acceptR s (loopR 49 0 (strip s)) = ([], 3) := by
      unfold acceptR
      split
      · rename_i p _
        rw [if_neg]
        rintro ⟨hv, ht⟩
        refine he ⟨p, ?_, hv, ht⟩
        rintro rfl
        exact hs ht.symm
      · rfl
    have h2 : accept s (loopI 49 0 (strip s)) = ([], 3) := by
      unfold accept
      split
      · rename_i p _
        rw [if_neg]
        intro hc
        exact he ⟨p, hc⟩
      · rfl
    rw [h1, h2]
/-- What is read is valid and has the text. -/
theorem parse_sound (s : List UInt8) (h : (parseL s).2 = 0) : validP (parseL s).1 = true ∧ textL (parseL s).1 = s := by
  unfold parseL at h ⊢
  by_cases hb : badL s ≠ s.length
  · rw [if_pos hb] at h; cases h
  rw [if_neg hb] at h ⊢
  by_cases hs : s = [46]
  · rw [if_pos hs, hs]; exact ⟨rfl, rfl⟩
  rw [if_neg hs] at h ⊢
  unfold accept at h ⊢
  split at h
  · split at h
    · rename_i hc
      rw [if_pos hc]
      exact ⟨hc.2.1, hc.2.2⟩
    · cases h
  · cases h
end Go.Proofs.YtjbhjnelepbkcaaDoor
