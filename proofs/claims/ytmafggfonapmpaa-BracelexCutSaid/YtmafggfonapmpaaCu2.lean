/- Quoted strings and comments that are cut off between two characters: plain laws. Conditions: none. -/
import Derived.Test.YtmafggfonapmpaaCu1
import Derived.Test.YtmafggfonapmpaaBk1
namespace Go.Proofs.Ytmafggfonapmpaa
open Go.RowKit
set_option maxHeartbeats 1000000
set_option maxRecDepth 100000

/-- A place at which no continuation byte stands. -/
def cutOK (l : List UInt8) (m : Nat) : Prop := ∀ b, l[m]? = some b → b.toNat / 64 ≠ 2
theorem cutOK_drop {l : List UInt8} {m n : Nat} (h : cutOK l m) (hn : n ≤ m) : cutOK (l.drop n) (m - n) := by
  intro b hb
  rw [List.getElem?_drop, show n + (m - n) = m by omega] at hb
  exact h b hb
theorem cutOK_tail {b : UInt8} {t : List UInt8} {m : Nat} (h : cutOK (b :: t) (m + 1)) : cutOK t m := fun c hc => h c (by simpa using hc)
theorem cont_mid : ∀ (n r : Nat) (l : List UInt8) (x : Nat), cont n r l = some x → ∀ i, i < n → ∃ b, l[i]? = some b ∧ b.toNat / 64 = 2
  | 0, _, _, _, _, i, hi => by omega
  | n + 1, r, [], x, h, _, _ => by simp [cont] at h
  | n + 1, r, b :: t, x, h, i, hi => by
    unfold cont at h
    split at h
    · rename_i hb
      rcases i with _ | i
      · exact ⟨b, rfl, hb⟩
      · obtain ⟨c, h1, h2⟩ := cont_mid n _ t x h i (by omega)
        exact ⟨c, by simpa using h1, h2⟩
    · cases h
theorem dec_mid (l : List UInt8) (m : Nat) (h0 : 0 < m) (h : m < (dec l).2) (hc : cutOK l m) : False := by
  rcases l with _ | ⟨b, t⟩
  · simp [dec_nil] at h
  have hh := dec_hd b t (by omega)
  rw [hh] at h
  have hd : (dec (b :: t)).2 ≠ 0 := by omega
  simp only [dec] at hd
  split at hd
  · exact absurd rfl hd
  split at hd
  · exact absurd rfl hd
  · rename_i r he
    obtain ⟨c, h1, h2⟩ := cont_mid _ _ _ _ he (m - 1) (by omega)
    refine hc c ?_ h2
    rw [show m = (m - 1) + 1 by omega]
    simpa using h1
theorem dec_take (l : List UInt8) (m : Nat) (h0 : (dec l).2 ≠ 0) (h : (dec l).2 ≤ m) : dec (l.take m) = dec l :=
  dec_congr l (l.take m) h0 (by rw [List.take_take, Nat.min_eq_left h])

/-! Escapes. -/
theorem hexN_take : ∀ (k n : Nat) (l : List UInt8) (m : Nat), (hexN k n l).2 = 0 → (k ≤ m → hexN k n (l.take m) = hexN k n l) ∧ (m < k → (hexN k n (l.take m)).2 = 4)
  | 0, n, l, m, _ => ⟨fun _ => by simp [hexN], fun h => by omega⟩
  | k + 1, n, [], m, h => by simp [hexN] at h
  | k + 1, n, b :: t, 0, h => ⟨fun h => by omega, fun _ => rfl⟩
  | k + 1, n, b :: t, m + 1, h => by
    rw [List.take_succ_cons]
    simp only [hexN] at h ⊢
    cases hb : hexv b with
    | none => rw [hb] at h; simp at h
    | some d =>
      rw [hb] at h
      have ih := hexN_take k (16 * n + d) t m h
      exact ⟨fun hk => ih.1 (by omega), fun hk => ih.2 (by omega)⟩
/-- What stands behind the first four digits of a surrogate. -/
def uniTail (hi : Nat) : List UInt8 → Nat × Nat × Nat
  | [] => (0, 0, 4)
  | c :: t2 => if c.toNat ≠ 92 then (0, 0, 5) else match t2 with
    | [] => (0, 0, 4)
    | d :: t3 => if d.toNat ≠ 117 then (0, 0, 5)
      else if (hexN 4 0 t3).2 ≠ 0 then (0, 0, (hexN 4 0 t3).2)
      else if (hexN 4 0 t3).1 < 56320 ∨ 57343 < (hexN 4 0 t3).1 then (0, 0, 5)
      else (65536 + (hi - 55296) * 1024 + (hexN 4 0 t3).1 - 56320, 11, 0)
theorem uniEsc_eq (t : List UInt8) : uniEsc t = if (hexN 4 0 t).2 ≠ 0 then (0, 0, (hexN 4 0 t).2)
    else if (hexN 4 0 t).1 < 55296 ∨ 57343 < (hexN 4 0 t).1 then ((hexN 4 0 t).1, 5, 0)
    else if 56319 < (hexN 4 0 t).1 then (0, 0, 5) else uniTail (hexN 4 0 t).1 (t.drop 4) := by
  unfold uniEsc
  rcases t.drop 4 with _ | ⟨c, _ | ⟨d, u⟩⟩ <;> rfl
theorem uniTail_cut (hi : Nat) (u : List UInt8) (j : Nat) (h : (uniTail hi u).2.2 = 0) : (uniTail hi u).2.1 = 11 ∧ (6 ≤ j → uniTail hi (u.take j) = uniTail hi u) ∧ (j < 6 → (uniTail hi (u.take j)).2.2 = 4) := by
  rcases u with _ | ⟨c, u⟩
  · exact absurd h (by simp [uniTail])
  have e1 : ∀ v, uniTail hi (c :: v) = if c.toNat ≠ 92 then (0, 0, 5) else match v with
    | [] => (0, 0, 4)
    | d :: t3 => if d.toNat ≠ 117 then (0, 0, 5)
      else if (hexN 4 0 t3).2 ≠ 0 then (0, 0, (hexN 4 0 t3).2)
      else if (hexN 4 0 t3).1 < 56320 ∨ 57343 < (hexN 4 0 t3).1 then (0, 0, 5)
      else (65536 + (hi - 55296) * 1024 + (hexN 4 0 t3).1 - 56320, 11, 0) := fun v => by cases v <;> rfl
  by_cases hc : c.toNat ≠ 92
  · rw [e1, if_pos hc] at h; exact absurd h (by simp)
  rw [e1, if_neg hc] at h ⊢
  rcases u with _ | ⟨d, u⟩
  · exact absurd h (by simp)
  simp only [] at h ⊢
  by_cases hd : d.toNat ≠ 117
  · rw [if_pos hd] at h; exact absurd h (by simp)
  rw [if_neg hd] at h ⊢
  by_cases hx : (hexN 4 0 u).2 ≠ 0
  · rw [if_pos hx] at h; exact absurd h hx
  rw [if_neg hx] at h ⊢
  by_cases hr : (hexN 4 0 u).1 < 56320 ∨ 57343 < (hexN 4 0 u).1
  · rw [if_pos hr] at h; exact absurd h (by simp)
  rw [if_neg hr]
  have hx0 : (hexN 4 0 u).2 = 0 := by simpa using hx
  rcases j with _ | _ | j
  · exact ⟨by first | rfl | trivial, fun h => by omega, fun _ => rfl⟩
  · refine ⟨by first | rfl | trivial, fun h => by omega, fun _ => ?_⟩
    rw [List.take_succ_cons, List.take_zero, e1, if_neg hc]
  · rw [List.take_succ_cons, List.take_succ_cons, e1, if_neg hc]
    simp only []
    rw [if_neg hd]
    have ht := hexN_take 4 0 u j hx0
    refine ⟨by first | rfl | trivial, fun h => ?_, fun h => ?_⟩
    · rw [ht.1 (by omega), if_neg hx, if_neg hr]
    · have := ht.2 (by omega)
      rw [if_pos (by rw [this]; decide), this]
theorem uniEsc_cut (t : List UInt8) (m : Nat) (h : (uniEsc t).2.2 = 0) : ((uniEsc t).2.1 ≤ m + 1 → uniEsc (t.take m) = uniEsc t) ∧ (m + 1 < (uniEsc t).2.1 → (uniEsc (t.take m)).2.2 = 4) := by
  rw [uniEsc_eq] at h
  by_cases h0 : (hexN 4 0 t).2 ≠ 0
  · rw [if_pos h0] at h; exact absurd h h0
  rw [if_neg h0] at h
  have hx := hexN_take 4 0 t m (by simpa using h0)
  have hcut : m < 4 → (uniEsc (t.take m)).2.2 = 4 := by
    intro h4
    have e := hx.2 h4
    rw [uniEsc_eq, if_pos (by rw [e]; decide), e]
  by_cases hb : (hexN 4 0 t).1 < 55296 ∨ 57343 < (hexN 4 0 t).1
  · have E : uniEsc t = ((hexN 4 0 t).1, 5, 0) := by rw [uniEsc_eq, if_neg h0, if_pos hb]
    rw [E]
    refine ⟨fun h => ?_, fun h => hcut (by simp only [] at h; omega)⟩
    simp only [] at h
    rw [uniEsc_eq, hx.1 (by omega), if_neg h0, if_pos hb]
  rw [if_neg hb] at h
  by_cases hh : 56319 < (hexN 4 0 t).1
  · rw [if_pos hh] at h; exact absurd h (by simp)
  rw [if_neg hh] at h
  have hu := uniTail_cut (hexN 4 0 t).1 (t.drop 4) (m - 4) h
  have E : uniEsc t = uniTail (hexN 4 0 t).1 (t.drop 4) := by rw [uniEsc_eq, if_neg h0, if_neg hb, if_neg hh]
  rw [E, hu.1]
  have E2 : 4 ≤ m → uniEsc (t.take m) = uniTail (hexN 4 0 t).1 ((t.drop 4).take (m - 4)) := by
    intro h4
    rw [uniEsc_eq, hx.1 h4, if_neg h0, if_neg hb, if_neg hh, List.drop_take]
  refine ⟨fun hm => ?_, fun hm => ?_⟩
  · rw [E2 (by omega), hu.2.1 (by omega)]
  · by_cases h4 : m < 4
    · exact hcut h4
    · rw [E2 (by omega)]
      exact hu.2.2 (by omega)
theorem escL_cut (t : List UInt8) (m : Nat) (h : (escL t).2.2 = 0) : ((escL t).2.1 ≤ m → escL (t.take m) = escL t) ∧ (m < (escL t).2.1 → (escL (t.take m)).2.2 = 4) := by
  rcases t with _ | ⟨c, t⟩
  · exact absurd h (by simp [escL])
  have e1 : ∀ v, escL (c :: v) = if c.toNat = 117 then uniEsc v else match simpleEsc c with
    | some r => (r, 1, 0)
    | none => (0, 0, 3) := fun _ => rfl
  rcases m with _ | m
  · refine ⟨fun hm => ?_, fun _ => rfl⟩
    have := escL_ok (c :: t) h
    omega
  rw [List.take_succ_cons, e1, e1]
  rw [e1] at h
  by_cases hc : c.toNat = 117
  · rw [if_pos hc] at h ⊢
    rw [if_pos hc]
    exact uniEsc_cut t m h
  · rw [if_neg hc] at h ⊢
    rw [if_neg hc]
    cases hs : simpleEsc c with
    | none => rw [hs] at h; exact absurd h (by simp)
    | some r => exact ⟨fun _ => rfl, fun h => by simp only [] at h; omega⟩

/-! Quoted strings. -/
theorem quotFin_err (a : List UInt8) (k : Nat) (x : List UInt8 × Nat × Nat) (h : (quotFin a k x).2.2 = 0) : x.2.2 = 0 ∧ (quotFin a k x).2.1 = k + x.2.1 := by
  unfold quotFin at h ⊢
  by_cases hx : x.2.2 ≠ 0
  · rw [if_pos hx] at h; exact absurd h hx
  · rw [if_neg hx]; exact ⟨by simpa using hx, rfl⟩
theorem quotFin_four (a : List UInt8) (k : Nat) (x : List UInt8 × Nat × Nat) (h : x.2.2 = 4) : (quotFin a k x).2.2 = 4 := by
  unfold quotFin
  rw [if_pos (by rw [h]; decide), h]
theorem quotL_cut : ∀ (f : Nat) (l : List UInt8) (m : Nat), l.length ≤ f → (quotL l).2.2 = 0 → cutOK l m → ((quotL l).2.1 ≤ m → (quotL (l.take m)).2.1 = (quotL l).2.1 ∧ (quotL (l.take m)).2.2 = 0) ∧ (m < (quotL l).2.1 → (quotL (l.take m)).2.2 = 4) := by
  intro f
  induction f with
  | zero =>
    intro l m hl h _
    have : l = [] := List.eq_nil_of_length_eq_zero (by omega)
    subst this
    exact absurd h (by simp [quotL_nil])
  | succ f ih =>
    intro l m hl h hc
    rcases l with _ | ⟨b, t⟩
    · exact absurd h (by simp [quotL_nil])
    rcases m with _ | m
    · refine ⟨fun hm => ?_, fun _ => rfl⟩
      exfalso
      rw [quotL_cons] at h hm
      by_cases h34 : b.toNat = 34
      · rw [if_pos h34] at hm; simp at hm
      rw [if_neg h34] at h hm
      by_cases h92 : b.toNat = 92
      · rw [if_pos h92] at h hm
        by_cases he : (escL t).2.2 ≠ 0
        · rw [if_pos he] at h; exact absurd h he
        rw [if_neg he] at h hm
        have := quotFin_err _ _ _ h
        omega
      rw [if_neg h92] at h hm
      by_cases hd : b.toNat < 32 ∨ (dec (b :: t)).2 = 0
      · rw [if_pos hd] at h; exact absurd h (by simp)
      rw [if_neg hd] at h hm
      have := quotFin_err _ _ _ h
      omega
    have hc' := cutOK_tail hc
    rw [List.take_succ_cons]
    rw [quotL_cons] at h
    by_cases h34 : b.toNat = 34
    · rw [quotL_cons, if_pos h34, quotL_cons, if_pos h34]
      exact ⟨fun _ => ⟨rfl, rfl⟩, fun h => by simp only [] at h; omega⟩
    rw [if_neg h34] at h
    by_cases h92 : b.toNat = 92
    · rw [if_pos h92] at h
      by_cases he : (escL t).2.2 ≠ 0
      · rw [if_pos he] at h; exact absurd h he
      rw [if_neg he] at h
      obtain ⟨hq, hn⟩ := quotFin_err _ _ _ h
      have hok := escL_ok t (by simpa using he)
      have hec := escL_cut t m (by simpa using he)
      have E : quotL (b :: t) = quotFin (enc (escL t).1) (1 + (escL t).2.1) (quotL (t.drop (escL t).2.1)) := by rw [quotL_cons, if_neg h34, if_pos h92, if_neg he]
      rw [E, hn]
      by_cases hk : (escL t).2.1 ≤ m
      · have E2 : quotL (b :: t.take m) = quotFin (enc (escL t).1) (1 + (escL t).2.1) (quotL ((t.drop (escL t).2.1).take (m - (escL t).2.1))) := by
          rw [quotL_cons, if_neg h34, if_pos h92, hec.1 hk, if_neg he, List.drop_take]
        have ih' := ih (t.drop (escL t).2.1) (m - (escL t).2.1) (by rw [List.length_drop]; simp only [List.length_cons] at hl; omega) hq (cutOK_drop hc' hk)
        rw [E2]
        refine ⟨fun hm => ?_, fun hm => quotFin_four _ _ _ (ih'.2 (by omega))⟩
        obtain ⟨i1, i2⟩ := ih'.1 (by omega)
        unfold quotFin
        rw [if_neg (by rw [i2]; simp)]
        exact ⟨by show _ + _ = _; rw [i1], rfl⟩
      · have E2 : (quotL (b :: t.take m)).2.2 = 4 := by
          have h4 := hec.2 (by omega)
          rw [quotL_cons, if_neg h34, if_pos h92, if_pos (by rw [h4]; decide)]
          exact h4
        exact ⟨fun hm => by omega, fun _ => E2⟩
    rw [if_neg h92] at h
    by_cases hd : b.toNat < 32 ∨ (dec (b :: t)).2 = 0
    · rw [if_pos hd] at h; exact absurd h (by simp)
    rw [if_neg hd] at h
    obtain ⟨hq, hn⟩ := quotFin_err _ _ _ h
    have hd0 : (dec (b :: t)).2 ≠ 0 := fun h => hd (.inr h)
    have E : quotL (b :: t) = quotFin ((b :: t).take (dec (b :: t)).2) (dec (b :: t)).2 (quotL ((b :: t).drop (dec (b :: t)).2)) := by rw [quotL_cons, if_neg h34, if_neg h92, if_neg hd]
    have hk : (dec (b :: t)).2 ≤ m + 1 := by
      rcases Nat.lt_or_ge (m + 1) (dec (b :: t)).2 with hlt | hge
      · exact (dec_mid (b :: t) (m + 1) (by omega) hlt hc).elim
      · exact hge
    have hdt : dec (b :: t.take m) = dec (b :: t) := dec_take (b :: t) (m + 1) hd0 hk
    have E2 : quotL (b :: t.take m) = quotFin ((b :: t.take m).take (dec (b :: t)).2) (dec (b :: t)).2 (quotL (((b :: t).drop (dec (b :: t)).2).take (m + 1 - (dec (b :: t)).2))) := by
      rw [quotL_cons, if_neg h34, if_neg h92, hdt, if_neg hd, ← List.take_succ_cons, List.drop_take]
    have ih' := ih ((b :: t).drop (dec (b :: t)).2) (m + 1 - (dec (b :: t)).2) (by rw [List.length_drop]; simp only [List.length_cons] at hl ⊢; omega) hq (cutOK_drop hc hk)
    rw [E, E2, hn]
    refine ⟨fun hm => ?_, fun hm => quotFin_four _ _ _ (ih'.2 (by omega))⟩
    obtain ⟨i1, i2⟩ := ih'.1 (by omega)
    unfold quotFin
    rw [if_neg (by rw [i2]; simp)]
    exact ⟨by show _ + _ = _; rw [i1], rfl⟩
end Go.Proofs.Ytmafggfonapmpaa
