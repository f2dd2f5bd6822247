/- The text of a valid path is valid UTF-8 and is read as that path, as the program reads: plain laws. Conditions: none. -/
import Derived.Test.YtjbhjnelepbkcaaDoorPa1
namespace Go.Proofs.YtjbhjnelepbkcaaDoor
open Go.RowKit
set_option maxHeartbeats 1000000
set_option maxRecDepth 100000

/-! Valid UTF-8. -/
theorem valid_pre (a t : List UInt8) (ha : ∀ b ∈ a, b.toNat < 128) (h : badL t = t.length) : badL (a ++ t) = (a ++ t).length := by
  induction a with
  | nil => exact h
  | cons b a ih => exact valid_ascii b (a ++ t) (ha b (by simp)) (ih fun c hc => ha c (by simp [hc]))
theorem valid_app : ∀ (f : Nat) (l t : List UInt8), l.length ≤ f → badL l = l.length → badL t = t.length → badL (l ++ t) = (l ++ t).length
  | 0, l, t, hf, _, ht => by
    obtain rfl : l = [] := List.length_eq_zero_iff.1 (by omega)
    exact ht
  | f + 1, l, t, hf, hl, ht => by
    rcases valid_cons l hl with rfl | ⟨h0, h1⟩
    · exact ht
    have hle := dec_le l
    have hd : dec (l ++ t) = dec l := dec_app l t h0
    refine valid_step (l ++ t) (by rw [hd]; exact h0) ?_
    rw [hd, List.drop_append_of_le_length hle]
    exact valid_app f (l.drop (dec l).2) t (by rw [List.length_drop]; omega) h1 ht
theorem hx_lt : ∀ n : Fin 16, (hx n.val).toNat < 128 ∧ (hx n.val).toNat ≠ 93 ∧ hexd1 (hx n.val) = some n.val := by decide +kernel
theorem sgn_ascii : ∀ n : Fin 128, ∀ c ∈ sgn (UInt8.ofNat n.val), c.toNat < 128 := by decide +kernel
theorem sgn_high (c : UInt8) (h : 128 ≤ c.toNat) : sgn c = [c] := by
  unfold sgn
  rw [if_neg (by omega), if_neg (by omega), if_neg (by omega), if_neg (by omega), if_neg (by omega), if_neg (by omega)]
theorem sgn_low (c : UInt8) (h : c.toNat < 128) : ∀ b ∈ sgn c, b.toNat < 128 := by
  have := sgn_ascii ⟨c.toNat, h⟩
  simpa using this
theorem flat_high (l : List UInt8) (h : ∀ c ∈ l, 128 ≤ c.toNat) : l.flatMap sgn = l := by
  induction l with
  | nil => rfl
  | cons c t ih =>
    rw [List.flatMap_cons, sgn_high c (h c (by simp)), ih (fun d hd => h d (by simp [hd]))]
    rfl
theorem valid_quote : ∀ (f : Nat) (l t : List UInt8), l.length ≤ f → badL l = l.length → badL t = t.length → badL (l.flatMap sgn ++ t) = (l.flatMap sgn ++ t).length
  | 0, l, t, hf, _, ht => by
    obtain rfl : l = [] := List.length_eq_zero_iff.1 (by omega)
    exact ht
  | f + 1, l, t, hf, hl, ht => by
    rcases valid_cons l hl with rfl | ⟨h0, h1⟩
    · exact ht
    have hle := dec_le l
    have ih := valid_quote f (l.drop (dec l).2) t (by rw [List.length_drop]; omega) h1 ht
    by_cases h2 : (dec l).2 = 1
    · rcases l with _ | ⟨b, u⟩
      · exact ht
      rw [h2] at ih
      have hb := dec_one b u h2
      rw [List.flatMap_cons, List.append_assoc]
      exact valid_pre (sgn b) _ (sgn_low b hb) ih
    · have hh := high_bytes l h0 h2
      have hs : l = l.take (dec l).2 ++ l.drop (dec l).2 := (List.take_append_drop _ _).symm
      rw [hs, List.flatMap_append, flat_high _ hh, List.append_assoc]
      have hx : dec (l.take (dec l).2 ++ ((l.drop (dec l).2).flatMap sgn ++ t)) = dec l :=
        dec_congr l _ h0 (by rw [List.take_append_of_le_length (by rw [List.length_take]; omega), List.take_take, Nat.min_self])
      refine valid_step _ (by rw [hx]; exact h0) ?_
      rw [hx, List.drop_append, List.length_take, Nat.min_eq_left hle, Nat.sub_self, List.drop_of_length_le (by rw [List.length_take]; omega), List.nil_append, List.drop_zero]
      exact ih
theorem dec_ascii' : ∀ (u : Nat), ∀ b ∈ Lib.decDigits u, 48 ≤ b.toNat ∧ b.toNat ≤ 57 := by
  intro u
  induction u using Nat.strongRecOn with
  | _ u ih =>
    intro b hb
    rw [Lib.decDigits] at hb
    split at hb
    · simp only [List.mem_singleton] at hb
      subst hb
      rename_i h
      simp; omega
    · rw [List.mem_append, List.mem_singleton] at hb
      rcases hb with hb | rfl
      · exact ih _ (by omega) b hb
      · simp; omega
theorem valid_stepT (s : St) (t : List UInt8) (hs : okSt s = true) (ht : badL t = t.length) : badL (stepT s ++ t) = (stepT s ++ t).length := by
  obtain ⟨b, k, i⟩ := s
  unfold okSt at hs
  unfold stepT
  simp only [] at hs ⊢
  cases b with
  | true =>
    simp only [decide_eq_true_eq, if_pos] at hs ⊢
    refine valid_pre _ t ?_ ht
    intro c hc
    simp only [List.mem_cons, List.mem_append, List.not_mem_nil, or_false] at hc
    rcases hc with rfl | hc | rfl
    · decide
    · unfold Lib.itoa at hc
      rw [if_neg (by omega)] at hc
      have := dec_ascii' _ c hc
      omega
    · decide
  | false =>
    rw [if_neg (by simp)] at hs ⊢
    simp only [decide_eq_true_eq] at hs
    split
    · exact valid_ascii 46 _ (by decide) (valid_app _ _ t (Nat.le_refl _) hs.2.2 ht)
    · have h34 : badL (34 :: t) = (34 :: t).length := valid_ascii 34 t (by decide) ht
      have := valid_quote _ (L k) (34 :: t) (Nat.le_refl _) hs.2.2 h34
      simp only [List.cons_append, List.append_assoc, List.nil_append]
      exact valid_ascii 46 _ (by decide) (valid_ascii 34 _ (by decide) this)
theorem valid_flat : ∀ (p : List St), p.all okSt = true → badL (p.flatMap stepT) = (p.flatMap stepT).length
  | [], _ => rfl
  | s :: p, h => by
    simp only [List.all_cons, Bool.and_eq_true] at h
    rw [List.flatMap_cons]
    exact valid_stepT s _ h.1 (valid_flat p h.2)
theorem valid_textL (p : List St) (h : p.all okSt = true) : badL (textL p) = (textL p).length := by
  unfold textL
  rcases p with _ | ⟨s, p⟩
  · rfl
  rw [if_neg (by simp)]
  refine valid_pre _ _ ?_ (valid_flat _ h)
  intro c hc
  unfold preT at hc
  simp only [] at hc
  split at hc
  · simp only [List.mem_singleton] at hc; subst hc; decide
  · simp at hc

/-! A step is read back. -/
def ends (r : List UInt8) : Prop := r = [] ∨ ∃ b t, r = b :: t ∧ (b.toNat = 46 ∨ b.toNat = 91)
theorem nmL_app (k r : List UInt8) (h : nmL k = k.length) (hr : ends r) : nmL (k ++ r) = k.length := by
  induction k with
  | nil =>
    rcases hr with rfl | ⟨b, t, rfl, hb⟩
    · rfl
    · simp only [List.nil_append, List.length_nil]
      unfold nmL
      rw [if_neg]
      unfold nmc alpha dig
      simp only [Bool.or_eq_true, decide_eq_true_eq, not_or]
      exact ⟨⟨by omega, by omega⟩, by omega⟩
  | cons b k ih =>
    unfold nmL at h
    split at h
    · rename_i hb
      rw [List.cons_append]
      unfold nmL
      rw [if_pos hb, ih (by simpa using h)]
      rfl
    · simp at h
theorem folL_app (k r : List UInt8) (h : folL k = k.length) (h0 : k ≠ []) (hr : ends r) : folL (k ++ r) = k.length := by
  rcases k with _ | ⟨b, k⟩
  · exact absurd rfl h0
  simp only [folL] at h
  split at h
  · rename_i hb
    rw [List.cons_append]
    simp only [folL]
    rw [if_pos hb, nmL_app k r (by simpa using h) hr]
    rfl
  · simp at h
theorem idx93_app (d r : List UInt8) (h : ∀ b ∈ d, b.toNat ≠ 93) : idx93 (d ++ 93 :: r) = d.length := by
  induction d with
  | nil =>
    rw [List.nil_append]
    unfold idx93
    rw [if_pos (by decide)]
    rfl
  | cons b d ih =>
    rw [List.cons_append]
    unfold idx93
    rw [if_neg (h b (by simp)), ih fun c hc => h c (by simp [hc])]
    rfl
theorem decFrom_snoc (l : List UInt8) (b : UInt8) (d : Nat) (hd : Lib.digitVal b = some d) : ∀ acc n, Lib.decFrom acc l = some n → Lib.decFrom acc (l ++ [b]) = some (n * 10 + d) := by
  induction l with
  | nil =>
    intro acc n h
    simp only [Lib.decFrom, Option.some.injEq] at h
    subst h
    simp [Lib.decFrom, hd]
  | cons a t ih =>
    intro acc n h
    rw [List.cons_append]
    unfold Lib.decFrom at h ⊢
    cases ha : Lib.digitVal a with
    | none => rw [ha] at h; simp at h
    | some e =>
      rw [ha] at h
      exact ih _ n h
theorem decDigits_val (u : Nat) : Lib.decFrom 0 (Lib.decDigits u) = some u ∧ Lib.decDigits u ≠ [] := by
  induction u using Nat.strongRecOn with
  | _ u ih =>
    have hdg : ∀ d : Nat, d < 10 → Lib.digitVal (UInt8.ofNat (48 + d)) = some d := by
      intro d hd
      unfold Lib.digitVal
      rw [if_pos (by simp; omega)]
      simp; omega
    rw [Lib.decDigits]
    split
    · rename_i h
      refine ⟨?_, by simp⟩
      unfold Lib.decFrom
      rw [hdg u h]
      simp [Lib.decFrom]
    · rename_i h
      refine ⟨?_, by simp⟩
      rw [decFrom_snoc _ _ _ (hdg (u % 10) (by omega)) 0 (u / 10) (ih (u / 10) (by omega)).1]
      congr 1
      omega
theorem atoi_digits (u : Nat) : Lib.atoi (Lib.decDigits u) = some (u : Int) := by
  have h := decDigits_val u
  have ha := dec_ascii' u
  generalize Lib.decDigits u = l at *
  rcases l with _ | ⟨b, t⟩
  · exact absurd rfl h.2
  have hb := ha b (by simp)
  unfold Lib.atoi
  have n45 : (b == 45) = false := by
    rw [beq_eq_false_iff_ne]; rintro rfl; simp at hb
  have n43 : (b == 43) = false := by
    rw [beq_eq_false_iff_ne]; rintro rfl; simp at hb
  simp only [n45, n43, Bool.false_eq_true, if_false]
  unfold Lib.decNat
  simp [h.1]
theorem decDigits_len (u : Nat) (h : u ≤ 65536) : (Lib.decDigits u).length ≤ 5 := by
  rw [Lib.decDigits_length]
  rw [Lib.nDigits]; split
  · omega
  rw [Lib.nDigits]; split
  · omega
  rw [Lib.nDigits]; split
  · omega
  rw [Lib.nDigits]; split
  · omega
  rw [Lib.nDigits]; split
  · omega
  omega
theorem take_len (a r : List UInt8) : (a ++ r).take a.length = a := by simp
theorem drop_len (a r : List UInt8) : (a ++ r).drop a.length = r := by simp
theorem stepI_index (i : Int) (r : List UInt8) (h0 : 0 ≤ i) (h1 : i ≤ 65536) : stepI (91 :: (Lib.itoa i ++ 93 :: r)) = some ((true, ⟨#[]⟩, i), r) := by
  obtain ⟨u, rfl⟩ : ∃ u : Nat, i = (u : Int) := ⟨i.toNat, by omega⟩
  have hi : Lib.itoa (u : Int) = Lib.decDigits u := by unfold Lib.itoa; rw [if_neg (by omega)]; simp
  have hl := decDigits_len u (by omega)
  have hd := dec_ascii' u
  have hv := decDigits_val u
  have ha := atoi_digits u
  rw [hi]
  generalize Lib.decDigits u = d at *
  have hx := idx93_app d r (fun b hb => by have := hd b hb; omega)
  have hn : d.length ≠ 0 := by
    intro h
    exact hv.2 (List.length_eq_zero_iff.1 h)
  rw [stepI_cons, if_pos (by decide), hx, if_neg (by rw [not_or, not_or]; exact ⟨hn, by omega, by rw [List.length_append, List.length_cons]; omega⟩), take_len, ha]
  simp only []
  rw [List.drop_append, Nat.add_sub_cancel_left, List.drop_of_length_le (by omega)]
  rfl
theorem stepI_name (k r : List UInt8) (h : isName k = true) (hr : ends r) : stepI (46 :: (k ++ r)) = some ((false, ⟨k.toArray⟩, 0), r) := by
  unfold isName at h
  simp only [decide_eq_true_eq] at h
  have hf := folL_app k r h.2 h.1 hr
  have hp : 0 < k.length := List.length_pos_iff.2 h.1
  have hh : ¬ ((k ++ r).head? = some 34) := by
    intro he
    rcases k with _ | ⟨b, k⟩
    · exact h.1 rfl
    simp at he
    subst he
    have := h.2
    simp only [folL] at this
    rw [if_neg (by decide)] at this
    simp at this
  rw [stepI_cons, if_neg (by decide), if_neg (by rintro ⟨_, h⟩; exact hh h), if_pos ⟨by decide, by omega⟩, hf, take_len, drop_len]
theorem escI_back : ∀ n : Fin 128, (sgn (UInt8.ofNat n.val) = [UInt8.ofNat n.val] ∧ n.val ≠ 34 ∧ n.val ≠ 92) ∨ (∃ e : Fin 128, sgn (UInt8.ofNat n.val) = [92, UInt8.ofNat e.val] ∧ e.val ≠ 117 ∧ escI [UInt8.ofNat e.val] = (n.val, 1)) ∨ (sgn (UInt8.ofNat n.val) = [92, 117, 123, hx n.val, 125] ∧ n.val < 16) ∨ (sgn (UInt8.ofNat n.val) = [92, 117, 123, hx (n.val / 16), hx (n.val % 16), 125] ∧ 16 ≤ n.val) := by decide +kernel
theorem escI_one (b : UInt8) (u : List UInt8) (h : b.toNat ≠ 117) : escI (b :: u) = escI [b] := by
  rw [escI_cons, escI_cons, if_neg (c := b.toNat = 117) h, if_neg (c := b.toNat = 117) h]
theorem ues_one (n : Nat) (h : n < 16) (u : List UInt8) : ues (123 :: hx n :: 125 :: u) = (n, 4) := by
  have := hx_lt ⟨n, h⟩
  simp [ues, hexs, this.2.2]
theorem ues_two (n : Nat) (h : n < 128) (u : List UInt8) : ues (123 :: hx (n / 16) :: hx (n % 16) :: 125 :: u) = (n, 5) := by
  have h1 := hx_lt ⟨n / 16, by omega⟩
  have h2 := hx_lt ⟨n % 16, by omega⟩
  have h3 : ∀ m : Fin 16, ¬ hx m.val = 125 := by decide +kernel
  have h4 := h3 ⟨n % 16, by omega⟩
  simp only [] at h1 h2 h4
  simp [ues, hexs, h1.2.2, h2.2.2, h4]
  omega
theorem unqF_byte (f : Nat) (b : UInt8) (u : List UInt8) (o : List UInt8 × Nat) (h : unqF f u = some o) : unqF (f + 1) (sgn b ++ u) = some (b :: o.1, o.2 + (sgn b).length) := by
  by_cases hb : b.toNat < 128
  · have hcase := escI_back ⟨b.toNat, hb⟩
    simp only [UInt8.ofNat_toNat] at hcase
    rcases hcase with ⟨h1, h2, h3⟩ | ⟨e, h1, h2, h3⟩ | ⟨h1, h2⟩ | ⟨h1, h2⟩
    · rw [h1]
      simp only [List.cons_append, List.nil_append]
      rw [unqF_cons, if_neg h2, if_neg h3, h]
      rfl
    · rw [h1]
      have he : escI (UInt8.ofNat e.val :: u) = (b.toNat, 1) := by
        rw [escI_one _ _ (by simp; have := e.isLt; omega), h3]
      simp only [List.cons_append, List.nil_append]
      rw [unqF_cons, if_neg (by decide), if_pos (by decide), he]
      simp [h]
    · rw [h1]
      have he : escI (117 :: 123 :: hx b.toNat :: 125 :: u) = (b.toNat, 4) := by
        rw [escI_cons, if_neg (by decide), if_neg (by decide), if_neg (by decide), if_neg (by decide), if_pos (by decide), ues_one _ h2]
      simp only [List.cons_append, List.nil_append]
      rw [unqF_cons, if_neg (by decide), if_pos (by decide), he]
      simp [h]
    · rw [h1]
      have he : escI (117 :: 123 :: hx (b.toNat / 16) :: hx (b.toNat % 16) :: 125 :: u) = (b.toNat, 5) := by
        rw [escI_cons, if_neg (by decide), if_neg (by decide), if_neg (by decide), if_neg (by decide), if_pos (by decide), ues_two _ hb]
      simp only [List.cons_append, List.nil_append]
      rw [unqF_cons, if_neg (by decide), if_pos (by decide), he]
      simp [h]
  · rw [sgn_high b (by omega)]
    simp only [List.cons_append, List.nil_append]
    rw [unqF_cons, if_neg (by omega), if_neg (by omega), h]
    rfl
theorem unqF_back : ∀ (k r : List UInt8) (f : Nat), k.length < f → unqF f (k.flatMap sgn ++ 34 :: r) = some (k, (k.flatMap sgn).length + 1)
  | [], r, f, h => by
    obtain ⟨f, rfl⟩ : ∃ g, f = g + 1 := ⟨f - 1, by simp at h; omega⟩
    simp [unqF]
  | b :: k, r, f, h => by
    obtain ⟨f, rfl⟩ : ∃ g, f = g + 1 := ⟨f - 1, by simp at h; omega⟩
    rw [List.flatMap_cons, List.append_assoc, unqF_byte f b _ _ (unqF_back k r f (by simp at h; omega))]
    simp only [List.length_append]
    congr 2
    omega
theorem flat_len (k : List UInt8) : k.length ≤ (k.flatMap sgn).length := by
  induction k with
  | nil => exact Nat.le_refl _
  | cons b k ih =>
    have : 1 ≤ (sgn b).length := by
      unfold sgn
      repeat' split
      all_goals simp
    rw [List.flatMap_cons, List.length_append, List.length_cons]
    omega
theorem stepI_quoted (k r : List UInt8) : stepI (46 :: 34 :: (k.flatMap sgn ++ 34 :: r)) = some ((false, ⟨k.toArray⟩, 0), r) := by
  have := flat_len k
  rw [stepI_cons, if_neg (by decide), if_pos ⟨by decide, rfl⟩]
  simp only [List.drop_succ_cons, List.drop_zero]
  rw [unqF_back k r _ (by simp only [List.length_cons, List.length_append]; omega)]
  simp only []
  rw [show (k.flatMap sgn).length + 1 = (k.flatMap sgn ++ [34]).length by rw [List.length_append]; rfl, show k.flatMap sgn ++ 34 :: r = (k.flatMap sgn ++ [34]) ++ r by simp, drop_len]
theorem stepI_back (s : St) (r : List UInt8) (hs : okSt s = true) (hr : ends r) : stepI (stepT s ++ r) = some (s, r) := by
  obtain ⟨b, k, i⟩ := s
  unfold okSt at hs
  unfold stepT
  simp only [] at hs ⊢
  cases b with
  | true =>
    simp only [decide_eq_true_eq, if_pos] at hs ⊢
    have hk : k = ⟨#[]⟩ := L_inj (List.length_eq_zero_iff.1 (by rw [L_len]; exact hs.1))
    subst hk
    simp only [List.cons_append, List.append_assoc, List.nil_append]
    exact stepI_index i r hs.2.1 hs.2.2
  | false =>
    rw [if_neg (by simp)] at hs ⊢
    simp only [decide_eq_true_eq] at hs
    obtain ⟨rfl, _⟩ := hs
    split
    · rename_i hn
      exact stepI_name (L k) r hn hr
    · simp only [List.cons_append, List.append_assoc, List.nil_append]
      exact stepI_quoted (L k) r
theorem ends_flat (p : List St) : ends (p.flatMap stepT) := by
  rcases p with _ | ⟨s, p⟩
  · exact .inl rfl
  right
  unfold stepT
  rw [List.flatMap_cons]
  split
  · exact ⟨91, _, rfl, by decide⟩
  · split
    · exact ⟨46, _, rfl, by decide⟩
    · exact ⟨46, _, rfl, by decide⟩
theorem stepT_ne (s : St) : stepT s ≠ [] := by
  unfold stepT
  repeat' split
  all_goals simp
theorem loopI_back : ∀ (p : List St) (f k : Nat), p.all okSt = true → k + p.length ≤ 48 → p.length < f → loopI f k (p.flatMap stepT) = some p
  | [], f, k, _, _, hf => by
    obtain ⟨f, rfl⟩ : ∃ g, f = g + 1 := ⟨f - 1, by simp at hf; omega⟩
    simp [loopI]
  | s :: p, f, k, h, hk, hf => by
    obtain ⟨f, rfl⟩ : ∃ g, f = g + 1 := ⟨f - 1, by simp at hf; omega⟩
    simp only [List.all_cons, Bool.and_eq_true] at h
    simp only [List.length_cons] at hk hf
    rw [List.flatMap_cons]
    unfold loopI
    rw [if_neg (by simp [stepT_ne]; omega), stepI_back s _ h.1 (ends_flat p)]
    simp only []
    rw [loopI_back p f (k + 1) h.2 (by omega) (by omega)]
    rfl
theorem strip_text (p : List St) (h0 : p ≠ []) (h : p.all okSt = true) : strip (textL p) = p.flatMap stepT := by
  rcases p with _ | ⟨⟨b, k, i⟩, p⟩
  · exact absurd rfl h0
  unfold textL
  rw [if_neg (by simp)]
  unfold preT
  simp only []
  cases b with
  | true =>
    rw [if_pos rfl, List.flatMap_cons]
    simp [stepT, strip]
  | false =>
    rw [if_neg (by simp), List.nil_append]
    unfold strip
    rw [if_neg]
    rw [List.flatMap_cons]
    intro he
    unfold stepT at he
    simp only [Bool.false_eq_true, if_false] at he
    split at he
    · rename_i hn
      unfold isName at hn
      simp only [decide_eq_true_eq] at hn
      generalize L k = l at *
      rcases l with _ | ⟨c, l⟩
      · exact hn.1 rfl
      simp only [List.cons_append, List.take_succ_cons, List.take_zero, List.cons.injEq, and_true, true_and] at he
      subst he
      have := hn.2
      simp only [folL] at this
      rw [if_neg (by decide)] at this
      simp at this
    · simp only [List.cons_append, List.take_succ_cons, List.take_zero, List.cons.injEq, and_true, true_and] at he
      exact absurd he (by decide)
theorem all_ok {p : List St} (h : validP p = true) : p.all okSt = true ∧ p.length ≤ 48 := by
  unfold validP at h
  simp only [Bool.and_eq_true, decide_eq_true_eq] at h
  exact ⟨h.2, h.1⟩
/-- What the program makes of a valid path's text. -/
theorem loop_text (p : List St) (h0 : p ≠ []) (h : validP p = true) : loopI 49 0 (strip (textL p)) = some p := by
  obtain ⟨h1, h2⟩ := all_ok h
  rw [strip_text p h0 h1]
  exact loopI_back p 49 0 h1 (by omega) (by omega)
theorem text_dot (p : List St) (h0 : p ≠ []) (h : validP p = true) : textL p ≠ [46] := by
  intro he
  have h1 := loop_text p h0 h
  rw [he] at h1
  have : loopI 49 0 (strip [46]) = none := by decide +kernel
  rw [this] at h1
  cases h1
theorem parse_text (p : List St) (h : validP p = true) : parseL (textL p) = (p, 0) := by
  unfold parseL
  rw [if_neg (by rw [valid_textL p (all_ok h).1]; simp)]
  by_cases h0 : p = []
  · subst h0; rfl
  rw [if_neg (text_dot p h0 h), loop_text p h0 h]
  unfold accept
  simp only []
  rw [if_pos ⟨h0, h, trivial⟩]
/-- Different valid paths have different texts. -/
theorem text_inj {p q : List St} (hp : validP p = true) (hq : validP q = true) (h : textL p = textL q) : p = q := by
  have h1 := parse_text p hp
  rw [h, parse_text q hq] at h1
  exact (congrArg Prod.fst h1).symm
end Go.Proofs.YtjbhjnelepbkcaaDoor
