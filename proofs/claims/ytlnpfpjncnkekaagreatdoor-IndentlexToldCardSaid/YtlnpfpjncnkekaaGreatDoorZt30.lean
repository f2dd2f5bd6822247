/- datakitlaw21.awake walked; the law IndentlexKeys. Conditions: the tables of unicode/utf8 as they are, a value of internal/bytealg.MaxLen. -/
import Derived.Test.YtlnpfpjncnkekaaGreatDoorZt20
import Derived.Test.YtlnpfpjncnkekaaGreatDoorZt6
import Derived.Test.YtlnpfpjncnkekaaGreatDoorZt29
import Derived.Test.YtlnpfpjncnkekaaGreatDoorZt13
import Derived.Test.YtlnpfpjncnkekaaGreatDoorZt18
import Derived.Test.YtlnpfpjncnkekaaGreatDoorZt9
import Derived.Test.YtlnpfpjncnkekaaGreatDoorZt12
import Derived.Test.YtlnpfpjncnkekaaGreatDoorZt19
namespace Go.Proofs.YtlnpfpjncnkekaaGreatDoor
open Go.RowKit
set_option maxRecDepth 100000
set_option maxHeartbeats 1000000

theorem mom_err (k : Nat) (f : Fl) : (momF k f).2 ≠ 3 := by
  unfold momF
  by_cases h1 : k ≠ 2 ∧ (dayC f.y f.mo f.d).2 ≠ 0
  · rw [if_pos h1]; decide
  rw [if_neg h1]
  by_cases h2 : badF f = true
  · rw [if_pos h2]; decide
  · rw [if_neg h2]
    exact fun h => by cases h
theorem after_z (d : Nat × Nat) (c : Nat × List UInt8 × Bool × Bool) (h : (afterR d c).2 ≠ 0) : (afterR d c).1 = tmZ := by
  unfold afterR at h ⊢
  by_cases h1 : c.2.2.1 = false
  · rw [if_pos h1]
  rw [if_neg h1] at h ⊢
  by_cases h2 : c.2.1 = []
  · rw [if_pos h2] at h ⊢
    by_cases h3 : d.2 ≠ 0 ∨ c.2.2.2 = false
    · rw [if_pos h3]
    · rw [if_neg h3] at h
      exact absurd rfl h
  rw [if_neg h2] at h ⊢
  by_cases h3 : (toR c.2.1).2.1 = false
  · rw [if_pos h3]
  rw [if_neg h3] at h ⊢
  by_cases h4 : d.2 ≠ 0 ∨ (c.2.2.2 && (toR c.2.1).2.2) = false
  · rw [if_pos h4]
  · rw [if_neg h4] at h
    exact absurd rfl h
theorem clock_z (c : Nat × List UInt8 × Bool × Bool) (h : (clockR c).2 ≠ 0) : (clockR c).1 = tmZ := by
  unfold clockR at h ⊢
  by_cases h1 : c.2.2.1 = false ∨ c.2.1 ≠ []
  · rw [if_pos h1]
  rw [if_neg h1] at h ⊢
  by_cases h2 : c.2.2.2 = false
  · rw [if_pos h2]
  · rw [if_neg h2] at h
    exact absurd rfl h
theorem dated_z (d : Nat × Nat) (l : List UInt8) (h : (datedR d l).2 ≠ 0) : (datedR d l).1 = tmZ := by
  cases l with
  | nil =>
    unfold datedR at h ⊢
    dsimp only at h ⊢
    by_cases h1 : d.2 ≠ 0
    · rw [if_pos h1]
    · rw [if_neg h1] at h
      exact absurd rfl h
  | cons b t =>
    unfold datedR at h ⊢
    dsimp only at h ⊢
    by_cases h1 : b.toNat = 84 ∨ b.toNat = 116 ∨ b.toNat = 32
    · rw [if_pos h1] at h ⊢
      exact after_z _ _ h
    · rw [if_neg h1]
theorem after_tm (d : Nat × Nat) (c : Nat × List UInt8 × Bool × Bool) : ∃ a b e f : Int, (afterR d c).1 = tmV a b e f := by
  by_cases h : (afterR d c).2 = 0
  · unfold afterR at h ⊢
    by_cases h1 : c.2.2.1 = false
    · rw [if_pos h1] at h
      cases h
    rw [if_neg h1] at h ⊢
    by_cases h2 : c.2.1 = []
    · rw [if_pos h2] at h ⊢
      by_cases h3 : d.2 ≠ 0 ∨ c.2.2.2 = false
      · rw [if_pos h3] at h
        cases h
      · rw [if_neg h3]
        exact ⟨_, _, _, _, rfl⟩
    rw [if_neg h2] at h ⊢
    by_cases h3 : (toR c.2.1).2.1 = false
    · rw [if_pos h3] at h
      cases h
    rw [if_neg h3] at h ⊢
    by_cases h4 : d.2 ≠ 0 ∨ (c.2.2.2 && (toR c.2.1).2.2) = false
    · rw [if_pos h4] at h
      cases h
    · rw [if_neg h4]
      exact ⟨_, _, _, _, rfl⟩
  · exact ⟨0, 0, 0, 0, after_z d c h⟩
theorem clock_tm (c : Nat × List UInt8 × Bool × Bool) : ∃ a b e f : Int, (clockR c).1 = tmV a b e f := by
  by_cases h : (clockR c).2 = 0
  · unfold clockR at h ⊢
    by_cases h1 : c.2.2.1 = false ∨ c.2.1 ≠ []
    · rw [if_pos h1] at h
      cases h
    rw [if_neg h1] at h ⊢
    by_cases h2 : c.2.2.2 = false
    · rw [if_pos h2] at h
      cases h
    · rw [if_neg h2]
      exact ⟨_, _, _, _, rfl⟩
  · exact ⟨0, 0, 0, 0, clock_z c h⟩
theorem dated_tm (d : Nat × Nat) (l : List UInt8) : ∃ a b e f : Int, (datedR d l).1 = tmV a b e f := by
  cases l with
  | nil =>
    unfold datedR
    dsimp only
    by_cases h1 : d.2 ≠ 0
    · rw [if_pos h1]
      exact ⟨0, 0, 0, 0, rfl⟩
    · rw [if_neg h1]
      exact ⟨_, _, _, _, rfl⟩
  | cons b t =>
    unfold datedR
    dsimp only
    by_cases h1 : b.toNat = 84 ∨ b.toNat = 116 ∨ b.toNat = 32
    · rw [if_pos h1]
      exact after_tm _ _
    · rw [if_neg h1]
      exact ⟨0, 0, 0, 0, rfl⟩
theorem rp_tm (l : List UInt8) : ∃ a b e f : Int, (rpR l).1 = tmV a b e f := by
  unfold rpR
  by_cases h1 : likeB l (L datF) = false
  · rw [if_pos h1]
    exact clock_tm _
  · rw [if_neg h1]
    exact dated_tm _ _
theorem rp_zero (l : List UInt8) (h : (rpR l).2 = 3) : (rpR l).1 = tmZ := by
  have h0 : (rpR l).2 ≠ 0 := by omega
  unfold rpR at h0 ⊢
  by_cases h1 : likeB l (L datF) = false
  · rw [if_pos h1] at h0 ⊢
    exact clock_z _ h0
  · rw [if_neg h1] at h0 ⊢
    exact dated_z _ _ h0
/-- Both readers of times agree on the form. -/
theorem tim_form (s : ByteArray) : (rpR (L s)).2 = 3 ↔ timB s = false := by
  rcases par_same s with ⟨h1, h2⟩ | ⟨h1, h2⟩
  · exact ⟨fun _ => h1, fun _ => h2⟩
  · rw [← h2]
    refine ⟨fun h => absurd h (mom_err _ _), fun h => ?_⟩
    rw [h1] at h
    cases h
theorem lk_head (b : UInt8) (t : List UInt8) (f : List UInt8) (h : dig b = false) : likeB (b :: t) (100 :: f) = false := by
  rw [likeB, if_pos (by decide), h, Bool.false_and]
theorem rp_head (b : UInt8) (t : List UInt8) (h : dig b = false) : (rpR (b :: t)).2 = 3 := by
  have h1 : likeB (b :: t) (L datF) = false := lk_head b t _ h
  have h2 : likeB (b :: t) (L hmsF) = false := lk_head b t _ h
  have h3 : rpR (b :: t) = clockR (tcR (b :: t)) := if_pos h1
  have h4 : tcR (b :: t) = noC := if_pos h2
  rw [h3, h4]
  rfl
theorem num_head (b : UInt8) (t : List UInt8) (h : dig b = false) (h2 : b.toNat ≠ 45) : numB (b :: t) = false := by
  have h1 : pre (b :: t) [45] = false := by rw [pre1]; exact decide_eq_false h2
  have hr : runL (b :: t) = 0 := by
    show (if dig b then runL t + 1 else 0) = 0
    rw [h]
    rfl
  unfold numB
  rw [h1]
  show intB (b :: t) = false
  unfold intB
  rw [hr, if_pos (.inl rfl)]
theorem qb_low : ∀ n : Fin 256, ∀ c ∈ qb (UInt8.ofNat n.val), ¬ c.toNat < 32 := by decide +kernel
theorem ctl_false (l : List UInt8) (h : ∀ c ∈ l, ¬ c.toNat < 32) : ctlB l = false := by
  unfold ctlB
  rw [List.any_eq_false]
  intro c hc
  simpa using h c hc
theorem ctl_quo (l : List UInt8) : ctlB (quoR l).1 = false := by
  refine ctl_false _ (fun c hc => ?_)
  unfold quoR at hc
  split at hc
  · rcases List.mem_append.1 hc with hc | hc
    · rcases List.mem_cons.1 hc with rfl | hc
      · decide
      · obtain ⟨b, -, hb⟩ := List.mem_flatMap.1 hc
        have := qb_low ⟨b.toNat, b.toNat_lt⟩ c (by simpa using hb)
        exact this
    · have : c = 34 := by simpa using hc
      subst this
      decide
  · cases hc
theorem quo_cons (l : List UInt8) (h : badL l = l.length) : (quoR l).1 = 34 :: (l.flatMap qb ++ [34]) ∧ (quoR l).2 = 0 := by
  unfold quoR
  rw [if_pos h]
  exact ⟨rfl, rfl⟩
/-! Simple strings. -/
theorem simp_parts (l : List UInt8) (h : simpB l = true) : l ≠ [] ∧ badL l = l.length ∧ l.head? ≠ some 32 ∧ l.getLast? ≠ some 32 ∧ dashB l = false ∧ ∀ c ∈ l, okS c = true := by
  unfold simpB validL at h
  simp only [Bool.and_eq_true, decide_eq_true_eq, Bool.not_eq_true', decide_eq_false_iff_not, List.all_eq_true] at h
  obtain ⟨⟨⟨⟨⟨h1, h2⟩, h3⟩, h4⟩, h5⟩, h6⟩ := h
  exact ⟨h1, by simpa using h2, h3, h4, h5, h6⟩
theorem ok_byte0 : ∀ n : Fin 256, okS (UInt8.ofNat n.val) = true → firstX.contains (UInt8.ofNat n.val) = false ∧ ¬ n.val < 32 ∧ n.val ≠ 34 ∧ n.val ≠ 39 ∧ n.val ≠ 58 ∧ n.val ≠ 35 ∧ n.val ≠ 33 := by decide +kernel
theorem ok_byte (b : UInt8) (h : okS b = true) : firstX.contains b = false ∧ ¬ b.toNat < 32 ∧ b.toNat ≠ 34 ∧ b.toNat ≠ 39 ∧ b.toNat ≠ 58 ∧ b.toNat ≠ 35 ∧ b.toNat ≠ 33 := by
  have := ok_byte0 ⟨b.toNat, b.toNat_lt⟩
  simp only [UInt8.ofNat_toNat] at this
  exact this h
theorem simp_ctl (l : List UInt8) (h : simpB l = true) : ctlB l = false :=
  ctl_false _ (fun c hc => (ok_byte c ((simp_parts l h).2.2.2.2.2 c hc)).2.1)
theorem two_no (a b : UInt8) : ∀ l : List UInt8, (∀ c ∈ l, c ≠ a) → two a b l = false
  | [], _ => rfl
  | x :: t, h => by
    rw [two, two_no a b t (fun c hc => h c (List.mem_cons_of_mem _ hc)), decide_eq_false (h x (List.mem_cons_self ..))]
    rfl
theorem two_no2 (a b : UInt8) : ∀ l : List UInt8, (∀ c ∈ l, c ≠ b) → two a b l = false
  | [], _ => rfl
  | x :: t, h => by
    have ht : t.head? ≠ some b := by
      cases t with
      | nil => exact fun h => by cases h
      | cons y u => exact fun h' => h y (by simp) (Option.some.inj h')
    rw [two, two_no2 a b t (fun c hc => h c (List.mem_cons_of_mem _ hc)), decide_eq_false ht, Bool.and_false]
    rfl
theorem simp_plain (l : List UInt8) (h : simpB l = true) : plainB l = true := by
  obtain ⟨h1, h2, h3, h4, h5, h6⟩ := simp_parts l h
  have hc := simp_ctl l h
  have h0 : firstX.contains (l.headD 0) = false := by
    cases l with
    | nil => exact absurd rfl h1
    | cons b t => exact (ok_byte b (h6 b (List.mem_cons_self ..))).1
  have ht1 : two 58 32 l = false := two_no 58 32 l (fun c hc h => (ok_byte c (h6 c hc)).2.2.2.2.1 (by rw [h]; rfl))
  have ht2 : two 32 35 l = false := two_no2 32 35 l (fun c hc h => (ok_byte c (h6 c hc)).2.2.2.2.2.1 (by rw [h]; rfl))
  have hl : l.getLast? ≠ some 58 := fun h => by
    have := List.mem_of_getLast? h
    exact (ok_byte 58 (h6 58 this)).2.2.2.2.1 rfl
  unfold plainB validL
  rw [decide_eq_true h1, hc, h0, h5, decide_eq_false h3, decide_eq_false h4, ht1, ht2, decide_eq_false hl, h2]
  simp
/-! In single quotation marks. -/
end Go.Proofs.YtlnpfpjncnkekaaGreatDoor

namespace Go.Proofs.YtlnpfpjncnkekaaGreatDoor
open Go.RowKit
set_option maxRecDepth 100000
set_option maxHeartbeats 1000000

theorem ascii_valid : ∀ l : List UInt8, (∀ b ∈ l, b.toNat < 128) → badL l = l.length
  | [], _ => by rw [badL]; rfl
  | b :: t, h => valid_ascii b t (h b List.mem_cons_self) (ascii_valid t (fun c hc => h c (List.mem_cons_of_mem _ hc)))
theorem hash_none : ∀ (l : List UInt8) (p : UInt8), (∀ b ∈ l, b.toNat ≠ 35 ∧ b.toNat ≠ 39 ∧ b.toNat ≠ 34) → hashW p l = l.length
  | [], p, _ => by rw [hashW_nil]; rfl
  | b :: t, p, h => by
    obtain ⟨h1, h2, h3⟩ := h b List.mem_cons_self
    rw [hashW_cons, if_neg (fun h => h1 h.1), if_neg (fun h => by rcases h.1 with h | h; exact h2 h; exact h3 h), hash_none t b (fun c hc => h c (List.mem_cons_of_mem _ hc)), List.length_cons]
    omega
theorem backS_all (l : List UInt8) (h : l.getLast? ≠ some 32) : backS l l.length = l.length := by
  rcases hl : l.length with _ | n
  · rfl
  · rw [backS, if_neg]
    rw [List.getLast?_eq_getElem?, hl] at h
    exact h
theorem lnF_none (s : ByteArray) (h : (10 : UInt8) ∉ L s) (hp : 0 < s.size) : ∀ (f k : Nat), lnF s f 0 k = [s.extract 0 s.size]
  | 0, k => by rw [lnF, if_pos hp]
  | f + 1, k => by
    rw [lnF]
    split
    · rename_i hk
      rw [if_neg, lnF_none s h hp f (k + 1)]
      intro h10
      refine h ?_
      have hd := L_drop s k hk
      have hm : s[k] ∈ (L s).drop k := by rw [hd]; exact List.mem_cons_self
      rw [← h10]
      exact List.mem_of_mem_drop hm
    · rfl
theorem body_all (l : List UInt8) (h : (10 : UInt8) ∉ l) : bodyN l = l.length := by
  unfold bodyN
  rw [if_neg]
  intro hl
  exact h (List.mem_of_getLast? hl)
/-- A text of one line, without a comment, that neither begins nor ends with a space. -/
structure OneLn (l : List UInt8) : Prop where
  ne : l ≠ []
  nl : (10 : UInt8) ∉ l
  val : badL l = l.length
  hd : l.head? ≠ some 32
  lst : l.getLast? ≠ some 32
  hash : hashW 32 l = l.length
theorem ln_one (s : ByteArray) (h : OneLn (L s)) (hs : s.size ≤ 1000000) : linesR s = ([⟨0, L s, [], [], 0⟩], 0, 0) := by
  obtain ⟨h1, h2, h3, h4, h5, h6⟩ := h
  have hp : 0 < s.size := by
    rcases Nat.eq_zero_or_pos s.size with h | h
    · exact absurd (List.length_eq_zero_iff.1 ((L_len s).trans h)) h1
    · exact h
  have hx : L (s.extract 0 s.size) = L s := by rw [L_upto, ← L_len, List.take_length]
  have hb := body_all _ h2
  have hsp : spcN (L s) = 0 := by
    rcases hl : L s with _ | ⟨b, t⟩
    · rfl
    · rw [spcN, if_neg]
      intro hb
      rw [hl, hb] at h4
      exact h4 rfl
  have hct : contL (L s) = L s := by
    unfold contL
    rw [hb, List.take_length, hsp, List.drop_zero]
  have hcn : contN (L s) = (L s).length := by
    unfold contN
    rw [hct, h6, backS_all _ h5]
  unfold linesR
  rw [if_neg (by omega), if_neg (by rw [h3, L_len]; omega)]
  unfold lnsB
  rw [lnF_none s h2 hp]
  show ([lineP (L (s.extract 0 s.size)) 0], 0, 0) = _
  rw [hx]
  unfold lineP
  rw [hcn, hct, hb, List.take_length, List.drop_length, hsp]
/-- Bytes that need no care. -/
theorem one_of_bytes (l : List UInt8) (hne : l ≠ []) (h : ∀ b ∈ l, 32 < b.toNat ∧ b.toNat < 127 ∧ b.toNat ≠ 35 ∧ b.toNat ≠ 39 ∧ b.toNat ≠ 34) : OneLn l := by
  refine ⟨hne, fun hm => by have := (h _ hm).1; revert this; decide, ascii_valid l (fun b hb => by have := h b hb; omega), ?_, ?_, hash_none l 32 (fun b hb => (h b hb).2.2)⟩
  · intro hh
    have := (h 32 (List.mem_of_mem_head? hh)).1
    revert this
    decide
  · intro hh
    have := (h 32 (List.mem_of_getLast? hh)).1
    revert this
    decide
theorem ctl_of_bytes (l : List UInt8) (h : ∀ b ∈ l, 32 ≤ b.toNat) : ctlB l = false := ctl_false l (fun c hc => by have := h c hc; omega)
/-- A plain text is one line. -/
theorem one_simple (l : List UInt8) (h : simpB l = true) : OneLn l := by
  obtain ⟨h1, h2, h3, h4, h5, h6⟩ := simp_parts l h
  refine ⟨h1, fun hm => ?_, h2, h3, h4, hash_none l 32 (fun b hb => ?_)⟩
  · have := (ok_byte _ (h6 _ hm)).2.1
    exact this (by decide)
  · have := ok_byte _ (h6 _ hb)
    exact ⟨this.2.2.2.2.2.1, this.2.2.2.1, this.2.2.1⟩
/-- A quoted text is one line. -/
theorem one_quoted (l : List UInt8) (h : badL l = l.length) : OneLn (quoR l).1 := by
  have hb := bad_back l h
  obtain ⟨hq, -⟩ := quo_cons l h
  have hc := ctl_quo l
  have hu := unq_back l h
  have hqb := quot_back l.length l (Nat.le_refl _) h []
  obtain ⟨-, -, hpw, -⟩ := quot_cut _ _ _ _ (Nat.le_refl _) hqb
  rw [hq] at hb hc ⊢
  have hlo : ∀ c ∈ (34 : UInt8) :: (l.flatMap qb ++ [34]), ¬ c.toNat < 32 := by
    intro c hcm hlt
    unfold ctlB at hc
    rw [List.any_eq_false] at hc
    exact hc c hcm (decide_eq_true hlt)
  refine ⟨by simp, fun hm => hlo _ hm (by decide), hb, by simp, by rw [← List.cons_append, List.getLast?_concat]; decide, ?_⟩
  rw [hashW_cons, if_neg (fun h => absurd h.1 (by decide)), if_pos ⟨.inr (by decide), .inl (by decide)⟩, hpw, if_neg (by omega), List.drop_of_length_le (by simp), hashW_nil]
  simp only [List.length_cons, List.length_append, List.length_nil]
  omega
end Go.Proofs.YtlnpfpjncnkekaaGreatDoor

namespace Go.Proofs.YtlnpfpjncnkekaaGreatDoor
open Go.RowKit
set_option maxHeartbeats 4000000
set_option maxRecDepth 100000

theorem numeric_i (s : ByteArray) (w : World) (hs : s.size ≤ 100000) :
    Calls Tryz.prog 52 #[.string s] w fun e w' => e = .returned (.bool (numB (L s))) ∧ Below w.heap.size w w' := by
  have HD := Lib.hid (fun w' => Parse_any s w' hs)
  have hE := dec_err numP (L s)
  generalize decP numP (L s) = dr at *
  generalize numB (L s) = nb at *
  obtain ⟨d1, d2, d3, d4⟩ := dr
  dsimp only at hE
  by_cases h3 : d4 = 3
  · have hn := hE.1 h3
    subst hn h3
    clear hE
    go_enter Tryz.func52, Tryz.ntmps52
    go_wp2_with (go_at_call 28; refine (HD.out _).mono ?_; rintro e w3 ⟨rfl, hb3⟩; have HB := Lib.hid hb3; clear hb3; unfold decV; dsimp only)
    go_ret
    exact ⟨rfl, HB.out.alloc HB.out.size _⟩
  · have hn : nb = true := by
      cases nb
      · exact absurd (hE.2 rfl) h3
      · rfl
    have g : ((d4 : Int) != 3) = true := by rw [bne_iff_ne]; omega
    subst hn
    clear hE h3
    go_enter Tryz.func52, Tryz.ntmps52
    go_wp2_with (go_at_call 28; refine (HD.out _).mono ?_; rintro e w3 ⟨rfl, hb3⟩; have HB := Lib.hid hb3; clear hb3; unfold decV; dsimp only)
    go_ret
    exact ⟨rfl, HB.out.alloc HB.out.size _⟩
theorem ParseM_all (s : ByteArray) (w : World) (hs : s.size ≤ 1000000000) :
    Calls Tryz.prog 29 #[.string s] w fun e w' => e = .returned (.tuple #[.agg (rpR (L s)).1.toArray, .int .i64 ((rpR (L s)).2 : Nat)]) ∧ Below w.heap.size w w' := by
  rcases par_same s with ⟨h1, h2⟩ | ⟨h1, h2⟩
  · have h3 : (rpR (L s)).1 = tmZ := rp_zero _ h2
    rw [h2, h3]
    exact ParseM_no s w hs h1
  · rw [← h2]
    exact ParseM_yes s w hs h1
/-- A string that needs no quotation marks. -/
def wordI (l : List UInt8) : Bool := decide (l = [110, 117, 108, 108]) || decide (l = [116, 114, 117, 101]) || decide (l = [102, 97, 108, 115, 101])
def plS (s : ByteArray) : Bool := simpB (L s) && !wordI (L s) && !numB (L s) && !timB s
theorem word_ways (s : ByteArray) : (s.toList == [110, 117, 108, 108]) = decide (L s = [110, 117, 108, 108]) ∧ (s.toList == [116, 114, 117, 101]) = decide (L s = [116, 114, 117, 101]) ∧ (s.toList == [102, 97, 108, 115, 101]) = decide (L s = [102, 97, 108, 115, 101]) := by
  rw [toList_L]
  refine ⟨?_, ?_, ?_⟩ <;> (rw [Bool.eq_iff_iff]; simp)
theorem Plain_any (s : ByteArray) (w : World) (hs : s.size ≤ 100000) :
    Calls Tryz.prog 18 #[.string s] w fun e w' => e = .returned (.bool (plS s)) ∧ Below w.heap.size w w' := by
  have HS := Lib.hid (fun w' => simple_any s w' (by omega))
  have HN := Lib.hid (fun w' => numeric_i s w' hs)
  have HP := Lib.hid (fun w' => ParseM_all s w' (by omega))
  obtain ⟨q1, q2, q3⟩ := word_ways s
  have HF : Hid (plS s = (simpB (L s) && !(decide (L s = [110, 117, 108, 108]) || decide (L s = [116, 114, 117, 101]) || decide (L s = [102, 97, 108, 115, 101])) && !numB (L s) && !timB s)) := rfl
  generalize decide (L s = [110, 117, 108, 108]) = x1 at *
  generalize decide (L s = [116, 114, 117, 101]) = x2 at *
  generalize decide (L s = [102, 97, 108, 115, 101]) = x3 at *
  generalize simpB (L s) = sb at *
  generalize numB (L s) = nb at *
  have hE := tim_form s
  obtain ⟨ta, tb, tc, td, htm⟩ := rp_tm (L s)
  generalize rpR (L s) = r at *
  generalize timB s = t at *
  generalize plS s = z at *
  obtain ⟨r1, r2⟩ := r
  dsimp only at HP hE htm
  subst htm
  unfold tmV at HP
  cases sb
  case false =>
    clear hE
    go_enter Tryz.func18, Tryz.ntmps18
    go_wp2_with (go_at_call 51; refine (HS.out _).mono ?_; rintro e w' ⟨rfl, rfl⟩)
    go_ret
    exact ⟨ret_b (by rw [HF.out]; try rfl), Below.refl _ _⟩
  cases x1
  case true =>
    clear hE
    go_enter Tryz.func18, Tryz.ntmps18
    go_wp2_with (go_at_call 51; refine (HS.out _).mono ?_; rintro e w' ⟨rfl, rfl⟩)
    go_ret
    exact ⟨ret_b (by rw [HF.out]; try rfl), Below.refl _ _⟩
  cases x2
  case true =>
    clear hE
    go_enter Tryz.func18, Tryz.ntmps18
    go_wp2_with (go_at_call 51; refine (HS.out _).mono ?_; rintro e w' ⟨rfl, rfl⟩)
    go_ret
    exact ⟨ret_b (by rw [HF.out]; try rfl), Below.refl _ _⟩
  cases x3
  case true =>
    clear hE
    go_enter Tryz.func18, Tryz.ntmps18
    go_wp2_with (go_at_call 51; refine (HS.out _).mono ?_; rintro e w' ⟨rfl, rfl⟩)
    go_ret
    exact ⟨ret_b (by rw [HF.out]; try rfl), Below.refl _ _⟩
  cases nb
  case true =>
    clear hE
    go_enter Tryz.func18, Tryz.ntmps18
    go_wp2_with (first
      | (go_at_call 51; refine (HS.out _).mono ?_; rintro e w' ⟨rfl, rfl⟩)
      | (go_at_call 52; refine (HN.out _).mono ?_; rintro e w1 ⟨rfl, hb1⟩; have HB := Lib.hid hb1; clear hb1))
    go_ret
    exact ⟨ret_b (by rw [HF.out]; try rfl), HB.out⟩
  by_cases h3 : r2 = 3
  · have hn := hE.1 h3
    subst hn h3
    clear hE
    go_enter Tryz.func18, Tryz.ntmps18
    go_wp2_with (first
      | (go_at_call 51; refine (HS.out _).mono ?_; rintro e w' ⟨rfl, rfl⟩)
      | (go_at_call 52; refine (HN.out _).mono ?_; rintro e w1 ⟨rfl, hb1⟩; have HB := Lib.hid hb1; clear hb1)
      | (go_at_call 29; refine (HP.out _).mono ?_; rintro e w2 ⟨rfl, hb2⟩; have HB2 := Lib.hid (HB.out.trans (hb2.mono HB.out.size)); clear hb2))
    go_ret
    exact ⟨ret_b (by rw [HF.out]; try rfl), HB2.out.alloc HB2.out.size _⟩
  · have hn : t = true := by
      cases t
      · exact absurd (hE.2 rfl) h3
      · rfl
    have g : ((r2 : Int) == 3) = false := by rw [beq_eq_false_iff_ne]; omega
    subst hn
    clear hE h3
    go_enter Tryz.func18, Tryz.ntmps18
    go_wp2_with (first
      | (go_at_call 51; refine (HS.out _).mono ?_; rintro e w' ⟨rfl, rfl⟩)
      | (go_at_call 52; refine (HN.out _).mono ?_; rintro e w1 ⟨rfl, hb1⟩; have HB := Lib.hid hb1; clear hb1)
      | (go_at_call 29; refine (HP.out _).mono ?_; rintro e w2 ⟨rfl, hb2⟩; have HB2 := Lib.hid (HB.out.trans (hb2.mono HB.out.size)); clear hb2))
    go_ret
    exact ⟨ret_b (by rw [HF.out]; try rfl), HB2.out.alloc HB2.out.size _⟩
end Go.Proofs.YtlnpfpjncnkekaaGreatDoor

namespace Go.Proofs.YtlnpfpjncnkekaaGreatDoor
open Go.RowKit
set_option maxHeartbeats 2000000
set_option maxRecDepth 100000

abbrev vZ : List Value := [.int .i64 0, .bool false, .bool false, .string ⟨#[]⟩, .int .i64 0, .int .i64 0, .int .i64 0, .int .i64 0, .int .i64 0, .string ⟨#[]⟩, .slice none 0 0, .slice none 0 0, .slice none 0 0]
/-- A text as a value. -/
abbrev vT (t : ByteArray) : List Value := [.int .i64 4, .bool false, .bool false, .string ⟨#[]⟩, .int .i64 0, .int .i64 0, .int .i64 0, .int .i64 0, .int .i64 0, .string t, .slice none 0 0, .slice none 0 0, .slice none 0 0]
theorem stVl : StT Tryz.prog 30 13 := ⟨by kernel_rfl, by kernel_rfl⟩
theorem one13 {a b c d e f g h i j k l m : Value} (H : (a.oneCell' && b.oneCell' && c.oneCell' && d.oneCell' && e.oneCell' && f.oneCell' && g.oneCell' && h.oneCell' && i.oneCell' && j.oneCell' && k.oneCell' && l.oneCell' && m.oneCell') = true) :
    ∀ u ∈ [a, b, c, d, e, f, g, h, i, j, k, l, m], u.oneCell' = true := by
  simp only [Bool.and_eq_true] at H
  obtain ⟨⟨⟨⟨⟨⟨⟨⟨⟨⟨⟨⟨h1, h2⟩, h3⟩, h4⟩, h5⟩, h6⟩, h7⟩, h8⟩, h9⟩, h10⟩, h11⟩, h12⟩, h13⟩ := H
  intro u hu
  simp only [List.mem_cons, List.not_mem_nil, or_false] at hu
  rcases hu with rfl | rfl | rfl | rfl | rfl | rfl | rfl | rfl | rfl | rfl | rfl | rfl | rfl <;> assumption
theorem row13 {w : World} {g : Nat} {t : TypeId} {a b c d e f h i j k l m n : Value} (H : w.heap[g]? = some (.cells [a, b, c, d, e, f, h, i, j, k, l, m, n].toArray t (0, 0))) :
    w.cell? ⟨g, 0, none⟩ = some a ∧ w.cell? ⟨g, 1, none⟩ = some b ∧ w.cell? ⟨g, 2, none⟩ = some c ∧ w.cell? ⟨g, 3, none⟩ = some d ∧ w.cell? ⟨g, 4, none⟩ = some e ∧ w.cell? ⟨g, 5, none⟩ = some f ∧ w.cell? ⟨g, 6, none⟩ = some h ∧ w.cell? ⟨g, 7, none⟩ = some i ∧ w.cell? ⟨g, 8, none⟩ = some j ∧ w.cell? ⟨g, 9, none⟩ = some k ∧ w.cell? ⟨g, 10, none⟩ = some l ∧ w.cell? ⟨g, 11, none⟩ = some m ∧ w.cell? ⟨g, 12, none⟩ = some n :=
  ⟨(cell_of_row w g _ _ t (0, 0) H).trans rfl, (cell_of_row w g _ _ t (0, 0) H).trans rfl, (cell_of_row w g _ _ t (0, 0) H).trans rfl, (cell_of_row w g _ _ t (0, 0) H).trans rfl, (cell_of_row w g _ _ t (0, 0) H).trans rfl, (cell_of_row w g _ _ t (0, 0) H).trans rfl, (cell_of_row w g _ _ t (0, 0) H).trans rfl, (cell_of_row w g _ _ t (0, 0) H).trans rfl, (cell_of_row w g _ _ t (0, 0) H).trans rfl, (cell_of_row w g _ _ t (0, 0) H).trans rfl, (cell_of_row w g _ _ t (0, 0) H).trans rfl, (cell_of_row w g _ _ t (0, 0) H).trans rfl, (cell_of_row w g _ _ t (0, 0) H).trans rfl⟩
def txtR (t : ByteArray) : List Value × Nat := if 65536 < t.size then (vZ, 10) else (vT t, 0)
theorem textValue_any (t : ByteArray) (w : World) :
    Calls Tryz.prog 31 #[.string t] w fun e w' => e = .returned (.tuple #[.agg (txtR t).1.toArray, .int .i64 (txtR t).2]) ∧ Below w.heap.size w w' := by
  by_cases h : 65536 < t.size
  · have HF : Hid (txtR t = (vZ, 10)) := if_pos h
    have g1 : ((65536 : Int) < (t.size : Int)) = True := eq_true (by omega)
    clear h
    go_enter Tryz.func31, Tryz.ntmps31
    go_upto_region 1 with fail
    generalize hW1 : World.alloc w _ = w1
    obtain ⟨ha1, -, hz1, hb1⟩ := alloc_of hW1
    have HX : Hid (w1.heap[w.heap.size]? = some (.cells vZ.toArray 30 (0, 0))) := ha1
    have HB1 := Lib.hid hb1
    clear hW1 ha1 hz1 hb1
    go_wp2_with (refine wpl_store rfl rfl stVl.2 rfl rfl (cs := vZ) rfl rfl (one13 rfl) HX.out (Nat.le_of_ble_eq_true rfl) (row := vZ) rfl ?_; generalize hW : World.setRow _ _ _ = w5; have HS := Lib.hid (setRow_of hW HX.out); clear hW)
    obtain ⟨hd5, -, hz5, hb5⟩ := HS.out
    obtain ⟨z0, z1, z2, z3, z4, z5, z6, z7, z8, z9, za, zb, zc⟩ := row13 hd5
    exact bodyPost_ret (v := .tuple #[.agg vZ.toArray, .int .i64 10]) (by simp [results, Tryz.results31, go_sem, z0, z1, z2, z3, z4, z5, z6, z7, z8, z9, za, zb, zc]) rfl ⟨by rw [HF.out]; try rfl, HB1.out.trans (hb5 _ (Nat.le_refl _))⟩
  · have HF : Hid (txtR t = (vT t, 0)) := if_neg h
    have g1 : ((65536 : Int) < (t.size : Int)) = False := eq_false (by omega)
    clear h
    go_enter Tryz.func31, Tryz.ntmps31
    go_upto_region 1 with fail
    generalize hW1 : World.alloc w _ = w1
    obtain ⟨ha1, -, hz1, hb1⟩ := alloc_of hW1
    have HX : Hid (w1.heap[w.heap.size]? = some (.cells vZ.toArray 30 (0, 0))) := ha1
    have HB1 := Lib.hid hb1
    clear hW1 ha1 hz1 hb1
    go_wp2_with (refine wpl_store rfl rfl stVl.2 rfl rfl (cs := vT t) rfl rfl (one13 rfl) HX.out (Nat.le_of_ble_eq_true rfl) (row := vT t) rfl ?_; generalize hW : World.setRow _ _ _ = w5; have HS := Lib.hid (setRow_of hW HX.out); clear hW)
    obtain ⟨hd5, -, hz5, hb5⟩ := HS.out
    obtain ⟨z0, z1, z2, z3, z4, z5, z6, z7, z8, z9, za, zb, zc⟩ := row13 hd5
    exact bodyPost_ret (v := .tuple #[.agg (vT t).toArray, .int .i64 0]) (by simp [results, Tryz.results31, go_sem, z0, z1, z2, z3, z4, z5, z6, z7, z8, z9, za, zb, zc]) rfl ⟨by rw [HF.out]; try rfl, HB1.out.trans (hb5 _ (Nat.le_refl _))⟩
theorem not_word (s : ByteArray) (hp : 0 < s.size) (hq : s[0].toNat = 34 ∨ s[0].toNat = 39) (b : UInt8) (l : List UInt8) (hb : b.toNat ≠ 34 ∧ b.toNat ≠ 39) : (s.toList == b :: l) = false := by
  rw [toList_L]
  refine beq_false (fun h => ?_)
  have h0 := L_drop s 0 hp
  rw [List.drop_zero, h] at h0
  injection h0 with h1 _
  rw [h1] at hb
  omega
/-- Scalar at a quoted string that stands for t. -/
theorem ScalarQ_any (s t : ByteArray) (w : World) (hs : s.size ≤ 100000) (_hE : EnvI w) (hv : validL (L s) = true) (hc : ctlB (L s) = false) (hp : 0 < s.size) (hq : s[0].toNat = 34 ∨ s[0].toNat = 39)
    (hd : (decP numP (L s)).err = 3) (ht : timB s = false) (hu : unqR (L s) = (L t, 0)) (htl : t.size ≤ 65536) :
    Calls Tryz.prog 10 #[.string s] w fun e w' => e = .returned (.tuple #[.agg (vT t).toArray, .int .i64 0]) ∧ Below w.heap.size w w' := by
  have hm : s.size ≤ maxLen := by simp only [maxLen]; omega
  have he1 : s.toList.isEmpty = false := by
    have h0 : L s ≠ [] := by
      intro h
      have := congrArg List.length h
      rw [L_len, List.length_nil] at this
      omega
    rw [empty_L]
    simpa using h0
  have n1 := not_word s hp hq 110 [117, 108, 108] (by decide)
  have n2 := not_word s hp hq 116 [114, 117, 101] (by decide)
  have n3 := not_word s hp hq 102 [97, 108, 115, 101] (by decide)
  have n4 := not_word s hp hq 33 [98] (by decide)
  have HV := Lib.hid (fun w' => Valid_any s w' (by omega))
  rw [hv] at HV
  have HC := Lib.hid (fun w' => control_any s w')
  rw [hc] at HC
  have HD := Lib.hid (fun w' => Parse_any s w' hs)
  have HM := Lib.hid (fun w' => ParseM_no s w' (by omega) ht)
  have HU := Lib.hid (fun w' => UnquoteI_any s w' (by omega))
  rw [hu] at HU
  have HTV := Lib.hid (fun w' => textValue_any t w')
  have ht0 : txtR t = (vT t, 0) := if_neg (by omega)
  rw [ht0] at HTV
  dsimp only at HU HTV
  rw [mk_L] at HU
  have HDE := Lib.hid hd
  have HQ := Lib.hid hq
  generalize decP numP (L s) = dr at *
  obtain ⟨d1, d2, d3, d4⟩ := dr
  have hd4 : d4 = 3 := hd
  subst hd4
  clear hv hc hd ht hu htl ht0 _hE HDE hq
  go_enter Tryz.func10, Tryz.ntmps10
  go_upto_region 1 with fail
  generalize hW1 : World.alloc w _ = w1
  obtain ⟨ha1, -, hz1, hb1⟩ := alloc_of hW1
  have HX : Hid (w1.heap[w.heap.size]? = some (.cells vZ.toArray 30 (0, 0))) := ha1
  have HB := Lib.hid hb1
  have HZ : Hid (w.heap.size < w1.heap.size) := by unfold Hid; omega
  clear hW1 ha1 hz1 hb1
  go_wp2_with fail
  refine (HV.out _).mono ?_
  rintro e w' ⟨rfl, rfl⟩
  go_wp2_with fail
  refine (HC.out _).mono ?_
  rintro e w2 ⟨rfl, hb2⟩
  replace HX := Lib.hid ((hb2.block _ HZ.out).trans HX.out)
  replace HB := Lib.hid (HB.out.trans (hb2.mono HB.out.size))
  replace HZ : Hid (w.heap.size < w2.heap.size) := Nat.lt_of_lt_of_le HZ.out hb2.size
  clear hb2 HV HC
  go_wp2_with fail
  refine (HD.out _).mono ?_
  rintro e w3 ⟨rfl, hb3⟩
  replace HX := Lib.hid ((hb3.block _ HZ.out).trans HX.out)
  replace HB := Lib.hid (HB.out.trans (hb3.mono HB.out.size))
  replace HZ : Hid (w.heap.size < w3.heap.size) := Nat.lt_of_lt_of_le HZ.out hb3.size
  clear hb3 HD
  unfold decV
  dsimp only
  go_wp2_with fail
  generalize hW2 : World.alloc w3 _ = w4
  obtain ⟨-, -, hz4, hb4⟩ := alloc_of hW2
  replace HX := Lib.hid ((hb4.block _ HZ.out).trans HX.out)
  replace HB := Lib.hid (HB.out.trans (hb4.mono HB.out.size))
  replace HZ : Hid (w.heap.size < w4.heap.size) := Nat.lt_of_lt_of_le HZ.out hb4.size
  clear hW2 hz4 hb4
  refine (HM.out _).mono ?_
  rintro e w5 ⟨rfl, hb5⟩
  replace HX := Lib.hid ((hb5.block _ HZ.out).trans HX.out)
  replace HB := Lib.hid (HB.out.trans (hb5.mono HB.out.size))
  replace HZ : Hid (w.heap.size < w5.heap.size) := Nat.lt_of_lt_of_le HZ.out hb5.size
  clear hb5 HM
  have hq := HQ.out
  clear HQ
  have HFIN : Hid (∀ (w5 : World), w5.heap[w.heap.size]? = some (.cells vZ.toArray 30 (0, 0)) → True) := fun _ _ => trivial
  by_cases h34 : s[0].toNat = 34
  all_goals
    first
      | have g1 := beqB s[0] 34 (by omega)
      | have g1 := beqNB s[0] 34 (by omega)
        have g2 := beqB s[0] 39 (by omega)
    clear h34 hq HFIN
    go_wp2_with fail
    generalize hW2 : World.alloc w5 _ = w6
    obtain ⟨-, -, hz6, hb6⟩ := alloc_of hW2
    replace HX := Lib.hid ((hb6.block _ HZ.out).trans HX.out)
    replace HB := Lib.hid (HB.out.trans (hb6.mono HB.out.size))
    replace HZ : Hid (w.heap.size < w6.heap.size) := Nat.lt_of_lt_of_le HZ.out hb6.size
    clear hW2 hz6 hb6
    refine (HU.out _).mono ?_
    rintro e w7 ⟨rfl, hb7⟩
    replace HX := Lib.hid ((hb7.block _ HZ.out).trans HX.out)
    replace HB := Lib.hid (HB.out.trans (hb7.mono HB.out.size))
    replace HZ : Hid (w.heap.size < w7.heap.size) := Nat.lt_of_lt_of_le HZ.out hb7.size
    clear hb7 HU
    go_wp2_with fail
    refine (HTV.out _).mono ?_
    rintro e w8 ⟨rfl, hb8⟩
    replace HX := Lib.hid ((hb8.block _ HZ.out).trans HX.out)
    replace HB := Lib.hid (HB.out.trans (hb8.mono HB.out.size))
    clear hb8 HTV HZ
    go_wp2_with (refine wpl_store rfl rfl stVl.2 rfl rfl (cs := vT t) rfl rfl (one13 rfl) HX.out (Nat.le_of_ble_eq_true rfl) (row := vT t) rfl ?_; generalize hW : World.setRow _ _ _ = w9; have HS := Lib.hid (setRow_of hW HX.out); clear hW)
    obtain ⟨hd5, -, hz5, hb5⟩ := HS.out
    obtain ⟨z0, z1, z2, z3, z4, z5, z6, z7, z8, z9, za, zb, zc⟩ := row13 hd5
    exact bodyPost_ret (v := .tuple #[.agg (vT t).toArray, .int .i64 0]) (by simp [results, Tryz.results10, go_sem, z0, z1, z2, z3, z4, z5, z6, z7, z8, z9, za, zb, zc]) rfl ⟨rfl, HB.out.trans (hb5 _ (Nat.le_refl _))⟩
end Go.Proofs.YtlnpfpjncnkekaaGreatDoor

namespace Go.Proofs.YtlnpfpjncnkekaaGreatDoor
open Go.RowKit
set_option maxHeartbeats 4000000
set_option maxRecDepth 100000

/-- None of the five words. -/
def wordS (l : List UInt8) : Prop := l = [] ∨ l = [110, 117, 108, 108] ∨ l = [116, 114, 117, 101] ∨ l = [102, 97, 108, 115, 101] ∨ l = [33, 98]
theorem no_word (s : ByteArray) (h : ¬ wordS (L s)) : s.toList.isEmpty = false ∧ (s.toList == [110, 117, 108, 108]) = false ∧ (s.toList == [116, 114, 117, 101]) = false ∧ (s.toList == [102, 97, 108, 115, 101]) = false ∧ (s.toList == [33, 98]) = false := by
  unfold wordS at h
  refine ⟨?_, ?_, ?_, ?_, ?_⟩
  · rw [empty_L]
    have h0 : L s ≠ [] := fun h' => h (.inl h')
    simpa using h0
  · rw [toList_L]; exact beq_false (fun h' => h (.inr (.inl h')))
  · rw [toList_L]; exact beq_false (fun h' => h (.inr (.inr (.inl h'))))
  · rw [toList_L]; exact beq_false (fun h' => h (.inr (.inr (.inr (.inl h')))))
  · rw [toList_L]; exact beq_false (fun h' => h (.inr (.inr (.inr (.inr h')))))
abbrev vQ (q : Int) (u : ByteArray) : List Value := [.int .i64 q, .bool false, .bool false, .string ⟨#[]⟩, .int .i64 0, .int .i64 0, .int .i64 0, .int .i64 0, .int .i64 0, .string u, .slice none 0 0, .slice none 0 0, .slice none 0 0]
theorem txt_form (t : ByteArray) : ∃ (q : Int) (u : ByteArray), (txtR t).1 = vQ q u := by
  by_cases h : 65536 < t.size
  · exact ⟨0, ⟨#[]⟩, by unfold txtR; rw [if_pos h]⟩
  · exact ⟨4, t, by unfold txtR; rw [if_neg h]⟩
abbrev vB (b : Bool) : List Value := [.int .i64 1, .bool b, .bool false, .string ⟨#[]⟩, .int .i64 0, .int .i64 0, .int .i64 0, .int .i64 0, .int .i64 0, .string ⟨#[]⟩, .slice none 0 0, .slice none 0 0, .slice none 0 0]
abbrev vE : List Value := [.int .i64 5, .bool false, .bool false, .string ⟨#[]⟩, .int .i64 0, .int .i64 0, .int .i64 0, .int .i64 0, .int .i64 0, .string ⟨#[]⟩, .slice none 0 0, .slice none 0 0, .slice none 0 0]
abbrev vN (n : Bool) (d : ByteArray) (e : Int) : List Value := [.int .i64 2, .bool false, .bool n, .string d, .int .i64 e, .int .i64 0, .int .i64 0, .int .i64 0, .int .i64 0, .string ⟨#[]⟩, .slice none 0 0, .slice none 0 0, .slice none 0 0]
abbrev vM (a b c d : Int) : List Value := [.int .i64 3, .bool false, .bool false, .string ⟨#[]⟩, .int .i64 0, .int .i64 a, .int .i64 b, .int .i64 c, .int .i64 d, .string ⟨#[]⟩, .slice none 0 0, .slice none 0 0, .slice none 0 0]
theorem Sc_null (w : World) :
    Calls Tryz.prog 10 #[.string ⟨#[110, 117, 108, 108]⟩] w fun e w' => e = .returned (.tuple #[.agg (vZ).toArray, .int .i64 0]) ∧ Below w.heap.size w w' := by
  have HV := Lib.hid (fun w' => Valid_any ⟨#[110, 117, 108, 108]⟩ w' (by decide))
  rw [show validL (L ⟨#[110, 117, 108, 108]⟩) = true from by decide +kernel] at HV
  have HC := Lib.hid (fun w' => control_any ⟨#[110, 117, 108, 108]⟩ w')
  rw [show ctlB (L ⟨#[110, 117, 108, 108]⟩) = false from by decide +kernel] at HC
  go_enter Tryz.func10, Tryz.ntmps10
  go_upto_region 1 with fail
  generalize hW1 : World.alloc w _ = w1
  obtain ⟨ha1, -, hz1, hb1⟩ := alloc_of hW1
  have HX : Hid (w1.heap[w.heap.size]? = some (.cells vZ.toArray 30 (0, 0))) := ha1
  have HB := Lib.hid hb1
  have HZ : Hid (w.heap.size < w1.heap.size) := by unfold Hid; omega
  clear hW1 ha1 hz1 hb1
  go_wp2_with fail
  refine (HV.out _).mono ?_
  rintro e w' ⟨rfl, rfl⟩
  clear HV
  go_wp2_with fail
  refine (HC.out _).mono ?_
  rintro e w2 ⟨rfl, hb2⟩
  replace HX := Lib.hid ((hb2.block _ HZ.out).trans HX.out)
  replace HB := Lib.hid (HB.out.trans (hb2.mono HB.out.size))
  replace HZ : Hid (w.heap.size < w2.heap.size) := Nat.lt_of_lt_of_le HZ.out hb2.size
  clear hb2
  clear HC
  go_wp2_with (refine wpl_store rfl rfl stVl.2 rfl rfl (cs := vZ) rfl rfl (one13 rfl) HX.out (Nat.le_of_ble_eq_true rfl) (row := vZ) rfl ?_; generalize hW : World.setRow _ _ _ = ww; have HS := Lib.hid (setRow_of hW HX.out); clear hW)
  obtain ⟨hd5, -, hz5, hb5⟩ := HS.out
  obtain ⟨z0, z1, z2, z3, z4, z5, z6, z7, z8, z9, za, zb, zc⟩ := row13 hd5
  exact bodyPost_ret (v := .tuple #[.agg (vZ).toArray, .int .i64 0]) (by simp [results, Tryz.results10, go_sem, z0, z1, z2, z3, z4, z5, z6, z7, z8, z9, za, zb, zc]) rfl ⟨rfl, HB.out.trans (hb5 _ (Nat.le_refl _))⟩
theorem Sc_true (w : World) :
    Calls Tryz.prog 10 #[.string ⟨#[116, 114, 117, 101]⟩] w fun e w' => e = .returned (.tuple #[.agg (vB true).toArray, .int .i64 0]) ∧ Below w.heap.size w w' := by
  have HV := Lib.hid (fun w' => Valid_any ⟨#[116, 114, 117, 101]⟩ w' (by decide))
  rw [show validL (L ⟨#[116, 114, 117, 101]⟩) = true from by decide +kernel] at HV
  have HC := Lib.hid (fun w' => control_any ⟨#[116, 114, 117, 101]⟩ w')
  rw [show ctlB (L ⟨#[116, 114, 117, 101]⟩) = false from by decide +kernel] at HC
  go_enter Tryz.func10, Tryz.ntmps10
  go_upto_region 1 with fail
  generalize hW1 : World.alloc w _ = w1
  obtain ⟨ha1, -, hz1, hb1⟩ := alloc_of hW1
  have HX : Hid (w1.heap[w.heap.size]? = some (.cells vZ.toArray 30 (0, 0))) := ha1
  have HB := Lib.hid hb1
  have HZ : Hid (w.heap.size < w1.heap.size) := by unfold Hid; omega
  clear hW1 ha1 hz1 hb1
  go_wp2_with fail
  refine (HV.out _).mono ?_
  rintro e w' ⟨rfl, rfl⟩
  clear HV
  go_wp2_with fail
  refine (HC.out _).mono ?_
  rintro e w2 ⟨rfl, hb2⟩
  replace HX := Lib.hid ((hb2.block _ HZ.out).trans HX.out)
  replace HB := Lib.hid (HB.out.trans (hb2.mono HB.out.size))
  replace HZ : Hid (w.heap.size < w2.heap.size) := Nat.lt_of_lt_of_le HZ.out hb2.size
  clear hb2
  clear HC
  go_wp2_with (refine wpl_store rfl rfl stVl.2 rfl rfl (cs := vB true) rfl rfl (one13 rfl) HX.out (Nat.le_of_ble_eq_true rfl) (row := vB true) rfl ?_; generalize hW : World.setRow _ _ _ = ww; have HS := Lib.hid (setRow_of hW HX.out); clear hW)
  obtain ⟨hd5, -, hz5, hb5⟩ := HS.out
  obtain ⟨z0, z1, z2, z3, z4, z5, z6, z7, z8, z9, za, zb, zc⟩ := row13 hd5
  exact bodyPost_ret (v := .tuple #[.agg (vB true).toArray, .int .i64 0]) (by simp [results, Tryz.results10, go_sem, z0, z1, z2, z3, z4, z5, z6, z7, z8, z9, za, zb, zc]) rfl ⟨rfl, HB.out.trans (hb5 _ (Nat.le_refl _))⟩
theorem Sc_false (w : World) :
    Calls Tryz.prog 10 #[.string ⟨#[102, 97, 108, 115, 101]⟩] w fun e w' => e = .returned (.tuple #[.agg (vB false).toArray, .int .i64 0]) ∧ Below w.heap.size w w' := by
  have HV := Lib.hid (fun w' => Valid_any ⟨#[102, 97, 108, 115, 101]⟩ w' (by decide))
  rw [show validL (L ⟨#[102, 97, 108, 115, 101]⟩) = true from by decide +kernel] at HV
  have HC := Lib.hid (fun w' => control_any ⟨#[102, 97, 108, 115, 101]⟩ w')
  rw [show ctlB (L ⟨#[102, 97, 108, 115, 101]⟩) = false from by decide +kernel] at HC
  go_enter Tryz.func10, Tryz.ntmps10
  go_upto_region 1 with fail
  generalize hW1 : World.alloc w _ = w1
  obtain ⟨ha1, -, hz1, hb1⟩ := alloc_of hW1
  have HX : Hid (w1.heap[w.heap.size]? = some (.cells vZ.toArray 30 (0, 0))) := ha1
  have HB := Lib.hid hb1
  have HZ : Hid (w.heap.size < w1.heap.size) := by unfold Hid; omega
  clear hW1 ha1 hz1 hb1
  go_wp2_with fail
  refine (HV.out _).mono ?_
  rintro e w' ⟨rfl, rfl⟩
  clear HV
  go_wp2_with fail
  refine (HC.out _).mono ?_
  rintro e w2 ⟨rfl, hb2⟩
  replace HX := Lib.hid ((hb2.block _ HZ.out).trans HX.out)
  replace HB := Lib.hid (HB.out.trans (hb2.mono HB.out.size))
  replace HZ : Hid (w.heap.size < w2.heap.size) := Nat.lt_of_lt_of_le HZ.out hb2.size
  clear hb2
  clear HC
  go_wp2_with (refine wpl_store rfl rfl stVl.2 rfl rfl (cs := vB false) rfl rfl (one13 rfl) HX.out (Nat.le_of_ble_eq_true rfl) (row := vB false) rfl ?_; generalize hW : World.setRow _ _ _ = ww; have HS := Lib.hid (setRow_of hW HX.out); clear hW)
  obtain ⟨hd5, -, hz5, hb5⟩ := HS.out
  obtain ⟨z0, z1, z2, z3, z4, z5, z6, z7, z8, z9, za, zb, zc⟩ := row13 hd5
  exact bodyPost_ret (v := .tuple #[.agg (vB false).toArray, .int .i64 0]) (by simp [results, Tryz.results10, go_sem, z0, z1, z2, z3, z4, z5, z6, z7, z8, z9, za, zb, zc]) rfl ⟨rfl, HB.out.trans (hb5 _ (Nat.le_refl _))⟩
theorem Sc_b (w : World) :
    Calls Tryz.prog 10 #[.string ⟨#[33, 98]⟩] w fun e w' => e = .returned (.tuple #[.agg (vE).toArray, .int .i64 0]) ∧ Below w.heap.size w w' := by
  have HV := Lib.hid (fun w' => Valid_any ⟨#[33, 98]⟩ w' (by decide))
  rw [show validL (L ⟨#[33, 98]⟩) = true from by decide +kernel] at HV
  have HC := Lib.hid (fun w' => control_any ⟨#[33, 98]⟩ w')
  rw [show ctlB (L ⟨#[33, 98]⟩) = false from by decide +kernel] at HC
  go_enter Tryz.func10, Tryz.ntmps10
  go_upto_region 1 with fail
  generalize hW1 : World.alloc w _ = w1
  obtain ⟨ha1, -, hz1, hb1⟩ := alloc_of hW1
  have HX : Hid (w1.heap[w.heap.size]? = some (.cells vZ.toArray 30 (0, 0))) := ha1
  have HB := Lib.hid hb1
  have HZ : Hid (w.heap.size < w1.heap.size) := by unfold Hid; omega
  clear hW1 ha1 hz1 hb1
  go_wp2_with fail
  refine (HV.out _).mono ?_
  rintro e w' ⟨rfl, rfl⟩
  clear HV
  go_wp2_with fail
  refine (HC.out _).mono ?_
  rintro e w2 ⟨rfl, hb2⟩
  replace HX := Lib.hid ((hb2.block _ HZ.out).trans HX.out)
  replace HB := Lib.hid (HB.out.trans (hb2.mono HB.out.size))
  replace HZ : Hid (w.heap.size < w2.heap.size) := Nat.lt_of_lt_of_le HZ.out hb2.size
  clear hb2
  clear HC
  go_wp2_with (refine wpl_store rfl rfl stVl.2 rfl rfl (cs := vE) rfl rfl (one13 rfl) HX.out (Nat.le_of_ble_eq_true rfl) (row := vE) rfl ?_; generalize hW : World.setRow _ _ _ = ww; have HS := Lib.hid (setRow_of hW HX.out); clear hW)
  obtain ⟨hd5, -, hz5, hb5⟩ := HS.out
  obtain ⟨z0, z1, z2, z3, z4, z5, z6, z7, z8, z9, za, zb, zc⟩ := row13 hd5
  exact bodyPost_ret (v := .tuple #[.agg (vE).toArray, .int .i64 0]) (by simp [results, Tryz.results10, go_sem, z0, z1, z2, z3, z4, z5, z6, z7, z8, z9, za, zb, zc]) rfl ⟨rfl, HB.out.trans (hb5 _ (Nat.le_refl _))⟩
theorem Sc_num (s : ByteArray) (w : World) (hs : s.size ≤ 100000) (hv : validL (L s) = true) (hc : ctlB (L s) = false) (hw : ¬ wordS (L s)) (r : DecR) (hr : decP numP (L s) = r) (h0 : r.err = 0) :
    Calls Tryz.prog 10 #[.string s] w fun e w' => e = .returned (.tuple #[.agg (vN r.neg ⟨r.ds.toArray⟩ r.e).toArray, .int .i64 0]) ∧ Below w.heap.size w w' := by
  have HV := Lib.hid (fun w' => Valid_any s w' (by omega))
  rw [hv] at HV
  have HC := Lib.hid (fun w' => control_any s w')
  rw [hc] at HC
  obtain ⟨he1, n1, n2, n3, n4⟩ := no_word s hw
  have HD := Lib.hid (fun w' => Parse_any s w' hs)
  rw [hr] at HD
  obtain ⟨d1, d2, d3, d4⟩ := r
  dsimp only at h0 ⊢
  subst h0
  clear hv hc hw hr
  go_enter Tryz.func10, Tryz.ntmps10
  go_upto_region 1 with fail
  generalize hW1 : World.alloc w _ = w1
  obtain ⟨ha1, -, hz1, hb1⟩ := alloc_of hW1
  have HX : Hid (w1.heap[w.heap.size]? = some (.cells vZ.toArray 30 (0, 0))) := ha1
  have HB := Lib.hid hb1
  have HZ : Hid (w.heap.size < w1.heap.size) := by unfold Hid; omega
  clear hW1 ha1 hz1 hb1
  go_wp2_with fail
  refine (HV.out _).mono ?_
  rintro e w' ⟨rfl, rfl⟩
  clear HV
  go_wp2_with fail
  refine (HC.out _).mono ?_
  rintro e w2 ⟨rfl, hb2⟩
  replace HX := Lib.hid ((hb2.block _ HZ.out).trans HX.out)
  replace HB := Lib.hid (HB.out.trans (hb2.mono HB.out.size))
  replace HZ : Hid (w.heap.size < w2.heap.size) := Nat.lt_of_lt_of_le HZ.out hb2.size
  clear hb2
  clear HC
  go_wp2_with fail
  refine (HD.out _).mono ?_
  rintro e w3 ⟨rfl, hb3⟩
  replace HX := Lib.hid ((hb3.block _ HZ.out).trans HX.out)
  replace HB := Lib.hid (HB.out.trans (hb3.mono HB.out.size))
  replace HZ : Hid (w.heap.size < w3.heap.size) := Nat.lt_of_lt_of_le HZ.out hb3.size
  clear hb3
  clear HD
  unfold decV
  dsimp only
  go_upto_region 16 with fail
  generalize hW4 : World.alloc w3 _ = w4
  obtain ⟨ha4, -, hz4, hb4⟩ := alloc_of hW4
  replace HX := Lib.hid ((hb4.block _ HZ.out).trans HX.out)
  replace HB := Lib.hid (HB.out.trans (hb4.mono HB.out.size))
  replace HZ : Hid (w.heap.size < w4.heap.size) := Nat.lt_of_lt_of_le HZ.out hb4.size
  clear hb4
  clear hW4 hz4
  obtain ⟨⟨y0, y1, y2⟩, -⟩ := box3 ha4
  clear ha4
  go_wp2_with (refine wpl_store rfl rfl stVl.2 rfl rfl (cs := vN d1 ⟨d2.toArray⟩ d3) rfl rfl (one13 rfl) HX.out (Nat.le_of_ble_eq_true rfl) (row := vN d1 ⟨d2.toArray⟩ d3) rfl ?_; generalize hW : World.setRow _ _ _ = ww; have HS := Lib.hid (setRow_of hW HX.out); clear hW)
  obtain ⟨hd5, -, hz5, hb5⟩ := HS.out
  obtain ⟨z0, z1, z2, z3, z4, z5, z6, z7, z8, z9, za, zb, zc⟩ := row13 hd5
  exact bodyPost_ret (v := .tuple #[.agg (vN d1 ⟨d2.toArray⟩ d3).toArray, .int .i64 0]) (by simp [results, Tryz.results10, go_sem, z0, z1, z2, z3, z4, z5, z6, z7, z8, z9, za, zb, zc]) rfl ⟨rfl, HB.out.trans (hb5 _ (Nat.le_refl _))⟩
theorem Sc_tim (s : ByteArray) (w : World) (hs : s.size ≤ 100000) (hv : validL (L s) = true) (hc : ctlB (L s) = false) (hw : ¬ wordS (L s)) (hd : (decP numP (L s)).err = 3) (a b c d : Int) (hr : rpR (L s) = (tmV a b c d, 0)) :
    Calls Tryz.prog 10 #[.string s] w fun e w' => e = .returned (.tuple #[.agg (vM a b c d).toArray, .int .i64 0]) ∧ Below w.heap.size w w' := by
  have HV := Lib.hid (fun w' => Valid_any s w' (by omega))
  rw [hv] at HV
  have HC := Lib.hid (fun w' => control_any s w')
  rw [hc] at HC
  obtain ⟨he1, n1, n2, n3, n4⟩ := no_word s hw
  have HD := Lib.hid (fun w' => Parse_any s w' hs)
  generalize decP numP (L s) = dr at *
  obtain ⟨d1, d2, d3, d4⟩ := dr
  have hd4 : d4 = 3 := hd
  subst hd4
  clear hd
  have HM := Lib.hid (fun w' => ParseM_all s w' (by omega))
  rw [hr] at HM
  unfold tmV at HM
  dsimp only at HM
  clear hv hc hw hr
  go_enter Tryz.func10, Tryz.ntmps10
  go_upto_region 1 with fail
  generalize hW1 : World.alloc w _ = w1
  obtain ⟨ha1, -, hz1, hb1⟩ := alloc_of hW1
  have HX : Hid (w1.heap[w.heap.size]? = some (.cells vZ.toArray 30 (0, 0))) := ha1
  have HB := Lib.hid hb1
  have HZ : Hid (w.heap.size < w1.heap.size) := by unfold Hid; omega
  clear hW1 ha1 hz1 hb1
  go_wp2_with fail
  refine (HV.out _).mono ?_
  rintro e w' ⟨rfl, rfl⟩
  clear HV
  go_wp2_with fail
  refine (HC.out _).mono ?_
  rintro e w2 ⟨rfl, hb2⟩
  replace HX := Lib.hid ((hb2.block _ HZ.out).trans HX.out)
  replace HB := Lib.hid (HB.out.trans (hb2.mono HB.out.size))
  replace HZ : Hid (w.heap.size < w2.heap.size) := Nat.lt_of_lt_of_le HZ.out hb2.size
  clear hb2
  clear HC
  go_wp2_with fail
  refine (HD.out _).mono ?_
  rintro e w3 ⟨rfl, hb3⟩
  replace HX := Lib.hid ((hb3.block _ HZ.out).trans HX.out)
  replace HB := Lib.hid (HB.out.trans (hb3.mono HB.out.size))
  replace HZ : Hid (w.heap.size < w3.heap.size) := Nat.lt_of_lt_of_le HZ.out hb3.size
  clear hb3
  clear HD
  unfold decV
  dsimp only
  go_wp2_with fail
  generalize hW4 : World.alloc w3 _ = w4
  obtain ⟨ha4, -, hz4, hb4⟩ := alloc_of hW4
  replace HX := Lib.hid ((hb4.block _ HZ.out).trans HX.out)
  replace HB := Lib.hid (HB.out.trans (hb4.mono HB.out.size))
  replace HZ : Hid (w.heap.size < w4.heap.size) := Nat.lt_of_lt_of_le HZ.out hb4.size
  clear hb4
  clear hW4 hz4
  clear ha4
  refine (HM.out _).mono ?_
  rintro e w5 ⟨rfl, hb5⟩
  replace HX := Lib.hid ((hb5.block _ HZ.out).trans HX.out)
  replace HB := Lib.hid (HB.out.trans (hb5.mono HB.out.size))
  replace HZ : Hid (w.heap.size < w5.heap.size) := Nat.lt_of_lt_of_le HZ.out hb5.size
  clear hb5
  clear HM
  go_upto_region 21 with fail
  generalize hW6 : World.alloc w5 _ = w6
  obtain ⟨ha6, -, hz6, hb6⟩ := alloc_of hW6
  replace HX := Lib.hid ((hb6.block _ HZ.out).trans HX.out)
  replace HB := Lib.hid (HB.out.trans (hb6.mono HB.out.size))
  replace HZ : Hid (w.heap.size < w6.heap.size) := Nat.lt_of_lt_of_le HZ.out hb6.size
  clear hb6
  clear hW6 hz6
  obtain ⟨y0, y1, y2, y3⟩ := row4 ha6
  clear ha6
  go_wp2_with (refine wpl_store rfl rfl stVl.2 rfl rfl (cs := vM a b c d) rfl rfl (one13 rfl) HX.out (Nat.le_of_ble_eq_true rfl) (row := vM a b c d) rfl ?_; generalize hW : World.setRow _ _ _ = ww; have HS := Lib.hid (setRow_of hW HX.out); clear hW)
  obtain ⟨hd5, -, hz5, hb5⟩ := HS.out
  obtain ⟨z0, z1, z2, z3, z4, z5, z6, z7, z8, z9, za, zb, zc⟩ := row13 hd5
  exact bodyPost_ret (v := .tuple #[.agg (vM a b c d).toArray, .int .i64 0]) (by simp [results, Tryz.results10, go_sem, z0, z1, z2, z3, z4, z5, z6, z7, z8, z9, za, zb, zc]) rfl ⟨rfl, HB.out.trans (hb5 _ (Nat.le_refl _))⟩
theorem Sc_quo (s : ByteArray) (w : World) (hs : s.size ≤ 100000) (hv : validL (L s) = true) (hc : ctlB (L s) = false) (hw : ¬ wordS (L s)) (hd : (decP numP (L s)).err = 3) (ht : timB s = false) (hp : 0 < s.size) (hq : s[0].toNat = 34 ∨ s[0].toNat = 39) (t : List UInt8) (hu : unqR (L s) = (t, 0)) :
    Calls Tryz.prog 10 #[.string s] w fun e w' => e = .returned (.tuple #[.agg ((txtR ⟨t.toArray⟩).1).toArray, .int .i64 ((txtR ⟨t.toArray⟩).2 : Nat)]) ∧ Below w.heap.size w w' := by
  have HV := Lib.hid (fun w' => Valid_any s w' (by omega))
  rw [hv] at HV
  have HC := Lib.hid (fun w' => control_any s w')
  rw [hc] at HC
  obtain ⟨he1, n1, n2, n3, n4⟩ := no_word s hw
  have HD := Lib.hid (fun w' => Parse_any s w' hs)
  generalize decP numP (L s) = dr at *
  obtain ⟨d1, d2, d3, d4⟩ := dr
  have hd4 : d4 = 3 := hd
  subst hd4
  clear hd
  have HM := Lib.hid (fun w' => ParseM_no s w' (by omega) ht)
  have g34 : Hid (s[0].toNat = 34 ∨ s[0].toNat = 39) := hq
  have HU := Lib.hid (fun w' => UnquoteI_any s w' (by omega))
  rw [hu] at HU
  have HTV := Lib.hid (fun w' => textValue_any ⟨t.toArray⟩ w')
  obtain ⟨tq, tu, htq⟩ := txt_form ⟨t.toArray⟩
  generalize txtR ⟨t.toArray⟩ = tr at *
  obtain ⟨tx, te⟩ := tr
  dsimp only at HU HTV htq ⊢
  subst htq
  clear hv hc hw hu hq
  go_enter Tryz.func10, Tryz.ntmps10
  go_upto_region 1 with fail
  generalize hW1 : World.alloc w _ = w1
  obtain ⟨ha1, -, hz1, hb1⟩ := alloc_of hW1
  have HX : Hid (w1.heap[w.heap.size]? = some (.cells vZ.toArray 30 (0, 0))) := ha1
  have HB := Lib.hid hb1
  have HZ : Hid (w.heap.size < w1.heap.size) := by unfold Hid; omega
  clear hW1 ha1 hz1 hb1
  go_wp2_with fail
  refine (HV.out _).mono ?_
  rintro e w' ⟨rfl, rfl⟩
  clear HV
  go_wp2_with fail
  refine (HC.out _).mono ?_
  rintro e w2 ⟨rfl, hb2⟩
  replace HX := Lib.hid ((hb2.block _ HZ.out).trans HX.out)
  replace HB := Lib.hid (HB.out.trans (hb2.mono HB.out.size))
  replace HZ : Hid (w.heap.size < w2.heap.size) := Nat.lt_of_lt_of_le HZ.out hb2.size
  clear hb2
  clear HC
  go_wp2_with fail
  refine (HD.out _).mono ?_
  rintro e w3 ⟨rfl, hb3⟩
  replace HX := Lib.hid ((hb3.block _ HZ.out).trans HX.out)
  replace HB := Lib.hid (HB.out.trans (hb3.mono HB.out.size))
  replace HZ : Hid (w.heap.size < w3.heap.size) := Nat.lt_of_lt_of_le HZ.out hb3.size
  clear hb3
  clear HD
  unfold decV
  dsimp only
  go_wp2_with fail
  generalize hW4 : World.alloc w3 _ = w4
  obtain ⟨ha4, -, hz4, hb4⟩ := alloc_of hW4
  replace HX := Lib.hid ((hb4.block _ HZ.out).trans HX.out)
  replace HB := Lib.hid (HB.out.trans (hb4.mono HB.out.size))
  replace HZ : Hid (w.heap.size < w4.heap.size) := Nat.lt_of_lt_of_le HZ.out hb4.size
  clear hb4
  clear hW4 hz4
  clear ha4
  refine (HM.out _).mono ?_
  rintro e w5 ⟨rfl, hb5⟩
  replace HX := Lib.hid ((hb5.block _ HZ.out).trans HX.out)
  replace HB := Lib.hid (HB.out.trans (hb5.mono HB.out.size))
  replace HZ : Hid (w.heap.size < w5.heap.size) := Nat.lt_of_lt_of_le HZ.out hb5.size
  clear hb5
  clear HM
  have hq := g34.out
  clear g34
  by_cases h34 : s[0].toNat = 34
  all_goals
    first
      | have g1 := beqB s[0] 34 (by omega)
      | have g1 := beqNB s[0] 34 (by omega)
        have g2 := beqB s[0] 39 (by omega)
    clear h34 hq
    go_wp2_with fail
    generalize hW6 : World.alloc w5 _ = w6
    obtain ⟨ha6, -, hz6, hb6⟩ := alloc_of hW6
    replace HX := Lib.hid ((hb6.block _ HZ.out).trans HX.out)
    replace HB := Lib.hid (HB.out.trans (hb6.mono HB.out.size))
    replace HZ : Hid (w.heap.size < w6.heap.size) := Nat.lt_of_lt_of_le HZ.out hb6.size
    clear hb6
    clear hW6 hz6
    clear ha6
    refine (HU.out _).mono ?_
    rintro e w7 ⟨rfl, hb7⟩
    replace HX := Lib.hid ((hb7.block _ HZ.out).trans HX.out)
    replace HB := Lib.hid (HB.out.trans (hb7.mono HB.out.size))
    replace HZ : Hid (w.heap.size < w7.heap.size) := Nat.lt_of_lt_of_le HZ.out hb7.size
    clear hb7
    clear HU
    go_wp2_with fail
    refine (HTV.out _).mono ?_
    rintro e w8 ⟨rfl, hb8⟩
    replace HX := Lib.hid ((hb8.block _ HZ.out).trans HX.out)
    replace HB := Lib.hid (HB.out.trans (hb8.mono HB.out.size))
    replace HZ : Hid (w.heap.size < w8.heap.size) := Nat.lt_of_lt_of_le HZ.out hb8.size
    clear hb8
    clear HTV
    go_wp2_with (refine wpl_store rfl rfl stVl.2 rfl rfl (cs := vQ tq tu) rfl rfl (one13 rfl) HX.out (Nat.le_of_ble_eq_true rfl) (row := vQ tq tu) rfl ?_; generalize hW : World.setRow _ _ _ = ww; have HS := Lib.hid (setRow_of hW HX.out); clear hW)
    obtain ⟨hd5, -, hz5, hb5⟩ := HS.out
    obtain ⟨z0, z1, z2, z3, z4, z5, z6, z7, z8, z9, za, zb, zc⟩ := row13 hd5
    exact bodyPost_ret (v := .tuple #[.agg (vQ tq tu).toArray, .int .i64 te]) (by simp [results, Tryz.results10, go_sem, z0, z1, z2, z3, z4, z5, z6, z7, z8, z9, za, zb, zc]) rfl ⟨rfl, HB.out.trans (hb5 _ (Nat.le_refl _))⟩
theorem Sc_plain (s : ByteArray) (w : World) (hs : s.size ≤ 100000) (hv : validL (L s) = true) (hc : ctlB (L s) = false) (hw : ¬ wordS (L s)) (hd : (decP numP (L s)).err = 3) (ht : timB s = false) (hp : 0 < s.size) (hq : s[0].toNat ≠ 34 ∧ s[0].toNat ≠ 39) (hpb : pre (L s) [33, 98, 32] = false) (hE : EnvI w) (hl : plainB (L s) = true) :
    Calls Tryz.prog 10 #[.string s] w fun e w' => e = .returned (.tuple #[.agg ((txtR s).1).toArray, .int .i64 ((txtR s).2 : Nat)]) ∧ Below w.heap.size w w' := by
  have HV := Lib.hid (fun w' => Valid_any s w' (by omega))
  rw [hv] at HV
  have HC := Lib.hid (fun w' => control_any s w')
  rw [hc] at HC
  obtain ⟨he1, n1, n2, n3, n4⟩ := no_word s hw
  have HD := Lib.hid (fun w' => Parse_any s w' hs)
  generalize decP numP (L s) = dr at *
  obtain ⟨d1, d2, d3, d4⟩ := dr
  have hd4 : d4 = 3 := hd
  subst hd4
  clear hd
  have HM := Lib.hid (fun w' => ParseM_no s w' (by omega) ht)
  have g1 := beqNB s[0] 34 (by omega)
  have g2 := beqNB s[0] 39 (by omega)
  have HP := Lib.hid (fun w' => (Tryz.strings_HasPrefix s ⟨#[33, 98, 32]⟩ w').mono fun e w2 h => (⟨h.1, h.2.symm⟩ : _ ∧ w' = w2))
  have e1 : Lib.hasPrefix s.data.toList (⟨#[33, 98, 32]⟩ : ByteArray).data.toList = pre (L s) [33, 98, 32] := hasP_pre _ _
  rw [e1, hpb] at HP
  have HE := Lib.hid hE
  have HL := Lib.hid (fun w' hE => loose_any s w' (by omega) hE)
  rw [hl] at HL
  have HTV := Lib.hid (fun w' => textValue_any s w')
  obtain ⟨tq, tu, htq⟩ := txt_form s
  generalize txtR s = tr at *
  obtain ⟨tx, te⟩ := tr
  dsimp only at HTV htq ⊢
  subst htq
  clear hv hc hw hq hE hpb e1 hl ht
  go_enter Tryz.func10, Tryz.ntmps10
  go_upto_region 1 with fail
  generalize hW1 : World.alloc w _ = w1
  obtain ⟨ha1, -, hz1, hb1⟩ := alloc_of hW1
  have HX : Hid (w1.heap[w.heap.size]? = some (.cells vZ.toArray 30 (0, 0))) := ha1
  have HB := Lib.hid hb1
  have HZ : Hid (w.heap.size < w1.heap.size) := by unfold Hid; omega
  clear hW1 ha1 hz1 hb1
  go_wp2_with fail
  refine (HV.out _).mono ?_
  rintro e w' ⟨rfl, rfl⟩
  clear HV
  go_wp2_with fail
  refine (HC.out _).mono ?_
  rintro e w2 ⟨rfl, hb2⟩
  replace HX := Lib.hid ((hb2.block _ HZ.out).trans HX.out)
  replace HB := Lib.hid (HB.out.trans (hb2.mono HB.out.size))
  replace HZ : Hid (w.heap.size < w2.heap.size) := Nat.lt_of_lt_of_le HZ.out hb2.size
  clear hb2
  clear HC
  go_wp2_with fail
  refine (HD.out _).mono ?_
  rintro e w3 ⟨rfl, hb3⟩
  replace HX := Lib.hid ((hb3.block _ HZ.out).trans HX.out)
  replace HB := Lib.hid (HB.out.trans (hb3.mono HB.out.size))
  replace HZ : Hid (w.heap.size < w3.heap.size) := Nat.lt_of_lt_of_le HZ.out hb3.size
  clear hb3
  clear HD
  unfold decV
  dsimp only
  go_wp2_with fail
  generalize hW4 : World.alloc w3 _ = w4
  obtain ⟨ha4, -, hz4, hb4⟩ := alloc_of hW4
  replace HX := Lib.hid ((hb4.block _ HZ.out).trans HX.out)
  replace HB := Lib.hid (HB.out.trans (hb4.mono HB.out.size))
  replace HZ : Hid (w.heap.size < w4.heap.size) := Nat.lt_of_lt_of_le HZ.out hb4.size
  clear hb4
  clear hW4 hz4
  clear ha4
  refine (HM.out _).mono ?_
  rintro e w5 ⟨rfl, hb5⟩
  replace HX := Lib.hid ((hb5.block _ HZ.out).trans HX.out)
  replace HB := Lib.hid (HB.out.trans (hb5.mono HB.out.size))
  replace HZ : Hid (w.heap.size < w5.heap.size) := Nat.lt_of_lt_of_le HZ.out hb5.size
  clear hb5
  clear HM
  go_wp2_with fail
  generalize hW6 : World.alloc w5 _ = w6
  obtain ⟨ha6, -, hz6, hb6⟩ := alloc_of hW6
  replace HX := Lib.hid ((hb6.block _ HZ.out).trans HX.out)
  replace HB := Lib.hid (HB.out.trans (hb6.mono HB.out.size))
  replace HZ : Hid (w.heap.size < w6.heap.size) := Nat.lt_of_lt_of_le HZ.out hb6.size
  clear hb6
  clear hW6 hz6
  clear ha6
  refine (HP.out _).mono ?_
  rintro e w' ⟨rfl, rfl⟩
  clear HP
  go_wp2_with fail
  refine (HL.out _ (HE.out.below HB.out)).mono ?_
  rintro e w7 ⟨rfl, hb7⟩
  replace HX := Lib.hid ((hb7.block _ HZ.out).trans HX.out)
  replace HB := Lib.hid (HB.out.trans (hb7.mono HB.out.size))
  replace HZ : Hid (w.heap.size < w7.heap.size) := Nat.lt_of_lt_of_le HZ.out hb7.size
  clear hb7
  clear HL
  go_wp2_with fail
  refine (HTV.out _).mono ?_
  rintro e w8 ⟨rfl, hb8⟩
  replace HX := Lib.hid ((hb8.block _ HZ.out).trans HX.out)
  replace HB := Lib.hid (HB.out.trans (hb8.mono HB.out.size))
  replace HZ : Hid (w.heap.size < w8.heap.size) := Nat.lt_of_lt_of_le HZ.out hb8.size
  clear hb8
  clear HTV
  go_wp2_with (refine wpl_store rfl rfl stVl.2 rfl rfl (cs := vQ tq tu) rfl rfl (one13 rfl) HX.out (Nat.le_of_ble_eq_true rfl) (row := vQ tq tu) rfl ?_; generalize hW : World.setRow _ _ _ = ww; have HS := Lib.hid (setRow_of hW HX.out); clear hW)
  obtain ⟨hd5, -, hz5, hb5⟩ := HS.out
  obtain ⟨z0, z1, z2, z3, z4, z5, z6, z7, z8, z9, za, zb, zc⟩ := row13 hd5
  exact bodyPost_ret (v := .tuple #[.agg (vQ tq tu).toArray, .int .i64 te]) (by simp [results, Tryz.results10, go_sem, z0, z1, z2, z3, z4, z5, z6, z7, z8, z9, za, zb, zc]) rfl ⟨rfl, HB.out.trans (hb5 _ (Nat.le_refl _))⟩
end Go.Proofs.YtlnpfpjncnkekaaGreatDoor

namespace Go.Proofs.YtlnpfpjncnkekaaGreatDoor
open Go.RowKit
set_option maxHeartbeats 4000000
set_option maxRecDepth 100000
end Go.Proofs.YtlnpfpjncnkekaaGreatDoor

namespace Go.Proofs.YtlnpfpjncnkekaaGreatDoor
open Go.RowKit
set_option maxHeartbeats 2000000
set_option maxRecDepth 100000

abbrev awS1 : ByteArray := ⟨#[32, 32, 97, 58, 32, 34, 120, 32, 35, 32, 121, 34, 32, 35, 32, 122]⟩
abbrev awS2 : ByteArray := ⟨#[97, 32, 98, 58, 32, 99]⟩
abbrev awS3 : ByteArray := ⟨#[39, 105, 116, 39, 39, 115, 39]⟩
theorem aw_body : (L awS1).take (bodyN (L awS1)) = L awS1 := by decide +kernel
theorem aw_spc : spcN (L awS1) = 2 := by decide +kernel
theorem aw_cont : contL (L awS1) = [97, 58, 32, 34, 120, 32, 35, 32, 121, 34, 32, 35, 32, 122] := by
  unfold contL
  rw [aw_body, aw_spc]
  rfl
theorem aw_hash : hashW 32 [97, 58, 32, 34, 120, 32, 35, 32, 121, 34, 32, 35, 32, 122] = 11 := by
  simp [hashW_cons, partW_cons, addP]
theorem aw_bodyN : bodyN (L awS1) = 16 := by decide +kernel
theorem aw_line : lineP (L awS1) 0 = ⟨2, [97, 58, 32, 34, 120, 32, 35, 32, 121, 34], [32, 35, 32, 122], [], 0⟩ := by
  unfold lineP contN
  rw [aw_body, aw_spc, aw_cont, aw_hash, aw_bodyN]
  rfl
theorem aw_lns : lnsB awS1 = [awS1] := by decide +kernel
theorem aw_lines : linesR awS1 = ([⟨2, [97, 58, 32, 34, 120, 32, 35, 32, 121, 34], [32, 35, 32, 122], [], 0⟩], 0, 0) := by
  have hb : ¬ badL (L awS1) < awS1.size := by decide +kernel
  unfold linesR
  rw [if_neg (by decide), if_neg hb, aw_lns]
  show ([lineP (L awS1) 0], 0, 0) = _
  rw [aw_line]
theorem aw_key : keyR (L awS2) = ([97, 32, 98], 3, 0) := by
  have h1 : keyN (L awS2) = 3 := by decide +kernel
  have h2 : plainB [97, 32, 98] = true := by decide +kernel
  have h3 : endH [58, 32, 99] = true := by decide +kernel
  show keyR [97, 32, 98, 58, 32, 99] = _
  have h1' : keyN [97, 32, 98, 58, 32, 99] = 3 := h1
  rw [keyR, if_neg (by decide), if_neg (by decide), h1']
  show (if plainB [97, 32, 98] then (if endH [58, 32, 99] then longK [97, 32, 98] 3 else noK) else noK) = _
  rw [h2, h3]
  rfl
theorem aw_valid : validL (L awS3) = true := by decide +kernel
theorem aw_ctl : ctlB (L awS3) = false := by decide +kernel
theorem aw_dec : (decP numP (L awS3)).err = 3 := by decide +kernel
theorem aw_tim : timB awS3 = false := by decide +kernel
theorem aw21_unq : unqR (L awS3) = (L ⟨#[105, 116, 39, 115]⟩, 0) := by
  have h : singL [105, 116, 39, 39, 115, 39] = ([105, 116, 39, 115], 6, 0) := by
    rw [singL_cons, if_neg (by decide), dec_ascii _ _ (by decide), if_neg (by decide)]
    show quotFin [105] 1 (singL [116, 39, 39, 115, 39]) = _
    rw [singL_cons, if_neg (by decide), dec_ascii _ _ (by decide), if_neg (by decide)]
    show quotFin [105] 1 (quotFin [116] 1 (singL [39, 39, 115, 39])) = _
    rw [singL_cons, if_pos (by decide), if_pos (show [(39 : UInt8), 115, 39].head? = some 39 from rfl)]
    show quotFin [105] 1 (quotFin [116] 1 (quotFin [39] 2 (singL [115, 39]))) = _
    rw [singL_cons, if_neg (by decide), dec_ascii _ _ (by decide), if_neg (by decide)]
    show quotFin [105] 1 (quotFin [116] 1 (quotFin [39] 2 (quotFin [115] 1 (singL [39])))) = _
    rw [singL_cons, if_pos (by decide), if_neg (by simp)]
    rfl
  show unqR [39, 105, 116, 39, 39, 115, 39] = _
  rw [unqR, if_neg (by decide), if_neg (by decide), singR, h]
  rfl
/-- '==' of two lines. -/
theorem eqIn_line (a e a' e' : Int) (b c d b' c' d' : ByteArray) (w : World) :
    (Op.equalIn 10000 47 (.agg #[.int .i64 a, .string b, .string c, .string d, .int .i64 e]) (.agg #[.int .i64 a', .string b', .string c', .string d', .int .i64 e'])).run Tryz.prog w = .ok (decide (a = a' ∧ b = b' ∧ c = c' ∧ d = d' ∧ e = e')) w := by
  have u2 := Tryz.underlying9
  have a2 := Tryz.isAgg9
  have z2 := Tryz.sizeOf9
  have u3 := Tryz.underlying3
  have a3 := Tryz.isAgg3
  have z3 := Tryz.sizeOf3
  have hS : Tryz.prog.underlying 47 = some (.struct (Tryz.prog.fieldsOf 47)) := by kernel_rfl
  have hp : Tryz.prog.stoodInHeld 47 = false := by kernel_rfl
  rw [show (10000 : Nat) = 9999 + 1 from rfl, run_equalIn_agg w 9999 47 _ _ hS hp]
  simp only [Program.fieldsOf, Tryz.underlying47]
  go_simp
  by_cases h0 : a = a' <;> by_cases h1 : b = b' <;> by_cases h2 : c = c' <;> by_cases h3 : d = d' <;> by_cases h4 : e = e' <;> simp [h0, h1, h2, h3, h4, toList_L, mt (L_inj (s := b) (t := b')), mt (L_inj (s := c) (t := c')), mt (L_inj (s := d) (t := d'))]
/-- The cells of a row's only line. -/
theorem own_ln {w : World} {base : Nat} {v : Value} {x : Ln} (h : w.ownsRow base 47 5 v 1 ([x].flatMap lnC)) : ∃ g cap, v = .slice (some ⟨g, 0, none⟩) 1 cap ∧ g < w.heap.size ∧ ∀ j, j < 5 → w.cell? ⟨g, 0 + j, none⟩ = (lnC x)[j]? := by
  rcases h.2 with ⟨rfl, h0⟩ | ⟨g, cap, cur, rfl, hb, hg, -⟩
  · cases h0
  · refine ⟨g, cap, rfl, (Array.getElem?_eq_some_iff.1 hg).1, fun j hj => ?_⟩
    rw [Nat.zero_add, World.ownsRow.cellAt h j (by omega)]
    simp
theorem awake21_any (w : World) (hE : EnvI w) :
    Calls Tryz.prog 6 #[] w fun e w' => e = .returned (.bool true) ∧ Below w.heap.size w w' := by
  have HL := Lib.hid (ILines_any awS1 w (by decide) hE.tab)
  rw [aw_lines] at HL
  have HK := Lib.hid (fun w' hE => KeyI_any awS2 w' (by decide) hE)
  rw [aw_key] at HK
  have HS := Lib.hid (fun w' hE => ScalarQ_any awS3 ⟨#[105, 116, 39, 115]⟩ w' (by decide) hE aw_valid aw_ctl (by decide) (.inr (by decide)) aw_dec aw_tim aw21_unq (by decide))
  have HE := Lib.hid hE
  clear hE
  have hq : ∀ w', (Op.equalIn 10000 47 (.agg #[.int .i64 2, .string ⟨#[97, 58, 32, 34, 120, 32, 35, 32, 121, 34]⟩, .string ⟨#[32, 35, 32, 122]⟩, .string ⟨#[]⟩, .int .i64 0]) (.agg #[.int .i64 2, .string ⟨#[97, 58, 32, 34, 120, 32, 35, 32, 121, 34]⟩, .string ⟨#[32, 35, 32, 122]⟩, .string ⟨#[]⟩, .int .i64 0])).run Tryz.prog w' = .ok true w' := fun w' => by rw [eqIn_line, decide_eq_true ⟨rfl, rfl, rfl, rfl, rfl⟩]
  go_enter Tryz.func6, Tryz.ntmps6
  go_upto_region 2 with (go_at_call 11; refine HL.out.mono ?_; rintro e w1 ⟨v1, rfl, ⟨b1, hbb1, hown1⟩, hb1⟩)
  try dsimp only at hown1
  obtain ⟨g, cap, rfl, hg, hat⟩ := own_ln hown1
  have HAT := Lib.hid hat
  have HB := Lib.hid hb1
  have HG := Lib.hid hg
  clear hat hb1 hown1 hg hbb1 HL
  go_wp2_with fail
  refine (HK.out _ (HE.out.below HB.out)).mono ?_
  rintro e w2 ⟨rfl, hb2⟩
  replace HAT : Hid (∀ j, j < 5 → w2.cell? ⟨g, 0 + j, none⟩ = (lnC ⟨2, [97, 58, 32, 34, 120, 32, 35, 32, 121, 34], [32, 35, 32, 122], [], 0⟩)[j]?) := fun j hj => (hb2.cell (p := ⟨g, 0 + j, none⟩) HG.out).trans (HAT.out j hj)
  replace HB := Lib.hid (HB.out.trans (hb2.mono HB.out.size))
  replace HG := Lib.hid (Nat.lt_of_lt_of_le HG.out hb2.size)
  clear hb2 HK
  go_wp2_with fail
  refine (HS.out _ (HE.out.below HB.out)).mono ?_
  rintro e w3 ⟨rfl, hb3⟩
  replace HAT : Hid (∀ j, j < 5 → w3.cell? ⟨g, 0 + j, none⟩ = (lnC ⟨2, [97, 58, 32, 34, 120, 32, 35, 32, 121, 34], [32, 35, 32, 122], [], 0⟩)[j]?) := fun j hj => (hb3.cell (p := ⟨g, 0 + j, none⟩) HG.out).trans (HAT.out j hj)
  replace HB := Lib.hid (HB.out.trans (hb3.mono HB.out.size))
  replace HG := Lib.hid (Nat.lt_of_lt_of_le HG.out hb3.size)
  clear hb3 HS
  go_upto_region 4 with fail
  generalize hW4 : World.alloc w3 _ = w4
  obtain ⟨ha4, -, hz4, hb4⟩ := alloc_of hW4
  replace HAT : Hid (∀ j, j < 5 → w4.cell? ⟨g, 0 + j, none⟩ = (lnC ⟨2, [97, 58, 32, 34, 120, 32, 35, 32, 121, 34], [32, 35, 32, 122], [], 0⟩)[j]?) := fun j hj => (hb4.cell (p := ⟨g, 0 + j, none⟩) HG.out).trans (HAT.out j hj)
  replace HB := Lib.hid (HB.out.trans (hb4.mono HB.out.size))
  have c9 : w4.cell? ⟨w3.heap.size, 9, none⟩ = some (.string ⟨#[105, 116, 39, 115]⟩) := (cell_of_row w4 _ _ _ _ (0, 0) ha4).trans rfl
  clear hW4 ha4 hz4 hb4 HG
  go_wp2_with (refine wpl_loadG rfl stLn rfl rfl (cs := [.int .i64 2, .string ⟨#[97, 58, 32, 34, 120, 32, 35, 32, 121, 34]⟩, .string ⟨#[32, 35, 32, 122]⟩, .string ⟨#[]⟩, .int .i64 0]) rfl HAT.out ?_)
  go_ret
  exact ⟨rfl, HB.out⟩
end Go.Proofs.YtlnpfpjncnkekaaGreatDoor
