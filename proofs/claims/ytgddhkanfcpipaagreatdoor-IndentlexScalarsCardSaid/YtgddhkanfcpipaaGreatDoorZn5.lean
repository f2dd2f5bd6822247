/- The law IndentlexQuotes walked. Conditions: the tables of unicode/utf8 as they are, a value of internal/bytealg.MaxLen. -/
import Derived.Test.YtgddhkanfcpipaaGreatDoorZn3
import Derived.Test.YtgddhkanfcpipaaGreatDoorZn1
import Derived.Test.YtgddhkanfcpipaaGreatDoorZn4
import Derived.Test.YtgddhkanfcpipaaGreatDoorZk12
import Derived.Test.YtgddhkanfcpipaaGreatDoorZn2
import Derived.Test.YtgddhkanfcpipaaGreatDoorZk8
import Derived.Test.YtgddhkanfcpipaaGreatDoorZk11
import Derived.Test.YtgddhkanfcpipaaGreatDoorZk20
import Derived.Test.YtgddhkanfcpipaaGreatDoorZk14
namespace Go.Proofs.YtgddhkanfcpipaaGreatDoor
open Go.RowKit
set_option maxRecDepth 100000
set_option maxHeartbeats 1000000

theorem mom_err (k : Nat) (f : Fl) : (momF k f).2 ≠ 3 := by
  unfold momF
  by_cases h1 : k ≠ 2 ∧ (dayC f.y f.mo f.d).2 ≠ 0
  · rw [if_pos h1]; decide
  rw [if_neg h1]
  by_cases h2 : badF f = true
  · rw [if_pos h2]; decide
  · rw [if_neg h2]
    exact fun h => by cases h
theorem after_z (d : Nat × Nat) (c : Nat × List UInt8 × Bool × Bool) (h : (afterR d c).2 ≠ 0) : (afterR d c).1 = tmZ := by
  unfold afterR at h ⊢
  by_cases h1 : c.2.2.1 = false
  · rw [if_pos h1]
  rw [if_neg h1] at h ⊢
  by_cases h2 : c.2.1 = []
  · rw [if_pos h2] at h ⊢
    by_cases h3 : d.2 ≠ 0 ∨ c.2.2.2 = false
    · rw [if_pos h3]
    · rw [if_neg h3] at h
      exact absurd rfl h
  rw [if_neg h2] at h ⊢
  by_cases h3 : (toR c.2.1).2.1 = false
  · rw [if_pos h3]
  rw [if_neg h3] at h ⊢
  by_cases h4 : d.2 ≠ 0 ∨ (c.2.2.2 && (toR c.2.1).2.2) = false
  · rw [if_pos h4]
  · rw [if_neg h4] at h
    exact absurd rfl h
theorem clock_z (c : Nat × List UInt8 × Bool × Bool) (h : (clockR c).2 ≠ 0) : (clockR c).1 = tmZ := by
  unfold clockR at h ⊢
  by_cases h1 : c.2.2.1 = false ∨ c.2.1 ≠ []
  · rw [if_pos h1]
  rw [if_neg h1] at h ⊢
  by_cases h2 : c.2.2.2 = false
  · rw [if_pos h2]
  · rw [if_neg h2] at h
    exact absurd rfl h
theorem dated_z (d : Nat × Nat) (l : List UInt8) (h : (datedR d l).2 ≠ 0) : (datedR d l).1 = tmZ := by
  cases l with
  | nil =>
    unfold datedR at h ⊢
    dsimp only at h ⊢
    by_cases h1 : d.2 ≠ 0
    · rw [if_pos h1]
    · rw [if_neg h1] at h
      exact absurd rfl h
  | cons b t =>
    unfold datedR at h ⊢
    dsimp only at h ⊢
    by_cases h1 : b.toNat = 84 ∨ b.toNat = 116 ∨ b.toNat = 32
    · rw [if_pos h1] at h ⊢
      exact after_z _ _ h
    · rw [if_neg h1]
theorem after_tm (d : Nat × Nat) (c : Nat × List UInt8 × Bool × Bool) : ∃ a b e f : Int, (afterR d c).1 = tmV a b e f := by
  by_cases h : (afterR d c).2 = 0
  · unfold afterR at h ⊢
    by_cases h1 : c.2.2.1 = false
    · rw [if_pos h1] at h
      cases h
    rw [if_neg h1] at h ⊢
    by_cases h2 : c.2.1 = []
    · rw [if_pos h2] at h ⊢
      by_cases h3 : d.2 ≠ 0 ∨ c.2.2.2 = false
      · rw [if_pos h3] at h
        cases h
      · rw [if_neg h3]
        exact ⟨_, _, _, _, rfl⟩
    rw [if_neg h2] at h ⊢
    by_cases h3 : (toR c.2.1).2.1 = false
    · rw [if_pos h3] at h
      cases h
    rw [if_neg h3] at h ⊢
    by_cases h4 : d.2 ≠ 0 ∨ (c.2.2.2 && (toR c.2.1).2.2) = false
    · rw [if_pos h4] at h
      cases h
    · rw [if_neg h4]
      exact ⟨_, _, _, _, rfl⟩
  · exact ⟨0, 0, 0, 0, after_z d c h⟩
theorem clock_tm (c : Nat × List UInt8 × Bool × Bool) : ∃ a b e f : Int, (clockR c).1 = tmV a b e f := by
  by_cases h : (clockR c).2 = 0
  · unfold clockR at h ⊢
    by_cases h1 : c.2.2.1 = false ∨ c.2.1 ≠ []
    · rw [if_pos h1] at h
      cases h
    rw [if_neg h1] at h ⊢
    by_cases h2 : c.2.2.2 = false
    · rw [if_pos h2] at h
      cases h
    · rw [if_neg h2]
      exact ⟨_, _, _, _, rfl⟩
  · exact ⟨0, 0, 0, 0, clock_z c h⟩
theorem dated_tm (d : Nat × Nat) (l : List UInt8) : ∃ a b e f : Int, (datedR d l).1 = tmV a b e f := by
  cases l with
  | nil =>
    unfold datedR
    dsimp only
    by_cases h1 : d.2 ≠ 0
    · rw [if_pos h1]
      exact ⟨0, 0, 0, 0, rfl⟩
    · rw [if_neg h1]
      exact ⟨_, _, _, _, rfl⟩
  | cons b t =>
    unfold datedR
    dsimp only
    by_cases h1 : b.toNat = 84 ∨ b.toNat = 116 ∨ b.toNat = 32
    · rw [if_pos h1]
      exact after_tm _ _
    · rw [if_neg h1]
      exact ⟨0, 0, 0, 0, rfl⟩
theorem rp_tm (l : List UInt8) : ∃ a b e f : Int, (rpR l).1 = tmV a b e f := by
  unfold rpR
  by_cases h1 : likeB l (L datF) = false
  · rw [if_pos h1]
    exact clock_tm _
  · rw [if_neg h1]
    exact dated_tm _ _
theorem rp_zero (l : List UInt8) (h : (rpR l).2 = 3) : (rpR l).1 = tmZ := by
  have h0 : (rpR l).2 ≠ 0 := by omega
  unfold rpR at h0 ⊢
  by_cases h1 : likeB l (L datF) = false
  · rw [if_pos h1] at h0 ⊢
    exact clock_z _ h0
  · rw [if_neg h1] at h0 ⊢
    exact dated_z _ _ h0
/-- Both readers of times agree on the form. -/
theorem tim_form (s : ByteArray) : (rpR (L s)).2 = 3 ↔ timB s = false := by
  rcases par_same s with ⟨h1, h2⟩ | ⟨h1, h2⟩
  · exact ⟨fun _ => h1, fun _ => h2⟩
  · rw [← h2]
    refine ⟨fun h => absurd h (mom_err _ _), fun h => ?_⟩
    rw [h1] at h
    cases h
theorem lk_head (b : UInt8) (t : List UInt8) (f : List UInt8) (h : dig b = false) : likeB (b :: t) (100 :: f) = false := by
  rw [likeB, if_pos (by decide), h, Bool.false_and]
theorem rp_head (b : UInt8) (t : List UInt8) (h : dig b = false) : (rpR (b :: t)).2 = 3 := by
  have h1 : likeB (b :: t) (L datF) = false := lk_head b t _ h
  have h2 : likeB (b :: t) (L hmsF) = false := lk_head b t _ h
  have h3 : rpR (b :: t) = clockR (tcR (b :: t)) := if_pos h1
  have h4 : tcR (b :: t) = noC := if_pos h2
  rw [h3, h4]
  rfl
theorem num_head (b : UInt8) (t : List UInt8) (h : dig b = false) (h2 : b.toNat ≠ 45) : numB (b :: t) = false := by
  have h1 : pre (b :: t) [45] = false := by rw [pre1]; exact decide_eq_false h2
  have hr : runL (b :: t) = 0 := by
    show (if dig b then runL t + 1 else 0) = 0
    rw [h]
    rfl
  unfold numB
  rw [h1]
  show intB (b :: t) = false
  unfold intB
  rw [hr, if_pos (.inl rfl)]
theorem qb_low : ∀ n : Fin 256, ∀ c ∈ qb (UInt8.ofNat n.val), ¬ c.toNat < 32 := by decide +kernel
theorem ctl_false (l : List UInt8) (h : ∀ c ∈ l, ¬ c.toNat < 32) : ctlB l = false := by
  unfold ctlB
  rw [List.any_eq_false]
  intro c hc
  simpa using h c hc
theorem ctl_quo (l : List UInt8) : ctlB (quoR l).1 = false := by
  refine ctl_false _ (fun c hc => ?_)
  unfold quoR at hc
  split at hc
  · rcases List.mem_append.1 hc with hc | hc
    · rcases List.mem_cons.1 hc with rfl | hc
      · decide
      · obtain ⟨b, -, hb⟩ := List.mem_flatMap.1 hc
        have := qb_low ⟨b.toNat, b.toNat_lt⟩ c (by simpa using hb)
        exact this
    · have : c = 34 := by simpa using hc
      subst this
      decide
  · cases hc
theorem quo_cons (l : List UInt8) (h : badL l = l.length) : (quoR l).1 = 34 :: (l.flatMap qb ++ [34]) ∧ (quoR l).2 = 0 := by
  unfold quoR
  rw [if_pos h]
  exact ⟨rfl, rfl⟩
/-! Simple strings. -/
theorem simp_parts (l : List UInt8) (h : simpB l = true) : l ≠ [] ∧ badL l = l.length ∧ l.head? ≠ some 32 ∧ l.getLast? ≠ some 32 ∧ dashB l = false ∧ ∀ c ∈ l, okS c = true := by
  unfold simpB validL at h
  simp only [Bool.and_eq_true, decide_eq_true_eq, Bool.not_eq_true', decide_eq_false_iff_not, List.all_eq_true] at h
  obtain ⟨⟨⟨⟨⟨h1, h2⟩, h3⟩, h4⟩, h5⟩, h6⟩ := h
  exact ⟨h1, by simpa using h2, h3, h4, h5, h6⟩
theorem ok_byte0 : ∀ n : Fin 256, okS (UInt8.ofNat n.val) = true → firstX.contains (UInt8.ofNat n.val) = false ∧ ¬ n.val < 32 ∧ n.val ≠ 34 ∧ n.val ≠ 39 ∧ n.val ≠ 58 ∧ n.val ≠ 35 ∧ n.val ≠ 33 := by decide +kernel
theorem ok_byte (b : UInt8) (h : okS b = true) : firstX.contains b = false ∧ ¬ b.toNat < 32 ∧ b.toNat ≠ 34 ∧ b.toNat ≠ 39 ∧ b.toNat ≠ 58 ∧ b.toNat ≠ 35 ∧ b.toNat ≠ 33 := by
  have := ok_byte0 ⟨b.toNat, b.toNat_lt⟩
  simp only [UInt8.ofNat_toNat] at this
  exact this h
theorem simp_ctl (l : List UInt8) (h : simpB l = true) : ctlB l = false :=
  ctl_false _ (fun c hc => (ok_byte c ((simp_parts l h).2.2.2.2.2 c hc)).2.1)
theorem two_no (a b : UInt8) : ∀ l : List UInt8, (∀ c ∈ l, c ≠ a) → two a b l = false
  | [], _ => rfl
  | x :: t, h => by
    rw [two, two_no a b t (fun c hc => h c (List.mem_cons_of_mem _ hc)), decide_eq_false (h x (List.mem_cons_self ..))]
    rfl
theorem two_no2 (a b : UInt8) : ∀ l : List UInt8, (∀ c ∈ l, c ≠ b) → two a b l = false
  | [], _ => rfl
  | x :: t, h => by
    have ht : t.head? ≠ some b := by
      cases t with
      | nil => exact fun h => by cases h
      | cons y u => exact fun h' => h y (by simp) (Option.some.inj h')
    rw [two, two_no2 a b t (fun c hc => h c (List.mem_cons_of_mem _ hc)), decide_eq_false ht, Bool.and_false]
    rfl
theorem simp_plain (l : List UInt8) (h : simpB l = true) : plainB l = true := by
  obtain ⟨h1, h2, h3, h4, h5, h6⟩ := simp_parts l h
  have hc := simp_ctl l h
  have h0 : firstX.contains (l.headD 0) = false := by
    cases l with
    | nil => exact absurd rfl h1
    | cons b t => exact (ok_byte b (h6 b (List.mem_cons_self ..))).1
  have ht1 : two 58 32 l = false := two_no 58 32 l (fun c hc h => (ok_byte c (h6 c hc)).2.2.2.2.1 (by rw [h]; rfl))
  have ht2 : two 32 35 l = false := two_no2 32 35 l (fun c hc h => (ok_byte c (h6 c hc)).2.2.2.2.2.1 (by rw [h]; rfl))
  have hl : l.getLast? ≠ some 58 := fun h => by
    have := List.mem_of_getLast? h
    exact (ok_byte 58 (h6 58 this)).2.2.2.2.1 rfl
  unfold plainB validL
  rw [decide_eq_true h1, hc, h0, h5, decide_eq_false h3, decide_eq_false h4, ht1, ht2, decide_eq_false hl, h2]
  simp
/-! In single quotation marks. -/
theorem sing_simple : ∀ (f : Nat) (l : List UInt8), l.length ≤ f → badL l = l.length → (∀ c ∈ l, c.toNat ≠ 39 ∧ ¬ c.toNat < 32) → singL (l ++ [39]) = (l, l.length + 1, 0)
  | f, [], _, _, _ => by
    show singL [39] = _
    rw [singL_cons, if_pos (by decide), if_neg (by simp)]
    rfl
  | 0, b :: t, hf, _, _ => absurd hf (Nat.not_succ_le_zero _)
  | f + 1, b :: t, hf, hv, hc => by
    rcases valid_cons (b :: t) hv with h | ⟨h0, hd⟩
    · cases h
    have hle := dec_le (b :: t)
    have hdec : dec ((b :: t) ++ [39]) = dec (b :: t) := dec_app _ _ h0
    have ih := sing_simple f ((b :: t).drop (dec (b :: t)).2) (by rw [List.length_drop]; simp only [List.length_cons] at hf ⊢; omega) hd (fun c h => hc c (List.mem_of_mem_drop h))
    obtain ⟨hc1, hc2⟩ := hc b (List.mem_cons_self ..)
    rw [List.cons_append, singL_cons, if_neg hc1, ← List.cons_append, hdec, if_neg (fun h => h.elim hc2 h0), List.drop_append_of_le_length (by omega), List.take_append_of_le_length (by omega), ih]
    rw [fin_of rfl, List.take_append_drop, List.length_drop]
    simp only [List.length_cons] at *
    congr 1
    congr 1
    omega
theorem unq_simple (l : List UInt8) (h : simpB l = true) : unqR (39 :: (l ++ [39])) = (l, 0) := by
  obtain ⟨h1, h2, h3, h4, h5, h6⟩ := simp_parts l h
  have hs := sing_simple l.length l (Nat.le_refl _) h2 (fun c hc => ⟨(ok_byte c (h6 c hc)).2.2.2.1, (ok_byte c (h6 c hc)).2.1⟩)
  have hr : singR (l ++ [39]) = (l, 1 + (l.length + 1), 0) := by
    unfold singR
    rw [hs, fin_of rfl]
    rfl
  rw [unqR, if_neg (by decide), if_neg (by decide), hr]
  rw [if_neg (fun h => h rfl), if_neg (by simp only [List.length_append, List.length_cons, List.length_nil]; omega)]
end Go.Proofs.YtgddhkanfcpipaaGreatDoor

namespace Go.Proofs.YtgddhkanfcpipaaGreatDoor
open Go.RowKit
set_option maxHeartbeats 4000000
set_option maxRecDepth 100000

theorem numeric_i (s : ByteArray) (w : World) (hs : s.size ≤ 100000) :
    Calls Tryz.prog 64 #[.string s] w fun e w' => e = .returned (.bool (numB (L s))) ∧ Below w.heap.size w w' := by
  have HD := Lib.hid (fun w' => Parse_any s w' hs)
  have hE := dec_err numP (L s)
  generalize decP numP (L s) = dr at *
  generalize numB (L s) = nb at *
  obtain ⟨d1, d2, d3, d4⟩ := dr
  dsimp only at hE
  by_cases h3 : d4 = 3
  · have hn := hE.1 h3
    subst hn h3
    clear hE
    go_enter Tryz.func64, Tryz.ntmps64
    go_wp2_with (go_at_call 38; refine (HD.out _).mono ?_; rintro e w3 ⟨rfl, hb3⟩; have HB := Lib.hid hb3; clear hb3; unfold decV; dsimp only)
    go_ret
    exact ⟨rfl, HB.out.alloc HB.out.size _⟩
  · have hn : nb = true := by
      cases nb
      · exact absurd (hE.2 rfl) h3
      · rfl
    have g : ((d4 : Int) != 3) = true := by rw [bne_iff_ne]; omega
    subst hn
    clear hE h3
    go_enter Tryz.func64, Tryz.ntmps64
    go_wp2_with (go_at_call 38; refine (HD.out _).mono ?_; rintro e w3 ⟨rfl, hb3⟩; have HB := Lib.hid hb3; clear hb3; unfold decV; dsimp only)
    go_ret
    exact ⟨rfl, HB.out.alloc HB.out.size _⟩
theorem ParseM_all (s : ByteArray) (w : World) (hs : s.size ≤ 1000000000) :
    Calls Tryz.prog 39 #[.string s] w fun e w' => e = .returned (.tuple #[.agg (rpR (L s)).1.toArray, .int .i64 ((rpR (L s)).2 : Nat)]) ∧ Below w.heap.size w w' := by
  rcases par_same s with ⟨h1, h2⟩ | ⟨h1, h2⟩
  · have h3 : (rpR (L s)).1 = tmZ := rp_zero _ h2
    rw [h2, h3]
    exact ParseM_no s w hs h1
  · rw [← h2]
    exact ParseM_yes s w hs h1
theorem timed_any (s : ByteArray) (w : World) (hs : s.size ≤ 1000000000) :
    Calls Tryz.prog 49 #[.string s] w fun e w' => e = .returned (.bool (timB s)) ∧ Below w.heap.size w w' := by
  have HD := Lib.hid (fun w' => ParseR_any s w' hs)
  have hE := tim_form s
  obtain ⟨ta, tb, tc, td, htm⟩ := rp_tm (L s)
  generalize rpR (L s) = r at *
  generalize timB s = t at *
  obtain ⟨r1, r2⟩ := r
  dsimp only at HD hE htm
  subst htm
  unfold tmV at HD
  by_cases h3 : r2 = 3
  · have hn := hE.1 h3
    subst hn h3
    clear hE
    go_enter Tryz.func49, Tryz.ntmps49
    go_wp2_with (go_at_call 50; refine (HD.out _).mono ?_; rintro e w3 ⟨rfl, hb3⟩; have HB := Lib.hid hb3; clear hb3)
    go_ret
    exact ⟨rfl, HB.out.alloc HB.out.size _⟩
  · have hn : t = true := by
      cases t
      · exact absurd (hE.2 rfl) h3
      · rfl
    have g : ((r2 : Int) != 3) = true := by rw [bne_iff_ne]; omega
    subst hn
    clear hE h3
    go_enter Tryz.func49, Tryz.ntmps49
    go_wp2_with (go_at_call 50; refine (HD.out _).mono ?_; rintro e w3 ⟨rfl, hb3⟩; have HB := Lib.hid hb3; clear hb3)
    go_ret
    exact ⟨rfl, HB.out.alloc HB.out.size _⟩
/-- A string that needs no quotation marks. -/
def wordI (l : List UInt8) : Bool := decide (l = [110, 117, 108, 108]) || decide (l = [116, 114, 117, 101]) || decide (l = [102, 97, 108, 115, 101])
def plS (s : ByteArray) : Bool := simpB (L s) && !wordI (L s) && !numB (L s) && !timB s
theorem word_ways (s : ByteArray) : (s.toList == [110, 117, 108, 108]) = decide (L s = [110, 117, 108, 108]) ∧ (s.toList == [116, 114, 117, 101]) = decide (L s = [116, 114, 117, 101]) ∧ (s.toList == [102, 97, 108, 115, 101]) = decide (L s = [102, 97, 108, 115, 101]) := by
  rw [toList_L]
  refine ⟨?_, ?_, ?_⟩ <;> (rw [Bool.eq_iff_iff]; simp)
theorem Plain_any (s : ByteArray) (w : World) (hs : s.size ≤ 100000) :
    Calls Tryz.prog 23 #[.string s] w fun e w' => e = .returned (.bool (plS s)) ∧ Below w.heap.size w w' := by
  have HS := Lib.hid (fun w' => simple_any s w' (by omega))
  have HN := Lib.hid (fun w' => numeric_i s w' hs)
  have HP := Lib.hid (fun w' => ParseM_all s w' (by omega))
  obtain ⟨q1, q2, q3⟩ := word_ways s
  have HF : Hid (plS s = (simpB (L s) && !(decide (L s = [110, 117, 108, 108]) || decide (L s = [116, 114, 117, 101]) || decide (L s = [102, 97, 108, 115, 101])) && !numB (L s) && !timB s)) := rfl
  generalize decide (L s = [110, 117, 108, 108]) = x1 at *
  generalize decide (L s = [116, 114, 117, 101]) = x2 at *
  generalize decide (L s = [102, 97, 108, 115, 101]) = x3 at *
  generalize simpB (L s) = sb at *
  generalize numB (L s) = nb at *
  have hE := tim_form s
  obtain ⟨ta, tb, tc, td, htm⟩ := rp_tm (L s)
  generalize rpR (L s) = r at *
  generalize timB s = t at *
  generalize plS s = z at *
  obtain ⟨r1, r2⟩ := r
  dsimp only at HP hE htm
  subst htm
  unfold tmV at HP
  cases sb
  case false =>
    clear hE
    go_enter Tryz.func23, Tryz.ntmps23
    go_wp2_with (go_at_call 63; refine (HS.out _).mono ?_; rintro e w' ⟨rfl, rfl⟩)
    go_ret
    exact ⟨ret_b (by rw [HF.out]; try rfl), Below.refl _ _⟩
  cases x1
  case true =>
    clear hE
    go_enter Tryz.func23, Tryz.ntmps23
    go_wp2_with (go_at_call 63; refine (HS.out _).mono ?_; rintro e w' ⟨rfl, rfl⟩)
    go_ret
    exact ⟨ret_b (by rw [HF.out]; try rfl), Below.refl _ _⟩
  cases x2
  case true =>
    clear hE
    go_enter Tryz.func23, Tryz.ntmps23
    go_wp2_with (go_at_call 63; refine (HS.out _).mono ?_; rintro e w' ⟨rfl, rfl⟩)
    go_ret
    exact ⟨ret_b (by rw [HF.out]; try rfl), Below.refl _ _⟩
  cases x3
  case true =>
    clear hE
    go_enter Tryz.func23, Tryz.ntmps23
    go_wp2_with (go_at_call 63; refine (HS.out _).mono ?_; rintro e w' ⟨rfl, rfl⟩)
    go_ret
    exact ⟨ret_b (by rw [HF.out]; try rfl), Below.refl _ _⟩
  cases nb
  case true =>
    clear hE
    go_enter Tryz.func23, Tryz.ntmps23
    go_wp2_with (first
      | (go_at_call 63; refine (HS.out _).mono ?_; rintro e w' ⟨rfl, rfl⟩)
      | (go_at_call 64; refine (HN.out _).mono ?_; rintro e w1 ⟨rfl, hb1⟩; have HB := Lib.hid hb1; clear hb1))
    go_ret
    exact ⟨ret_b (by rw [HF.out]; try rfl), HB.out⟩
  by_cases h3 : r2 = 3
  · have hn := hE.1 h3
    subst hn h3
    clear hE
    go_enter Tryz.func23, Tryz.ntmps23
    go_wp2_with (first
      | (go_at_call 63; refine (HS.out _).mono ?_; rintro e w' ⟨rfl, rfl⟩)
      | (go_at_call 64; refine (HN.out _).mono ?_; rintro e w1 ⟨rfl, hb1⟩; have HB := Lib.hid hb1; clear hb1)
      | (go_at_call 39; refine (HP.out _).mono ?_; rintro e w2 ⟨rfl, hb2⟩; have HB2 := Lib.hid (HB.out.trans (hb2.mono HB.out.size)); clear hb2))
    go_ret
    exact ⟨ret_b (by rw [HF.out]; try rfl), HB2.out.alloc HB2.out.size _⟩
  · have hn : t = true := by
      cases t
      · exact absurd (hE.2 rfl) h3
      · rfl
    have g : ((r2 : Int) == 3) = false := by rw [beq_eq_false_iff_ne]; omega
    subst hn
    clear hE h3
    go_enter Tryz.func23, Tryz.ntmps23
    go_wp2_with (first
      | (go_at_call 63; refine (HS.out _).mono ?_; rintro e w' ⟨rfl, rfl⟩)
      | (go_at_call 64; refine (HN.out _).mono ?_; rintro e w1 ⟨rfl, hb1⟩; have HB := Lib.hid hb1; clear hb1)
      | (go_at_call 39; refine (HP.out _).mono ?_; rintro e w2 ⟨rfl, hb2⟩; have HB2 := Lib.hid (HB.out.trans (hb2.mono HB.out.size)); clear hb2))
    go_ret
    exact ⟨ret_b (by rw [HF.out]; try rfl), HB2.out.alloc HB2.out.size _⟩
theorem Plain21_any (s : ByteArray) (w : World) (hs : s.size ≤ 100000) :
    Calls Tryz.prog 24 #[.string s] w fun e w' => e = .returned (.bool (plS s)) ∧ Below w.heap.size w w' := by
  have HI := Lib.hid (fun w' => IsNumber3_any s w' (by omega))
  rw [isN_fst] at HI
  have HS := Lib.hid (fun w' => Simple3_any s w' (by omega))
  have HT := Lib.hid (fun w' => timed_any s w' (by omega))
  obtain ⟨q1, q2, q3⟩ := word_ways s
  have HF : Hid (plS s = (simpB (L s) && !(decide (L s = [110, 117, 108, 108]) || decide (L s = [116, 114, 117, 101]) || decide (L s = [102, 97, 108, 115, 101])) && !numB (L s) && !timB s)) := rfl
  generalize decide (L s = [110, 117, 108, 108]) = x1 at *
  generalize decide (L s = [116, 114, 117, 101]) = x2 at *
  generalize decide (L s = [102, 97, 108, 115, 101]) = x3 at *
  generalize simpB (L s) = sb at *
  generalize numB (L s) = nb at *
  generalize timB s = t at *
  generalize plS s = z at *
  cases sb
  case false =>
    go_enter Tryz.func24, Tryz.ntmps24
    go_wp2_with (first
      | (go_at_call 47; refine (HI.out _).mono ?_; rintro e w' ⟨rfl, rfl⟩)
      | (go_at_call 65; refine (HS.out _).mono ?_; rintro e w1 ⟨rfl, hb1⟩; have HB := Lib.hid hb1; clear hb1))
    go_ret
    exact ⟨ret_b (by rw [HF.out]; try rfl), HB.out⟩
  cases x1
  case true =>
    go_enter Tryz.func24, Tryz.ntmps24
    go_wp2_with (first
      | (go_at_call 47; refine (HI.out _).mono ?_; rintro e w' ⟨rfl, rfl⟩)
      | (go_at_call 65; refine (HS.out _).mono ?_; rintro e w1 ⟨rfl, hb1⟩; have HB := Lib.hid hb1; clear hb1))
    go_ret
    exact ⟨ret_b (by rw [HF.out]; try rfl), HB.out⟩
  cases x2
  case true =>
    go_enter Tryz.func24, Tryz.ntmps24
    go_wp2_with (first
      | (go_at_call 47; refine (HI.out _).mono ?_; rintro e w' ⟨rfl, rfl⟩)
      | (go_at_call 65; refine (HS.out _).mono ?_; rintro e w1 ⟨rfl, hb1⟩; have HB := Lib.hid hb1; clear hb1))
    go_ret
    exact ⟨ret_b (by rw [HF.out]; try rfl), HB.out⟩
  cases x3
  case true =>
    go_enter Tryz.func24, Tryz.ntmps24
    go_wp2_with (first
      | (go_at_call 47; refine (HI.out _).mono ?_; rintro e w' ⟨rfl, rfl⟩)
      | (go_at_call 65; refine (HS.out _).mono ?_; rintro e w1 ⟨rfl, hb1⟩; have HB := Lib.hid hb1; clear hb1))
    go_ret
    exact ⟨ret_b (by rw [HF.out]; try rfl), HB.out⟩
  cases nb
  case true =>
    go_enter Tryz.func24, Tryz.ntmps24
    go_wp2_with (first
      | (go_at_call 47; refine (HI.out _).mono ?_; rintro e w' ⟨rfl, rfl⟩)
      | (go_at_call 65; refine (HS.out _).mono ?_; rintro e w1 ⟨rfl, hb1⟩; have HB := Lib.hid hb1; clear hb1))
    go_ret
    exact ⟨ret_b (by rw [HF.out]; try rfl), HB.out⟩
  cases t
  all_goals
    go_enter Tryz.func24, Tryz.ntmps24
    go_wp2_with (first
      | (go_at_call 47; refine (HI.out _).mono ?_; rintro e w' ⟨rfl, rfl⟩)
      | (go_at_call 65; refine (HS.out _).mono ?_; rintro e w1 ⟨rfl, hb1⟩; have HB := Lib.hid hb1; clear hb1)
      | (go_at_call 49; refine (HT.out _).mono ?_; rintro e w2 ⟨rfl, hb2⟩; have HB2 := Lib.hid (HB.out.trans (hb2.mono HB.out.size)); clear hb2))
    go_ret
    exact ⟨ret_b (by rw [HF.out]; try rfl), HB2.out⟩
end Go.Proofs.YtgddhkanfcpipaaGreatDoor

namespace Go.Proofs.YtgddhkanfcpipaaGreatDoor
open Go.RowKit
set_option maxHeartbeats 4000000
set_option maxRecDepth 100000

theorem QuoteI_any (s : ByteArray) (w : World) (hs : s.size ≤ 1000000000) :
    Calls Tryz.prog 19 #[.string s] w fun e w' => e = .returned (.tuple #[.string ⟨(quoR (L s)).1.toArray⟩, .int .i64 (quoR (L s)).2]) ∧ Below w.heap.size w w' := by
  have HQ := Lib.hid (fun w' => Quote_any s w' hs)
  generalize quoR (L s) = q at *
  obtain ⟨x, e⟩ := q
  dsimp only at HQ
  go_enter Tryz.func19, Tryz.ntmps19
  go_wp2_with (go_at_call 59; refine (HQ.out _).mono ?_; rintro e w2 ⟨rfl, hb2⟩; have HB := Lib.hid hb2; clear hb2)
  go_ret2
  exact ⟨rfl, HB.out⟩
theorem QuoteR_any (s : ByteArray) (w : World) (hs : s.size ≤ 1000000000) :
    Calls Tryz.prog 20 #[.string s] w fun e w' => e = .returned (.tuple #[.string ⟨(quoR (L s)).1.toArray⟩, .int .i64 (quoR (L s)).2]) ∧ Below w.heap.size w w' := by
  have HQ := Lib.hid (fun w' => Quote3_any s w' hs)
  generalize quoR (L s) = q at *
  obtain ⟨x, e⟩ := q
  dsimp only at HQ
  go_enter Tryz.func20, Tryz.ntmps20
  go_wp2_with (go_at_call 60; refine (HQ.out _).mono ?_; rintro e w2 ⟨rfl, hb2⟩; have HB := Lib.hid hb2; clear hb2)
  go_ret2
  exact ⟨rfl, HB.out⟩
theorem QuotesI_any (s t : ByteArray) (w : World) (hE : EnvI w) :
    Calls Tryz.prog 6 #[.string s, .string t] w fun e w' => e = .returned (.bool true) ∧ Below w.heap.size w w' := by
  have HE := Lib.hid hE
  clear hE
  by_cases hs : 2000 < s.size
  · have h1 : (2000 : Int) < s.size := by omega
    go_enter Tryz.func6, Tryz.ntmps6
    go_wp2_with (go_at_call 11; refine (awake21_any _ HE.out).mono ?_; rintro e w1 ⟨rfl, hb1⟩)
    go_ret
    exact ⟨rfl, hb1⟩
  have h1 : ¬ (2000 : Int) < s.size := by omega
  by_cases ht : 2000 < t.size
  · have h2 : (2000 : Int) < t.size := by omega
    go_enter Tryz.func6, Tryz.ntmps6
    go_wp2_with (go_at_call 11; refine (awake21_any _ HE.out).mono ?_; rintro e w1 ⟨rfl, hb1⟩)
    go_ret
    exact ⟨rfl, hb1⟩
  have h2 : ¬ (2000 : Int) < t.size := by omega
  have HQ := Lib.hid (fun w' => QuoteI_any s w' (by omega))
  have HQ3 := Lib.hid (fun w' => QuoteR_any s w' (by omega))
  have HU := Lib.hid (fun w' => UnquoteI_any t w' (by omega))
  have HU3 := Lib.hid (fun w' => UnquoteR_any t w' (by omega))
  have HP := Lib.hid (fun w' => Plain_any s w' (by omega))
  have HP3 := Lib.hid (fun w' => Plain21_any s w' (by omega))
  generalize plS s = p at *
  generalize quoR (L s) = qr at *
  generalize unqR (L t) = ur at *
  obtain ⟨x, e⟩ := qr
  obtain ⟨u, g⟩ := ur
  dsimp only at HQ HQ3 HU HU3
  obtain ⟨xb, hxb⟩ : ∃ xb : ByteArray, (⟨x.toArray⟩ : ByteArray) = xb := ⟨_, rfl⟩
  rw [hxb] at HQ HQ3
  obtain ⟨ub, hub⟩ : ∃ ub : ByteArray, (⟨u.toArray⟩ : ByteArray) = ub := ⟨_, rfl⟩
  rw [hub] at HU HU3
  have q1 : (xb.toList == xb.toList) = true := beq_true rfl
  have q2 : ((e : Int) == (e : Int)) = true := beq_iff_eq.2 rfl
  have q3 : (ub.toList == ub.toList) = true := beq_true rfl
  have q4 : ((g : Int) == (g : Int)) = true := beq_iff_eq.2 rfl
  have q5 : (p == p) = true := beq_iff_eq.2 rfl
  clear hxb hub hs ht
  go_enter Tryz.func6, Tryz.ntmps6
  go_wp2_with fail
  refine (HQ.out _).mono ?_
  rintro e1 w1 ⟨rfl, hb1⟩
  have HB1 := Lib.hid hb1
  clear hb1 HQ
  go_wp2_with fail
  refine (HQ3.out _).mono ?_
  rintro e1 w2 ⟨rfl, hb2⟩
  have HB2 := Lib.hid (HB1.out.trans (hb2.mono HB1.out.size))
  clear hb2 HQ3 HB1
  go_wp2_with fail
  refine (HU.out _).mono ?_
  rintro e1 w3 ⟨rfl, hb3⟩
  have HB3 := Lib.hid (HB2.out.trans (hb3.mono HB2.out.size))
  clear hb3 HU HB2
  go_wp2_with fail
  refine (HU3.out _).mono ?_
  rintro e1 w4 ⟨rfl, hb4⟩
  have HB4 := Lib.hid (HB3.out.trans (hb4.mono HB3.out.size))
  clear hb4 HU3 HB3
  go_wp2_with fail
  refine (HP.out _).mono ?_
  rintro e1 w5 ⟨rfl, hb5⟩
  have HB5 := Lib.hid (HB4.out.trans (hb5.mono HB4.out.size))
  clear hb5 HP HB4
  go_wp2_with fail
  refine (HP3.out _).mono ?_
  rintro e1 w6 ⟨rfl, hb6⟩
  have HB6 := Lib.hid (HB5.out.trans (hb6.mono HB5.out.size))
  clear hb6 HP3 HB5
  go_wp2_with (go_at_call 11; refine (awake21_any _ (HE.out.below HB6.out)).mono ?_; rintro e w3 ⟨rfl, hb3⟩)
  go_ret
  exact ⟨rfl, HB6.out.trans (hb3.mono HB6.out.size)⟩
end Go.Proofs.YtgddhkanfcpipaaGreatDoor
