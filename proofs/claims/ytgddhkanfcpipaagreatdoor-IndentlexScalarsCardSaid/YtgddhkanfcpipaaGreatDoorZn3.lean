/- moment.Parse and datakitref05.Parse answer alike: joined. Plain law. Conditions: none. -/
import Derived.Test.YtgddhkanfcpipaaGreatDoorZn2
namespace Go.Proofs.YtgddhkanfcpipaaGreatDoor
open Go.RowKit
set_option maxHeartbeats 1000000
set_option maxRecDepth 100000

/-- What the program makes of an offset that ends the string. -/
def offEnd (y : (ByteArray × Bool) × Fl) : Int × Bool × Bool := if y.1.2 = false ∧ L y.1.1 = [] then (offF y.2, true, decide (y.2.oh ≤ 23 ∧ y.2.om ≤ 59)) else (0, false, false)
theorem offEnd_bad (y : (ByteArray × Bool) × Fl) (h : y.1.2 = true) : offEnd y = (0, false, false) := if_neg (fun h' => by rw [h] at h'; exact absurd h'.1 (by decide))
theorem like_head (l : List UInt8) (c : UInt8) (hc : c.toNat ≠ 100) (h : l.head? ≠ some c) : likeB l [c, 100, 100, 58, 100, 100] = false := by
  cases hl : likeB l [c, 100, 100, 58, 100, 100]
  · rfl
  · exact absurd (off_digs l c hc hl).1 h
theorem toR_no (l : List UInt8) (h1 : l ≠ [90]) (h2 : l ≠ [122]) (h3 : l.length ≠ 6 ∨ (likeB l (L plusF) = false ∧ likeB l (L minF) = false)) : toR l = (0, false, false) := by
  unfold toR
  rw [if_neg (fun h => h.elim h1 h2), if_pos h3]
theorem off_toR (s : ByteArray) (f : Fl) (h1 : f.oh = 0) (h2 : f.om = 0) (hne : L s ≠ []) : offEnd (offS (s, false) f) = toR (L s) := by
  obtain ⟨c, t, hl⟩ : ∃ c t, L s = c :: t := by
    cases h : L s with
    | nil => exact absurd h hne
    | cons c t => exact ⟨c, t, rfl⟩
  have h0 : (L s)[0]? = some c := by rw [hl]; rfl
  have hh : (L s).head? = some c := by rw [hl]; rfl
  by_cases hz : c = 90 ∨ c = 122
  · rw [off_zed s f c hz h0]
    have hd : L (s.extract 1 s.size) = t := by rw [L_from, hl]; rfl
    have hcn : c.toNat ≠ 45 := by rcases hz with rfl | rfl <;> decide
    have hp : likeB (L s) (L plusF) = false := like_head _ 43 (by decide) (by rw [hh]; rcases hz with rfl | rfl <;> decide)
    have hm : likeB (L s) (L minF) = false := like_head _ 45 (by decide) (by rw [hh]; rcases hz with rfl | rfl <;> decide)
    unfold offEnd
    dsimp only
    rw [hd]
    by_cases ht : t = []
    · rw [if_pos ⟨rfl, ht⟩]
      have hlz : L s = [90] ∨ L s = [122] := by rw [hl, ht]; rcases hz with rfl | rfl; exact .inl rfl; exact .inr rfl
      unfold toR offF
      rw [if_pos hlz]
      dsimp only
      rw [if_neg hcn, h1, h2]
      rfl
    · rw [if_neg (fun h => ht h.2)]
      refine (toR_no _ ?_ ?_ (.inr ⟨hp, hm⟩)).symm
      · rw [hl]; intro h; injection h with _ h; exact ht h
      · rw [hl]; intro h; injection h with _ h; exact ht h
  have hn9 : L s ≠ [90] := by rw [hl]; intro h; injection h with h _; exact hz (.inl h)
  have hn12 : L s ≠ [122] := by rw [hl]; intro h; injection h with h _; exact hz (.inr h)
  by_cases hs : c = 43 ∨ c = 45
  · obtain ⟨hok, hno⟩ := off_sign s f c hs h0
    have hc100 : c.toNat ≠ 100 := by rcases hs with rfl | rfl <;> decide
    have hother : ∀ b : UInt8, b.toNat ≠ 100 → b ≠ c → likeB (L s) [b, 100, 100, 58, 100, 100] = false := fun b hb hbc => like_head _ b hb (by rw [hh]; intro h; exact hbc (Option.some.inj h).symm)
    cases hk : likeB (L s) [c, 100, 100, 58, 100, 100]
    · rw [offEnd_bad _ (hno hk)]
      refine (toR_no _ hn9 hn12 (.inr ?_)).symm
      rcases hs with rfl | rfl
      · exact ⟨hk, hother 45 (by decide) (by decide)⟩
      · exact ⟨hother 43 (by decide) (by decide), hk⟩
    · rw [hok hk]
      have hd : L (s.extract 6 s.size) = (L s).drop 6 := L_from _ _
      have h6 : 6 ≤ (L s).length := likeB_len _ _ hk
      unfold offEnd
      dsimp only
      rw [hd]
      by_cases hlen : (L s).length = 6
      · rw [if_pos ⟨rfl, List.drop_of_length_le (by omega)⟩]
        have hnn : ¬ ((L s).length ≠ 6 ∨ (likeB (L s) (L plusF) = false ∧ likeB (L s) (L minF) = false)) := by
          rintro (h | ⟨h3, h4⟩)
          · exact h hlen
          · rcases hs with rfl | rfl
            · exact absurd (h3.symm.trans hk) (by decide)
            · exact absurd (h4.symm.trans hk) (by decide)
        have htr : toR (L s) = (if (some c : Option UInt8) = some 45 then -((valL 0 (((L s).drop 1).take 2) * 60 + valL 0 (((L s).drop 4).take 2) : Nat) : Int) else ((valL 0 (((L s).drop 1).take 2) * 60 + valL 0 (((L s).drop 4).take 2) : Nat) : Int), true, decide (valL 0 (((L s).drop 1).take 2) ≤ 23 ∧ valL 0 (((L s).drop 4).take 2) ≤ 59)) := by
          unfold toR
          rw [if_neg (fun h => h.elim hn9 hn12), if_neg hnn, hh]
        rw [htr]
        unfold offF
        dsimp only
        rcases hs with rfl | rfl
        · rw [if_neg (by decide), if_neg (by decide)]
        · rw [if_pos (by decide), if_pos rfl]
      · rw [if_neg]
        · exact (toR_no _ hn9 hn12 (.inl hlen)).symm
        · rintro ⟨-, h⟩
          have := congrArg List.length h
          rw [List.length_drop, List.length_nil] at this
          omega
  · have hb := off_none s f (fun b hb => by
      rw [h0] at hb
      have hbc := Option.some.inj hb
      subst hbc
      cases hx : (L sgn4).contains c
      · rfl
      · exfalso
        have : c = 90 ∨ c = 122 ∨ c = 43 ∨ c = 45 := by simpa [sgn4, L] using hx
        rcases this with h | h | h | h
        · exact hz (.inl h)
        · exact hz (.inr h)
        · exact hs (.inl h)
        · exact hs (.inr h))
    rw [offEnd_bad _ hb]
    exact (toR_no _ hn9 hn12 (.inr ⟨like_head _ 43 (by decide) (by rw [hh]; intro h; exact hs (.inl (Option.some.inj h))), like_head _ 45 (by decide) (by rw [hh]; intro h; exact hs (.inr (Option.some.inj h)))⟩)).symm
end Go.Proofs.YtgddhkanfcpipaaGreatDoor

namespace Go.Proofs.YtgddhkanfcpipaaGreatDoor
open Go.RowKit
set_option maxHeartbeats 1000000
set_option maxRecDepth 100000

/-- What the fields are behind a time of day. -/
def ClkF (f : Fl) (c : Nat × List UInt8 × Bool × Bool) (F : Fl) : Prop :=
  F.y = f.y ∧ F.mo = f.mo ∧ F.d = f.d ∧ nanoF F = c.1 ∧ ((23 < F.ho ∨ 59 < F.mi ∨ 59 < F.se) ↔ c.2.2.2 = false) ∧ F.oh = 0 ∧ F.om = 0 ∧ F.sg = 0
theorem clk (s : ByteArray) (f : Fl) (h1 : f.na = 0) (h2 : f.oh = 0) (h3 : f.om = 0) (h4 : f.sg = 0) :
    ((tcR (L s)).2.2.1 = false → (clockS (s, false) f).1.2 = true) ∧
    ((tcR (L s)).2.2.1 = true → ∃ s', L s' = (tcR (L s)).2.1 ∧ (clockS (s, false) f).1 = (s', false) ∧ ClkF f (tcR (L s)) (clockS (s, false) f).2) := by
  obtain ⟨g0, g1⟩ := clock_tc s f
  refine ⟨g0, fun hk => ?_⟩
  obtain ⟨s', e1, e2, e3, e4, e5, e6⟩ := g1 hk
  refine ⟨s', e1, e2, ?_⟩
  obtain ⟨a, ha⟩ : ∃ a, a = (clockS (s, false) f).2.na := ⟨_, rfl⟩
  rw [← ha] at e3 e4 e5
  rw [e3]
  refine ⟨rfl, rfl, rfl, ?_, ?_, h2, h3, h4⟩
  · rw [e4]
    show hmsN (L s) + a = _
    by_cases h46 : ((L s).drop 8).head? = some 46
    · rw [if_pos h46]
    · rw [if_neg h46, e5 h46, h1]
  · rw [e6]
    unfold hmsI
    dsimp only
    rw [decide_eq_false_iff_not]
    omega
theorem off_keep (x : ByteArray × Bool) (f : Fl) : ∃ a b c, (offS x f).2 = { f with sg := a, oh := b, om := c } := by
  unfold offS
  split
  · exact ⟨_, _, _, rfl⟩
  · exact ⟨_, f.oh, f.om, rfl⟩
theorem badF_iff (f : Fl) : badF f = true ↔ (23 < f.ho ∨ 59 < f.mi ∨ 59 < f.se ∨ 23 < f.oh ∨ 59 < f.om) := by
  unfold badF
  exact decide_eq_true_iff
theorem momF_no (kd : Nat) (F : Fl) (h : badF F = true) : momF kd F = (tmZ, 2) := by
  unfold momF
  by_cases hd : kd ≠ 2 ∧ (dayC F.y F.mo F.d).2 ≠ 0
  · rw [if_pos hd]
  · rw [if_neg hd, if_pos h]
theorem momF_day (kd : Nat) (F : Fl) (hk : kd ≠ 2) (h : (dayC F.y F.mo F.d).2 ≠ 0) : momF kd F = (tmZ, 2) := by
  unfold momF
  rw [if_pos ⟨hk, h⟩]
theorem momF_ok (kd : Nat) (F : Fl) (hk : kd = 2 ∨ (dayC F.y F.mo F.d).2 = 0) (h : badF F = false) : momF kd F = ([.int .i64 (kd : Int), .int .i64 ((if kd = 2 then 0 else (dayC F.y F.mo F.d).1 : Nat) : Int), .int .i64 (nanoF F : Int), .int .i64 (offF F)], 0) := by
  have h1 : ¬ (kd ≠ 2 ∧ (dayC F.y F.mo F.d).2 ≠ 0) := fun h => hk.elim h.1 h.2
  have h2 : ¬ (badF F = true) := by rw [h]; decide
  unfold momF
  rw [if_neg h1, if_neg h2]
theorem clkF_bad {f F : Fl} {c : Nat × List UInt8 × Bool × Bool} (h : ClkF f c F) : badF F = !c.2.2.2 := by
  obtain ⟨-, -, -, -, hb, h1, h2, -⟩ := h
  cases hi : c.2.2.2
  · have := hb.mpr hi
    exact (badF_iff F).mpr (by omega)
  · cases hx : badF F
    · rfl
    · exfalso
      rw [badF_iff] at hx
      have hno : ¬ (23 < F.ho ∨ 59 < F.mi ∨ 59 < F.se) := fun h => by rw [hb.mp h] at hi; cases hi
      omega
theorem clkF_off {f F : Fl} {c : Nat × List UInt8 × Bool × Bool} (h : ClkF f c F) : offF F = 0 := by
  obtain ⟨-, -, -, -, -, h1, h2, h3⟩ := h
  unfold offF
  rw [h1, h2, h3]
  rfl
/-- A clock alone. -/
theorem mom2 (c : Nat × List UInt8 × Bool × Bool) (F : Fl) (h : ClkF fl0 c F) (hk : c.2.2.1 = true) (he : c.2.1 = []) : momF 2 F = clockR c := by
  have eA : clockR c = if c.2.2.2 = false then (tmZ, 2) else (tmV 2 0 (c.1 : Nat) 0, 0) := if_neg (fun h => h.elim (fun h => by rw [hk] at h; cases h) (fun h => h he))
  have hb := clkF_bad h
  rw [eA]
  cases hi : c.2.2.2
  · rw [hi] at hb
    rw [if_pos rfl]
    exact momF_no 2 F hb
  · rw [hi] at hb
    rw [if_neg (show ¬ (true = false) by decide), momF_ok 2 F (.inl rfl) hb, clkF_off h, h.2.2.2.1]
    rfl
theorem mom3 (f : Fl) (c : Nat × List UInt8 × Bool × Bool) (F : Fl) (h : ClkF f c F) (hk : c.2.2.1 = true) (he : c.2.1 = []) : momF 3 F = afterR (dayC f.y f.mo f.d) c := by
  have eA : afterR (dayC f.y f.mo f.d) c = if (dayC f.y f.mo f.d).2 ≠ 0 ∨ c.2.2.2 = false then (tmZ, 2) else (tmV 3 ((dayC f.y f.mo f.d).1 : Nat) (c.1 : Nat) 0, 0) := by
    unfold afterR
    rw [if_neg (by rw [hk]; decide), if_pos he]
  have eD : dayC F.y F.mo F.d = dayC f.y f.mo f.d := by rw [h.1, h.2.1, h.2.2.1]
  have hb := clkF_bad h
  rw [eA]
  by_cases hd : (dayC f.y f.mo f.d).2 = 0
  · cases hi : c.2.2.2
    · rw [hi] at hb
      rw [if_pos (.inr rfl)]
      exact momF_no 3 F hb
    · rw [hi] at hb
      have hn : ¬ ((dayC f.y f.mo f.d).2 ≠ 0 ∨ true = false) := fun h => h.elim (fun h => h hd) (fun h => by cases h)
      rw [if_neg hn, momF_ok 3 F (.inr (by rw [eD]; exact hd)) hb, clkF_off h, h.2.2.2.1, eD]
      rfl
  · rw [if_pos (.inl hd)]
    exact momF_day 3 F (by decide) (by rw [eD]; exact hd)
theorem mom4 (f : Fl) (c : Nat × List UInt8 × Bool × Bool) (F G : Fl) (h : ClkF f c F) (hk : c.2.2.1 = true) (he : c.2.1 ≠ []) (hr : toR c.2.1 = (offF G, true, decide (G.oh ≤ 23 ∧ G.om ≤ 59))) (hG : ∃ x y z, G = { F with sg := x, oh := y, om := z }) : momF 4 G = afterR (dayC f.y f.mo f.d) c := by
  have eA : afterR (dayC f.y f.mo f.d) c = if (dayC f.y f.mo f.d).2 ≠ 0 ∨ (c.2.2.2 && decide (G.oh ≤ 23 ∧ G.om ≤ 59)) = false then (tmZ, 2) else (tmV 4 ((dayC f.y f.mo f.d).1 : Nat) (c.1 : Nat) (offF G), 0) := by
    unfold afterR
    rw [if_neg (show ¬ c.2.2.1 = false by rw [hk]; decide), if_neg he, hr, if_neg (show ¬ (true = false) by decide)]
  have hb := clkF_bad h
  obtain ⟨e1, e2, e3, hn, hbb, h1, h2, h3⟩ := h
  obtain ⟨g1, g2, g3, g4, g5, g6, g7⟩ : G.y = F.y ∧ G.mo = F.mo ∧ G.d = F.d ∧ nanoF G = nanoF F ∧ G.ho = F.ho ∧ G.mi = F.mi ∧ G.se = F.se := by
    obtain ⟨x, y, z, rfl⟩ := hG
    exact ⟨rfl, rfl, rfl, rfl, rfl, rfl, rfl⟩
  have eD : dayC G.y G.mo G.d = dayC f.y f.mo f.d := by rw [g1, g2, g3, e1, e2, e3]
  have hbG : badF G = !(c.2.2.2 && decide (G.oh ≤ 23 ∧ G.om ≤ 59)) := by
    have hx := badF_iff G
    rw [g5, g6, g7] at hx
    cases hi : c.2.2.2
    · have := hbb.mpr hi
      exact hx.mpr (by omega)
    · have hno : ¬ (23 < F.ho ∨ 59 < F.mi ∨ 59 < F.se) := fun h => by rw [hbb.mp h] at hi; cases hi
      by_cases ho : G.oh ≤ 23 ∧ G.om ≤ 59
      · rw [decide_eq_true ho]
        show badF G = false
        cases hy : badF G
        · rfl
        · have := hx.mp hy
          omega
      · rw [decide_eq_false ho]
        exact hx.mpr (by omega)
  rw [eA]
  by_cases hd : (dayC f.y f.mo f.d).2 = 0
  · cases hi : (c.2.2.2 && decide (G.oh ≤ 23 ∧ G.om ≤ 59))
    · rw [hi] at hbG
      rw [if_pos (.inr rfl)]
      exact momF_no 4 G hbG
    · rw [hi] at hbG
      have hn' : ¬ ((dayC f.y f.mo f.d).2 ≠ 0 ∨ true = false) := fun h => h.elim (fun h => h hd) (fun h => by cases h)
      rw [if_neg hn', momF_ok 4 G (.inr (by rw [eD]; exact hd)) hbG, g4, hn, eD]
      rfl
  · rw [if_pos (.inl hd)]
    exact momF_day 4 G (by decide) (by rw [eD]; exact hd)
end Go.Proofs.YtgddhkanfcpipaaGreatDoor

namespace Go.Proofs.YtgddhkanfcpipaaGreatDoor
open Go.RowKit
set_option maxHeartbeats 1000000
set_option maxRecDepth 100000

theorem form_clk (x : ByteArray × Bool) (f : Fl) (h : (L x.1)[2]? = some 58) : formS x f = (2, clockS x f) := by
  unfold formS
  rw [if_pos h]
theorem form_one (x : ByteArray × Bool) (f : Fl) (h : (L x.1)[2]? ≠ some 58) (h0 : L (dateS x f).1.1 = []) : formS x f = (1, dateS x f) := by
  unfold formS
  rw [if_neg h, if_pos h0]
theorem form_three (x : ByteArray × Bool) (f : Fl) (h : (L x.1)[2]? ≠ some 58) (h0 : L (dateS x f).1.1 ≠ []) (h1 : L (clockS (oneS sepT (dateS x f).1).2 (dateS x f).2).1.1 = []) : formS x f = (3, (clockS (oneS sepT (dateS x f).1).2 (dateS x f).2)) := by
  unfold formS
  rw [if_neg h, if_neg h0, if_pos h1]
theorem form_four (x : ByteArray × Bool) (f : Fl) (h : (L x.1)[2]? ≠ some 58) (h0 : L (dateS x f).1.1 ≠ []) (h1 : L (clockS (oneS sepT (dateS x f).1).2 (dateS x f).2).1.1 ≠ []) : formS x f = (4, offS (clockS (oneS sepT (dateS x f).1).2 (dateS x f).2).1 (clockS (oneS sepT (dateS x f).1).2 (dateS x f).2).2) := by
  unfold formS
  rw [if_neg h, if_neg h0, if_neg h1]
theorem form_sep (x : ByteArray × Bool) (f : Fl) (h : (L x.1)[2]? ≠ some 58) (h0 : L (dateS x f).1.1 ≠ []) (hb : (clockS (oneS sepT (dateS x f).1).2 (dateS x f).2).1.2 = true) : (formS x f).2.1.2 = true := by
  have e3 := form_three x f h h0
  have e4 := form_four x f h h0
  generalize (clockS (oneS sepT (dateS x f).1).2 (dateS x f).2) = y at e3 e4 hb
  by_cases c2 : L y.1.1 = []
  · rw [e3 c2]
    exact hb
  · have hx := offS_bad y.1 y.2 hb
    have e := e4 c2
    generalize offS y.1 y.2 = z at e hx
    rw [e]
    exact hx
theorem form_bad (x : ByteArray × Bool) (f : Fl) (h : (L x.1)[2]? ≠ some 58) (hb : (dateS x f).1.2 = true) : (formS x f).2.1.2 = true := by
  by_cases c1 : L (dateS x f).1.1 = []
  · exact (congrArg (fun z => z.2.1.2) (form_one x f h c1)).trans hb
  · exact form_sep x f h c1 (clockS_bad _ _ (oneS_bad sepT _ hb))
theorem timB_bad (s : ByteArray) (h : (formS (s, false) fl0).2.1.2 = true) : timB s = false := by
  unfold timB
  rw [h, Bool.not_true, Bool.false_and]
theorem timB_of (s : ByteArray) (n : Nat) (y : (ByteArray × Bool) × Fl) (h : formS (s, false) fl0 = (n, y)) : timB s = (!y.1.2 && decide (L y.1.1 = [])) := by
  unfold timB
  rw [h]
def Res (s : ByteArray) : Prop := (timB s = false ∧ (rpR (L s)).2 = 3) ∨ (timB s = true ∧ momF (formS (s, false) fl0).1 (formS (s, false) fl0).2.2 = rpR (L s))
theorem res_no (s : ByteArray) (hl : likeB (L s) (L datF) = false) : Res s := by
  have hr : rpR (L s) = clockR (tcR (L s)) := if_pos hl
  unfold Res
  rw [hr]
  by_cases h58 : (L s)[2]? = some 58
  · have hf := form_clk (s, false) fl0 h58
    obtain ⟨g0, g1⟩ := clk s fl0 rfl rfl rfl rfl
    cases hk : (tcR (L s)).2.2.1
    · refine .inl ⟨timB_bad s (by rw [hf]; exact g0 hk), ?_⟩
      unfold clockR
      rw [if_pos (.inl hk)]
    · obtain ⟨s', e1, e2, e3⟩ := g1 hk
      have ht := timB_of s 2 _ hf
      rw [e2] at ht
      dsimp only at ht
      rw [e1] at ht
      by_cases he : (tcR (L s)).2.1 = []
      · rw [decide_eq_true he] at ht
        refine .inr ⟨ht, ?_⟩
        rw [hf]
        exact mom2 _ _ e3 hk he
      · rw [decide_eq_false he] at ht
        refine .inl ⟨ht, ?_⟩
        unfold clockR
        rw [if_pos (.inr he)]
  · refine .inl ⟨timB_bad s (form_bad (s, false) fl0 h58 (date_no s fl0 hl)), ?_⟩
    have hh : likeB (L s) (L hmsF) = false := by
      cases hx : likeB (L s) (L hmsF)
      · rfl
      · exact absurd (hms_digs _ hx).2.2.2.2.1 h58
    have ht : tcR (L s) = noC := if_pos hh
    rw [ht]
    rfl
theorem dat_58 (l : List UInt8) (h : likeB l (L datF) = true) : l[2]? ≠ some 58 := by
  obtain ⟨h10, d1, -⟩ := dat_digs l h
  match l, h10 with
  | a0 :: a1 :: a2 :: a3 :: t, _ =>
    intro hx
    have : a2 = 58 := by simpa using hx
    subst this
    simp [dig] at d1
theorem sep_has (b : UInt8) : (L sepT).contains b = true ↔ (b.toNat = 84 ∨ b.toNat = 116 ∨ b.toNat = 32) := by
  have e : L sepT = [84, 116, 32] := rfl
  rw [e]
  constructor
  · intro hx
    have : b = 84 ∨ b = 116 ∨ b = 32 := by simpa using hx
    rcases this with rfl | rfl | rfl
    · exact .inl rfl
    · exact .inr (.inl rfl)
    · exact .inr (.inr rfl)
  · intro hx
    have : b = 84 ∨ b = 116 ∨ b = 32 := hx.imp (fun h => UInt8.toNat_inj.mp h) (fun h => h.imp (fun h => UInt8.toNat_inj.mp h) (fun h => UInt8.toNat_inj.mp h))
    rcases this with rfl | rfl | rfl <;> rfl
theorem res_yes (s : ByteArray) (hl : likeB (L s) (L datF) = true) : Res s := by
  have h58 := dat_58 _ hl
  have hd := date_ok s fl0 hl
  obtain ⟨F, hF⟩ : ∃ F : Fl, F = { fl0 with y := valL 0 ((L s).take 4), mo := valL 0 (((L s).drop 5).take 2), d := valL 0 (((L s).drop 8).take 2) } := ⟨_, rfl⟩
  rw [← hF] at hd
  have hr : rpR (L s) = datedR (dayC F.y F.mo F.d) ((L s).drop 10) := by
    unfold rpR
    rw [if_neg (by rw [hl]; decide), hF]
  obtain ⟨hz1, hz2, hz3, hz4⟩ : F.na = 0 ∧ F.oh = 0 ∧ F.om = 0 ∧ F.sg = 0 := by rw [hF]; exact ⟨rfl, rfl, rfl, rfl⟩
  have hzz : badF F = false ∧ nanoF F = 0 ∧ offF F = 0 := by
    obtain ⟨z1, z2, z3, z4, z5, z6, z7⟩ : F.ho = 0 ∧ F.mi = 0 ∧ F.se = 0 ∧ F.oh = 0 ∧ F.om = 0 ∧ F.na = 0 ∧ F.sg = 0 := by rw [hF]; exact ⟨rfl, rfl, rfl, rfl, rfl, rfl, rfl⟩
    clear hF
    refine ⟨?_, ?_, ?_⟩
    · unfold badF
      rw [z1, z2, z3, z4, z5]
      rfl
    · unfold nanoF
      rw [z1, z2, z3, z6]
    · unfold offF
      rw [z4, z5, z7]
      rfl
  clear hF
  have hL : L (s.extract 10 s.size) = (L s).drop 10 := L_from _ _
  unfold Res
  rw [hr]
  cases h10 : (L s).drop 10 with
  | nil =>
    rw [h10] at hL
    have hf : formS (s, false) fl0 = (1, (s.extract 10 s.size, false), F) := by
      unfold formS
      rw [if_neg h58, hd, if_pos hL]
    have ht := timB_of s 1 _ hf
    dsimp only at ht
    rw [decide_eq_true hL] at ht
    refine .inr ⟨ht, ?_⟩
    rw [hf]
    show momF 1 F = if (dayC F.y F.mo F.d).2 ≠ 0 then (tmZ, (dayC F.y F.mo F.d).2) else (tmV 1 ((dayC F.y F.mo F.d).1 : Nat) 0 0, 0)
    by_cases h0 : (dayC F.y F.mo F.d).2 = 0
    · rw [if_neg (fun h => h h0), momF_ok 1 F (.inr h0) hzz.1, hzz.2.1, hzz.2.2]
      rfl
    · rw [if_pos h0, momF_day 1 F (by decide) h0]
      unfold dayC at h0 ⊢
      split
      · rfl
      · rename_i hx
        rw [if_neg hx] at h0
        exact absurd rfl h0
  | cons b t =>
    have hne : L (dateS (s, false) fl0).1.1 ≠ [] := by rw [hd]; dsimp only; rw [hL, h10]; exact fun h => by cases h
    have h0 : (L s)[10]? = some b := by
      have : ((L s).drop 10)[0]? = some b := by rw [h10]; rfl
      rwa [List.getElem?_drop] at this
    by_cases hs : b.toNat = 84 ∨ b.toNat = 116 ∨ b.toNat = 32
    · have ho := one_at sepT s 10 b h0 ((sep_has b).mpr hs)
      have hdr : datedR (dayC F.y F.mo F.d) (b :: t) = afterR (dayC F.y F.mo F.d) (tcR t) := if_pos hs
      have hLt : L (s.extract (10 + 1) s.size) = t := by
        rw [L_from, ← List.drop_drop, h10]
        rfl
      rw [hdr]
      have hcl : clockS (oneS sepT (dateS (s, false) fl0).1).2 (dateS (s, false) fl0).2 = clockS (s.extract (10 + 1) s.size, false) F := by rw [hd, ho]
      obtain ⟨g0, g1⟩ := clk (s.extract (10 + 1) s.size) F hz1 hz2 hz3 hz4
      rw [hLt] at g0 g1
      cases hk : (tcR t).2.2.1
      · refine .inl ⟨timB_bad s (form_sep (s, false) fl0 h58 hne (by rw [hcl]; exact g0 hk)), ?_⟩
        unfold afterR
        rw [if_pos hk]
      · obtain ⟨s', e1, e2, e3⟩ := g1 hk
        by_cases he : (tcR t).2.1 = []
        · have hf : formS (s, false) fl0 = (3, clockS (s.extract (10 + 1) s.size, false) F) := by
            unfold formS
            rw [if_neg h58, if_neg hne, hcl, if_pos (by rw [e2]; exact e1.trans he)]
          have ht := timB_of s 3 _ hf
          rw [e2] at ht
          dsimp only at ht
          rw [e1, decide_eq_true he] at ht
          refine .inr ⟨ht, ?_⟩
          rw [hf]
          exact mom3 F _ _ e3 hk he
        · have hf : formS (s, false) fl0 = (4, offS (s', false) (clockS (s.extract (10 + 1) s.size, false) F).2) := by
            unfold formS
            rw [if_neg h58, if_neg hne, hcl, if_neg (by rw [e2]; exact fun h => he (e1.symm.trans h)), e2]
          have ht := timB_of s 4 _ hf
          have hoe := off_toR s' (clockS (s.extract (10 + 1) s.size, false) F).2 e3.2.2.2.2.2.1 e3.2.2.2.2.2.2.1 (by rw [e1]; exact he)
          rw [e1] at hoe
          have hkp := off_keep (s', false) (clockS (s.extract (10 + 1) s.size, false) F).2
          generalize hY : offS (s', false) (clockS (s.extract (10 + 1) s.size, false) F).2 = Y at *
          unfold offEnd at hoe
          by_cases hok : Y.1.2 = false ∧ L Y.1.1 = []
          · rw [if_pos hok] at hoe
            refine .inr ⟨?_, ?_⟩
            · rw [ht, hok.1, decide_eq_true hok.2]
              rfl
            · rw [hf]
              exact mom4 F _ _ Y.2 e3 hk he hoe.symm hkp
          · rw [if_neg hok] at hoe
            refine .inl ⟨?_, ?_⟩
            · rw [ht]
              cases hb : Y.1.2
              · rw [decide_eq_false (fun h => hok ⟨hb, h⟩)]
                rfl
              · rfl
            · unfold afterR
              rw [if_neg (by rw [hk]; decide), if_neg he, ← hoe, if_pos rfl]
    · have ho : (oneS sepT (s.extract 10 s.size, false)).2.2 = true := one_bad_at sepT s 10 (fun c hc => by
        rw [h0] at hc
        have := Option.some.inj hc
        subst this
        cases hx : (L sepT).contains b
        · rfl
        · exact absurd ((sep_has b).mp hx) hs)
      refine .inl ⟨timB_bad s (form_sep (s, false) fl0 h58 hne (clockS_bad _ _ (by rw [hd]; exact ho))), ?_⟩
      show (if b.toNat = 84 ∨ b.toNat = 116 ∨ b.toNat = 32 then afterR (dayC F.y F.mo F.d) (tcR t) else (tmZ, 3)).2 = 3
      rw [if_neg hs]
/-- Both parsers answer alike. -/
theorem par_same (s : ByteArray) : Res s := by
  cases hl : likeB (L s) (L datF)
  · exact res_no s hl
  · exact res_yes s hl
end Go.Proofs.YtgddhkanfcpipaaGreatDoor
