/- The package datakitref08, walked: steps, Cmp. Conditions: none. -/
import Derived.Test.YtjbhjnelepbkcaaDoorPv5
import Derived.StillTailTactics
namespace Go.Proofs.YtjbhjnelepbkcaaDoor
open Go.RowKit
set_option maxHeartbeats 1000000
set_option maxRecDepth 100000

def stV (s : St) : Value := .agg #[.bool s.1, .string s.2.1, .int .i64 s.2.2]
def stepsR (s t : St) : Int := if s = t then 0 else
  if s.1 then (if t.1 then (if s.2.2 < t.2.2 then -1 else 1) else -1) else (if t.1 then 1 else if Op.bytesLess s.2.1.toList t.2.1.toList = true then -1 else 1)
theorem steps_any (s t : St) (w : World) :
    Calls Tryd.prog 42 #[stV s, stV t] w fun e w' => e = .returned (.int .i64 (stepsR s t)) ∧ Below w.heap.size w w' := by
  obtain ⟨x0, x1, x2⟩ := s
  obtain ⟨y0, y1, y2⟩ := t
  simp only [stV]
  have hBE : ∀ A B : Obj, Below w.heap.size w ((w.alloc A).alloc B) := fun A B => (((Below.refl _ w).alloc (Nat.le_refl _) A).alloc (by simp) B)
  have HBE := Lib.hid hBE
  clear hBE
  by_cases he : (x0, x1, x2) = (y0, y1, y2)
  · have HF : Hid (stepsR (x0, x1, x2) (y0, y1, y2) = 0) := by unfold Hid stepsR; rw [if_pos he]
    have hq : ∀ w', (Op.equalIn 10000 26 (.agg #[.bool x0, .string x1, .int .i64 x2]) (.agg #[.bool y0, .string y1, .int .i64 y2])).run Tryd.prog w' = .ok true w' := fun w' => by rw [eqIn_step, decide_eq_true he]
    clear he
    go_enter Tryd.func42, Tryd.ntmps42
    go_wp2_with fail
    go_ret
    exact ⟨by rw [HF.out]; rfl, HBE.out _ _⟩
  have hq : ∀ w', (Op.equalIn 10000 26 (.agg #[.bool x0, .string x1, .int .i64 x2]) (.agg #[.bool y0, .string y1, .int .i64 y2])).run Tryd.prog w' = .ok false w' := fun w' => by rw [eqIn_step, decide_eq_false he]
  have HS : Hid (stepsR (x0, x1, x2) (y0, y1, y2) = if x0 then (if y0 then (if x2 < y2 then -1 else 1) else -1) else (if y0 then 1 else if Op.bytesLess x1.toList y1.toList = true then -1 else 1)) := by unfold Hid stepsR; rw [if_neg he]
  clear he
  by_cases hi : x2 < y2 <;> cases hb : Op.bytesLess x1.toList y1.toList <;> cases x0 <;> cases y0
  all_goals
    go_enter Tryd.func42, Tryd.ntmps42
    go_wp2_with fail
    go_ret
    exact ⟨by rw [HS.out]; simp [hi, hb], HBE.out _ _⟩
def cmpR : List St → List St → Int
  | x :: a, y :: b => if stepsR x y = 0 then cmpR a b else stepsR x y
  | a, b => cmpI a.length b.length
theorem bytesLess_irr (l : List UInt8) : Op.bytesLess l l = false := by
  induction l with
  | nil => rfl
  | cons b l ih => simp [Op.bytesLess, ih]
theorem steps_ok (s t : St) (hs : okSt s = true) (ht : okSt t = true) (h : s ≠ t) : stepsR s t = stepC s t ∧ stepC s t ≠ 0 := by
  obtain ⟨x0, x1, x2⟩ := s
  obtain ⟨y0, y1, y2⟩ := t
  unfold stepsR stepC
  rw [if_neg h]
  cases x0 <;> cases y0 <;> simp only [okSt_true, okSt_false, decide_eq_true_eq] at hs ht
  · obtain ⟨rfl, _⟩ := hs
    obtain ⟨rfl, _⟩ := ht
    have hne : x1 ≠ y1 := fun e => h (by rw [e])
    simp only [Bool.false_and, Bool.false_eq_true, if_false, cmpS, if_neg hne]
    cases Op.bytesLess x1.toList y1.toList <;> simp
  · simp
  · simp
  · have e1 : x1 = ⟨#[]⟩ := L_inj (List.length_eq_zero_iff.1 (by rw [L_len]; exact hs.1))
    have e2 : y1 = ⟨#[]⟩ := L_inj (List.length_eq_zero_iff.1 (by rw [L_len]; exact ht.1))
    have hne : x2 ≠ y2 := fun e => h (by rw [e, e1, e2])
    simp only [Bool.and_self, if_true, cmpI]
    by_cases h1 : x2 < y2
    · simp [h1]
    · have h2 : y2 < x2 := by omega
      simp [h1, h2]
theorem cmp_same : ∀ (l m : List St), l.all okSt = true → m.all okSt = true → cmpR l m = cmpP l m
  | [], m, _, _ => by cases m <;> rfl
  | x :: a, [], _, _ => rfl
  | x :: a, y :: b, hl, hm => by
    simp only [List.all_cons, Bool.and_eq_true] at hl hm
    have ih := cmp_same a b hl.2 hm.2
    show (if stepsR x y = 0 then cmpR a b else stepsR x y) = if x = y then cmpP a b else stepC x y
    by_cases he : x = y
    · subst he
      rw [if_pos rfl, if_pos (by unfold stepsR; rw [if_pos rfl]), ih]
    · obtain ⟨h1, h2⟩ := steps_ok x y hl.1 hm.1 he
      rw [if_neg he, if_neg (by rw [h1]; exact h2), h1]
theorem cmpR_drop (l m : List St) (k : Nat) (h1 : k < l.length) (h2 : k < m.length) : cmpR (l.drop k) (m.drop k) = if stepsR l[k] m[k] = 0 then cmpR (l.drop (k + 1)) (m.drop (k + 1)) else stepsR l[k] m[k] := by
  rw [List.drop_eq_getElem_cons h1, List.drop_eq_getElem_cons h2]
  rfl
theorem cmpR_end (l m : List St) (k : Nat) (h : k = l.length ∧ k ≤ m.length ∨ k = m.length ∧ k ≤ l.length) : cmpR (l.drop k) (m.drop k) = cmpI l.length m.length := by
  rw [← cmpP_end l m k h]
  rcases h with ⟨h, _⟩ | ⟨h, _⟩
  · rw [List.drop_of_length_le (l := l) (by omega)]
    cases m.drop k <;> rfl
  · rw [List.drop_of_length_le (l := m) (by omega)]
    cases l.drop k <;> rfl
theorem RCmp_any (v u : Value) (l m : List St) (w : World) (hv : Rd w v l) (hu : Rd w u m) :
    Calls Tryd.prog 27 #[v, u] w fun e w' => e = .returned (.int .i64 (cmpR l m)) ∧ Below w.heap.size w w' := by
  obtain ⟨a, cap, rfl, hcap, hmax, _, hl⟩ := hv
  obtain ⟨b, cap', rfl, hcap', hmax', _, hm⟩ := hu
  simp only [maxLen] at hmax hmax'
  have HL := Lib.hid hl; clear hl
  have HM := Lib.hid hm; clear hm
  go_enter Tryd.func27, Tryd.ntmps27
  go_wp2_with fail
  go_loopw [5, 6] (fun n _ wr => ∃ k : Nat, k ≤ l.length ∧ k ≤ m.length ∧ n = .int .i64 k ∧ Hid (cmpR l m = cmpR (l.drop k) (m.drop k)) ∧ Below w.heap.size w wr) (fun n _ _ => l.length - (intOf n).toNat)
  case atStart => exact ⟨0, by omega, by omega, rfl, by unfold Hid; simp, Below.refl _ _⟩
  case round =>
    obtain ⟨k, hk, hk', rfl, HR, hbw⟩ := hrel
    by_cases hlt : k < l.length ∧ k < m.length
    case neg =>
      have HF : Hid (cmpR l m = cmpI l.length m.length) := by unfold Hid; rw [HR.out, cmpR_end l m k (by omega)]
      clear HR
      go_wp2_with fail
      all_goals
        go_ret
        refine ⟨?_, hbw⟩
        rw [HF.out]
        unfold cmpI
        first
          | (rw [if_pos (by omega)]; rfl)
          | (rw [if_neg (by omega), if_pos (by omega)]; rfl)
          | (rw [if_neg (by omega), if_neg (by omega)]; rfl)
    obtain ⟨hl1, hm1⟩ := hlt
    obtain ⟨g, o, rfl, hg, hat⟩ := HL.out (by intro h; subst h; simp at hl1)
    obtain ⟨g', o', rfl, hg', hat'⟩ := HM.out (by intro h; subst h; simp at hm1)
    obtain ⟨c0, c1, c2⟩ := hat k hl1
    obtain ⟨d0, d1, d2⟩ := hat' k hm1
    have HS : Hid (cmpR l m = if stepsR l[k] m[k] = 0 then cmpR (l.drop (k + 1)) (m.drop (k + 1)) else stepsR l[k] m[k]) := by unfold Hid; rw [HR.out, cmpR_drop l m k hl1 hm1]
    clear HR hat hat'
    rw [← hbw.cell (p := ⟨g, o + k * 3, none⟩) hg] at c0
    rw [← hbw.cell (p := ⟨g, o + k * 3 + 1, none⟩) hg] at c1
    rw [← hbw.cell (p := ⟨g, o + k * 3 + 2, none⟩) hg] at c2
    rw [← hbw.cell (p := ⟨g', o' + k * 3, none⟩) hg'] at d0
    rw [← hbw.cell (p := ⟨g', o' + k * 3 + 1, none⟩) hg'] at d1
    rw [← hbw.cell (p := ⟨g', o' + k * 3 + 2, none⟩) hg'] at d2
    have hsz := hbw.size
    generalize l[k] = s at *
    generalize m[k] = t at *
    have HC := Lib.hid (fun w' => steps_any s t w')
    obtain ⟨x0, x1, x2⟩ := s
    obtain ⟨y0, y1, y2⟩ := t
    simp only [stV] at c0 c1 c2 d0 d1 d2 HC
    generalize stepsR (x0, x1, x2) (y0, y1, y2) = q at *
    go_wp2_with fail
    go_still_tail 8, (by kernel_rfl)
    have hbd : Below w.heap.size w wr.drew := ⟨hbw.os, hbw.tape, hbw.output, hbw.size, hbw.block⟩
    change wpList _ _ _ _ _ wr.drew
    clear c0 c1 c2 d0 d1 d2 hbw
    generalize wr.drew = w2 at *
    go_wp2_with fail
    refine (HC.out _).mono ?_
    rintro e w3 ⟨rfl, hb3⟩
    have hb3 : Below w.heap.size w w3 := hbd.trans (hb3.mono hbd.size)
    clear HC hbd
    by_cases hq : q = 0
    · have HF : Hid (cmpR l m = cmpR (l.drop (k + 1)) (m.drop (k + 1))) := by unfold Hid; rw [HS.out, if_pos hq]
      have hq' : (q != 0) = false := by rw [bne_eq_false_iff_eq]; exact hq
      clear HS hq
      go_wp2_with fail
      exact ⟨⟨k + 1, by omega, by omega, rfl, HF, hb3⟩, by simp [intOf]; omega⟩
    · have HF : Hid (cmpR l m = q) := by unfold Hid; rw [HS.out, if_neg hq]
      have hq' : (q != 0) = true := by rw [bne_iff_ne]; exact hq
      clear HS hq
      go_wp2_with fail
      go_ret
      exact ⟨by rw [HF.out]; rfl, hb3⟩
end Go.Proofs.YtjbhjnelepbkcaaDoor
