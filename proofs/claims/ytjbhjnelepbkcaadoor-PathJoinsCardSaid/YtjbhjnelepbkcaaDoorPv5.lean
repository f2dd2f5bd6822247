/- The packages path and datakitref08, walked: Cmp. Conditions: none. -/
import Derived.Test.YtjbhjnelepbkcaaDoorPv4
namespace Go.Proofs.YtjbhjnelepbkcaaDoor
open Go.RowKit
set_option maxHeartbeats 1000000
set_option maxRecDepth 100000

def cmpI (x y : Int) : Int := if x < y then -1 else if y < x then 1 else 0
theorem isNaN_int_any (x : Int) (w : World) : Calls Tryd.prog 55 #[.int .i64 x] w fun e w' => e = .returned (.bool false) ∧ w = w' := by
  have h : (x != x) = false := by simp
  go_enter Tryd.func55, Tryd.ntmps55
  go_wp2_with fail
  go_ret
  exact ⟨rfl, rfl⟩
theorem Compare_int_any (x y : Int) (w : World) : Calls Tryd.prog 40 #[.int .i64 x, .int .i64 y] w fun e w' => e = .returned (.int .i64 (cmpI x y)) ∧ w = w' := by
  by_cases h1 : x < y
  · have HF : Hid (cmpI x y = -1) := by unfold Hid cmpI; rw [if_pos h1]
    go_enter Tryd.func40, Tryd.ntmps40
    go_wp2_with ((with_reducible refine (isNaN_int_any _ _).mono ?_); rintro e w' ⟨rfl, rfl⟩)
    go_ret
    exact ⟨by rw [HF.out]; rfl, rfl⟩
  by_cases h2 : y < x
  · have HF : Hid (cmpI x y = 1) := by unfold Hid cmpI; rw [if_neg h1, if_pos h2]
    go_enter Tryd.func40, Tryd.ntmps40
    go_wp2_with ((with_reducible refine (isNaN_int_any _ _).mono ?_); rintro e w' ⟨rfl, rfl⟩)
    go_ret
    exact ⟨by rw [HF.out]; rfl, rfl⟩
  · have HF : Hid (cmpI x y = 0) := by unfold Hid cmpI; rw [if_neg h1, if_neg h2]
    go_enter Tryd.func40, Tryd.ntmps40
    go_wp2_with ((with_reducible refine (isNaN_int_any _ _).mono ?_); rintro e w' ⟨rfl, rfl⟩)
    go_ret
    exact ⟨by rw [HF.out]; rfl, rfl⟩
theorem isNaN_string_any (x : ByteArray) (w : World) : Calls Tryd.prog 56 #[.string x] w fun e w' => e = .returned (.bool false) ∧ w = w' := by
  go_enter Tryd.func56, Tryd.ntmps56
  go_wp2_with fail
  go_ret
  exact ⟨rfl, rfl⟩
def cmpS (x y : ByteArray) : Int := if Op.bytesLess x.toList y.toList = true then -1 else if x = y then 0 else 1
theorem toList_ne {x y : ByteArray} : (x.toList == y.toList) = decide (x = y) := by
  rw [toList_L, toList_L]
  by_cases h : x = y
  · subst h; simp
  · rw [decide_eq_false h, beq_eq_false_iff_ne]
    exact fun h' => h (L_inj h')
theorem Compare_string_any (x y : ByteArray) (w : World) : Calls Tryd.prog 41 #[.string x, .string y] w fun e w' => e = .returned (.int .i64 (cmpS x y)) ∧ w = w' := by
  cases h1 : Op.bytesLess x.toList y.toList
  · by_cases h2 : x = y
    · have HF : Hid (cmpS x y = 0) := by unfold Hid cmpS; rw [h1, if_neg (by simp), if_pos h2]
      have h3 : (x.toList == y.toList) = true := by rw [toList_ne]; exact decide_eq_true h2
      clear h2
      go_enter Tryd.func41, Tryd.ntmps41
      go_wp2_with ((with_reducible refine (isNaN_string_any _ _).mono ?_); rintro e w' ⟨rfl, rfl⟩)
      go_ret
      exact ⟨by rw [HF.out]; rfl, rfl⟩
    · have HF : Hid (cmpS x y = 1) := by unfold Hid cmpS; rw [h1, if_neg (by simp), if_neg h2]
      have h3 : (x.toList == y.toList) = false := by rw [toList_ne]; exact decide_eq_false h2
      clear h2
      go_enter Tryd.func41, Tryd.ntmps41
      go_wp2_with ((with_reducible refine (isNaN_string_any _ _).mono ?_); rintro e w' ⟨rfl, rfl⟩)
      go_ret
      exact ⟨by rw [HF.out]; rfl, rfl⟩
  · have HF : Hid (cmpS x y = -1) := by unfold Hid cmpS; rw [h1, if_pos rfl]
    go_enter Tryd.func41, Tryd.ntmps41
    go_wp2_with ((with_reducible refine (isNaN_string_any _ _).mono ?_); rintro e w' ⟨rfl, rfl⟩)
    go_ret
    exact ⟨by rw [HF.out]; rfl, rfl⟩

def stepC (s t : St) : Int := if s.1 && t.1 then cmpI s.2.2 t.2.2 else if s.1 then -1 else if t.1 then 1 else cmpS s.2.1 t.2.1
def cmpP : List St → List St → Int
  | x :: a, y :: b => if x = y then cmpP a b else stepC x y
  | a, b => cmpI a.length b.length
theorem cmpP_drop (l m : List St) (k : Nat) (h1 : k < l.length) (h2 : k < m.length) : cmpP (l.drop k) (m.drop k) = if l[k] = m[k] then cmpP (l.drop (k + 1)) (m.drop (k + 1)) else stepC l[k] m[k] := by
  rw [List.drop_eq_getElem_cons h1, List.drop_eq_getElem_cons h2]
  rfl
theorem cmpP_end (l m : List St) (k : Nat) (h : k = l.length ∧ k ≤ m.length ∨ k = m.length ∧ k ≤ l.length) : cmpP (l.drop k) (m.drop k) = cmpI l.length m.length := by
  have e : cmpP (l.drop k) (m.drop k) = cmpI (l.drop k).length (m.drop k).length := by
    rcases h with ⟨h, _⟩ | ⟨h, _⟩
    · rw [List.drop_of_length_le (l := l) (by omega)]
      cases m.drop k <;> rfl
    · rw [List.drop_of_length_le (l := m) (by omega)]
      cases l.drop k <;> rfl
  have e2 : ∀ x y : Int, cmpI (x - k) (y - k) = cmpI x y := by
    intro x y
    unfold cmpI
    repeat' split
    all_goals omega
  rw [e, List.length_drop, List.length_drop, Int.ofNat_sub (by omega), Int.ofNat_sub (by omega), e2]
theorem PCmp_any (v u : Value) (l m : List St) (w : World) (hv : Rd w v l) (hu : Rd w u m) :
    Calls Tryd.prog 26 #[v, u] w fun e w' => e = .returned (.int .i64 (cmpP l m)) ∧ Below w.heap.size w w' := by
  obtain ⟨a, cap, rfl, hcap, hmax, _, hl⟩ := hv
  obtain ⟨b, cap', rfl, hcap', hmax', _, hm⟩ := hu
  simp only [maxLen] at hmax hmax'
  have HL := Lib.hid hl; clear hl
  have HM := Lib.hid hm; clear hm
  go_enter Tryd.func26, Tryd.ntmps26
  go_wp2_with fail
  all_goals
    go_loopw [5, 6, 7, 13] (fun _ _ _ n wr => ∃ k : Nat, k ≤ l.length ∧ k ≤ m.length ∧ n = .int .i64 k ∧ Hid (cmpP l m = cmpP (l.drop k) (m.drop k)) ∧ Below w.heap.size w wr) (fun _ _ _ n _ => l.length - (intOf n).toNat)
    case atStart => exact ⟨0, by omega, by omega, rfl, by unfold Hid; simp, Below.refl _ _⟩
    case round =>
      obtain ⟨k, hk, hk', rfl, HR, hbw⟩ := hrel
      by_cases hlt : k < l.length ∧ k < m.length
      case neg =>
        have HF : Hid (cmpP l m = cmpI l.length m.length) := by unfold Hid; rw [HR.out, cmpP_end l m k (by omega)]
        clear HR
        go_wp2_with fail
        refine (Compare_int_any _ _ _).mono ?_
        rintro e w1 ⟨rfl, rfl⟩
        go_wp2_with fail
        go_ret
        exact ⟨by rw [HF.out]; rfl, hbw⟩
      obtain ⟨hl1, hm1⟩ := hlt
      obtain ⟨g, o, rfl, hg, hat⟩ := HL.out (by intro h; subst h; simp at hl1)
      obtain ⟨g', o', rfl, hg', hat'⟩ := HM.out (by intro h; subst h; simp at hm1)
      obtain ⟨c0, c1, c2⟩ := hat k hl1
      obtain ⟨d0, d1, d2⟩ := hat' k hm1
      have HS : Hid (cmpP l m = if l[k] = m[k] then cmpP (l.drop (k + 1)) (m.drop (k + 1)) else stepC l[k] m[k]) := by unfold Hid; rw [HR.out, cmpP_drop l m k hl1 hm1]
      clear HR hat hat'
      rw [← hbw.cell (p := ⟨g, o + k * 3, none⟩) hg] at c0
      rw [← hbw.cell (p := ⟨g, o + k * 3 + 1, none⟩) hg] at c1
      rw [← hbw.cell (p := ⟨g, o + k * 3 + 2, none⟩) hg] at c2
      rw [← hbw.cell (p := ⟨g', o' + k * 3, none⟩) hg'] at d0
      rw [← hbw.cell (p := ⟨g', o' + k * 3 + 1, none⟩) hg'] at d1
      rw [← hbw.cell (p := ⟨g', o' + k * 3 + 2, none⟩) hg'] at d2
      have hsz := hbw.size
      generalize l[k] = s at *
      generalize m[k] = t at *
      obtain ⟨x0, x1, x2⟩ := s
      obtain ⟨y0, y1, y2⟩ := t
      simp only [] at c0 c1 c2 d0 d1 d2
      have hg1 : g < wr.heap.size := by omega
      have hg1' : g' < wr.heap.size := by omega
      have hBE : ∀ A B : Obj, Below w.heap.size w ((wr.alloc A).alloc B).drew := fun A B => ((hbw.alloc hsz A).alloc (by simp; omega) B).drew
      have HBE := Lib.hid hBE
      clear hBE hbw
      by_cases he : (x0, x1, x2) = (y0, y1, y2)
      · have HF : Hid (cmpP l m = cmpP (l.drop (k + 1)) (m.drop (k + 1))) := by unfold Hid; rw [HS.out, if_pos he]
        have hq : ∀ w', (Op.equalIn 10000 26 (.agg #[.bool x0, .string x1, .int .i64 x2]) (.agg #[.bool y0, .string y1, .int .i64 y2])).run Tryd.prog w' = .ok true w' := fun w' => by rw [eqIn_step, decide_eq_true he]
        clear HS he
        go_wp2_with fail
        go_region
        all_goals
          go_wp2_with fail
          exact ⟨⟨k + 1, by omega, by omega, rfl, HF, HBE.out _ _⟩, by simp [intOf]; omega⟩
      have HF : Hid (cmpP l m = stepC (x0, x1, x2) (y0, y1, y2)) := by unfold Hid; rw [HS.out, if_neg he]
      have hq : ∀ w', (Op.equalIn 10000 26 (.agg #[.bool x0, .string x1, .int .i64 x2]) (.agg #[.bool y0, .string y1, .int .i64 y2])).run Tryd.prog w' = .ok false w' := fun w' => by rw [eqIn_step, decide_eq_false he]
      clear HS he
      cases x0 <;> cases y0
      all_goals
        go_wp2_with fail
        go_region
        all_goals
          go_wp2_with (first | (go_at_call 41; refine (Compare_string_any _ _ _).mono ?_; rintro e w1 ⟨rfl, rfl⟩) | (go_at_call 40; refine (Compare_int_any _ _ _).mono ?_; rintro e w1 ⟨rfl, rfl⟩))
          go_ret
          exact ⟨by rw [HF.out]; rfl, HBE.out _ _⟩
end Go.Proofs.YtjbhjnelepbkcaaDoor
