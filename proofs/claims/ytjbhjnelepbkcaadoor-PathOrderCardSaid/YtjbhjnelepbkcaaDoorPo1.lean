/- The order of paths is total: plain laws. Conditions: valid steps. -/
import Derived.Test.YtjbhjnelepbkcaaDoorPv6
import Derived.Test.YtjbhjnelepbkcaaDoorPa3
namespace Go.Proofs.YtjbhjnelepbkcaaDoor
open Go.RowKit
set_option maxHeartbeats 1000000
set_option maxRecDepth 100000

theorem bl_asymm : ∀ x y : List UInt8, Op.bytesLess x y = true → Op.bytesLess y x = false
  | [], [], h => by simp [Op.bytesLess] at h
  | _ :: _, [], h => by simp [Op.bytesLess] at h
  | [], _ :: _, _ => rfl
  | a :: x, b :: y, h => by
    simp only [Op.bytesLess, Bool.or_eq_true, decide_eq_true_eq, Bool.and_eq_true, beq_iff_eq] at h
    simp only [Op.bytesLess, Bool.or_eq_false_iff, decide_eq_false_iff_not, Bool.and_eq_false_iff, beq_eq_false_iff_ne]
    rcases h with h | ⟨rfl, h⟩
    · have h' : a.toNat < b.toNat := h
      exact ⟨fun h2 => by have h2' : b.toNat < a.toNat := h2; omega, .inl (fun e => by rw [e] at h'; omega)⟩
    · exact ⟨fun h2 => by have h2' : a.toNat < a.toNat := h2; omega, .inr (bl_asymm x y h)⟩
theorem bl_tri : ∀ x y : List UInt8, Op.bytesLess x y = false → Op.bytesLess y x = false → x = y
  | [], [], _, _ => rfl
  | _ :: _, [], _, h => by simp [Op.bytesLess] at h
  | [], _ :: _, h, _ => by simp [Op.bytesLess] at h
  | a :: x, b :: y, h1, h2 => by
    simp only [Op.bytesLess, Bool.or_eq_false_iff, decide_eq_false_iff_not, Bool.and_eq_false_iff, beq_eq_false_iff_ne] at h1 h2
    have e : a = b := by
      apply UInt8.toNat_inj.1
      have h1' : ¬ a.toNat < b.toNat := h1.1
      have h2' : ¬ b.toNat < a.toNat := h2.1
      omega
    subst e
    rw [bl_tri x y (h1.2.resolve_left (fun h => h rfl)) (h2.2.resolve_left (fun h => h rfl))]
theorem bl_trans : ∀ x y z : List UInt8, Op.bytesLess x y = true → Op.bytesLess y z = true → Op.bytesLess x z = true
  | _, [], _, h, _ => by simp [Op.bytesLess] at h
  | _, _ :: _, [], _, h => by simp [Op.bytesLess] at h
  | [], _ :: _, _ :: _, _, _ => rfl
  | a :: x, b :: y, c :: z, h1, h2 => by
    simp only [Op.bytesLess, Bool.or_eq_true, decide_eq_true_eq, Bool.and_eq_true, beq_iff_eq] at h1 h2 ⊢
    rcases h1 with h1 | ⟨rfl, h1⟩
    · rcases h2 with h2 | ⟨rfl, h2⟩
      · left
        have h1' : a.toNat < b.toNat := h1
        have h2' : b.toNat < c.toNat := h2
        show a.toNat < c.toNat
        omega
      · exact .inl h1
    · rcases h2 with h2 | ⟨rfl, h2⟩
      · exact .inl h2
      · exact .inr ⟨rfl, bl_trans x y z h1 h2⟩

def slt (s t : St) : Bool := if s.1 then (if t.1 then decide (s.2.2 < t.2.2) else true) else (if t.1 then false else Op.bytesLess s.2.1.toList t.2.1.toList)
theorem slt_asymm (s t : St) (h : slt s t = true) : slt t s = false := by
  obtain ⟨x0, x1, x2⟩ := s
  obtain ⟨y0, y1, y2⟩ := t
  unfold slt at h ⊢
  cases x0 <;> cases y0 <;> simp at h ⊢
  · exact bl_asymm _ _ h
  · omega
theorem slt_trans (s t r : St) (h : slt s t = true) (h2 : slt t r = true) : slt s r = true := by
  obtain ⟨x0, x1, x2⟩ := s
  obtain ⟨y0, y1, y2⟩ := t
  obtain ⟨z0, z1, z2⟩ := r
  unfold slt at h h2 ⊢
  cases x0 <;> cases y0 <;> cases z0 <;> simp at h h2 ⊢
  · exact bl_trans _ _ _ h h2
  · omega
theorem slt_tri (s t : St) (hs : okSt s = true) (ht : okSt t = true) (h1 : slt s t = false) (h2 : slt t s = false) : s = t := by
  obtain ⟨x0, x1, x2⟩ := s
  obtain ⟨y0, y1, y2⟩ := t
  unfold slt at h1 h2
  cases x0 <;> cases y0 <;> simp at h1 h2 <;> simp only [okSt_true, okSt_false, decide_eq_true_eq] at hs ht
  · obtain ⟨rfl, _⟩ := hs
    obtain ⟨rfl, _⟩ := ht
    have := bl_tri _ _ h1 h2
    rw [toList_L, toList_L] at this
    rw [L_inj this]
  · have e1 : x1 = ⟨#[]⟩ := L_inj (List.length_eq_zero_iff.1 (by rw [L_len]; exact hs.1))
    have e2 : y1 = ⟨#[]⟩ := L_inj (List.length_eq_zero_iff.1 (by rw [L_len]; exact ht.1))
    rw [e1, e2, show x2 = y2 by omega]
theorem stepC_slt (s t : St) (hs : okSt s = true) (ht : okSt t = true) (h : s ≠ t) : stepC s t = if slt s t then -1 else 1 := by
  rw [← (steps_ok s t hs ht h).1]
  obtain ⟨x0, x1, x2⟩ := s
  obtain ⟨y0, y1, y2⟩ := t
  unfold stepsR slt
  rw [if_neg h]
  cases x0 <;> cases y0 <;> simp
theorem cmpP_cons (x y : St) (a b : List St) : cmpP (x :: a) (y :: b) = if x = y then cmpP a b else stepC x y := rfl
theorem cmpP_nil (b : List St) : cmpP [] b = cmpI 0 b.length := by cases b <;> rfl
theorem cmpP_nil' (a : List St) : cmpP a [] = cmpI a.length 0 := by cases a <;> rfl
theorem cmpI_swap (x y : Int) : cmpI y x = - cmpI x y := by
  unfold cmpI
  repeat' split
  all_goals omega
theorem cmpP_swap : ∀ (l m : List St), l.all okSt = true → m.all okSt = true → cmpP m l = - cmpP l m
  | [], m, _, _ => by rw [cmpP_nil, cmpP_nil', cmpI_swap]
  | x :: a, [], _, _ => by rw [cmpP_nil, cmpP_nil', cmpI_swap]
  | x :: a, y :: b, hl, hm => by
    simp only [List.all_cons, Bool.and_eq_true] at hl hm
    rw [cmpP_cons, cmpP_cons]
    by_cases he : x = y
    · subst he
      rw [if_pos rfl, if_pos rfl]
      exact cmpP_swap a b hl.2 hm.2
    · rw [if_neg he, if_neg (fun h => he h.symm), stepC_slt x y hl.1 hm.1 he, stepC_slt y x hm.1 hl.1 (fun h => he h.symm)]
      cases h1 : slt x y
      · cases h2 : slt y x
        · exact absurd (slt_tri x y hl.1 hm.1 h1 h2) he
        · simp
      · rw [slt_asymm x y h1]; simp
theorem cmpP_zero : ∀ (l m : List St), l.all okSt = true → m.all okSt = true → (cmpP l m = 0 ↔ l = m)
  | [], [], _, _ => by simp [cmpP_nil, cmpI]
  | [], y :: b, _, _ => by
    rw [cmpP_nil, List.length_cons]
    unfold cmpI
    rw [if_pos (by omega)]
    simp
  | x :: a, [], _, _ => by
    rw [cmpP_nil', List.length_cons]
    unfold cmpI
    rw [if_neg (by omega), if_pos (by omega)]
    simp
  | x :: a, y :: b, hl, hm => by
    simp only [List.all_cons, Bool.and_eq_true] at hl hm
    rw [cmpP_cons]
    by_cases he : x = y
    · subst he
      rw [if_pos rfl, cmpP_zero a b hl.2 hm.2]
      simp
    · rw [if_neg he]
      constructor
      · intro h; exact absurd h (steps_ok x y hl.1 hm.1 he).2
      · intro h; cases h; exact absurd rfl he
theorem cmpP_trans : ∀ (a b c : List St), a.all okSt = true → b.all okSt = true → c.all okSt = true → cmpP a b ≤ 0 → cmpP b c ≤ 0 → cmpP a c ≤ 0
  | [], _, c, _, _, _, _, _ => by
    rw [cmpP_nil]; unfold cmpI; repeat' split
    all_goals omega
  | x :: a, [], _, _, _, _, h, _ => by
    rw [cmpP_nil', List.length_cons] at h; unfold cmpI at h; rw [if_neg (by omega), if_pos (by omega)] at h; omega
  | x :: a, y :: b, [], _, _, _, _, h => by
    rw [cmpP_nil', List.length_cons] at h; unfold cmpI at h; rw [if_neg (by omega), if_pos (by omega)] at h; omega
  | x :: a, y :: b, z :: c, ha, hb, hc, h1, h2 => by
    simp only [List.all_cons, Bool.and_eq_true] at ha hb hc
    rw [cmpP_cons] at h1 h2 ⊢
    by_cases e1 : x = y
    · subst e1
      rw [if_pos rfl] at h1
      by_cases e2 : x = z
      · subst e2
        rw [if_pos rfl] at h2 ⊢
        exact cmpP_trans a b c ha.2 hb.2 hc.2 h1 h2
      · rw [if_neg e2] at h2 ⊢
        exact h2
    · rw [if_neg e1, stepC_slt x y ha.1 hb.1 e1] at h1
      have s1 : slt x y = true := by
        cases h : slt x y
        · rw [h] at h1; simp at h1
        · rfl
      by_cases e2 : y = z
      · subst e2
        rw [if_neg e1, stepC_slt x y ha.1 hb.1 e1, s1]; decide
      · rw [if_neg e2, stepC_slt y z hb.1 hc.1 e2] at h2
        have s2 : slt y z = true := by
          cases h : slt y z
          · rw [h] at h2; simp at h2
          · rfl
        have s3 := slt_trans x y z s1 s2
        by_cases e3 : x = z
        · subst e3
          rw [slt_asymm x y s1] at s2
          cases s2
        · rw [if_neg e3, stepC_slt x z ha.1 hc.1 e3, s3]; decide
theorem cmpP_under : ∀ (a b : List St), underL a b = true → 0 ≤ cmpP a b
  | a, [], _ => by
    rw [cmpP_nil']; unfold cmpI; repeat' split
    all_goals omega
  | [], y :: b, h => by simp [underL] at h
  | x :: a, y :: b, h => by
    unfold underL at h
    simp only [List.length_cons, List.take_succ_cons, decide_eq_true_eq, List.cons.injEq] at h
    obtain ⟨h1, rfl, h2⟩ := h
    rw [cmpP_cons, if_pos rfl]
    exact cmpP_under a b (by unfold underL; simp only [decide_eq_true_eq]; exact ⟨by omega, h2⟩)
end Go.Proofs.YtjbhjnelepbkcaaDoor
