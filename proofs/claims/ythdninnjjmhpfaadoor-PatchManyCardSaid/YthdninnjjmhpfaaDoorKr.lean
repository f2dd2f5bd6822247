/- datakitref56.One walked. Conditions: at most 10^6 values in all. -/
import Derived.Test.YthdninnjjmhpfaaDoorKo
namespace Go.Proofs.YthdninnjjmhpfaaDoor
open Go.RowKit
set_option maxHeartbeats 8000000
set_option maxRecDepth 100000

theorem One_any (x : Ch) (c : CC) (w : World) (hno : nodV x.o ≤ 1000000) (hnn : nodV x.n ≤ 1000000) (hx : RdC w (fun _ => True) c x) :
    Calls Tryd.prog 22 #[aggC c] w fun e w' => e = .returned (.int .i64 (oneC x : Nat)) ∧ Below w.heap.size w w' := by
  obtain ⟨r, hr⟩ : ∃ r : Nat, r = oneC x := ⟨_, rfl⟩
  rw [← hr]
  unfold oneC at hr
  obtain ⟨q1, hq1⟩ : ∃ q, q = !arg1 x := ⟨_, rfl⟩
  have i1 := arg1_iff x
  have i2 := arg2_iff x
  have a1 : arg1 x = !q1 := by rw [hq1, Bool.not_not]
  rw [a1] at hr i1
  clear hq1 a1
  have i3 := oldB_is x.op
  have i4 := newB_is x.op
  have i5 := movB_is x.op
  have HPV := Lib.hid (fun w' (hb : Below w.heap.size w w') => RValid_any c.p x.p w' (hx.p.below hb))
  have HBK := Lib.hid (fun w' (hb : Below w.heap.size w w') => byKey_any c.p x.p w' (hx.p.below hb))
  have HMV : Hid (∀ w' : World, Calls Tryd.prog 32 #[.agg c.cells.toArray] w' fun e w2 => e = .returned (.bool (movB x.op)) ∧ Below w'.heap.size w' w2) := fun w' => moves_any c w' _ (by rw [hx.op]; rfl)
  have HZO : Hid (∀ w', Below w.heap.size w w' → Calls Tryd.prog 34 #[.agg c.o.cells.toArray] w' fun e w2 => e = .returned (.bool (zeroV x.o)) ∧ Below w'.heap.size w' w2) := fun w' hb => zeroR_any x.o c.o w' (hx.o.stays hb)
  have HZN : Hid (∀ w', Below w.heap.size w w' → Calls Tryd.prog 34 #[.agg c.n.cells.toArray] w' fun e w2 => e = .returned (.bool (zeroV x.n)) ∧ Below w'.heap.size w' w2) := fun w' hb => zeroR_any x.n c.n w' (hx.n.stays hb)
  have HVO : Hid (∀ w', Below w.heap.size w w' → Calls Tryd.prog 35 #[.agg c.o.cells.toArray] w' fun e w2 => e = .returned (.int .i64 (checkV x.o : Nat)) ∧ Below w'.heap.size w' w2) := fun w' hb => Check7_any x.o c.o w' hno (hx.o.stays hb)
  have HVN : Hid (∀ w', Below w.heap.size w w' → Calls Tryd.prog 35 #[.agg c.n.cells.toArray] w' fun e w2 => e = .returned (.int .i64 (checkV x.n : Nat)) ∧ Below w'.heap.size w' w2) := fun w' hb => Check7_any x.n c.n w' hnn (hx.n.stays hb)
  obtain ⟨a, cap, hp, -, -⟩ := hx.p
  have hop := hx.op
  have hpos := hx.pos
  have HC5 : Hid (∀ w', OnW w w' c → w'.cell? ⟨w.heap.size, 0, none⟩ = some (.int .i64 x.op) ∧ w'.cell? ⟨w.heap.size, 1, none⟩ = some (.slice a x.p.length cap) ∧ w'.cell? ⟨w.heap.size, 2, none⟩ = some (.int .i64 x.pos) ∧ (∀ j, j < 29 → w'.cell? ⟨w.heap.size, 0 + j, none⟩ = c.cells[j]?) ∧ (∀ j, j < 13 → w'.cell? ⟨w.heap.size, 3 + j, none⟩ = c.o.cells[j]?) ∧ (∀ j, j < 13 → w'.cell? ⟨w.heap.size, 16 + j, none⟩ = c.n.cells[j]?)) := by
    intro w' h
    have := rowC5 h.x
    rw [hop, hpos, hp] at this
    exact this
  rw [hp] at HPV HBK
  have HIN : Hid (∀ w1 : World, w.alloc (.cells (CC.cells c).toArray 39) = w1 → OnW w w1 c) := fun w1 hW => by
    obtain ⟨hx0, _, hz0, hb0⟩ := alloc_of hW
    exact ⟨hb0, hx0, by omega⟩
  clear hx hp hop hpos hno hnn
  generalize zeroV x.o = zo at *
  generalize zeroV x.n = zn at *
  generalize checkV x.o = eo at *
  generalize checkV x.n = en at *
  generalize movB x.op = qm at *
  generalize lastK x.p = ql at *
  generalize oldB x.op = qo at *
  generalize newB x.op = qn at *
  generalize validP x.p = qv at *
  generalize arg2 x = b2 at *
  generalize x.p.length = n at *
  generalize x.op = op at *
  generalize x.pos = pos at *
  have HR := Lib.hid hr
  have I1 := Lib.hid i1
  have I2 := Lib.hid i2
  have I3 := Lib.hid i3
  have I4 := Lib.hid i4
  have I5 := Lib.hid i5
  clear hr i1 i2 i3 i4 i5
  go_enter Tryd.func22, Tryd.ntmps22
  go_upto_region 1 with fail
  generalize hW : World.alloc w _ = w1
  have HON := Lib.hid (HIN.out w1 hW)
  obtain ⟨c0, c1, c2, c29, -, -⟩ := HC5.out _ HON.out
  have C29 := Lib.hid c29
  clear hW HIN c29
  go_cut [28] (fun v wx => v = .bool q1 ∧ OnW w wx c)
  case first =>
    clear HZO HZN HVO HVN I2 HR c2 HBK I3 I4
    by_cases h1 : op < 1
    · have hq : q1 = true := by have := I1.out; cases q1 <;> simp at this ⊢ <;> omega
      subst hq
      clear I1
      go_wp2_with fail
      go_meet
      exact ⟨rfl, HON.out⟩
    by_cases h4 : 4 < op
    · have hq : q1 = true := by have := I1.out; cases q1 <;> simp at this ⊢ <;> omega
      subst hq
      clear I1
      go_wp2_with fail
      go_meet
      exact ⟨rfl, HON.out⟩
    have J1 : Hid ((!q1) = true ↔ qv = true ∧ ¬ (n = 0 ∧ qm = true)) := by
      unfold Hid
      rw [I1.out, I5.out]
      exact ⟨fun h => h.2, fun h => ⟨by omega, h⟩⟩
    clear I1 I5
    go_wp2_with fail
    refine (HPV.out _ HON.out.b).mono ?_
    rintro e w2 ⟨rfl, hb⟩
    have HON2 := Lib.hid (HON.out.below hb)
    clear hb c0 c1 C29 HON HPV
    obtain ⟨c0, c1, -, c29, -, -⟩ := HC5.out _ HON2.out
    have C29 := Lib.hid c29
    clear c29
    cases qv with
    | false =>
      have hq : q1 = true := by have := J1.out; cases q1 <;> simp at this ⊢
      subst hq
      clear J1
      go_wp2_with fail
      go_meet
      exact ⟨rfl, HON2.out⟩
    | true =>
    go_wp2_with (refine wpl_loadG rfl stC rfl rfl (ccells_len _) C29.out ?_)
    refine (HMV.out _).mono ?_
    rintro e w3 ⟨rfl, hb⟩
    have HON3 := Lib.hid (HON2.out.below hb)
    clear hb c0 c1 C29 HON2
    obtain ⟨-, c1, -, -, -, -⟩ := HC5.out _ HON3.out
    cases qm with
    | false =>
      have hq : q1 = false := by have := J1.out; cases q1 <;> simp at this ⊢
      subst hq
      clear J1
      go_wp2_with fail
      go_meet
      exact ⟨rfl, HON3.out⟩
    | true =>
      by_cases hn : n = 0
      · have hq : q1 = true := by have := J1.out; cases q1 <;> simp at this ⊢; omega
        subst hq hn
        clear J1
        go_wp2_with fail
        go_meet
        exact ⟨rfl, HON3.out⟩
      · have hq : q1 = false := by have := J1.out; cases q1 <;> simp at this ⊢; omega
        have hn' : ((n : Int) == 0) = false := by rw [beq_eq_false_iff_ne]; omega
        subst hq
        clear J1 hn
        go_wp2_with fail
        go_meet
        exact ⟨rfl, HON3.out⟩
  case rest =>
  clear c0 c1 c2 C29
  obtain ⟨rfl, HON2⟩ := hcut
  replace HON2 := Lib.hid HON2
  clear HON HPV
  cases q1 with
  | true =>
    have HF : Hid (r = 1) := HR.out
    clear HR
    go_wp2_with fail
    go_ret
    exact ⟨ri (by rw [HF.out]; rfl), HON2.out.b⟩
  | false =>
  replace HR : Hid (r = if b2 = false then 1 else if qo = true ∧ eo ≠ 0 then eo else if qn = true then en else 0) := HR.out
  have HOP : Hid (op = 1 ∨ op = 2 ∨ op = 3 ∨ op = 4) := (I1.out.1 rfl).1
  obtain ⟨c0, c1, c2, c29, -, -⟩ := HC5.out _ HON2.out
  have C29 := Lib.hid c29
  clear c29 I1
  obtain ⟨q3, hq3⟩ : ∃ q : Bool, q = decide (pos < 0 ∨ 65536 < pos ∨ 0 < pos ∧ (qm && ql) = false) := ⟨_, rfl⟩
  have I6 : Hid (q3 = true ↔ pos < 0 ∨ 65536 < pos ∨ 0 < pos ∧ (qm && ql) = false) := by unfold Hid; rw [hq3, decide_eq_true_iff]
  clear hq3
  go_upto_region 3 with fail
  go_cut [51] (fun v wx => v = .bool q3 ∧ OnW w wx c)
  case first =>
    clear HR HVO HVN I2 HZO HZN I3 I4 I5 HOP
    by_cases hp : pos < 0
    · have hq : q3 = true := I6.out.2 (.inl hp)
      subst hq
      clear I6
      go_wp2_with fail
      go_meet
      exact ⟨rfl, HON2.out⟩
    by_cases hp2 : 65536 < pos
    · have hq : q3 = true := I6.out.2 (.inr (.inl hp2))
      subst hq
      have hp' : ((65536 : Int) < pos) = True := eq_true hp2
      clear I6 hp2
      go_wp2_with fail
      go_meet
      exact ⟨rfl, HON2.out⟩
    have hp' : ((65536 : Int) < pos) = False := eq_false hp2
    by_cases hp0 : 0 < pos
    case neg =>
      have hq : q3 = false := by have := I6.out; cases q3 <;> simp at this ⊢; omega
      subst hq
      clear I6 hp2
      go_wp2_with fail
      go_meet
      exact ⟨rfl, HON2.out⟩
    have J6 : Hid (q3 = true ↔ (qm && ql) = false) := by
      unfold Hid
      rw [I6.out]
      exact ⟨fun h => h.elim (fun h => absurd h hp) (fun h => h.elim (fun h => absurd h hp2) (fun h => h.2)), fun h => .inr (.inr ⟨hp0, h⟩)⟩
    clear I6 hp2
    go_wp2_with (refine wpl_loadG rfl stC rfl rfl (ccells_len _) C29.out ?_)
    refine (HMV.out _).mono ?_
    rintro e w3 ⟨rfl, hb⟩
    have HON3 := Lib.hid (HON2.out.below hb)
    clear hb c0 c1 c2 C29 HON2
    obtain ⟨-, c1, c2, -, -, -⟩ := HC5.out _ HON3.out
    cases qm with
    | false =>
      have hq : q3 = true := by have := J6.out; cases q3 <;> simp at this ⊢
      subst hq
      clear J6
      go_wp2_with fail
      go_meet
      exact ⟨rfl, HON3.out⟩
    | true =>
      go_wp2_with fail
      refine (HBK.out _ HON3.out.b).mono ?_
      rintro e w4 ⟨rfl, hb⟩
      have HON4 := Lib.hid (HON3.out.below hb)
      clear hb c1 c2 HON3
      have hq : q3 = !ql := by have := J6.out; cases q3 <;> cases ql <;> simp at this ⊢
      subst hq
      clear J6
      cases ql
      all_goals
        go_wp2_with fail
        go_meet
        exact ⟨rfl, HON4.out⟩
  case rest =>
  clear c0 c1 c2 C29
  obtain ⟨rfl, HON3⟩ := hcut
  replace HON3 := Lib.hid HON3
  clear HON2 HMV HBK I5
  cases q3 with
  | true =>
    have HF : Hid (r = 1) := by
      unfold Hid
      have hb2 : b2 = false := by
        have h := I6.out.1 rfl
        have h2 := I2.out
        cases b2
        · rfl
        · exfalso
          have h2 := h2.1 rfl
          rcases h with h | h | ⟨h, h'⟩
          · exact h2.1 h
          · exact h2.2.1 h
          · rw [h'] at h2
            rcases h2.2.2.1 with h3 | h3
            · omega
            · cases h3
      rw [HR.out, if_pos hb2]
    clear HR I6 I2 I3 I4
    go_wp2_with fail
    go_ret
    exact ⟨ri (by rw [HF.out]; rfl), HON3.out.b⟩
  | false =>
  have J2 : Hid (b2 = true ↔ (qo = true ∨ zo = true) ∧ (qn = true ∨ zn = true)) := by
    unfold Hid
    have h6 := I6.out
    rw [I2.out]
    refine ⟨fun h => h.2.2.2, fun h => ?_⟩
    have h7 : ¬ (pos < 0 ∨ 65536 < pos ∨ 0 < pos ∧ (qm && ql) = false) := fun h => by cases h6.2 h
    refine ⟨fun h => h7 (.inl h), fun h => h7 (.inr (.inl h)), ?_, h⟩
    by_cases hp : pos = 0
    · exact .inl hp
    · right
      cases hk : (qm && ql)
      · exact absurd (.inr (.inr ⟨by have := mt Or.inl h7; omega, hk⟩)) h7
      · rfl
  clear I6 I2
  obtain ⟨c0, -, -, -, c3, c4⟩ := HC5.out _ HON3.out
  have C3 := Lib.hid c3
  have C4 := Lib.hid c4
  clear c3 c4
  rcases HOP.out with rfl | rfl | rfl | rfl
  · -- replace
    have QO : qo = true := I3.out.2 (by omega)
    have QN : qn = true := I4.out.2 (by omega)
    subst QO QN
    have HB2 : b2 = true := J2.out.2 ⟨.inl rfl, .inl rfl⟩
    subst HB2
    replace HR : Hid (r = if eo ≠ 0 then eo else en) := by unfold Hid; rw [HR.out]; simp
    clear J2 I3 I4 HOP
    go_wp2_with (refine wpl_load rfl rfl stVk rfl (cells_len _) C3.out ?_)
    refine (HVO.out _ HON3.out.b).mono ?_
    rintro e w5 ⟨rfl, hb⟩
    have HON5 := Lib.hid (HON3.out.below hb)
    clear hb
    obtain ⟨-, -, -, -, -, k4⟩ := HC5.out _ HON5.out
    have K4 := Lib.hid k4
    clear k4
    by_cases he : eo = 0
    case neg =>
      have HF : Hid (r = eo) := by unfold Hid; rw [HR.out, if_pos he]
      have hq : ((eo : Int) != 0) = true := by rw [bne_iff_ne]; omega
      clear HR he
      go_wp2_with fail
      go_ret
      exact ⟨ri (by rw [HF.out]), HON5.out.b⟩
    subst he
    have HF : Hid (r = en) := by unfold Hid; rw [HR.out]; simp
    clear HR
    go_wp2_with (refine wpl_load rfl rfl stVk rfl (cells_len _) K4.out ?_)
    refine (HVN.out _ HON5.out.b).mono ?_
    rintro e w6 ⟨rfl, hb⟩
    have HON6 := Lib.hid (HON5.out.below hb)
    clear hb
    go_wp2_with fail
    go_ret
    exact ⟨ri (by rw [HF.out]), HON6.out.b⟩
  · -- insert
    have QO : qo = false := by have := I3.out; cases qo <;> simp at this ⊢
    have QN : qn = true := I4.out.2 (by omega)
    subst QO QN
    clear I3 I4 HOP
    go_wp2_with (refine wpl_loadG rfl stVk rfl rfl (cells_len _) C3.out ?_)
    refine (HZO.out _ HON3.out.b).mono ?_
    rintro e w4 ⟨rfl, hb⟩
    have HON4 := Lib.hid (HON3.out.below hb)
    clear hb c0 C3 C4
    obtain ⟨c0, -, -, -, -, c4⟩ := HC5.out _ HON4.out
    have C4 := Lib.hid c4
    clear c4 HON3
    have HB2 : b2 = zo := by have := J2.out; cases b2 <;> cases zo <;> simp at this ⊢
    subst HB2
    clear J2
    cases b2 with
    | false =>
      have HF : Hid (r = 1) := HR.out
      clear HR
      go_wp2_with fail
      go_ret
      exact ⟨ri (by rw [HF.out]; rfl), HON4.out.b⟩
    | true =>
    have HF : Hid (r = en) := by unfold Hid; rw [HR.out]; simp
    clear HR
    go_wp2_with (refine wpl_load rfl rfl stVk rfl (cells_len _) C4.out ?_)
    refine (HVN.out _ HON4.out.b).mono ?_
    rintro e w6 ⟨rfl, hb⟩
    have HON6 := Lib.hid (HON4.out.below hb)
    clear hb
    go_wp2_with fail
    go_ret
    exact ⟨ri (by rw [HF.out]), HON6.out.b⟩
  · -- remove
    have QO : qo = true := I3.out.2 (by omega)
    have QN : qn = false := by have := I4.out; cases qn <;> simp at this ⊢
    subst QO QN
    clear I3 I4 HOP
    go_wp2_with (refine wpl_loadG rfl stVk rfl rfl (cells_len _) C4.out ?_)
    refine (HZN.out _ HON3.out.b).mono ?_
    rintro e w4 ⟨rfl, hb⟩
    have HON4 := Lib.hid (HON3.out.below hb)
    clear hb c0 C3 C4
    obtain ⟨c0, -, -, -, c3, -⟩ := HC5.out _ HON4.out
    have C3 := Lib.hid c3
    clear c3 HON3
    have HB2 : b2 = zn := by have := J2.out; cases b2 <;> cases zn <;> simp at this ⊢
    subst HB2
    clear J2
    cases b2 with
    | false =>
      have HF : Hid (r = 1) := HR.out
      clear HR
      go_wp2_with fail
      go_ret
      exact ⟨ri (by rw [HF.out]; rfl), HON4.out.b⟩
    | true =>
    replace HR : Hid (r = if eo ≠ 0 then eo else 0) := by unfold Hid; rw [HR.out]; simp
    go_wp2_with (refine wpl_load rfl rfl stVk rfl (cells_len _) C3.out ?_)
    refine (HVO.out _ HON4.out.b).mono ?_
    rintro e w5 ⟨rfl, hb⟩
    have HON5 := Lib.hid (HON4.out.below hb)
    clear hb
    obtain ⟨-, -, -, -, -, k4⟩ := HC5.out _ HON5.out
    have K4 := Lib.hid k4
    clear k4
    by_cases he : eo = 0
    case neg =>
      have HF : Hid (r = eo) := by unfold Hid; rw [HR.out, if_pos he]
      have hq : ((eo : Int) != 0) = true := by rw [bne_iff_ne]; omega
      clear HR he
      go_wp2_with fail
      go_ret
      exact ⟨ri (by rw [HF.out]), HON5.out.b⟩
    subst he
    have HF : Hid (r = 0) := by unfold Hid; rw [HR.out]; simp
    clear HR
    go_wp2_with fail
    go_ret
    exact ⟨ri (by rw [HF.out]; rfl), HON5.out.b⟩
  · -- test
    have QO : qo = true := I3.out.2 (by omega)
    have QN : qn = false := by have := I4.out; cases qn <;> simp at this ⊢
    subst QO QN
    clear I3 I4 HOP
    go_wp2_with (refine wpl_loadG rfl stVk rfl rfl (cells_len _) C4.out ?_)
    refine (HZN.out _ HON3.out.b).mono ?_
    rintro e w4 ⟨rfl, hb⟩
    have HON4 := Lib.hid (HON3.out.below hb)
    clear hb c0 C3 C4
    obtain ⟨c0, -, -, -, c3, -⟩ := HC5.out _ HON4.out
    have C3 := Lib.hid c3
    clear c3 HON3
    have HB2 : b2 = zn := by have := J2.out; cases b2 <;> cases zn <;> simp at this ⊢
    subst HB2
    clear J2
    cases b2 with
    | false =>
      have HF : Hid (r = 1) := HR.out
      clear HR
      go_wp2_with fail
      go_ret
      exact ⟨ri (by rw [HF.out]; rfl), HON4.out.b⟩
    | true =>
    replace HR : Hid (r = if eo ≠ 0 then eo else 0) := by unfold Hid; rw [HR.out]; simp
    go_wp2_with (refine wpl_load rfl rfl stVk rfl (cells_len _) C3.out ?_)
    refine (HVO.out _ HON4.out.b).mono ?_
    rintro e w5 ⟨rfl, hb⟩
    have HON5 := Lib.hid (HON4.out.below hb)
    clear hb
    obtain ⟨-, -, -, -, -, k4⟩ := HC5.out _ HON5.out
    have K4 := Lib.hid k4
    clear k4
    by_cases he : eo = 0
    case neg =>
      have HF : Hid (r = eo) := by unfold Hid; rw [HR.out, if_pos he]
      have hq : ((eo : Int) != 0) = true := by rw [bne_iff_ne]; omega
      clear HR he
      go_wp2_with fail
      go_ret
      exact ⟨ri (by rw [HF.out]), HON5.out.b⟩
    subst he
    have HF : Hid (r = 0) := by unfold Hid; rw [HR.out]; simp
    clear HR
    go_wp2_with fail
    go_ret
    exact ⟨ri (by rw [HF.out]; rfl), HON5.out.b⟩
end Go.Proofs.YthdninnjjmhpfaaDoor
