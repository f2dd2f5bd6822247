/- patch.one, datakitref56.One walked. Conditions: at most 10^6 values in all. -/
import Derived.Test.YthdninnjjmhpfaaDoorKy
namespace Go.Proofs.YthdninnjjmhpfaaDoor
open Go.RowKit
set_option maxHeartbeats 8000000
set_option maxRecDepth 100000

/-- Since the call began only new blocks were made; the change lies in the first of them. -/
structure OnW (w wr : World) (c : CC) : Prop where
  b : Below w.heap.size w wr
  x : wr.heap[w.heap.size]? = some (.cells (CC.cells c).toArray 39 (0, 0))
  z : w.heap.size < wr.heap.size
theorem OnW.below {w wr w2 : World} {c : CC} (h : OnW w wr c) (hb : Below wr.heap.size wr w2) : OnW w w2 c :=
  ⟨h.b.trans (hb.mono h.b.size), (hb.block _ h.z).trans h.x, Nat.lt_of_lt_of_le h.z hb.size⟩
theorem arg1_iff (x : Ch) : arg1 x = true ↔ (x.op = 1 ∨ x.op = 2 ∨ x.op = 3 ∨ x.op = 4) ∧ validP x.p = true ∧ ¬ (x.p.length = 0 ∧ (x.op = 2 ∨ x.op = 3)) := by
  unfold arg1 oldB newB movB
  generalize validP x.p = qv
  cases qv
  · simp
  · simp only [Bool.not_true, Bool.not_eq_true', Bool.or_eq_false_iff, Bool.false_or, Bool.and_eq_false_iff, decide_eq_false_iff_not, Bool.not_eq_false', decide_eq_true_eq, true_and]
    omega
theorem arg2_iff (x : Ch) : arg2 x = true ↔ ¬ x.pos < 0 ∧ ¬ 65536 < x.pos ∧ (x.pos = 0 ∨ (movB x.op && lastK x.p) = true) ∧ (oldB x.op = true ∨ zeroV x.o = true) ∧ (newB x.op = true ∨ zeroV x.n = true) := by
  unfold arg2
  generalize (movB x.op && lastK x.p) = q1
  generalize oldB x.op = q2
  generalize newB x.op = q3
  generalize zeroV x.o = q4
  generalize zeroV x.n = q5
  cases q1 <;> cases q2 <;> cases q3 <;> cases q4 <;> cases q5 <;> simp
theorem oldB_is (op : Int) : oldB op = true ↔ op = 1 ∨ op = 3 ∨ op = 4 := by unfold oldB; simp
theorem newB_is (op : Int) : newB op = true ↔ op = 1 ∨ op = 2 := by unfold newB; simp
theorem movB_is (op : Int) : movB op = true ↔ op = 2 ∨ op = 3 := by unfold movB; simp
theorem one_any (x : Ch) (c : CC) (w : World) (hno : nodV x.o ≤ 1000000) (hnn : nodV x.n ≤ 1000000) (hx : RdC w (fun _ => True) c x) :
    Calls Tryd.prog 11 #[aggC c] w fun e w' => e = .returned (.int .i64 (oneC x : Nat)) ∧ Below w.heap.size w w' := by
  obtain ⟨r, hr⟩ : ∃ r : Nat, r = oneC x := ⟨_, rfl⟩
  rw [← hr]
  unfold oneC at hr
  obtain ⟨q1, hq1⟩ : ∃ q, q = !arg1 x := ⟨_, rfl⟩
  obtain ⟨q2, hq2⟩ : ∃ q, q = !arg2 x := ⟨_, rfl⟩
  have i1 := arg1_iff x
  have i2 := arg2_iff x
  have a1 : arg1 x = !q1 := by rw [hq1, Bool.not_not]
  have a2 : arg2 x = !q2 := by rw [hq2, Bool.not_not]
  rw [a1] at hr i1
  rw [a2] at hr i2
  clear hq1 hq2 a1 a2
  have i3 := oldB_is x.op
  have i4 := newB_is x.op
  have HPV := Lib.hid (fun w' (hb : Below w.heap.size w w') => PValid_any c.p x.p w' (hx.p.below hb))
  have HKY : Hid (∀ w', Below w.heap.size w w' → Calls Tryd.prog 19 #[.agg c.cells.toArray] w' fun e w2 => e = .returned (.bool (movB x.op && lastK x.p)) ∧ Below w'.heap.size w' w2) := fun w' hb => keyed_any x c w' (hx.stays hb)
  have HZO : Hid (∀ w', Below w.heap.size w w' → Calls Tryd.prog 20 #[.agg c.o.cells.toArray] w' fun e w2 => e = .returned (.bool (zeroV x.o)) ∧ Below w'.heap.size w' w2) := fun w' hb => zeroP_any x.o c.o w' (hx.o.stays hb)
  have HZN : Hid (∀ w', Below w.heap.size w w' → Calls Tryd.prog 20 #[.agg c.n.cells.toArray] w' fun e w2 => e = .returned (.bool (zeroV x.n)) ∧ Below w'.heap.size w' w2) := fun w' hb => zeroP_any x.n c.n w' (hx.n.stays hb)
  have HVO : Hid (∀ w', Below w.heap.size w w' → Calls Tryd.prog 21 #[.agg c.o.cells.toArray] w' fun e w2 => e = .returned (.int .i64 (checkV x.o : Nat)) ∧ Below w'.heap.size w' w2) := fun w' hb => VCheck_any x.o c.o w' hno (hx.o.stays hb)
  have HVN : Hid (∀ w', Below w.heap.size w w' → Calls Tryd.prog 21 #[.agg c.n.cells.toArray] w' fun e w2 => e = .returned (.int .i64 (checkV x.n : Nat)) ∧ Below w'.heap.size w' w2) := fun w' hb => VCheck_any x.n c.n w' hnn (hx.n.stays hb)
  have HHO := Lib.hid (fun w' => hasOld_any x.op w')
  have HHN := Lib.hid (fun w' => hasNew_any x.op w')
  obtain ⟨a, cap, hp, -, -⟩ := hx.p
  have hop := hx.op
  have hpos := hx.pos
  have HC5 : Hid (∀ w', OnW w w' c → w'.cell? ⟨w.heap.size, 0, none⟩ = some (.int .i64 x.op) ∧ w'.cell? ⟨w.heap.size, 1, none⟩ = some (.slice a x.p.length cap) ∧ w'.cell? ⟨w.heap.size, 2, none⟩ = some (.int .i64 x.pos) ∧ (∀ j, j < 29 → w'.cell? ⟨w.heap.size, 0 + j, none⟩ = c.cells[j]?) ∧ (∀ j, j < 13 → w'.cell? ⟨w.heap.size, 3 + j, none⟩ = c.o.cells[j]?) ∧ (∀ j, j < 13 → w'.cell? ⟨w.heap.size, 16 + j, none⟩ = c.n.cells[j]?)) := by
    intro w' h
    have := rowC5 h.x
    rw [hop, hpos, hp] at this
    exact this
  rw [hp] at HPV
  have HIN : Hid (∀ w1 : World, w.alloc (.cells (CC.cells c).toArray 39) = w1 → OnW w w1 c) := fun w1 hW => by
    obtain ⟨hx0, _, hz0, hb0⟩ := alloc_of hW
    exact ⟨hb0, hx0, by omega⟩
  clear hx hp hop hpos hno hnn
  generalize zeroV x.o = zo at *
  generalize zeroV x.n = zn at *
  generalize checkV x.o = eo at *
  generalize checkV x.n = en at *
  generalize (movB x.op && lastK x.p) = qk at *
  generalize oldB x.op = qo at *
  generalize newB x.op = qn at *
  generalize validP x.p = qv at *
  generalize x.p.length = n at *
  generalize x.op = op at *
  generalize x.pos = pos at *
  have HR := Lib.hid hr
  have I1 := Lib.hid i1
  have I2 := Lib.hid i2
  have I3 := Lib.hid i3
  have I4 := Lib.hid i4
  clear hr i1 i2 i3 i4
  go_enter Tryd.func11, Tryd.ntmps11
  go_upto_region 1 with fail
  generalize hW : World.alloc w _ = w1
  have HON := Lib.hid (HIN.out w1 hW)
  obtain ⟨c0, c1, c2, -, -, -⟩ := HC5.out _ HON.out
  clear hW HIN
  go_cut [35] (fun v wx => v = .bool q1 ∧ OnW w wx c)
  case first =>
    clear HZO HZN HVO HVN HKY I2 HR c2
    have J1 := I1.out
    have J3 := I3.out
    have J4 := I4.out
    clear I1 I3 I4
    have way : q1 = true ∧ qo = false ∧ qn = false ∨ q1 = true ∧ (qo = true ∨ qo = false ∧ qn = true) ∧ qv = false ∨ q1 = false ∧ (qo = true ∨ qo = false ∧ qn = true) ∧ qv = true ∧ n ≠ 0 ∨
        q1 = false ∧ qo = true ∧ qv = true ∧ n = 0 ∧ op ≠ 2 ∧ op ≠ 3 ∨ q1 = true ∧ qo = true ∧ qv = true ∧ n = 0 ∧ op = 3 ∨ q1 = true ∧ qo = false ∧ qn = true ∧ qv = true ∧ n = 0 ∧ op = 2 := by
      cases q1 <;> cases qo <;> cases qn <;> cases qv <;> simp at J1 J3 J4 ⊢ <;> omega
    clear J1 J3 J4
    rcases way with ⟨rfl, rfl, rfl⟩ | ⟨rfl, rfl | ⟨rfl, rfl⟩, rfl⟩ | ⟨rfl, rfl | ⟨rfl, rfl⟩, rfl, hn⟩ | ⟨rfl, rfl, rfl, rfl, h2, h3⟩ | ⟨rfl, rfl, rfl, rfl, rfl⟩ | ⟨rfl, rfl, rfl, rfl, rfl, rfl⟩
    case' inr.inr.inl.inl => have hn' : ((n : Int) == 0) = false := by rw [beq_eq_false_iff_ne]; omega
    case' inr.inr.inl.inr => have hn' : ((n : Int) == 0) = false := by rw [beq_eq_false_iff_ne]; omega
    case' inr.inr.inr.inl => have h2' : (op == 2) = false := by rw [beq_eq_false_iff_ne]; exact h2
    case' inr.inr.inr.inl => have h3' : (op == 3) = false := by rw [beq_eq_false_iff_ne]; exact h3
    all_goals
      go_wp2_with (first
        | (go_at_call 16; refine (HHO.out _).mono ?_; rintro e w' ⟨rfl, rfl⟩)
        | (go_at_call 17; refine (HHN.out _).mono ?_; rintro e w' ⟨rfl, rfl⟩)
        | (go_at_call 18; refine (HPV.out _ HON.out.b).mono ?_; rintro e w2 ⟨rfl, hb⟩; have HON2 := Lib.hid (HON.out.below hb); clear hb; obtain ⟨d0, d1, -, -, -, -⟩ := HC5.out _ HON2.out))
      go_meet
      first
        | exact ⟨rfl, HON2.out⟩
        | exact ⟨rfl, HON.out⟩
  case rest =>
  clear c0 c1 c2
  obtain ⟨rfl, HON2⟩ := hcut
  replace HON2 := Lib.hid HON2
  clear HON I1 I3 I4 HPV
  cases q1 with
  | true =>
    have HF : Hid (r = 1) := HR.out
    clear HR
    go_wp2_with fail
    go_ret
    exact ⟨ri (by rw [HF.out]; rfl), HON2.out.b⟩
  | false =>
  replace HR : Hid (r = if (!q2) = false then 1 else if qo = true ∧ eo ≠ 0 then eo else if qn = true then en else 0) := HR.out
  obtain ⟨c0, -, c2, c29, c3, c4⟩ := HC5.out _ HON2.out
  have C29 := Lib.hid c29
  have C3 := Lib.hid c3
  have C4 := Lib.hid c4
  clear c29 c3 c4
  go_upto_region 3 with fail
  go_cut [77] (fun v wx => v = .bool q2 ∧ OnW w wx c)
  case first =>
    clear HR HVO HVN
    have way : pos < 0 ∨ 65536 < pos ∨ 0 < pos ∧ pos ≤ 65536 ∨ pos = 0 := by omega
    rcases way with hp | hp | ⟨hp, hp1⟩ | hp
    · have hq : q2 = true := by have := I2.out; cases q2 <;> simp at this ⊢ <;> omega
      subst hq
      clear I2
      go_wp2_with fail
      go_meet
      exact ⟨rfl, HON2.out⟩
    · have hq : q2 = true := by have := I2.out; cases q2 <;> simp at this ⊢ <;> omega
      subst hq
      have hp' : ((65536 : Int) < pos) = True := eq_true hp
      have hp0 : ¬ pos < 0 := by omega
      clear I2 hp
      go_wp2_with fail
      go_meet
      exact ⟨rfl, HON2.out⟩
    · have hp' : ((65536 : Int) < pos) = False := eq_false (by omega)
      have hp0 : ¬ pos < 0 := by omega
      have hpn : (pos != 0) = true := by rw [bne_iff_ne]; omega
      have J2 : Hid ((!q2) = true ↔ qk = true ∧ (qo = true ∨ zo = true) ∧ (qn = true ∨ zn = true)) := by
        unfold Hid
        rw [I2.out]
        exact ⟨fun h => ⟨h.2.2.1.resolve_left (by omega), h.2.2.2⟩, fun h => ⟨by omega, by omega, .inr h.1, h.2⟩⟩
      clear I2 hp hp1
      go_wp2_with (refine wpl_loadG rfl stC rfl rfl (ccells_len _) C29.out ?_)
      refine (HKY.out _ HON2.out.b).mono ?_
      rintro e w2 ⟨rfl, hb⟩
      have HON3 := Lib.hid (HON2.out.below hb)
      clear hb c0 c2 C29 C3 C4
      obtain ⟨c0, -, c2, -, c3, c4⟩ := HC5.out _ HON3.out
      have C3 := Lib.hid c3
      have C4 := Lib.hid c4
      clear c3 c4
      cases qk with
      | false =>
        have hq : q2 = true := by have := J2.out; cases q2 <;> simp at this ⊢
        subst hq
        clear J2
        go_wp2_with fail
        go_meet
        exact ⟨rfl, HON3.out⟩
      | true =>
      have J3 : Hid ((!q2) = true ↔ (qo = true ∨ zo = true) ∧ (qn = true ∨ zn = true)) := by unfold Hid; rw [J2.out]; simp
      clear J2 HON2
      cases qo with
      | false =>
        go_wp2_with (first
          | (go_at_call 16; refine (HHO.out _).mono ?_; rintro e w' ⟨rfl, rfl⟩)
          | refine wpl_loadG rfl stVk rfl rfl (cells_len _) C3.out ?_)
        refine (HZO.out _ HON3.out.b).mono ?_
        rintro e w3 ⟨rfl, hb⟩
        have HON4 := Lib.hid (HON3.out.below hb)
        clear hb c0 c2 C3 C4
        obtain ⟨c0, -, -, -, -, c4⟩ := HC5.out _ HON4.out
        have C4 := Lib.hid c4
        clear c4 HON3
        cases zo with
        | false =>
          have hq : q2 = true := by have := J3.out; cases q2 <;> simp at this ⊢
          subst hq
          clear J3
          go_wp2_with fail
          go_meet
          exact ⟨rfl, HON4.out⟩
        | true =>
          cases qn with
          | true =>
            have hq : q2 = false := by have := J3.out; cases q2 <;> simp at this ⊢
            subst hq
            clear J3
            go_wp2_with (go_at_call 17; refine (HHN.out _).mono ?_; rintro e w' ⟨rfl, rfl⟩)
            go_meet
            exact ⟨rfl, HON4.out⟩
          | false =>
            go_wp2_with (first
              | (go_at_call 17; refine (HHN.out _).mono ?_; rintro e w' ⟨rfl, rfl⟩)
              | refine wpl_loadG rfl stVk rfl rfl (cells_len _) C4.out ?_)
            refine (HZN.out _ HON4.out.b).mono ?_
            rintro e w4 ⟨rfl, hb⟩
            have HON5 := Lib.hid (HON4.out.below hb)
            clear hb c0 C4 HON4
            have hq : q2 = !zn := by have := J3.out; cases q2 <;> cases zn <;> simp at this ⊢
            subst hq
            clear J3
            cases zn
            all_goals
              go_wp2_with fail
              go_meet
              exact ⟨rfl, HON5.out⟩
      | true =>
        cases qn with
        | true =>
          have hq : q2 = false := by have := J3.out; cases q2 <;> simp at this ⊢
          subst hq
          clear J3
          go_wp2_with (first
            | (go_at_call 16; refine (HHO.out _).mono ?_; rintro e w' ⟨rfl, rfl⟩)
            | (go_at_call 17; refine (HHN.out _).mono ?_; rintro e w' ⟨rfl, rfl⟩))
          go_meet
          exact ⟨rfl, HON3.out⟩
        | false =>
          go_wp2_with (first
            | (go_at_call 16; refine (HHO.out _).mono ?_; rintro e w' ⟨rfl, rfl⟩)
            | (go_at_call 17; refine (HHN.out _).mono ?_; rintro e w' ⟨rfl, rfl⟩)
            | refine wpl_loadG rfl stVk rfl rfl (cells_len _) C4.out ?_)
          refine (HZN.out _ HON3.out.b).mono ?_
          rintro e w4 ⟨rfl, hb⟩
          have HON5 := Lib.hid (HON3.out.below hb)
          clear hb c0 c2 C3 C4 HON3
          have hq : q2 = !zn := by have := J3.out; cases q2 <;> cases zn <;> simp at this ⊢
          subst hq
          clear J3
          cases zn
          all_goals
            go_wp2_with fail
            go_meet
            exact ⟨rfl, HON5.out⟩
    · have J3 : Hid ((!q2) = true ↔ (qo = true ∨ zo = true) ∧ (qn = true ∨ zn = true)) := by
        unfold Hid
        rw [I2.out]
        exact ⟨fun h => h.2.2.2, fun h => ⟨by omega, by omega, .inl hp, h⟩⟩
      subst hp
      have HON3 := HON2
      clear I2 HON2 C29
      cases qo with
      | false =>
        go_wp2_with (first
          | (go_at_call 16; refine (HHO.out _).mono ?_; rintro e w' ⟨rfl, rfl⟩)
          | refine wpl_loadG rfl stVk rfl rfl (cells_len _) C3.out ?_)
        refine (HZO.out _ HON3.out.b).mono ?_
        rintro e w3 ⟨rfl, hb⟩
        have HON4 := Lib.hid (HON3.out.below hb)
        clear hb c0 c2 C3 C4
        obtain ⟨c0, -, -, -, -, c4⟩ := HC5.out _ HON4.out
        have C4 := Lib.hid c4
        clear c4 HON3
        cases zo with
        | false =>
          have hq : q2 = true := by have := J3.out; cases q2 <;> simp at this ⊢
          subst hq
          clear J3
          go_wp2_with fail
          go_meet
          exact ⟨rfl, HON4.out⟩
        | true =>
          cases qn with
          | true =>
            have hq : q2 = false := by have := J3.out; cases q2 <;> simp at this ⊢
            subst hq
            clear J3
            go_wp2_with (go_at_call 17; refine (HHN.out _).mono ?_; rintro e w' ⟨rfl, rfl⟩)
            go_meet
            exact ⟨rfl, HON4.out⟩
          | false =>
            go_wp2_with (first
              | (go_at_call 17; refine (HHN.out _).mono ?_; rintro e w' ⟨rfl, rfl⟩)
              | refine wpl_loadG rfl stVk rfl rfl (cells_len _) C4.out ?_)
            refine (HZN.out _ HON4.out.b).mono ?_
            rintro e w4 ⟨rfl, hb⟩
            have HON5 := Lib.hid (HON4.out.below hb)
            clear hb c0 C4 HON4
            have hq : q2 = !zn := by have := J3.out; cases q2 <;> cases zn <;> simp at this ⊢
            subst hq
            clear J3
            cases zn
            all_goals
              go_wp2_with fail
              go_meet
              exact ⟨rfl, HON5.out⟩
      | true =>
        cases qn with
        | true =>
          have hq : q2 = false := by have := J3.out; cases q2 <;> simp at this ⊢
          subst hq
          clear J3
          go_wp2_with (first
            | (go_at_call 16; refine (HHO.out _).mono ?_; rintro e w' ⟨rfl, rfl⟩)
            | (go_at_call 17; refine (HHN.out _).mono ?_; rintro e w' ⟨rfl, rfl⟩))
          go_meet
          exact ⟨rfl, HON3.out⟩
        | false =>
          go_wp2_with (first
            | (go_at_call 16; refine (HHO.out _).mono ?_; rintro e w' ⟨rfl, rfl⟩)
            | (go_at_call 17; refine (HHN.out _).mono ?_; rintro e w' ⟨rfl, rfl⟩)
            | refine wpl_loadG rfl stVk rfl rfl (cells_len _) C4.out ?_)
          refine (HZN.out _ HON3.out.b).mono ?_
          rintro e w4 ⟨rfl, hb⟩
          have HON5 := Lib.hid (HON3.out.below hb)
          clear hb c0 c2 C3 C4 HON3
          have hq : q2 = !zn := by have := J3.out; cases q2 <;> cases zn <;> simp at this ⊢
          subst hq
          clear J3
          cases zn
          all_goals
            go_wp2_with fail
            go_meet
            exact ⟨rfl, HON5.out⟩
  case rest =>
  clear c0 c2 C29 C3 C4
  obtain ⟨rfl, HON3⟩ := hcut
  replace HON3 := Lib.hid HON3
  clear HON2 I2 HKY HZO HZN
  cases q2 with
  | true =>
    have HF : Hid (r = 1) := HR.out
    clear HR
    go_wp2_with fail
    go_ret
    exact ⟨ri (by rw [HF.out]; rfl), HON3.out.b⟩
  | false =>
  replace HR : Hid (r = if qo = true ∧ eo ≠ 0 then eo else if qn = true then en else 0) := HR.out
  obtain ⟨c0, -, -, -, c3, -⟩ := HC5.out _ HON3.out
  have C3 := Lib.hid c3
  clear c3
  have HTAIL : Hid (qo = true → eo ≠ 0 → r = eo) := fun h1 h2 => HR.out.trans (if_pos ⟨h1, h2⟩)
  have HLAST : Hid ((qo = true → eo = 0) → r = if qn = true then en else 0) := fun h1 => HR.out.trans (if_neg (fun h => h.2 (h1 h.1)))
  clear HR
  cases qo with
  | true =>
    go_wp2_with (first
      | (go_at_call 16; refine (HHO.out _).mono ?_; rintro e w' ⟨rfl, rfl⟩)
      | refine wpl_load rfl rfl stVk rfl (cells_len _) C3.out ?_)
    refine (HVO.out _ HON3.out.b).mono ?_
    rintro e w4 ⟨rfl, hb⟩
    have HON4 := Lib.hid (HON3.out.below hb)
    clear hb c0 C3 HON3
    obtain ⟨c0, -, -, -, -, c4⟩ := HC5.out _ HON4.out
    have C4 := Lib.hid c4
    clear c4
    by_cases he : eo = 0
    case neg =>
      have HF := Lib.hid (HTAIL.out (by simp) he)
      have hq : ((eo : Int) != 0) = true := by rw [bne_iff_ne]; omega
      clear HTAIL HLAST he
      go_wp2_with fail
      go_ret
      exact ⟨ri (by rw [HF.out]), HON4.out.b⟩
    have HF := Lib.hid (HLAST.out (fun _ => he))
    subst he
    clear HTAIL HLAST
    cases qn with
    | true =>
      go_wp2_with (first
        | (go_at_call 17; refine (HHN.out _).mono ?_; rintro e w' ⟨rfl, rfl⟩)
        | refine wpl_load rfl rfl stVk rfl (cells_len _) C4.out ?_)
      refine (HVN.out _ HON4.out.b).mono ?_
      rintro e w5 ⟨rfl, hb⟩
      have HON5 := Lib.hid (HON4.out.below hb)
      clear hb
      go_wp2_with fail
      go_ret
      exact ⟨ri (by rw [HF.out]; rfl), HON5.out.b⟩
    | false =>
      go_wp2_with (go_at_call 17; refine (HHN.out _).mono ?_; rintro e w' ⟨rfl, rfl⟩)
      go_ret
      exact ⟨ri (by rw [HF.out]; rfl), HON4.out.b⟩
  | false =>
    obtain ⟨-, -, -, -, -, c4⟩ := HC5.out _ HON3.out
    have C4 := Lib.hid c4
    clear c4 C3
    have HF := Lib.hid (HLAST.out (fun h => by cases h))
    clear HTAIL HLAST
    cases qn with
    | true =>
      go_wp2_with (first
        | (go_at_call 16; refine (HHO.out _).mono ?_; rintro e w' ⟨rfl, rfl⟩)
        | (go_at_call 17; refine (HHN.out _).mono ?_; rintro e w' ⟨rfl, rfl⟩)
        | refine wpl_load rfl rfl stVk rfl (cells_len _) C4.out ?_)
      refine (HVN.out _ HON3.out.b).mono ?_
      rintro e w5 ⟨rfl, hb⟩
      have HON5 := Lib.hid (HON3.out.below hb)
      clear hb
      go_wp2_with fail
      go_ret
      exact ⟨ri (by rw [HF.out]; rfl), HON5.out.b⟩
    | false =>
      go_wp2_with (first
        | (go_at_call 16; refine (HHO.out _).mono ?_; rintro e w' ⟨rfl, rfl⟩)
        | (go_at_call 17; refine (HHN.out _).mono ?_; rintro e w' ⟨rfl, rfl⟩))
      go_ret
      exact ⟨ri (by rw [HF.out]; rfl), HON3.out.b⟩
end Go.Proofs.YthdninnjjmhpfaaDoor
