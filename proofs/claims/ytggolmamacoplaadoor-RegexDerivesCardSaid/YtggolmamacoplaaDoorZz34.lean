/- The law RegexDerives walked; printed by gen_rnd.py. Conditions: the value of strconv.ErrSyntax. -/
import Derived.Test.YtggolmamacoplaaDoorZz30
import Derived.Test.YtggolmamacoplaaDoorZz33
import Derived.Test.YtggolmamacoplaaDoorZz2
namespace Go.Proofs.YtggolmamacoplaaDoor
open Go.RowKit Go.Shelf
set_option maxHeartbeats 4000000
set_option maxRecDepth 100000

theorem non48 : sndR 48 nonR = true := snd_le (show 1 ≤ 48 by omega) (show sndR 1 nonR = true from rfl)
theorem conv_at (w : World) (k : Nat) (a : Int) (h : w.heap[k]? = some (.cells #[.int .u8 a] 5)) : (convert 33 9 (.slice (some ⟨k, 0, none⟩) 1 1)).run Tryd.prog w = .ok (.string ⟨#[UInt8.ofNat a.toNat]⟩) w := by
  refine run_convert_bytes_arg (P := Tryd.prog) _ 33 5 Tryd.underlying33 Tryd.underlying5 k 0 1 1 [a] rfl (fun i hi => ?_) 9 Tryd.underlying9
  obtain rfl : i = 0 := by simp at hi; omega
  exact cell_of_row w k _ _ _ (0, 0) h
/-- How big a sound pattern's term is. -/
theorem int_sz (n : Int) (h1 : -1 ≤ n) (h2 : n ≤ 255) : SizeOf.sizeOf n ≤ 260 := by
  cases n with
  | ofNat m =>
    simp only [Int.ofNat.sizeOf_spec]
    have : (m : Int) ≤ 255 := h2
    have h3 : SizeOf.sizeOf m = m := rfl
    omega
  | negSucc m =>
    simp only [Int.negSucc.sizeOf_spec]
    have : m = 0 := by omega
    subst this
    decide
theorem snd_sz : ∀ (d : Nat) (p : RX), sndR d p = true → SizeOf.sizeOf p + 1 ≤ 1400 * cntN d p
  | 0, _, h => by cases h
  | d + 1, .mk op lo hi mn mx l, h => by
    obtain ⟨hf, hl⟩ := snd_node h
    have hk : ∀ l : List RX, (∀ q ∈ l, sndR d q = true) → SizeOf.sizeOf l ≤ 1 + 1400 * (l.map (cntN d)).sum := by
      intro l
      induction l with
      | nil => intro _; simp
      | cons a t ih =>
        intro hl
        have a1 := snd_sz d a (hl a (by simp))
        have a2 := ih (fun q hq => hl q (by simp [hq]))
        rw [List.cons.sizeOf_spec, List.map_cons, List.sum_cons]
        omega
    have h3 := hk l hl
    rw [RX.mk.sizeOf_spec, cntN]
    have hb : (-1 ≤ op ∧ op ≤ 255) ∧ (-1 ≤ lo ∧ lo ≤ 255) ∧ (-1 ≤ hi ∧ hi ≤ 255) ∧ (-1 ≤ mn ∧ mn ≤ 255) ∧ (-1 ≤ mx ∧ mx ≤ 255) := by
      rcases form_ways hf with ⟨h0 | h0, _⟩ | ⟨h0, _⟩ | ⟨h0 | h0 | h0, _⟩ | ⟨h0, _⟩ | ⟨h0, _⟩ <;> omega
    obtain ⟨⟨p1, p2⟩, ⟨q1, q2⟩, ⟨r1, r2⟩, ⟨s1, s2⟩, ⟨t1, t2⟩⟩ := hb
    have e1 := int_sz op p1 p2
    have e2 := int_sz lo q1 q2
    have e3 := int_sz hi r1 r2
    have e4 := int_sz mn s1 s2
    have e5 := int_sz mx t1 t2
    omega
theorem der_sz {p : RX} (hs : smlR 8 p = true) (hv : valR p = true) (b : Int) : SizeOf.sizeOf (derR b 48 p) < 1000000000 := by
  have h8 := sml_snd 8 48 p hs (val_parts hv).1
  have hc := (sml_cnt hs).1
  rw [cnt_le (show 8 ≤ 48 by omega) h8] at hc
  rw [der_le b (show 8 ≤ 48 by omega) h8]
  obtain ⟨d1, d2⟩ := der_size b 8 p h8
  have h1 := snd_sz 16 _ d1
  have h2 : cntN 8 p * cntN 8 p ≤ 40 * 40 := Nat.mul_le_mul hc hc
  have h3 : cntN 16 (derR b 8 p) ≤ 1601 := by have : (2 * 8 : Nat) = 16 := rfl; rw [this] at d2; omega
  omega
theorem derv_mat {p : RX} (hs : smlR 8 p = true) (hv : valR p = true) (c : UInt8) (t : List UInt8) (hd : valR (derR (c.toNat : Int) 48 p) = true) : matR (derR (c.toNat : Int) 48 p) t = matR p (c :: t) := by
  have hvp := val_parts hv
  have hc : cntN 48 p ≤ 512 := by have := (sml_cnt hs).1; omega
  have h := der_sem c t 48 (Nat.le_refl _) p hvp.1 hc 48 (val_parts hd).1 t.length (Nat.le_refl _)
  have h1 := mat_iff (derR (c.toNat : Int) 48 p) t
  have h2 := mat_iff p (c :: t)
  rw [List.length_cons] at h2
  cases ha : matR (derR (c.toNat : Int) 48 p) t with
  | true => exact (h2.2 ⟨hv, h.1 (h1.1 ha).2⟩).symm
  | false =>
    cases hb : matR p (c :: t) with
    | false => rfl
    | true =>
      have := h1.2 ⟨hd, h.2 (h2.1 hb).2⟩
      rw [this] at ha
      cases ha
theorem DerivesX_any (p : RX) (c : PC) (b : Int) (s : ByteArray) (w : World) (hp : RdP w c p) (hE : Env w) :
    Calls Tryd.prog 5 #[aggP c, .int .i64 b, .string s] w fun e w' => e = .returned (.bool true) ∧ Below w.heap.size w w' := by
  have HP := Lib.hid hp
  have HE := Lib.hid hE
  obtain ⟨la, lcap, hla⟩ := hp.forms
  obtain ⟨c0, c1, c2, c3, c4, c5⟩ := c
  simp only at hla
  generalize p.args.length = n at *
  subst hla
  simp only [aggP]
  clear hp hE
  go_enter Tryd.func5, Tryd.ntmps5
  go_upto_region 1 with fail
  generalize hW : World.alloc w _ = w1
  obtain ⟨ha, -, hz1, hb1⟩ := alloc_of hW
  have HX := Lib.hid (show LwS w.heap.size ⟨c0, c1, c2, c3, c4, .slice la n lcap⟩ p w w1 from ⟨ha, HP.out.stays hb1, HE.out.below hb1, hb1⟩)
  clear hW ha hz1 hb1 HP HE
  obtain ⟨t0, t1, t2, t3, t4, t5⟩ := HX.out.1.cells
  simp only at t0 t1 t2 t3 t4 t5
  go_wp2_with fail
  refine (small_any 8 p _ w1 (by decide) HX.out.2.out.1).mono ?_
  rintro e w2 ⟨rfl, hb⟩
  replace HX := Lib.hid (HX.out.stay hb)
  clear hb t0 t1 t2 t3 t4 t5
  cases hsm : smlR 8 p with
  | false =>
    go_wp2_with fail
    refine (awake15_any w2 HX.out.2.out.2.1).mono ?_
    rintro e w3 ⟨rfl, hb⟩
    replace HX := Lib.hid (HX.out.stay hb)
    clear hb
    go_wp2_with fail
    go_ret
    exact ⟨rfl, HX.out.2.out.2.2⟩
  | true =>
  by_cases hlen : (20 : Int) < s.size
  · go_wp2_with fail
    refine (awake15_any w2 HX.out.2.out.2.1).mono ?_
    rintro e w3 ⟨rfl, hb⟩
    replace HX := Lib.hid (HX.out.stay hb)
    clear hb
    go_wp2_with fail
    go_ret
    exact ⟨rfl, HX.out.2.out.2.2⟩
  have HS : Hid (s.size ≤ 20) := by unfold Hid; omega
  have hcn : cntN 48 p ≤ 1000000 := by have := (sml_cnt hsm).1; omega
  have hsz : dervR p b = derR b 48 p → SizeOf.sizeOf (derR b 48 p) < 1000000000 := by
    intro hd
    cases hv : valR p with
    | true => exact der_sz hsm hv b
    | false =>
      have h1 : derR b 48 p = nonR := by
        rw [← hd]
        unfold dervR
        rw [if_pos (.inl hv)]
      rw [h1]
      have h2 := snd_sz 1 nonR rfl
      have h3 : cntN 1 nonR ≤ 1 := non_cnt 0
      omega
  have HDV : Hid (dervR p b = if valR p = false ∨ b < 0 ∨ 255 < b then nonR else derR b 48 p) := rfl
  have HSM := Lib.hid hsm
  obtain ⟨Q, hQ⟩ : ∃ Q, Q = dervR p b := ⟨_, rfl⟩
  have HPD := Lib.hid (fun w' (h : RdP w' ⟨c0, c1, c2, c3, c4, .slice la n lcap⟩ p) => show Calls Tryd.prog 18 #[aggP ⟨c0, c1, c2, c3, c4, .slice la n lcap⟩, .int .i64 b] w' (RetF Q w') from by
    rw [hQ]
    exact Derive_any p b _ w' h (fun _ => hcn) hsz)
  have HQE := Lib.hid hQ
  clear hQ hsz hsm
  obtain ⟨t0, t1, t2, t3, t4, t5⟩ := HX.out.1.cells
  simp only at t0 t1 t2 t3 t4 t5
  go_wp2_with fail
  refine (HPD.out w2 HX.out.2.out.1).mono ?_
  rintro e w3 ⟨cq, rfl, hq, hb⟩
  replace HX := Lib.hid (HX.out.stay hb)
  obtain ⟨fa, fcap, hfa⟩ := hq.forms
  obtain ⟨d0, d1, d2, d3, d4, d5⟩ := cq
  simp only at hfa
  subst hfa
  have HQ := Lib.hid hq
  generalize Q.args.length = qn at *
  clear hb hq t0 t1 t2 t3 t4 t5 HPD hlen
  go_upto_region 4 with fail
  generalize hW : World.alloc w3 _ = w4
  obtain ⟨ha, -, -, hb⟩ := alloc_of hW
  have HSS := Lib.hid (show RsS w.heap.size w3.heap.size ⟨c0, c1, c2, c3, c4, .slice la n lcap⟩ ⟨d0, d1, d2, d3, d4, .slice fa qn fcap⟩ p Q w w4 from ⟨(HX.out.stay hb).1, ha, (HX.out.stay hb).2.out.1, HQ.out.stays hb, (HX.out.stay hb).2.out.2.1, (HX.out.stay hb).2.out.2.2⟩)
  clear hW ha hb HX HQ
  obtain ⟨t0, t1, t2, t3, t4, t5⟩ := HSS.out.1.cells
  obtain ⟨u0, u1, u2, u3, u4, u5⟩ := HSS.out.2.1.cells
  simp only at t0 t1 t2 t3 t4 t5 u0 u1 u2 u3 u4 u5
  go_wp2_with fail
  refine (RValid_any p _ w4 HSS.out.2.2.out.1).mono ?_
  rintro e w5 ⟨rfl, hb⟩
  replace HSS := Lib.hid (HSS.out.stay hb)
  clear hb t0 t1 t2 t3 t4 t5 u0 u1 u2 u3 u4 u5
  obtain ⟨t0, t1, t2, t3, t4, t5⟩ := HSS.out.1.cells
  obtain ⟨u0, u1, u2, u3, u4, u5⟩ := HSS.out.2.1.cells
  simp only at t0 t1 t2 t3 t4 t5 u0 u1 u2 u3 u4 u5
  by_cases hbad : valR p = false ∨ b < 0 ∨ 255 < b
  · have hqn : Q = nonR := by rw [HQE.out, HDV.out, if_pos hbad]
    clear HQE HDV
    subst hqn
    cases hval : valR p with
    | false =>
      clear hbad
      go_wp2_with fail
      refine (Same_any nonR _ ⟨0, 0, 0, 0, 0, .slice none 0 0⟩ _ non48 HSS.out.2.2.out.2.1 (zero_rd (fun _ => True) 0 _).rd).mono ?_
      rintro e wz ⟨rfl, hb⟩
      replace HSS := Lib.hid (HSS.out.stay hb)
      clear hb t0 t1 t2 t3 t4 t5 u0 u1 u2 u3 u4 u5
      go_wp2_with fail
      refine (awake15_any _ HSS.out.2.2.out.2.2.1).mono ?_
      rintro e wz ⟨rfl, hb⟩
      replace HSS := Lib.hid (HSS.out.stay hb)
      clear hb
      go_wp2_with fail
      go_ret
      exact ⟨rfl, HSS.out.2.2.out.2.2.2⟩
    | true =>
      by_cases hb0 : b < 0
      · clear hbad
        go_wp2_with fail
        refine (Same_any nonR _ ⟨0, 0, 0, 0, 0, .slice none 0 0⟩ _ non48 HSS.out.2.2.out.2.1 (zero_rd (fun _ => True) 0 _).rd).mono ?_
        rintro e wz ⟨rfl, hb⟩
        replace HSS := Lib.hid (HSS.out.stay hb)
        clear hb t0 t1 t2 t3 t4 t5 u0 u1 u2 u3 u4 u5
        go_wp2_with fail
        refine (awake15_any _ HSS.out.2.2.out.2.2.1).mono ?_
        rintro e wz ⟨rfl, hb⟩
        replace HSS := Lib.hid (HSS.out.stay hb)
        clear hb
        go_wp2_with fail
        go_ret
        exact ⟨rfl, HSS.out.2.2.out.2.2.2⟩
      · have hb1 : 255 < b := by
          rcases hbad with h | h | h
          · rw [hval] at h; cases h
          · exact absurd h hb0
          · exact h
        clear hbad
        go_wp2_with fail
        refine (Same_any nonR _ ⟨0, 0, 0, 0, 0, .slice none 0 0⟩ _ non48 HSS.out.2.2.out.2.1 (zero_rd (fun _ => True) 0 _).rd).mono ?_
        rintro e wz ⟨rfl, hb⟩
        replace HSS := Lib.hid (HSS.out.stay hb)
        clear hb t0 t1 t2 t3 t4 t5 u0 u1 u2 u3 u4 u5
        go_wp2_with fail
        refine (awake15_any _ HSS.out.2.2.out.2.2.1).mono ?_
        rintro e wz ⟨rfl, hb⟩
        replace HSS := Lib.hid (HSS.out.stay hb)
        clear hb
        go_wp2_with fail
        go_ret
        exact ⟨rfl, HSS.out.2.2.out.2.2.2⟩
  · have hval : valR p = true := by
      cases hv : valR p with
      | true => rfl
      | false => exact absurd (.inl hv) hbad
    have hb0 : ¬ b < 0 := fun h => hbad (.inr (.inl h))
    have hb1 : ¬ 255 < b := fun h => hbad (.inr (.inr h))
    have HQD : Hid (Q = derR b 48 p) := by unfold Hid; rw [HQE.out, HDV.out, if_neg hbad]
    have HVP := Lib.hid hval
    have HBB : Hid (0 ≤ b ∧ b ≤ 255) := by unfold Hid; omega
    rw [hval]
    clear hbad hval HQE HDV
    go_wp2_with fail
    refine (PValid_any Q _ w5 HSS.out.2.2.out.2.1).mono ?_
    rintro e w6 ⟨rfl, hb⟩
    replace HSS := Lib.hid (HSS.out.stay hb)
    clear hb t0 t1 t2 t3 t4 t5 u0 u1 u2 u3 u4 u5
    obtain ⟨t0, t1, t2, t3, t4, t5⟩ := HSS.out.1.cells
    obtain ⟨u0, u1, u2, u3, u4, u5⟩ := HSS.out.2.1.cells
    simp only at t0 t1 t2 t3 t4 t5 u0 u1 u2 u3 u4 u5
    cases hvq : valR Q with
    | false =>
      have h22 : (22 : Int) < cntR 48 p := by
        have h8 := sml_snd 8 48 p HSM.out (val_parts HVP.out).1
        have hc := sml_cnt HSM.out
        have hn : ¬ cntN 8 p ≤ 22 := fun h => by
          have := der_val b (show 8 ≤ 24 by omega) h8 h
          rw [← HQD.out, hvq] at this
          cases this
        rw [hc.2, cnt_le (show 8 ≤ 48 by omega) h8]
        omega
      clear hvq
      go_wp2_with fail
      refine (RSize_any p _ w6 HSS.out.2.2.out.1).mono ?_
      rintro e w7 ⟨rfl, hb⟩
      replace HSS := Lib.hid (HSS.out.stay hb)
      clear hb t0 t1 t2 t3 t4 t5 u0 u1 u2 u3 u4 u5
      go_wp2_with fail
      refine (awake15_any _ HSS.out.2.2.out.2.2.1).mono ?_
      rintro e wz ⟨rfl, hb⟩
      replace HSS := Lib.hid (HSS.out.stay hb)
      clear hb
      go_wp2_with fail
      go_ret
      exact ⟨rfl, HSS.out.2.2.out.2.2.2⟩
    | true =>
      obtain ⟨T, hT⟩ : ∃ T, T = matR Q (L s) := ⟨_, rfl⟩
      have hbn : ((UInt8.ofNat b.toNat).toNat : Int) = b := by
        have := HBB.out
        have h2 : (UInt8.ofNat b.toNat).toNat = b.toNat % 256 := rfl
        rw [h2]
        omega
      have hT2 : matR p (UInt8.ofNat b.toNat :: L s) = T := by
        have h := derv_mat HSM.out HVP.out (UInt8.ofNat b.toNat) (L s) (by rw [hbn, ← HQD.out]; exact hvq)
        rw [hbn, ← HQD.out] at h
        rw [hT, h]
      have HM1 := Lib.hid (fun w' (h : RdP w' ⟨d0, d1, d2, d3, d4, .slice fa qn fcap⟩ Q) => show Calls Tryd.prog 15 #[aggP ⟨d0, d1, d2, d3, d4, .slice fa qn fcap⟩, .string s] w' fun e w'' => e = .returned (.bool T) ∧ Below w'.heap.size w' w'' from by
        have := Match_any s (by have := HS.out; omega) Q _ w' h
        rw [← hT] at this
        exact this)
      have HM2 := Lib.hid (fun w' (h : RdP w' ⟨c0, c1, c2, c3, c4, .slice la n lcap⟩ p) => show Calls Tryd.prog 16 #[aggP ⟨c0, c1, c2, c3, c4, .slice la n lcap⟩, .string (⟨#[UInt8.ofNat b.toNat]⟩ ++ s)] w' fun e w'' => e = .returned (.bool T) ∧ Below w'.heap.size w' w'' from by
        have hl : L (⟨#[UInt8.ofNat b.toNat]⟩ ++ s) = UInt8.ofNat b.toNat :: L s := by rw [L_append]; rfl
        have hz : (⟨#[UInt8.ofNat b.toNat]⟩ ++ s : ByteArray).size ≤ 1000000 := by
          rw [← L_len, hl, List.length_cons, L_len]
          have := HS.out
          omega
        have := RMatch_any _ hz p _ w' h (fun _ => hcn)
        rw [hl, hT2] at this
        exact this)
      have hmod : b % 256 = b := by have := HBB.out; omega
      have hwu : IntKind.u8.wrap b = b := by rw [IntKind.wrap_u8]; exact hmod
      clear hvq hT hT2 hbn hcn t0 t1 t2 t3 t4 t5 u0 u1 u2 u3 u4 u5
      go_upto_region 8 with fail
      have hS0 : RsS w.heap.size w3.heap.size ⟨c0, c1, c2, c3, c4, .slice la n lcap⟩ ⟨d0, d1, d2, d3, d4, .slice fa qn fcap⟩ p Q w w6.drew := HSS.out.stay (below_drewN (Below.refl _ _) 1)
      refine wpq_region (fun w' => RsS w.heap.size w3.heap.size ⟨c0, c1, c2, c3, c4, .slice la n lcap⟩ ⟨d0, d1, d2, d3, d4, .slice fa qn fcap⟩ p Q w w') 15 (by kernel_rfl) hS0 (fun hHeld => ?_)
      clear HSS hS0
      generalize w6.drew = wd at *
      have hsz : 1 + s.size ≤ 1000 := by have := HS.out; omega
      refine wpq_take 0 (some 46) [15] rfl rfl (by kernel_rfl) (by kernel_rfl) (by kernel_rfl) (by kernel_rfl) (fun _ _ _ h => h) (Or.inl ⟨by rfl, fun w hSw => by (obtain ⟨x0, x1, x2, x3, x4, x5⟩ := BoxP.cells hSw.1; obtain ⟨y0, y1, y2, y3, y4, y5⟩ := BoxP.cells hSw.2.1; simp only at x0 x1 x2 x3 x4 x5 y0 y1 y2 y3 y4 y5; go_simp; with_reducible rfl)⟩) hHeld ?_
      simp only [Act.put, List.setIfInBounds_toArray, List.set_cons_zero, List.set_cons_succ]
      refine wpq_take 1 (some 47) [15] rfl rfl (by kernel_rfl) (by kernel_rfl) (by kernel_rfl) (by kernel_rfl) (fun _ _ _ h => h) (Or.inl ⟨by rfl, fun w hSw => by (obtain ⟨x0, x1, x2, x3, x4, x5⟩ := BoxP.cells hSw.1; obtain ⟨y0, y1, y2, y3, y4, y5⟩ := BoxP.cells hSw.2.1; simp only at x0 x1 x2 x3 x4 x5 y0 y1 y2 y3 y4 y5; go_simp; with_reducible rfl)⟩) hHeld ?_
      simp only [Act.put, List.setIfInBounds_toArray, List.set_cons_zero, List.set_cons_succ]
      refine wpq_take 3 (some 49) [15] rfl rfl (by kernel_rfl) (by kernel_rfl) (by kernel_rfl) (by kernel_rfl) (fun _ _ _ h => h) (Or.inl ⟨by rfl, fun w hSw => by (obtain ⟨x0, x1, x2, x3, x4, x5⟩ := BoxP.cells hSw.1; obtain ⟨y0, y1, y2, y3, y4, y5⟩ := BoxP.cells hSw.2.1; simp only at x0 x1 x2 x3 x4 x5 y0 y1 y2 y3 y4 y5; go_simp; with_reducible rfl)⟩) hHeld ?_
      simp only [Act.put, List.setIfInBounds_toArray, List.set_cons_zero, List.set_cons_succ]
      refine wpq_take 4 (some 50) [15] rfl rfl (by kernel_rfl) (by kernel_rfl) (by kernel_rfl) (by kernel_rfl) (fun _ _ _ h => h) (Or.inl ⟨by rfl, fun w hSw => by (obtain ⟨x0, x1, x2, x3, x4, x5⟩ := BoxP.cells hSw.1; obtain ⟨y0, y1, y2, y3, y4, y5⟩ := BoxP.cells hSw.2.1; simp only at x0 x1 x2 x3 x4 x5 y0 y1 y2 y3 y4 y5; go_simp; with_reducible rfl)⟩) hHeld ?_
      simp only [Act.put, List.setIfInBounds_toArray, List.set_cons_zero, List.set_cons_succ]
      refine wpq_take 5 (some 51) [15] rfl rfl (by kernel_rfl) (by kernel_rfl) (by kernel_rfl) (by kernel_rfl) (fun _ _ _ h => h) (Or.inl ⟨by rfl, fun w hSw => by (obtain ⟨x0, x1, x2, x3, x4, x5⟩ := BoxP.cells hSw.1; obtain ⟨y0, y1, y2, y3, y4, y5⟩ := BoxP.cells hSw.2.1; simp only at x0 x1 x2 x3 x4 x5 y0 y1 y2 y3 y4 y5; go_simp; with_reducible rfl)⟩) hHeld ?_
      simp only [Act.put, List.setIfInBounds_toArray, List.set_cons_zero, List.set_cons_succ]
      refine wpq_take 8 (some 54) [15] rfl rfl (by kernel_rfl) (by kernel_rfl) (by kernel_rfl) (by kernel_rfl) (fun _ _ _ h => h) (Or.inl ⟨by rfl, fun w hSw => by (obtain ⟨x0, x1, x2, x3, x4, x5⟩ := BoxP.cells hSw.1; obtain ⟨y0, y1, y2, y3, y4, y5⟩ := BoxP.cells hSw.2.1; simp only at x0 x1 x2 x3 x4 x5 y0 y1 y2 y3 y4 y5; go_simp; with_reducible rfl)⟩) hHeld ?_
      simp only [Act.put, List.setIfInBounds_toArray, List.set_cons_zero, List.set_cons_succ]
      refine wpq_two 2 6 (by kernel_rfl) rfl rfl (fun K hK => ?_) (fun K hK => ?_)
      · go_simp
        refine (HM1.out _ hHeld.2.2.out.2.1).mono ?_
        rintro e wd2 ⟨rfl, hb⟩
        replace hHeld := hHeld.stay hb
        clear hb
        generalize wd2 = wd at *
        refine hK.out _ _ hHeld (fun hHeld => ?_)
        clear hK K
        refine wpq_one 6 (by kernel_rfl) rfl (fun K hK => ?_)
        go_simp
        have hb6 : Below wd.heap.size wd (wd.alloc (.cells #[.int .u8 b] 5)) := (Below.refl _ _).alloc (Nat.le_refl _) _
        have hrow : (wd.alloc (.cells #[.int .u8 b] 5)).heap[wd.heap.size]? = some (.cells #[.int .u8 b] 5) := heap_alloc_new wd _
        have HHN := Lib.hid (hHeld.stay hb6)
        have HRW := Lib.hid hrow
        clear hHeld hb6 hrow
        refine hK.out _ _ HHN.out (fun hHeld => ?_)
        clear hK K HHN
        generalize wd.heap.size = kb at *
        generalize wd.alloc (.cells #[.int .u8 b] 5) = wd at *
        have hcv := conv_at wd kb b HRW.out
        refine wpq_one 7 (by kernel_rfl) rfl (fun K hK => ?_)
        go_simp
        refine hK.out _ _ hHeld (fun hHeld => ?_)
        clear hK K hcv
        refine wpq_take 9 (some 55) [15] rfl rfl (by kernel_rfl) (by kernel_rfl) (by kernel_rfl) (by kernel_rfl) (fun _ _ _ h => h) (Or.inl ⟨by rfl, fun w hSw => by (obtain ⟨x0, x1, x2, x3, x4, x5⟩ := BoxP.cells hSw.1; obtain ⟨y0, y1, y2, y3, y4, y5⟩ := BoxP.cells hSw.2.1; simp only at x0 x1 x2 x3 x4 x5 y0 y1 y2 y3 y4 y5; go_simp; rw [if_neg (by first | omega | (simp only [ByteArray.size_append]; omega) | (simp; omega))])⟩) hHeld ?_
        simp only [Act.put, List.setIfInBounds_toArray, List.set_cons_zero, List.set_cons_succ]
        refine wpq_one 10 (by kernel_rfl) rfl (fun K hK => ?_)
        go_simp
        refine (HM2.out _ hHeld.2.2.out.1).mono ?_
        rintro e wd2 ⟨rfl, hb⟩
        replace hHeld := hHeld.stay hb
        clear hb
        generalize wd2 = wd at *
        refine hK.out _ _ hHeld (fun hHeld => ?_)
        clear hK K
        refine wpq_one 11 (by kernel_rfl) rfl (fun K hK => ?_)
        go_simp
        refine hK.out _ _ hHeld (fun hHeld => ?_)
        clear hK K
        refine wpq_one 12 (by kernel_rfl) rfl (fun K hK => ?_)
        go_simp
        refine hK.out _ _ hHeld (fun hHeld => ?_)
        clear hK K
        refine wpq_one 13 (by kernel_rfl) rfl (fun K hK => ?_)
        go_simp
        refine (awake15_any _ hHeld.2.2.out.2.2.1).mono ?_
        rintro e wd2 ⟨rfl, hb⟩
        replace hHeld := hHeld.stay hb
        clear hb
        generalize wd2 = wd at *
        refine hK.out _ _ hHeld (fun hHeld => ?_)
        clear hK K
        refine wpq_one 14 (by kernel_rfl) rfl (fun K hK => ?_)
        go_simp
        refine hK.out _ _ hHeld (fun hHeld => ?_)
        clear hK K
        refine wpq_end 15 (by kernel_rfl) rfl (by kernel_rfl) (fun K hK => ?_)
        go_simp
        refine hK.out _ _ ?_
        clear hK K
        refine wpq_done (by kernel_rfl) ?_ _
        go_simp
        go_wp2_with fail
        go_ret
        exact ⟨rfl, hHeld.2.2.out.2.2.2⟩
      · go_simp
        have hb6 : Below wd.heap.size wd (wd.alloc (.cells #[.int .u8 b] 5)) := (Below.refl _ _).alloc (Nat.le_refl _) _
        have hrow : (wd.alloc (.cells #[.int .u8 b] 5)).heap[wd.heap.size]? = some (.cells #[.int .u8 b] 5) := heap_alloc_new wd _
        have HHN := Lib.hid (hHeld.stay hb6)
        have HRW := Lib.hid hrow
        clear hHeld hb6 hrow
        refine hK.out _ _ HHN.out (fun hHeld => ?_)
        clear hK K HHN
        generalize wd.heap.size = kb at *
        generalize wd.alloc (.cells #[.int .u8 b] 5) = wd at *
        refine wpq_two 2 7 (by kernel_rfl) rfl rfl (fun K hK => ?_) (fun K hK => ?_)
        · go_simp
          refine (HM1.out _ hHeld.2.2.out.2.1).mono ?_
          rintro e wd2 ⟨rfl, hb⟩
          replace HRW := Lib.hid ((hb.block kb (Array.getElem?_eq_some_iff.1 HRW.out).1).trans HRW.out)
          replace hHeld := hHeld.stay hb
          clear hb
          generalize wd2 = wd at *
          refine hK.out _ _ hHeld (fun hHeld => ?_)
          clear hK K
          have hcv := conv_at wd kb b HRW.out
          refine wpq_one 7 (by kernel_rfl) rfl (fun K hK => ?_)
          go_simp
          refine hK.out _ _ hHeld (fun hHeld => ?_)
          clear hK K hcv
          refine wpq_take 9 (some 55) [15] rfl rfl (by kernel_rfl) (by kernel_rfl) (by kernel_rfl) (by kernel_rfl) (fun _ _ _ h => h) (Or.inl ⟨by rfl, fun w hSw => by (obtain ⟨x0, x1, x2, x3, x4, x5⟩ := BoxP.cells hSw.1; obtain ⟨y0, y1, y2, y3, y4, y5⟩ := BoxP.cells hSw.2.1; simp only at x0 x1 x2 x3 x4 x5 y0 y1 y2 y3 y4 y5; go_simp; rw [if_neg (by first | omega | (simp only [ByteArray.size_append]; omega) | (simp; omega))])⟩) hHeld ?_
          simp only [Act.put, List.setIfInBounds_toArray, List.set_cons_zero, List.set_cons_succ]
          refine wpq_one 10 (by kernel_rfl) rfl (fun K hK => ?_)
          go_simp
          refine (HM2.out _ hHeld.2.2.out.1).mono ?_
          rintro e wd2 ⟨rfl, hb⟩
          replace hHeld := hHeld.stay hb
          clear hb
          generalize wd2 = wd at *
          refine hK.out _ _ hHeld (fun hHeld => ?_)
          clear hK K
          refine wpq_one 11 (by kernel_rfl) rfl (fun K hK => ?_)
          go_simp
          refine hK.out _ _ hHeld (fun hHeld => ?_)
          clear hK K
          refine wpq_one 12 (by kernel_rfl) rfl (fun K hK => ?_)
          go_simp
          refine hK.out _ _ hHeld (fun hHeld => ?_)
          clear hK K
          refine wpq_one 13 (by kernel_rfl) rfl (fun K hK => ?_)
          go_simp
          refine (awake15_any _ hHeld.2.2.out.2.2.1).mono ?_
          rintro e wd2 ⟨rfl, hb⟩
          replace hHeld := hHeld.stay hb
          clear hb
          generalize wd2 = wd at *
          refine hK.out _ _ hHeld (fun hHeld => ?_)
          clear hK K
          refine wpq_one 14 (by kernel_rfl) rfl (fun K hK => ?_)
          go_simp
          refine hK.out _ _ hHeld (fun hHeld => ?_)
          clear hK K
          refine wpq_end 15 (by kernel_rfl) rfl (by kernel_rfl) (fun K hK => ?_)
          go_simp
          refine hK.out _ _ ?_
          clear hK K
          refine wpq_done (by kernel_rfl) ?_ _
          go_simp
          go_wp2_with fail
          go_ret
          exact ⟨rfl, hHeld.2.2.out.2.2.2⟩
        · have hcv := conv_at wd kb b HRW.out
          go_simp
          refine hK.out _ _ hHeld (fun hHeld => ?_)
          clear hK K hcv
          refine wpq_take 9 (some 55) [15] rfl rfl (by kernel_rfl) (by kernel_rfl) (by kernel_rfl) (by kernel_rfl) (fun _ _ _ h => h) (Or.inl ⟨by rfl, fun w hSw => by (obtain ⟨x0, x1, x2, x3, x4, x5⟩ := BoxP.cells hSw.1; obtain ⟨y0, y1, y2, y3, y4, y5⟩ := BoxP.cells hSw.2.1; simp only at x0 x1 x2 x3 x4 x5 y0 y1 y2 y3 y4 y5; go_simp; rw [if_neg (by first | omega | (simp only [ByteArray.size_append]; omega) | (simp; omega))])⟩) hHeld ?_
          simp only [Act.put, List.setIfInBounds_toArray, List.set_cons_zero, List.set_cons_succ]
          refine wpq_one 2 (by kernel_rfl) rfl (fun K hK => ?_)
          go_simp
          refine (HM1.out _ hHeld.2.2.out.2.1).mono ?_
          rintro e wd2 ⟨rfl, hb⟩
          replace hHeld := hHeld.stay hb
          clear hb
          generalize wd2 = wd at *
          refine hK.out _ _ hHeld (fun hHeld => ?_)
          clear hK K
          refine wpq_one 10 (by kernel_rfl) rfl (fun K hK => ?_)
          go_simp
          refine (HM2.out _ hHeld.2.2.out.1).mono ?_
          rintro e wd2 ⟨rfl, hb⟩
          replace hHeld := hHeld.stay hb
          clear hb
          generalize wd2 = wd at *
          refine hK.out _ _ hHeld (fun hHeld => ?_)
          clear hK K
          refine wpq_one 11 (by kernel_rfl) rfl (fun K hK => ?_)
          go_simp
          refine hK.out _ _ hHeld (fun hHeld => ?_)
          clear hK K
          refine wpq_one 12 (by kernel_rfl) rfl (fun K hK => ?_)
          go_simp
          refine hK.out _ _ hHeld (fun hHeld => ?_)
          clear hK K
          refine wpq_one 13 (by kernel_rfl) rfl (fun K hK => ?_)
          go_simp
          refine (awake15_any _ hHeld.2.2.out.2.2.1).mono ?_
          rintro e wd2 ⟨rfl, hb⟩
          replace hHeld := hHeld.stay hb
          clear hb
          generalize wd2 = wd at *
          refine hK.out _ _ hHeld (fun hHeld => ?_)
          clear hK K
          refine wpq_one 14 (by kernel_rfl) rfl (fun K hK => ?_)
          go_simp
          refine hK.out _ _ hHeld (fun hHeld => ?_)
          clear hK K
          refine wpq_end 15 (by kernel_rfl) rfl (by kernel_rfl) (fun K hK => ?_)
          go_simp
          refine hK.out _ _ ?_
          clear hK K
          refine wpq_done (by kernel_rfl) ?_ _
          go_simp
          go_wp2_with fail
          go_ret
          exact ⟨rfl, hHeld.2.2.out.2.2.2⟩
end Go.Proofs.YtggolmamacoplaaDoor
