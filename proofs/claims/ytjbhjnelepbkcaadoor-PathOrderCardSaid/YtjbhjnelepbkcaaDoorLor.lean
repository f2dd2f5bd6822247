/- The law PathOrder walked. Conditions: the variables of strconv and math/bits read as laid. -/
import Derived.Test.YtjbhjnelepbkcaaDoorLv
import Derived.Test.YtjbhjnelepbkcaaDoorPo1
namespace Go.Proofs.YtjbhjnelepbkcaaDoor
open Go.RowKit Go.Shelf
set_option maxHeartbeats 2000000
set_option maxRecDepth 100000

theorem cmpI_val (x y : Int) : cmpI x y = -1 ∨ cmpI x y = 0 ∨ cmpI x y = 1 := by
  unfold cmpI
  repeat' split
  all_goals omega
theorem cmpP_val : ∀ l m : List St, cmpP l m = -1 ∨ cmpP l m = 0 ∨ cmpP l m = 1
  | [], m => by rw [cmpP_nil]; exact cmpI_val _ _
  | x :: a, [] => by rw [cmpP_nil']; exact cmpI_val _ _
  | x :: a, y :: b => by
    rw [cmpP_cons]
    split
    · exact cmpP_val a b
    · unfold stepC cmpS
      repeat' split
      all_goals first | exact cmpI_val _ _ | simp
theorem OrderL_any (v1 v2 v3 : Value) (a b c : List St) (w : World) (h1 : Rd w v1 a) (h2 : Rd w v2 b) (h3 : Rd w v3 c) (he : Env w) :
    Calls Tryd.prog 8 #[.agg #[v1, v2, v3]] w fun e w' => e = .returned (.bool true) ∧ Below w.heap.size w w' := by
  have HA := Lib.hid h1
  have HB := Lib.hid h2
  have HC := Lib.hid h3
  have HE := Lib.hid he
  have hbx : ∀ o, Below w.heap.size w (w.alloc o).drew := fun o => ((Below.refl w.heap.size w).alloc (Nat.le_refl _) o).drew
  have HBX := Lib.hid hbx
  obtain ⟨p1, q1, rfl, _⟩ := h1
  obtain ⟨p2, q2, rfl, _⟩ := h2
  obtain ⟨p3, q3, rfl, _⟩ := h3
  clear he hbx
  go_enter Tryd.func8, Tryd.ntmps8
  go_wp2_with fail
  go_region
  have hb1 := HBX.out (.cells #[.slice p1 a.length q1, .slice p2 b.length q2, .slice p3 c.length q3] 43)
  clear HBX
  generalize (w.alloc (.cells #[.slice p1 a.length q1, .slice p2 b.length q2, .slice p3 c.length q3] 43)).drew = w1 at *
  go_wp2_with fail
  refine (RValid_any _ a w1 (HA.out.below hb1)).mono ?_
  rintro e w2 ⟨rfl, hx2⟩
  have hb2 : Below w.heap.size w w2 := hb1.trans (hx2.mono hb1.size)
  clear hx2 hb1
  cases ha : validP a
  case false =>
    clear ha
    go_wp2_with fail
    refine (lives_any w2 (HE.out.below hb2)).mono ?_
    rintro e w3 ⟨rfl, hx3⟩
    have hb3 : Below w.heap.size w w3 := hb2.trans (hx3.mono hb2.size)
    clear hx3 hb2
    go_wp2_with fail
    go_ret
    exact ⟨rfl, hb3⟩
  have HVA := Lib.hid ha
  clear ha
  go_wp2_with fail
  refine (RValid_any _ b w2 (HB.out.below hb2)).mono ?_
  rintro e w3 ⟨rfl, hx3⟩
  have hb3 : Below w.heap.size w w3 := hb2.trans (hx3.mono hb2.size)
  clear hx3 hb2
  cases hb : validP b
  case false =>
    clear hb
    go_wp2_with fail
    refine (lives_any w3 (HE.out.below hb3)).mono ?_
    rintro e w4 ⟨rfl, hx4⟩
    have hb4 : Below w.heap.size w w4 := hb3.trans (hx4.mono hb3.size)
    clear hx4 hb3
    go_wp2_with fail
    go_ret
    exact ⟨rfl, hb4⟩
  have HVB := Lib.hid hb
  clear hb
  go_wp2_with fail
  refine (RValid_any _ c w3 (HC.out.below hb3)).mono ?_
  rintro e w4 ⟨rfl, hx4⟩
  have hb4 : Below w.heap.size w w4 := hb3.trans (hx4.mono hb3.size)
  clear hx4 hb3
  cases hc : validP c
  case false =>
    clear hc
    go_wp2_with fail
    refine (lives_any w4 (HE.out.below hb4)).mono ?_
    rintro e w5 ⟨rfl, hx5⟩
    have hb5 : Below w.heap.size w w5 := hb4.trans (hx5.mono hb4.size)
    clear hx5 hb4
    go_wp2_with fail
    go_ret
    exact ⟨rfl, hb5⟩
  have HVC := Lib.hid hc
  clear hc
  have hsw := cmpP_swap a b (all_ok HVA.out).1 (all_ok HVB.out).1
  have hze := cmpP_zero a b (all_ok HVA.out).1 (all_ok HVB.out).1
  have htr := cmpP_trans a b c (all_ok HVA.out).1 (all_ok HVB.out).1 (all_ok HVC.out).1
  have hun := cmpP_under a b
  obtain ⟨TA, hTA⟩ : ∃ T : ByteArray, T = ⟨(textL a).toArray⟩ := ⟨_, rfl⟩
  obtain ⟨TB, hTB⟩ : ∃ T : ByteArray, T = ⟨(textL b).toArray⟩ := ⟨_, rfl⟩
  have hTT : (TA.toList == TB.toList) = decide (a = b) := by
    rw [toList_L, toList_L, hTA, hTB]
    show (textL a == textL b) = _
    by_cases h : a = b
    · rw [h]; simp
    · rw [decide_eq_false h, beq_eq_false_iff_ne]
      exact fun h' => h (text_inj HVA.out HVB.out h')
  have HTA := Lib.hid (fun w' (h : Rd w' (.slice p1 a.length q1) a) (he : Env w') => PText_any _ a w' h HVA.out he)
  have HTB := Lib.hid (fun w' (h : Rd w' (.slice p2 b.length q2) b) (he : Env w') => PText_any _ b w' h HVB.out he)
  rw [← hTA] at HTA
  rw [← hTB] at HTB
  have HTR := Lib.hid htr; clear htr
  have HUN := Lib.hid hun; clear hun
  clear hTA hTB
  rcases cmpP_val a b with hn | hn | hn
  · have hnb : cmpP b a = 1 := by rw [hsw, hn] <;> rfl
    have hde : decide (a = b) = false := by
      exact decide_eq_false (fun h => by have := hze.2 h; rw [hn] at this; cases this)
    rw [hde] at hTT
    have HN := Lib.hid hn
    have HNB := Lib.hid hnb
    have HDE := Lib.hid hde
    clear hn hnb hde hsw hze
    go_wp2_with fail
    refine (PCmp_any _ _ a b w4 (HA.out.below hb4) (HB.out.below hb4)).mono ?_
    rintro e w5 ⟨rfl, hx5⟩
    have hb5 : Below w.heap.size w w5 := hb4.trans (hx5.mono hb4.size)
    clear hx5 hb4
    rw [HN.out]
    go_wp2_with fail
    refine (PCmp_any _ _ b a w5 (HB.out.below hb5) (HA.out.below hb5)).mono ?_
    rintro e w6 ⟨rfl, hx6⟩
    have hb6 : Below w.heap.size w w6 := hb5.trans (hx6.mono hb5.size)
    clear hx6 hb5
    rw [HNB.out]
    go_wp2_with fail
    refine (PEqual_any _ _ a b w6 (HA.out.below hb6) (HB.out.below hb6)).mono ?_
    rintro e w7 ⟨rfl, hx7⟩
    have hb7 : Below w.heap.size w w7 := hb6.trans (hx7.mono hb6.size)
    clear hx7 hb6
    rw [HDE.out]
    go_wp2_with fail
    refine (HTA.out w7 (HA.out.below hb7) (HE.out.below hb7)).mono ?_
    rintro e w8 ⟨rfl, hx8⟩
    have hb8 : Below w.heap.size w w8 := hb7.trans (hx8.mono hb7.size)
    clear hx8 hb7
    go_wp2_with fail
    refine (HTB.out w8 (HB.out.below hb8) (HE.out.below hb8)).mono ?_
    rintro e w9 ⟨rfl, hx9⟩
    have hb9 : Below w.heap.size w w9 := hb8.trans (hx9.mono hb8.size)
    clear hx9 hb8
    go_wp2_with fail
    refine (PCmp_any _ _ b c w9 (HB.out.below hb9) (HC.out.below hb9)).mono ?_
    rintro e w10 ⟨rfl, hx10⟩
    have hb10 : Below w.heap.size w w10 := hb9.trans (hx10.mono hb9.size)
    clear hx10 hb9
    rcases cmpP_val b c with hm | hm | hm
    · have HM := Lib.hid hm
      rw [hm]
      clear hm
      go_wp2_with fail
      refine (PCmp_any _ _ a c w10 (HA.out.below hb10) (HC.out.below hb10)).mono ?_
      rintro e w11 ⟨rfl, hx11⟩
      have hb11 : Below w.heap.size w w11 := hb10.trans (hx11.mono hb10.size)
      clear hx11 hb10
      have hle := HTR.out (by rw [HN.out]; decide) (by rw [HM.out]; decide)
      have hng : ¬ (0 : Int) < cmpP a c := by omega
      generalize cmpP a c = q at *
      go_wp2_with fail
      refine (PUnder_any _ _ a b w11 (HA.out.below hb11) (HB.out.below hb11)).mono ?_
      rintro e w12 ⟨rfl, hx12⟩
      have hb12 : Below w.heap.size w w12 := hb11.trans (hx12.mono hb11.size)
      clear hx12 hb11
      cases hul : underL a b
      · clear hul
        go_wp2_with fail
        refine (lives_any w12 (HE.out.below hb12)).mono ?_
        rintro e w13 ⟨rfl, hx13⟩
        have hb13 : Below w.heap.size w w13 := hb12.trans (hx13.mono hb12.size)
        clear hx13 hb12
        go_wp2_with fail
        go_ret
        exact ⟨rfl, hb13⟩
      · have := HUN.out hul
        rw [HN.out] at this
        exact absurd this (by decide)
    · have HM := Lib.hid hm
      rw [hm]
      clear hm
      go_wp2_with fail
      refine (PCmp_any _ _ a c w10 (HA.out.below hb10) (HC.out.below hb10)).mono ?_
      rintro e w11 ⟨rfl, hx11⟩
      have hb11 : Below w.heap.size w w11 := hb10.trans (hx11.mono hb10.size)
      clear hx11 hb10
      have hle := HTR.out (by rw [HN.out]; decide) (by rw [HM.out]; decide)
      have hng : ¬ (0 : Int) < cmpP a c := by omega
      generalize cmpP a c = q at *
      go_wp2_with fail
      refine (PUnder_any _ _ a b w11 (HA.out.below hb11) (HB.out.below hb11)).mono ?_
      rintro e w12 ⟨rfl, hx12⟩
      have hb12 : Below w.heap.size w w12 := hb11.trans (hx12.mono hb11.size)
      clear hx12 hb11
      cases hul : underL a b
      · clear hul
        go_wp2_with fail
        refine (lives_any w12 (HE.out.below hb12)).mono ?_
        rintro e w13 ⟨rfl, hx13⟩
        have hb13 : Below w.heap.size w w13 := hb12.trans (hx13.mono hb12.size)
        clear hx13 hb12
        go_wp2_with fail
        go_ret
        exact ⟨rfl, hb13⟩
      · have := HUN.out hul
        rw [HN.out] at this
        exact absurd this (by decide)
    · have HM := Lib.hid hm
      rw [hm]
      clear hm
      go_wp2_with fail
      refine (PUnder_any _ _ a b w10 (HA.out.below hb10) (HB.out.below hb10)).mono ?_
      rintro e w11 ⟨rfl, hx11⟩
      have hb11 : Below w.heap.size w w11 := hb10.trans (hx11.mono hb10.size)
      clear hx11 hb10
      cases hul : underL a b
      · clear hul
        go_wp2_with fail
        refine (lives_any w11 (HE.out.below hb11)).mono ?_
        rintro e w12 ⟨rfl, hx12⟩
        have hb12 : Below w.heap.size w w12 := hb11.trans (hx12.mono hb11.size)
        clear hx12 hb11
        go_wp2_with fail
        go_ret
        exact ⟨rfl, hb12⟩
      · have := HUN.out hul
        rw [HN.out] at this
        exact absurd this (by decide)
  · have hnb : cmpP b a = 0 := by rw [hsw, hn] <;> rfl
    have hde : decide (a = b) = true := by
      exact decide_eq_true (hze.1 hn)
    rw [hde] at hTT
    have HN := Lib.hid hn
    have HNB := Lib.hid hnb
    have HDE := Lib.hid hde
    clear hn hnb hde hsw hze
    go_wp2_with fail
    refine (PCmp_any _ _ a b w4 (HA.out.below hb4) (HB.out.below hb4)).mono ?_
    rintro e w5 ⟨rfl, hx5⟩
    have hb5 : Below w.heap.size w w5 := hb4.trans (hx5.mono hb4.size)
    clear hx5 hb4
    rw [HN.out]
    go_wp2_with fail
    refine (PCmp_any _ _ b a w5 (HB.out.below hb5) (HA.out.below hb5)).mono ?_
    rintro e w6 ⟨rfl, hx6⟩
    have hb6 : Below w.heap.size w w6 := hb5.trans (hx6.mono hb5.size)
    clear hx6 hb5
    rw [HNB.out]
    go_wp2_with fail
    refine (PEqual_any _ _ a b w6 (HA.out.below hb6) (HB.out.below hb6)).mono ?_
    rintro e w7 ⟨rfl, hx7⟩
    have hb7 : Below w.heap.size w w7 := hb6.trans (hx7.mono hb6.size)
    clear hx7 hb6
    rw [HDE.out]
    go_wp2_with fail
    refine (HTA.out w7 (HA.out.below hb7) (HE.out.below hb7)).mono ?_
    rintro e w8 ⟨rfl, hx8⟩
    have hb8 : Below w.heap.size w w8 := hb7.trans (hx8.mono hb7.size)
    clear hx8 hb7
    go_wp2_with fail
    refine (HTB.out w8 (HB.out.below hb8) (HE.out.below hb8)).mono ?_
    rintro e w9 ⟨rfl, hx9⟩
    have hb9 : Below w.heap.size w w9 := hb8.trans (hx9.mono hb8.size)
    clear hx9 hb8
    go_wp2_with fail
    refine (PCmp_any _ _ b c w9 (HB.out.below hb9) (HC.out.below hb9)).mono ?_
    rintro e w10 ⟨rfl, hx10⟩
    have hb10 : Below w.heap.size w w10 := hb9.trans (hx10.mono hb9.size)
    clear hx10 hb9
    rcases cmpP_val b c with hm | hm | hm
    · have HM := Lib.hid hm
      rw [hm]
      clear hm
      go_wp2_with fail
      refine (PCmp_any _ _ a c w10 (HA.out.below hb10) (HC.out.below hb10)).mono ?_
      rintro e w11 ⟨rfl, hx11⟩
      have hb11 : Below w.heap.size w w11 := hb10.trans (hx11.mono hb10.size)
      clear hx11 hb10
      have hle := HTR.out (by rw [HN.out]; decide) (by rw [HM.out]; decide)
      have hng : ¬ (0 : Int) < cmpP a c := by omega
      generalize cmpP a c = q at *
      go_wp2_with fail
      refine (PUnder_any _ _ a b w11 (HA.out.below hb11) (HB.out.below hb11)).mono ?_
      rintro e w12 ⟨rfl, hx12⟩
      have hb12 : Below w.heap.size w w12 := hb11.trans (hx12.mono hb11.size)
      clear hx12 hb11
      cases hul : underL a b
      · clear hul
        go_wp2_with fail
        refine (lives_any w12 (HE.out.below hb12)).mono ?_
        rintro e w13 ⟨rfl, hx13⟩
        have hb13 : Below w.heap.size w w13 := hb12.trans (hx13.mono hb12.size)
        clear hx13 hb12
        go_wp2_with fail
        go_ret
        exact ⟨rfl, hb13⟩
      · clear hul
        go_wp2_with fail
        refine (lives_any w12 (HE.out.below hb12)).mono ?_
        rintro e w13 ⟨rfl, hx13⟩
        have hb13 : Below w.heap.size w w13 := hb12.trans (hx13.mono hb12.size)
        clear hx13 hb12
        go_wp2_with fail
        go_ret
        exact ⟨rfl, hb13⟩
    · have HM := Lib.hid hm
      rw [hm]
      clear hm
      go_wp2_with fail
      refine (PCmp_any _ _ a c w10 (HA.out.below hb10) (HC.out.below hb10)).mono ?_
      rintro e w11 ⟨rfl, hx11⟩
      have hb11 : Below w.heap.size w w11 := hb10.trans (hx11.mono hb10.size)
      clear hx11 hb10
      have hle := HTR.out (by rw [HN.out]; decide) (by rw [HM.out]; decide)
      have hng : ¬ (0 : Int) < cmpP a c := by omega
      generalize cmpP a c = q at *
      go_wp2_with fail
      refine (PUnder_any _ _ a b w11 (HA.out.below hb11) (HB.out.below hb11)).mono ?_
      rintro e w12 ⟨rfl, hx12⟩
      have hb12 : Below w.heap.size w w12 := hb11.trans (hx12.mono hb11.size)
      clear hx12 hb11
      cases hul : underL a b
      · clear hul
        go_wp2_with fail
        refine (lives_any w12 (HE.out.below hb12)).mono ?_
        rintro e w13 ⟨rfl, hx13⟩
        have hb13 : Below w.heap.size w w13 := hb12.trans (hx13.mono hb12.size)
        clear hx13 hb12
        go_wp2_with fail
        go_ret
        exact ⟨rfl, hb13⟩
      · clear hul
        go_wp2_with fail
        refine (lives_any w12 (HE.out.below hb12)).mono ?_
        rintro e w13 ⟨rfl, hx13⟩
        have hb13 : Below w.heap.size w w13 := hb12.trans (hx13.mono hb12.size)
        clear hx13 hb12
        go_wp2_with fail
        go_ret
        exact ⟨rfl, hb13⟩
    · have HM := Lib.hid hm
      rw [hm]
      clear hm
      go_wp2_with fail
      refine (PUnder_any _ _ a b w10 (HA.out.below hb10) (HB.out.below hb10)).mono ?_
      rintro e w11 ⟨rfl, hx11⟩
      have hb11 : Below w.heap.size w w11 := hb10.trans (hx11.mono hb10.size)
      clear hx11 hb10
      cases hul : underL a b
      · clear hul
        go_wp2_with fail
        refine (lives_any w11 (HE.out.below hb11)).mono ?_
        rintro e w12 ⟨rfl, hx12⟩
        have hb12 : Below w.heap.size w w12 := hb11.trans (hx12.mono hb11.size)
        clear hx12 hb11
        go_wp2_with fail
        go_ret
        exact ⟨rfl, hb12⟩
      · clear hul
        go_wp2_with fail
        refine (lives_any w11 (HE.out.below hb11)).mono ?_
        rintro e w12 ⟨rfl, hx12⟩
        have hb12 : Below w.heap.size w w12 := hb11.trans (hx12.mono hb11.size)
        clear hx12 hb11
        go_wp2_with fail
        go_ret
        exact ⟨rfl, hb12⟩
  · have hnb : cmpP b a = -1 := by rw [hsw, hn] <;> rfl
    have hde : decide (a = b) = false := by
      exact decide_eq_false (fun h => by have := hze.2 h; rw [hn] at this; cases this)
    rw [hde] at hTT
    have HN := Lib.hid hn
    have HNB := Lib.hid hnb
    have HDE := Lib.hid hde
    clear hn hnb hde hsw hze
    go_wp2_with fail
    refine (PCmp_any _ _ a b w4 (HA.out.below hb4) (HB.out.below hb4)).mono ?_
    rintro e w5 ⟨rfl, hx5⟩
    have hb5 : Below w.heap.size w w5 := hb4.trans (hx5.mono hb4.size)
    clear hx5 hb4
    rw [HN.out]
    go_wp2_with fail
    refine (PCmp_any _ _ b a w5 (HB.out.below hb5) (HA.out.below hb5)).mono ?_
    rintro e w6 ⟨rfl, hx6⟩
    have hb6 : Below w.heap.size w w6 := hb5.trans (hx6.mono hb5.size)
    clear hx6 hb5
    rw [HNB.out]
    go_wp2_with fail
    refine (PEqual_any _ _ a b w6 (HA.out.below hb6) (HB.out.below hb6)).mono ?_
    rintro e w7 ⟨rfl, hx7⟩
    have hb7 : Below w.heap.size w w7 := hb6.trans (hx7.mono hb6.size)
    clear hx7 hb6
    rw [HDE.out]
    go_wp2_with fail
    refine (HTA.out w7 (HA.out.below hb7) (HE.out.below hb7)).mono ?_
    rintro e w8 ⟨rfl, hx8⟩
    have hb8 : Below w.heap.size w w8 := hb7.trans (hx8.mono hb7.size)
    clear hx8 hb7
    go_wp2_with fail
    refine (HTB.out w8 (HB.out.below hb8) (HE.out.below hb8)).mono ?_
    rintro e w9 ⟨rfl, hx9⟩
    have hb9 : Below w.heap.size w w9 := hb8.trans (hx9.mono hb8.size)
    clear hx9 hb8
    go_wp2_with fail
    refine (PUnder_any _ _ a b w9 (HA.out.below hb9) (HB.out.below hb9)).mono ?_
    rintro e w10 ⟨rfl, hx10⟩
    have hb10 : Below w.heap.size w w10 := hb9.trans (hx10.mono hb9.size)
    clear hx10 hb9
    cases hul : underL a b
    · clear hul
      go_wp2_with fail
      refine (lives_any w10 (HE.out.below hb10)).mono ?_
      rintro e w11 ⟨rfl, hx11⟩
      have hb11 : Below w.heap.size w w11 := hb10.trans (hx11.mono hb10.size)
      clear hx11 hb10
      go_wp2_with fail
      go_ret
      exact ⟨rfl, hb11⟩
    · clear hul
      go_wp2_with fail
      refine (lives_any w10 (HE.out.below hb10)).mono ?_
      rintro e w11 ⟨rfl, hx11⟩
      have hb11 : Below w.heap.size w w11 := hb10.trans (hx11.mono hb10.size)
      clear hx11 hb10
      go_wp2_with fail
      go_ret
      exact ⟨rfl, hb11⟩
end Go.Proofs.YtjbhjnelepbkcaaDoor
