/- The law PathTexts walked. Conditions: the variables of strconv and math/bits read as laid. -/
import Derived.Test.YtjbhjnelepbkcaaDoorLv
import Derived.Test.YtjbhjnelepbkcaaDoorRt2
namespace Go.Proofs.YtjbhjnelepbkcaaDoor
open Go.RowKit Go.Shelf
set_option maxHeartbeats 2000000
set_option maxRecDepth 100000

theorem textL_len (l : List St) (h : validP l = true) : (textL l).length ≤ 400000 := by
  obtain ⟨hok, h48⟩ := all_ok h
  have key : ∀ p : List St, p.all okSt = true → (p.flatMap stepT).length ≤ 7000 * p.length := by
    intro p
    induction p with
    | nil => intro _; simp
    | cons s p ih =>
      intro hp
      simp only [List.all_cons, Bool.and_eq_true] at hp
      have h1 := stepT_len s hp.1
      have h2 := ih hp.2
      rw [List.flatMap_cons, List.length_append, List.length_cons]
      omega
  have hk := key l hok
  unfold textL
  split
  · simp
  · rw [List.length_append]
    have : (preT l).length ≤ 1 := by
      unfold preT
      split
      · split <;> simp
      · simp
    omega
theorem TextsL_any (v : Value) (l : List St) (w : World) (hv : Rd w v l) (he : Env w) :
    Calls Tryd.prog 4 #[v] w fun e w' => e = .returned (.bool true) ∧ Below w.heap.size w w' := by
  have HRV := Lib.hid (RValid_any v l w hv)
  have HV := Lib.hid hv
  have HE := Lib.hid he
  clear hv he
  cases hl : validP l
  case false =>
    rw [hl] at HRV
    clear hl
    go_enter Tryd.func4, Tryd.ntmps4
    go_wp2_with fail
    refine HRV.out.mono ?_
    rintro e w1 ⟨rfl, hb1⟩
    go_wp2_with fail
    refine (lives_any w1 (HE.out.below hb1)).mono ?_
    rintro e w2 ⟨rfl, hb2⟩
    go_wp2_with fail
    go_ret
    exact ⟨rfl, hb1.trans (hb2.mono hb1.size)⟩
  rw [hl] at HRV
  have HVL := Lib.hid hl
  have htl := textL_len l hl
  have hpt := parse_text l hl
  clear hl
  obtain ⟨T, hT⟩ : ∃ T : ByteArray, T = ⟨(textL l).toArray⟩ := ⟨_, rfl⟩
  have hTs : T.size ≤ 1000000000 := by rw [← L_len, hT]; show (textL l).length ≤ _; omega
  have hPT : parseL (L T) = (l, 0) := by rw [hT]; exact hpt
  have HT1 := Lib.hid (fun w' (h : Rd w' v l) (he : Env w') => PText_any v l w' h HVL.out he)
  have HT2 := Lib.hid (fun w' (h : Rd w' v l) => RText_any v l w' h HVL.out)
  have HPA := Lib.hid (fun w' (he : Env w') => Parse_any T w' hTs he)
  rw [← hT] at HT1 HT2
  rw [hPT] at HPA
  have hTT : (T.toList == T.toList) = true := beq_self_eq_true _
  clear hT hPT hpt htl hTs
  go_enter Tryd.func4, Tryd.ntmps4
  go_wp2_with fail
  refine HRV.out.mono ?_
  rintro e w1 ⟨rfl, hb1⟩
  go_wp2_with fail
  refine (HT1.out w1 (HV.out.below hb1) (HE.out.below hb1)).mono ?_
  rintro e w2 ⟨rfl, hb2⟩
  have hbw2 : Below w.heap.size w w2 := hb1.trans (hb2.mono hb1.size)
  clear hb1 hb2
  go_wp2_with fail
  refine (HPA.out w2 (HE.out.below hbw2)).mono ?_
  rintro e w3 ⟨q, rfl, hown3, hb3⟩
  have hbw3 : Below w.heap.size w w3 := hbw2.trans (hb3.mono hbw2.size)
  have HQ := Lib.hid (Rd.of_own hown3)
  clear hbw2 hb3 hown3
  go_wp2_with fail
  refine (HT2.out w3 (HV.out.below hbw3)).mono ?_
  rintro e w4 ⟨rfl, hb4⟩
  have hbw4 : Below w.heap.size w w4 := hbw3.trans (hb4.mono hbw3.size)
  have HQ4 := Lib.hid (HQ.out.below hb4)
  clear hbw3 hb4 HQ
  go_wp2_with fail
  refine (REqual_any v q l l w4 (HV.out.below hbw4) HQ4.out).mono ?_
  rintro e w5 ⟨rfl, hb5⟩
  have hbw5 : Below w.heap.size w w5 := hbw4.trans (hb5.mono hbw4.size)
  rw [decide_eq_true (rfl : l = l)]
  clear hbw4 hb5 HQ4
  go_wp2_with fail
  refine (lives_any w5 (HE.out.below hbw5)).mono ?_
  rintro e w6 ⟨rfl, hb6⟩
  go_wp2_with fail
  go_ret
  exact ⟨rfl, hbw5.trans (hb6.mono hbw5.size)⟩
end Go.Proofs.YtjbhjnelepbkcaaDoor
