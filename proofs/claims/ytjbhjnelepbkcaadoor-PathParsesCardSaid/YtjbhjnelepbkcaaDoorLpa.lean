/- The law PathParses walked. Conditions: the variables of strconv and math/bits read as laid. -/
import Derived.Test.YtjbhjnelepbkcaaDoorLv
import Derived.Test.YtjbhjnelepbkcaaDoorPr3
namespace Go.Proofs.YtjbhjnelepbkcaaDoor
open Go.RowKit Go.Shelf
set_option maxHeartbeats 2000000
set_option maxRecDepth 100000

theorem ParsesL_any (s : ByteArray) (w : World) (he : Env w) :
    Calls Tryd.prog 5 #[.string s] w fun e w' => e = .returned (.bool true) ∧ Below w.heap.size w w' := by
  have HE := Lib.hid he
  clear he
  by_cases hbig : 3000 < s.size
  · have eb : (3000 : Int) < s.size := by omega
    clear hbig
    go_enter Tryd.func5, Tryd.ntmps5
    go_wp2_with fail
    refine (lives_any w HE.out).mono ?_
    rintro e w2 ⟨rfl, hb2⟩
    go_wp2_with fail
    go_ret
    exact ⟨rfl, hb2⟩
  have eb : ¬ (3000 : Int) < s.size := by omega
  have HP := Lib.hid (fun w' (he : Env w') => Parse_any s w' (by omega) he)
  have HR := Lib.hid (fun w' => RParse_any s w' (by omega))
  have hso := parse_sound (L s)
  generalize parseL (L s) = x at *
  obtain ⟨pl, n⟩ := x
  simp only [] at hso
  by_cases hn : n = 0
  · obtain ⟨hva, htx⟩ := hso hn
    subst hn
    have hT : (⟨(textL pl).toArray⟩ : ByteArray) = s := L_inj htx
    have HV := Lib.hid (fun v w' (h : Rd w' v pl) => PValid_any v pl w' h)
    have HT := Lib.hid (fun v w' (h : Rd w' v pl) (he : Env w') => PText_any v pl w' h hva he)
    rw [hT] at HT
    rw [hva] at HV
    have hss : (s.toList == s.toList) = true := beq_self_eq_true _
    clear hva htx hT hso hbig
    go_enter Tryd.func5, Tryd.ntmps5
    go_wp2_with fail
    refine (HP.out w HE.out).mono ?_
    rintro e w1 ⟨q, rfl, hown1, hb1⟩
    have HQ1 := Lib.hid (Rd.of_own hown1)
    clear hown1
    go_wp2_with fail
    refine (HR.out w1).mono ?_
    rintro e w2 ⟨q2, rfl, hown2, hb2⟩
    have hbw2 : Below w.heap.size w w2 := hb1.trans (hb2.mono hb1.size)
    have HQ12 := Lib.hid (HQ1.out.below hb2)
    have HQ2 := Lib.hid (Rd.of_own hown2)
    clear hown2 hb1 hb2 HQ1
    go_wp2_with fail
    refine (REqual_any q q2 pl pl w2 HQ12.out HQ2.out).mono ?_
    rintro e w3 ⟨rfl, hb3⟩
    rw [decide_eq_true (rfl : pl = pl)]
    have hbw3 := hbw2.trans (hb3.mono hbw2.size)
    have HQ3 := Lib.hid (HQ12.out.below hb3)
    clear hb3 hbw2 HQ12 HQ2
    go_wp2_with fail
    refine (HV.out q w3 HQ3.out).mono ?_
    rintro e w4 ⟨rfl, hb4⟩
    have hbw4 := hbw3.trans (hb4.mono hbw3.size)
    have HQ4 := Lib.hid (HQ3.out.below hb4)
    clear hb4 hbw3 HQ3
    go_wp2_with fail
    refine (HT.out q w4 HQ4.out (HE.out.below hbw4)).mono ?_
    rintro e w5 ⟨rfl, hb5⟩
    have hbw5 := hbw4.trans (hb5.mono hbw4.size)
    clear hb5 hbw4 HQ4
    go_wp2_with fail
    refine (lives_any w5 (HE.out.below hbw5)).mono ?_
    rintro e w6 ⟨rfl, hb6⟩
    go_wp2_with fail
    go_ret
    exact ⟨rfl, hbw5.trans (hb6.mono hbw5.size)⟩
  · have en : ((n : Int) != 0) = true := by rw [bne_iff_ne]; omega
    clear hso hbig hn
    go_enter Tryd.func5, Tryd.ntmps5
    go_wp2_with fail
    refine (HP.out w HE.out).mono ?_
    rintro e w1 ⟨q, rfl, hown1, hb1⟩
    have HQ1 := Lib.hid (Rd.of_own hown1)
    clear hown1
    go_wp2_with fail
    refine (HR.out w1).mono ?_
    rintro e w2 ⟨q2, rfl, hown2, hb2⟩
    have hbw2 : Below w.heap.size w w2 := hb1.trans (hb2.mono hb1.size)
    have HQ12 := Lib.hid (HQ1.out.below hb2)
    have HQ2 := Lib.hid (Rd.of_own hown2)
    clear hown2 hb1 hb2 HQ1
    go_wp2_with fail
    refine (REqual_any q q2 pl pl w2 HQ12.out HQ2.out).mono ?_
    rintro e w3 ⟨rfl, hb3⟩
    rw [decide_eq_true (rfl : pl = pl)]
    have hbw3 := hbw2.trans (hb3.mono hbw2.size)
    clear hb3 hbw2 HQ12 HQ2
    go_wp2_with fail
    refine (lives_any w3 (HE.out.below hbw3)).mono ?_
    rintro e w6 ⟨rfl, hb6⟩
    go_wp2_with fail
    go_ret
    exact ⟨rfl, hbw3.trans (hb6.mono hbw3.size)⟩
end Go.Proofs.YtjbhjnelepbkcaaDoor
