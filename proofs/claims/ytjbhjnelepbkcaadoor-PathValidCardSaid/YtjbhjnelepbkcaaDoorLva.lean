/- The law PathValid walked. Conditions: the variables of strconv and math/bits read as laid. -/
import Derived.Test.YtjbhjnelepbkcaaDoorLv
namespace Go.Proofs.YtjbhjnelepbkcaaDoor
open Go.RowKit Go.Shelf
set_option maxHeartbeats 2000000
set_option maxRecDepth 100000

theorem Key8_any (t : ByteArray) (w : World) : Calls Tryd.prog 13 #[.string t] w fun e w' => e = .returned (.agg #[.bool false, .string t, .int .i64 0]) ∧ Below w.heap.size w w' := by
  go_enter Tryd.func13, Tryd.ntmps13
  go_wp2_with fail
  exact bodyPost_ret (v := .agg #[.bool false, .string t, .int .i64 0]) (by simp [results, Tryd.results13, go_sem]) rfl ⟨rfl, (Below.refl _ w).alloc (Nat.le_refl _) _⟩
theorem At8_any (n : Int) (w : World) : Calls Tryd.prog 15 #[.int .i64 n] w fun e w' => e = .returned (.agg #[.bool true, .string ⟨#[]⟩, .int .i64 n]) ∧ Below w.heap.size w w' := by
  go_enter Tryd.func15, Tryd.ntmps15
  go_wp2_with fail
  exact bodyPost_ret (v := .agg #[.bool true, .string ⟨#[]⟩, .int .i64 n]) (by simp [results, Tryd.results15, go_sem]) rfl ⟨rfl, (Below.refl _ w).alloc (Nat.le_refl _) _⟩
theorem ValidL_any (v : Value) (l : List St) (key : ByteArray) (i : Int) (w : World) (hv : Rd w v l) (he : Env w) :
    Calls Tryd.prog 3 #[v, .string key, .int .i64 i] w fun e w' => e = .returned (.bool true) ∧ Below w.heap.size w w' := by
  have HV := Lib.hid hv
  have HE := Lib.hid he
  obtain ⟨a, cap, rfl, _, _, _, _⟩ := hv
  clear he
  by_cases hbig : 100 < l.length
  · have h1 : (100 : Int) < l.length := by omega
    clear hbig
    go_enter Tryd.func3, Tryd.ntmps3
    go_wp2_with fail
    refine (lives_any w HE.out).mono ?_
    rintro e w2 ⟨rfl, hb2⟩
    go_wp2_with fail
    go_ret
    exact ⟨rfl, hb2⟩
  have h1 : ¬ (100 : Int) < l.length := by omega
  have hq1 : ∀ w', (Op.equalIn 10000 26 (.agg #[.bool false, .string key, .int .i64 0]) (.agg #[.bool false, .string key, .int .i64 0])).run Tryd.prog w' = .ok true w' := fun w' => by rw [eqIn_step, decide_eq_true rfl]
  have hq2 : ∀ w', (Op.equalIn 10000 26 (.agg #[.bool true, .string ⟨#[]⟩, .int .i64 i]) (.agg #[.bool true, .string ⟨#[]⟩, .int .i64 i])).run Tryd.prog w' = .ok true w' := fun w' => by rw [eqIn_step, decide_eq_true rfl]
  have hvv : (validP l == validP l) = true := beq_self_eq_true _
  go_enter Tryd.func3, Tryd.ntmps3
  go_wp2_with fail
  refine (PValid_any _ l _ HV.out).mono ?_
  rintro e w1 ⟨rfl, hb1⟩
  go_wp2_with fail
  refine (RValid_any _ l _ (HV.out.below hb1)).mono ?_
  rintro e w2 ⟨rfl, hb2⟩
  have hbw2 : Below w.heap.size w w2 := hb1.trans (hb2.mono hb1.size)
  clear hb1 hb2
  generalize validP l = vp at *
  go_wp2_with fail
  refine (Key_any key w2).mono ?_
  rintro e w3 ⟨rfl, hb3⟩
  have hbw3 : Below w.heap.size w w3 := hbw2.trans (hb3.mono hbw2.size)
  clear hbw2 hb3
  go_wp2_with fail
  refine (Key8_any key w3).mono ?_
  rintro e w4 ⟨rfl, hb4⟩
  have hbw4 : Below w.heap.size w w4 := hbw3.trans (hb4.mono hbw3.size)
  clear hbw3 hb4
  go_wp2_with fail
  refine (At_any i w4).mono ?_
  rintro e w5 ⟨rfl, hb5⟩
  have hbw5 : Below w.heap.size w w5 := hbw4.trans (hb5.mono hbw4.size)
  clear hbw4 hb5
  go_wp2_with fail
  refine (At8_any i w5).mono ?_
  rintro e w6 ⟨rfl, hb6⟩
  have hbw6 : Below w.heap.size w w6 := hbw5.trans (hb6.mono hbw5.size)
  clear hbw5 hb6
  go_wp2_with fail
  refine (lives_any w6 (HE.out.below hbw6)).mono ?_
  rintro e w7 ⟨rfl, hb7⟩
  go_wp2_with fail
  go_ret
  exact ⟨rfl, hbw6.trans (hb7.mono hbw6.size)⟩
end Go.Proofs.YtjbhjnelepbkcaaDoor
