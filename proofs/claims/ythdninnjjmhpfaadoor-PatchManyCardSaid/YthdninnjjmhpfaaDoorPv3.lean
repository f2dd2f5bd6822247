/- The packages path and datakitref08, walked: Equal, Under. Conditions: none. -/
import Derived.Test.YthdninnjjmhpfaaDoorPv2
namespace Go.Proofs.YthdninnjjmhpfaaDoor
open Go.RowKit
set_option maxHeartbeats 1000000
set_option maxRecDepth 100000

/-- '==' of two steps. -/
theorem eqIn_step (x0 y0 : Bool) (x1 y1 : ByteArray) (x2 y2 : Int) (w : World) :
    (Op.equalIn 10000 65 (.agg #[.bool x0, .string x1, .int .i64 x2]) (.agg #[.bool y0, .string y1, .int .i64 y2])).run Tryd.prog w = .ok (decide ((x0, x1, x2) = (y0, y1, y2))) w := by
  have u1 := Tryd.underlying4
  have a1 := Tryd.isAgg4
  have z1 := Tryd.sizeOf4
  have u2 := Tryd.underlying9
  have a2 := Tryd.isAgg9
  have z2 := Tryd.sizeOf9
  have u3 := Tryd.underlying3
  have a3 := Tryd.isAgg3
  have z3 := Tryd.sizeOf3
  have hS : Tryd.prog.underlying 65 = some (.struct (Tryd.prog.fieldsOf 65)) := by kernel_rfl
  have hp : Tryd.prog.stoodInHeld 65 = false := by kernel_rfl
  rw [show (10000 : Nat) = 9999 + 1 from rfl, run_equalIn_agg w 9999 65 _ _ hS hp]
  simp only [Program.fieldsOf, Tryd.underlying65]
  go_simp
  by_cases h0 : x0 = y0 <;> by_cases h1 : x1 = y1 <;> by_cases h2 : x2 = y2 <;> simp [h0, h1, h2, toList_L, mt (L_inj (s := x1) (t := y1))]
theorem eq_step (l m : List St) (k : Nat) (hk : k < l.length) (hk' : k < m.length) (he : l.take k = m.take k) :
    (l[k] = m[k] → l.take (k + 1) = m.take (k + 1)) ∧ (l[k] ≠ m[k] → l ≠ m) := by
  refine ⟨fun h1 => ?_, fun h1 h2 => ?_⟩
  · rw [List.take_succ_eq_append_getElem hk, List.take_succ_eq_append_getElem hk', he, h1]
  · subst h2; exact h1 rfl
end Go.Proofs.YthdninnjjmhpfaaDoor
