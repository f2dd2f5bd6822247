/- What value.extra asks, in plain words; '==' against the zero decimal and time. Conditions: none. -/
import Derived.Test.YthdninnjjmhpfaaGreatDoorVd1
namespace Go.Proofs.YthdninnjjmhpfaaGreatDoor
open Go.RowKit
set_option maxHeartbeats 4000000
set_option maxRecDepth 100000

/-- Is a part that the kind does not have not zero? -/
def xtrB (h : Hd) (nl nf : Nat) : Bool :=
  !decide ((h.kind = 1 ∨ h.bool = false) ∧ (h.kind = 2 ∨ (h.neg = false ∧ h.ds.toList = [] ∧ h.exp = 0)) ∧ (h.kind = 3 ∨ (h.tk = 0 ∧ h.day = 0 ∧ h.nano = 0 ∧ h.off = 0)) ∧
    (h.kind = 4 ∨ h.text.toList = []) ∧ (h.kind = 5 ∨ h.bytes.length = 0) ∧ (h.kind = 6 ∨ nl = 0) ∧ (h.kind = 7 ∨ nf = 0))
theorem ownB_xtr (h : Hd) (nl nf : Nat) : ownB h nl nf = (decide (0 ≤ h.kind ∧ h.kind ≤ 7) && !xtrB h nl nf) := by
  unfold ownB xtrB
  rw [Bool.not_not, ← Bool.decide_and, decide_eq_decide, szE, szE]
  exact ⟨fun ⟨a, b, c⟩ => ⟨⟨a, b⟩, c⟩, fun ⟨⟨a, b⟩, c⟩ => ⟨a, b, c⟩⟩
theorem eqDec0 (a2 : Bool) (a3 : ByteArray) (a4 : Int) (qd : Bool) (hqd : qd = decide (a2 = false ∧ a3.toList = [] ∧ a4 = 0)) :
    ∀ w', (Op.equalIn 10000 23 (.agg #[.bool a2, .string a3, .int .i64 a4]) (.agg #[.bool false, .string ⟨#[]⟩, .int .i64 0])).run Tryz.prog w' = .ok qd w' := fun w' => by
  rw [eqIn_dec, hqd]
  congr 1
  rw [decide_eq_decide]
  have : a3 = ⟨#[]⟩ ↔ a3.toList = [] := by
    rw [toList_L]
    exact ⟨fun h => by rw [h]; rfl, fun h => L_inj h⟩
  rw [this]
theorem eqTim0 (a5 a6 a7 a8 : Int) (qt : Bool) (hqt : qt = decide (a5 = 0 ∧ a6 = 0 ∧ a7 = 0 ∧ a8 = 0)) :
    ∀ w', (Op.equalIn 10000 25 (.agg #[.int .i64 a5, .int .i64 a6, .int .i64 a7, .int .i64 a8]) (.agg #[.int .i64 0, .int .i64 0, .int .i64 0, .int .i64 0])).run Tryz.prog w' = .ok qt w' := fun w' => by
  rw [eqIn_time, hqt]
end Go.Proofs.YthdninnjjmhpfaaGreatDoor
