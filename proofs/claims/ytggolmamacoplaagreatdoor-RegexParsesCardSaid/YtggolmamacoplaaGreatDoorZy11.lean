/- regex.form, datakitref15.node walked. Conditions: none. -/
import Derived.Test.YtggolmamacoplaaGreatDoorZy1
import Derived.Test.YtggolmamacoplaaGreatDoorZy5
namespace Go.Proofs.YtggolmamacoplaaGreatDoor
open Go.RowKit
set_option maxHeartbeats 4000000
set_option maxRecDepth 100000

def Ret (v : Value) (w : World) (e : Ending) (w' : World) : Prop := e = .returned v ∧ Below w.heap.size w w'
theorem form_iff (op lo hi mn mx : Int) (n : Nat) : formR op lo hi mn mx n = true ↔
    ((op = 0 ∨ op = 1) ∧ n = 0 ∧ lo = 0 ∧ hi = 0 ∧ mn = 0 ∧ mx = 0) ∨ (op = 2 ∧ n = 0 ∧ 0 ≤ lo ∧ lo ≤ hi ∧ hi ≤ 255 ∧ mn = 0 ∧ mx = 0) ∨
    ((op = 3 ∨ op = 4 ∨ op = 6) ∧ 2 ≤ n ∧ lo = 0 ∧ hi = 0 ∧ mn = 0 ∧ mx = 0) ∨ (op = 5 ∧ n = 1 ∧ lo = 0 ∧ hi = 0 ∧ 0 ≤ mn ∧ mn ≤ 64 ∧ (mx = -1 ∨ (mn ≤ mx ∧ mx ≤ 64))) ∨
    (op = 7 ∧ n = 1 ∧ lo = 0 ∧ hi = 0 ∧ mn = 0 ∧ mx = 0) := by
  unfold formR
  by_cases h0 : op = 0 ∨ op = 1
  · rw [if_pos h0, decide_eq_true_eq]
    omega
  rw [if_neg h0]
  by_cases h2 : op = 2
  · rw [if_pos h2, decide_eq_true_eq]
    omega
  rw [if_neg h2]
  by_cases h3 : op = 3 ∨ op = 4 ∨ op = 6
  · rw [if_pos h3, decide_eq_true_eq]
    omega
  rw [if_neg h3]
  by_cases h5 : op = 5
  · rw [if_pos h5, decide_eq_true_eq]
    omega
  rw [if_neg h5]
  by_cases h7 : op = 7
  · rw [if_pos h7, decide_eq_true_eq]
    omega
  rw [if_neg h7]
  simp
  omega
theorem form_any (op lo hi mn mx : Int) (a : Option Addr) (n cap : Nat) (w : World) :
    Calls Tryz.prog 57 #[.agg #[.int .i64 op, .int .i64 lo, .int .i64 hi, .int .i64 mn, .int .i64 mx, .slice a n cap]] w (Ret (.bool (formR op lo hi mn mx n)) w) := by
  have hb : ∀ x, Below w.heap.size w (w.alloc x) := fun x => (Below.refl _ _).alloc (Nat.le_refl _) _
  have HB := Lib.hid hb
  clear hb
  obtain ⟨r, hr⟩ : ∃ r, r = formR op lo hi mn mx n := ⟨_, rfl⟩
  rw [← hr]
  have HF := Lib.hid (form_iff op lo hi mn mx n)
  rw [← hr] at HF
  clear hr
  have hfin : ∀ b : Bool, (b = true ↔ (((op = 0 ∨ op = 1) ∧ n = 0 ∧ lo = 0 ∧ hi = 0 ∧ mn = 0 ∧ mx = 0) ∨ (op = 2 ∧ n = 0 ∧ 0 ≤ lo ∧ lo ≤ hi ∧ hi ≤ 255 ∧ mn = 0 ∧ mx = 0) ∨
    ((op = 3 ∨ op = 4 ∨ op = 6) ∧ 2 ≤ n ∧ lo = 0 ∧ hi = 0 ∧ mn = 0 ∧ mx = 0) ∨ (op = 5 ∧ n = 1 ∧ lo = 0 ∧ hi = 0 ∧ 0 ≤ mn ∧ mn ≤ 64 ∧ (mx = -1 ∨ (mn ≤ mx ∧ mx ≤ 64))) ∨
    (op = 7 ∧ n = 1 ∧ lo = 0 ∧ hi = 0 ∧ mn = 0 ∧ mx = 0))) → Ending.returned (.bool b) = Ending.returned (.bool r) := by
    intro b hb
    rw [Bool.eq_iff_iff.2 (hb.trans HF.out.symm)]
  have HFIN := Lib.hid hfin
  clear hfin HF
  go_enter Tryz.func57, Tryz.ntmps57
  go_wp2_with fail
  all_goals
    go_ret
    refine ⟨HFIN.out _ ?_, HB.out _⟩
    clear HFIN HB
    repeat (rename (∀ (a : Act) (w : World), _ → _) => hK; clear hK)
    try simp only [bne_iff_ne, ne_eq, bne_eq_false_iff_eq, Bool.false_eq_true, false_iff, true_iff, decide_eq_true_eq, beq_iff_eq, beq_eq_false_iff_ne, Bool.or_eq_true] at *
    omega
theorem node_any (op lo hi mn mx : Int) (a : Option Addr) (n cap : Nat) (w : World) :
    Calls Tryz.prog 67 #[.agg #[.int .i64 op, .int .i64 lo, .int .i64 hi, .int .i64 mn, .int .i64 mx, .slice a n cap]] w (Ret (.bool (formR op lo hi mn mx n)) w) := by
  have hb : ∀ x, Below w.heap.size w (w.alloc x) := fun x => (Below.refl _ _).alloc (Nat.le_refl _) _
  have HB := Lib.hid hb
  clear hb
  obtain ⟨r, hr⟩ : ∃ r, r = formR op lo hi mn mx n := ⟨_, rfl⟩
  rw [← hr]
  have HF := Lib.hid (form_iff op lo hi mn mx n)
  rw [← hr] at HF
  clear hr
  have hfin : ∀ b : Bool, (b = true ↔ (((op = 0 ∨ op = 1) ∧ n = 0 ∧ lo = 0 ∧ hi = 0 ∧ mn = 0 ∧ mx = 0) ∨ (op = 2 ∧ n = 0 ∧ 0 ≤ lo ∧ lo ≤ hi ∧ hi ≤ 255 ∧ mn = 0 ∧ mx = 0) ∨
    ((op = 3 ∨ op = 4 ∨ op = 6) ∧ 2 ≤ n ∧ lo = 0 ∧ hi = 0 ∧ mn = 0 ∧ mx = 0) ∨ (op = 5 ∧ n = 1 ∧ lo = 0 ∧ hi = 0 ∧ 0 ≤ mn ∧ mn ≤ 64 ∧ (mx = -1 ∨ (mn ≤ mx ∧ mx ≤ 64))) ∨
    (op = 7 ∧ n = 1 ∧ lo = 0 ∧ hi = 0 ∧ mn = 0 ∧ mx = 0))) → Ending.returned (.bool b) = Ending.returned (.bool r) := by
    intro b hb
    rw [Bool.eq_iff_iff.2 (hb.trans HF.out.symm)]
  have HFIN := Lib.hid hfin
  clear hfin HF
  go_enter Tryz.func67, Tryz.ntmps67
  go_wp2_with fail
  all_goals
    go_ret
    refine ⟨HFIN.out _ ?_, HB.out _⟩
    clear HFIN HB
    repeat (rename (∀ (a : Act) (w : World), _ → _) => hK; clear hK)
    try simp only [ne_eq, Bool.false_eq_true, false_iff, true_iff, decide_eq_true_eq, beq_iff_eq, beq_eq_false_iff_ne, Bool.or_eq_true] at *
    omega

end Go.Proofs.YtggolmamacoplaaGreatDoor
