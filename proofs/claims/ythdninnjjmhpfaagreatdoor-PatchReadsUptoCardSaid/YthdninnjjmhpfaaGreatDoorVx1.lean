/- value.extra walked. Conditions: none. -/
import Derived.Test.YthdninnjjmhpfaaGreatDoorVd0
import Derived.Test.YthdninnjjmhpfaaGreatDoorCt
import Derived.Test.YthdninnjjmhpfaaGreatDoorTd
namespace Go.Proofs.YthdninnjjmhpfaaGreatDoor
open Go.RowKit
set_option maxHeartbeats 4000000
set_option maxRecDepth 100000

theorem extra7_any (h : Hd) (b lv fv : Value) (nb nl nf cb cl cf : Nat) (ab al af : Option Addr) (w : World) (hb : nb = h.bytes.length) (e1 : b = .slice ab nb cb) (e2 : lv = .slice al nl cl) (e3 : fv = .slice af nf cf) :
    Calls Tryz.prog 114 #[aggV ⟨h, b, lv, fv⟩] w fun en w' => en = .returned (.bool (xtrB h nl nf)) ∧ Below w.heap.size w w' := by
  have hbw : ∀ x, Below w.heap.size w (w.alloc x) := fun x => (Below.refl _ _).alloc (Nat.le_refl _) _
  have HB := Lib.hid hbw; clear hbw
  obtain ⟨r, hr⟩ : ∃ r, r = xtrB h nl nf := ⟨_, rfl⟩
  rw [← hr]
  obtain ⟨a0, a1, a2, a3, a4, a5, a6, a7, a8, a9, a10⟩ := h
  unfold xtrB at hr
  simp only at hr hb
  rw [← hb] at hr
  clear hb
  subst e1 e2 e3
  simp only [aggV]
  have HQ : Hid (True → r = !decide ((a0 = 1 ∨ a1 = false) ∧ (a0 = 2 ∨ (a2 = false ∧ a3.toList = [] ∧ a4 = 0)) ∧ (a0 = 3 ∨ (a5 = 0 ∧ a6 = 0 ∧ a7 = 0 ∧ a8 = 0)) ∧ (a0 = 4 ∨ a9.toList = []) ∧ (a0 = 5 ∨ nb = 0) ∧ (a0 = 6 ∨ nl = 0) ∧ (a0 = 7 ∨ nf = 0))) := fun _ => hr
  clear hr
  go_enter Tryz.func114, Tryz.ntmps114
  go_upto_region 2 with fail
  simp only [la_cons, la_nil]
  cases a2
  all_goals go_wp2_with fail
  all_goals
    go_ret
    refine ⟨rb ?_, HB.out _⟩
    have hq := HQ.out trivial
    clear HQ HB
    rw [hq]
    clear hq
    first
      | (simp_all; done)
      | (simp_all; omega)
      | (rw [Bool.eq_iff_iff]; simp_all; done)
      | (rw [Bool.eq_iff_iff]; simp_all; omega)
end Go.Proofs.YthdninnjjmhpfaaGreatDoor
