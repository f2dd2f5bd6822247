/- patch.zero, hasOld, hasNew, keyed; datakitref56.zero, byKey walked. Conditions: none. -/
import Derived.Test.YthdninnjjmhpfaaDoorKv
import Derived.Test.YthdninnjjmhpfaaDoorKp
namespace Go.Proofs.YthdninnjjmhpfaaDoor
open Go.RowKit
set_option maxHeartbeats 4000000
set_option maxRecDepth 100000

theorem zeroP_any (v : V) (c : VC) (w : World) (hv : RdV w c v) :
    Calls Tryd.prog 20 #[aggV c] w fun e w' => e = .returned (.bool (zeroV v)) ∧ Below w.heap.size w w' := by
  cases hv with
  | mk h l f bv lv fv lc fc ok hB hl hL hf hK hF sb sl sf =>
  obtain ⟨ba, bcap, rfl, _⟩ := hB
  obtain ⟨la, lcap, rfl, _⟩ := hl
  obtain ⟨fa, fcap, rfl, _⟩ := hf
  clear hL hF hK ok sb sl sf
  have hbw : ∀ x, Below w.heap.size w (w.alloc x) := fun x => (Below.refl _ _).alloc (Nat.le_refl _) _
  have HB := Lib.hid hbw; clear hbw
  obtain ⟨r, hr⟩ : ∃ r, r = zeroV (.mk h l f) := ⟨_, rfl⟩
  rw [← hr]
  rw [zeroV] at hr
  obtain ⟨a0, a1, a2, a3, a4, a5, a6, a7, a8, a9, a10⟩ := h
  simp only at hr
  generalize l.length = nl at *
  generalize f.length = nf at *
  simp only [aggV]
  generalize a10.length = nb at *
  have HQ : Hid (True → r = decide (a0 = 0 ∧ a1 = false ∧ (a2 = false ∧ a3.toList = [] ∧ a4 = 0) ∧ (a5 = 0 ∧ a6 = 0 ∧ a7 = 0 ∧ a8 = 0) ∧ a9.toList = [] ∧ nb = 0 ∧ nl = 0 ∧ nf = 0)) := fun _ => hr
  clear hr
  go_enter Tryd.func20, Tryd.ntmps20
  cases a2
  all_goals go_wp2_with fail
  all_goals
    go_ret
    refine ⟨rb ?_, HB.out _⟩
    have hq := HQ.out trivial
    clear HQ HB
    rw [hq]
    clear hq
    first
      | (simp_all; done)
      | (simp_all; omega)
      | (rw [Bool.eq_iff_iff]; simp_all; done)
      | (rw [Bool.eq_iff_iff]; simp_all; omega)
theorem zeroR_any (v : V) (c : VC) (w : World) (hv : RdV w c v) :
    Calls Tryd.prog 34 #[aggV c] w fun e w' => e = .returned (.bool (zeroV v)) ∧ Below w.heap.size w w' := by
  cases hv with
  | mk h l f bv lv fv lc fc ok hB hl hL hf hK hF sb sl sf =>
  obtain ⟨ba, bcap, rfl, _⟩ := hB
  obtain ⟨la, lcap, rfl, _⟩ := hl
  obtain ⟨fa, fcap, rfl, _⟩ := hf
  clear hL hF hK ok sb sl sf
  have hbw : ∀ x, Below w.heap.size w (w.alloc x) := fun x => (Below.refl _ _).alloc (Nat.le_refl _) _
  have HB := Lib.hid hbw; clear hbw
  obtain ⟨r, hr⟩ : ∃ r, r = zeroV (.mk h l f) := ⟨_, rfl⟩
  rw [← hr]
  rw [zeroV] at hr
  obtain ⟨a0, a1, a2, a3, a4, a5, a6, a7, a8, a9, a10⟩ := h
  simp only at hr
  generalize l.length = nl at *
  generalize f.length = nf at *
  simp only [aggV]
  generalize a10.length = nb at *
  have HQ : Hid (True → r = decide (a0 = 0 ∧ a1 = false ∧ (a2 = false ∧ a3.toList = [] ∧ a4 = 0) ∧ (a5 = 0 ∧ a6 = 0 ∧ a7 = 0 ∧ a8 = 0) ∧ a9.toList = [] ∧ nb = 0 ∧ nl = 0 ∧ nf = 0)) := fun _ => hr
  clear hr
  go_enter Tryd.func34, Tryd.ntmps34
  cases a2
  all_goals go_wp2_with fail
  all_goals
    go_ret
    refine ⟨rb ?_, HB.out _⟩
    have hq := HQ.out trivial
    clear HQ HB
    rw [hq]
    clear hq
    first
      | (simp_all; done)
      | (simp_all; omega)
      | (rw [Bool.eq_iff_iff]; simp_all; done)
      | (rw [Bool.eq_iff_iff]; simp_all; omega)
theorem hasOld_any (op : Int) (w : World) : Calls Tryd.prog 16 #[.int .i64 op] w fun e w' => e = .returned (.bool (oldB op)) ∧ w = w' := by
  have HQ : Hid (True → oldB op = decide (op = 1 ∨ op = 3 ∨ op = 4)) := fun _ => rfl
  generalize oldB op = r at *
  go_enter Tryd.func16, Tryd.ntmps16
  go_wp2_with fail
  all_goals
    go_ret
    refine ⟨rb ?_, rfl⟩
    have hq := HQ.out trivial
    clear HQ
    rw [hq]
    first
      | (simp_all; done)
      | (rw [Bool.eq_iff_iff]; simp_all; done)
      | (rw [Bool.eq_iff_iff]; simp_all; omega)
theorem hasNew_any (op : Int) (w : World) : Calls Tryd.prog 17 #[.int .i64 op] w fun e w' => e = .returned (.bool (newB op)) ∧ w = w' := by
  have HQ : Hid (True → newB op = decide (op = 1 ∨ op = 2)) := fun _ => rfl
  generalize newB op = r at *
  go_enter Tryd.func17, Tryd.ntmps17
  go_wp2_with fail
  all_goals
    go_ret
    refine ⟨rb ?_, rfl⟩
    have hq := HQ.out trivial
    clear HQ
    rw [hq]
    first
      | (simp_all; done)
      | (rw [Bool.eq_iff_iff]; simp_all; done)
      | (rw [Bool.eq_iff_iff]; simp_all; omega)
end Go.Proofs.YthdninnjjmhpfaaDoor
