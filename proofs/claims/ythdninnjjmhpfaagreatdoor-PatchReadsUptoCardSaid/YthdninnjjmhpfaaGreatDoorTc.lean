/- slices.Clone and value.copied, walked. Conditions: lists of at most 10^6 values in all. -/
import Derived.Test.YthdninnjjmhpfaaGreatDoorOt
import Derived.Test.YthdninnjjmhpfaaGreatDoorTs
import Derived.WalkSpells
namespace Go.Proofs.YthdninnjjmhpfaaGreatDoor
open Go.RowKit
set_option maxHeartbeats 1000000
set_option maxRecDepth 100000

theorem elemB : Elem Tryz.prog 26 5 1 := elem_of (z := .int .u8 0) (bytes := 1) Tryz.underlying26 (by kernel_rfl) (by decide) (by decide) rfl
theorem bytes1 : ∀ i, Tryz.prog.info? 5 = some i → i.bytes = 1 := fun i h => by
  have h2 : (Tryz.prog.info? 5).map (·.bytes) = some 1 := by kernel_rfl
  rw [h] at h2
  simpa using h2
theorem Clone_any (v : Value) (l : List UInt8) (w : World) (h : RdB w v l) :
    Calls Tryz.prog 92 #[v] w fun e w' => ∃ v', e = .returned v' ∧ RdB w' v' l ∧ BlkIn (fun b => w.heap.size ≤ b) v' ∧ Below w.heap.size w w' := by
  obtain ⟨a, cap, rfl, h1, ⟨h2, h2'⟩, h3, h4⟩ := h
  have hq := fun (w : World) (a : Option Addr) (n c : Nat) => Lib.run_eql_slice_nil (P := Tryz.prog) w 26 5 a n c 0 0 Tryz.underlying26
  rcases a with _ | ad
  · obtain rfl := h3 rfl
    have hl : l = [] := List.length_eq_zero_iff.1 (by omega)
    subst hl
    clear h3 h4 h1
    go_enter Tryz.func92, Tryz.ntmps92
    go_wp2_with fail
    go_ret
    exact ⟨_, rfl, Sl.nil, (fun g o p n cap hv hn => by cases hv), Below.refl _ _⟩
  · have hc : ∀ j u, (l.map bv)[j]? = some u → (w.alloc (.cells #[] 5)).cell? (ad.add j) = some u := by
      intro j u hu
      rw [List.getElem?_map] at hu
      have hj : j < l.length := by
        rcases Nat.lt_or_ge j l.length with h | h
        · exact h
        · rw [List.getElem?_eq_none h] at hu; cases hu
      obtain ⟨g, o, ha, hg, hc⟩ := h4 (by omega)
      simp only [Option.some.injEq] at ha
      subst ha
      have h5 := hc j hj 0 (by decide)
      simp only [Nat.mul_one, Nat.add_zero, List.getElem?_cons_zero] at h5
      rw [List.getElem?_eq_getElem hj] at hu
      rw [List.getD_eq_getElem?_getD, List.getElem?_eq_getElem hj] at h5
      have hadd : (⟨g, o, none⟩ : Addr).add j = ⟨g, o + j, none⟩ := by unfold Addr.add; split <;> simp_all
      rw [hadd, World.cell?_of_block (w := w) (a := ⟨g, o + j, none⟩) (heap_alloc_old w _ hg), h5, ← hu]
      rfl
    have HC := Lib.hid hc
    have hown : (w.alloc (.cells #[] 5)).ownsRow w.heap.size 5 1 (.slice (some ⟨w.heap.size, 0, none⟩) 0 0) 0 [] := World.ownsRow_made w #[] 0 (Nat.le_refl _) (Nat.zero_le _) rfl
    clear h3 h4 hc
    go_enter Tryz.func92, Tryz.ntmps92
    go_wp2_with (at_builtin; refine wp_rowS elemB rfl _ _ rfl hown ad l.length cap (l.map bv) (by simp) HC.out (bv_one l) rfl rfl (fun i hi => by rw [bytes1 i hi]; omega) (by simp only [maxLen]; omega) (by simp) ?_; intro v' w2 hown2 hg2 hb2 hf2)
    go_ret
    simp only [Nat.zero_add, List.nil_append] at hown2
    exact ⟨_, rfl, RdB.of_own hown2 rfl h2, BlkIn.of_own hown2, ((Below.refl _ w).alloc (Nat.le_refl _) _).trans hb2⟩
end Go.Proofs.YthdninnjjmhpfaaGreatDoor
