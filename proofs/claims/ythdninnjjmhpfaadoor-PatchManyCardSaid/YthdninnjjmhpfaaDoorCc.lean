/- patch.clone walked. Conditions: at most 10^6 values in all. -/
import Derived.Test.YthdninnjjmhpfaaDoorCg
import Derived.Deep.RegionWith
import Derived.Laws.CopyOwn
namespace Go.Proofs.YthdninnjjmhpfaaDoor
open Go.RowKit
set_option maxHeartbeats 4000000
set_option maxRecDepth 100000

/-- What a copy of a change hands back. -/
def ClPost (w : World) (x : Ch) (e : Ending) (w' : World) : Prop := ∃ c, e = .returned (aggC c) ∧ RdC w' (fun b => w.heap.size ≤ b) c x ∧ Below w.heap.size w w'
theorem vcells_one {w : World} {S : Nat → Prop} {c : VC} {v : V} (h : RdI w S c v) : ∀ u ∈ c.cells, u.oneCell' = true := by
  intro u hu
  obtain ⟨h, b1, b2, b3, m1, m2, m3, o1, o2, o3, rfl⟩ := h.forms
  simp [VC.cells] at hu
  rcases hu with rfl | rfl | rfl | rfl | rfl | rfl | rfl | rfl | rfl | rfl | rfl | rfl | rfl <;> rfl
theorem ccells_one {w : World} {S : Nat → Prop} {c : CC} {x : Ch} (h : RdC w S c x) : ∀ u ∈ c.cells, u.oneCell' = true := by
  intro u hu
  obtain ⟨a0, m0, hp, _⟩ := h.p
  unfold CC.cells at hu
  rcases List.mem_cons.1 hu with rfl | hu
  · rfl
  rcases List.mem_cons.1 hu with rfl | hu
  · rw [hp]; rfl
  rcases List.mem_cons.1 hu with rfl | hu
  · rfl
  rcases List.mem_append.1 hu with hu | hu
  · exact vcells_one h.o u hu
  · exact vcells_one h.n u hu
theorem alloc2_of {w w0 : World} {X Y : Obj} (h : (w.alloc X).alloc Y = w0) : Below w.heap.size w w0 ∧ w0.heap[w.heap.size]? = some X ∧ w0.heap[w.heap.size + 1]? = some Y ∧ w0.heap.size = w.heap.size + 2 := by
  obtain ⟨h1, h2, h3, _⟩ := two_allocs (w := w) (x := X) (y := Y) (w1 := (w.alloc X).alloc Y) (Below.refl _ _)
  rw [h] at h1 h2 h3
  exact ⟨h1, h2, h3, by rw [← h]; simp⟩
theorem own_form {w : World} {base size n : Nat} {e : TypeId} {v : Value} {xs : List Value} (h : w.ownsRow base e size v n xs) : ∃ a cap, v = .slice a n cap := by
  rcases h.2 with ⟨rfl, rfl⟩ | ⟨g, cap, cur, rfl, _⟩
  · exact ⟨none, 0, rfl⟩
  · exact ⟨_, _, rfl⟩
/-- Thirteen stores in a row, as the walk lays them. -/
theorem put13 {w : World} {g : Nat} (off : Nat) {cs : Array Value} {t : TypeId} (u0 u1 u2 u3 u4 u5 u6 u7 u8 u9 u10 u11 u12 : Value) (h : w.heap[g]? = some (.cells cs t (0, 0))) :
    (((((((((((((w.setCell ⟨g, off, none⟩ u0).setCell ⟨g, off + 1, none⟩ u1).setCell ⟨g, off + 2, none⟩ u2).setCell ⟨g, off + 3, none⟩ u3).setCell ⟨g, off + 4, none⟩ u4).setCell ⟨g, off + 5, none⟩ u5).setCell ⟨g, off + 6, none⟩ u6).setCell ⟨g, off + 7, none⟩ u7).setCell ⟨g, off + 8, none⟩ u8).setCell ⟨g, off + 9, none⟩ u9).setCell ⟨g, off + 10, none⟩ u10).setCell ⟨g, off + 11, none⟩ u11).setCell ⟨g, off + 12, none⟩ u12).heap[g]? = some (.cells (((((((((((((cs.setIfInBounds (off) u0).setIfInBounds (off + 1) u1).setIfInBounds (off + 2) u2).setIfInBounds (off + 3) u3).setIfInBounds (off + 4) u4).setIfInBounds (off + 5) u5).setIfInBounds (off + 6) u6).setIfInBounds (off + 7) u7).setIfInBounds (off + 8) u8).setIfInBounds (off + 9) u9).setIfInBounds (off + 10) u10).setIfInBounds (off + 11) u11).setIfInBounds (off + 12) u12) t (0, 0)) := by
  iterate 13 refine heap_setCell_same _ _ _ _ _ _ ?_
  exact h
end Go.Proofs.YthdninnjjmhpfaaDoor
