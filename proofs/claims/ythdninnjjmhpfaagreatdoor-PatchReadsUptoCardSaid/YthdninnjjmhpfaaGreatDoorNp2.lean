/- datakitref02.FromInt, datakitref07.Int walked, from 0 to 10^15. Conditions: none. -/
import Derived.Test.YthdninnjjmhpfaaGreatDoorNp1
import Derived.Test.YthdninnjjmhpfaaGreatDoorWr1
namespace Go.Proofs.YthdninnjjmhpfaaGreatDoor
open Go.RowKit
set_option maxHeartbeats 4000000
set_option maxRecDepth 100000

theorem box3 {w : World} {g : Nat} {t : TypeId} {a0 a1 a2 : Value} (h : w.heap[g]? = some (.cells #[a0, a1, a2] t (0, 0))) :
    (w.cell? ⟨g, 0, none⟩ = some a0 ∧ w.cell? ⟨g, 1, none⟩ = some a1 ∧ w.cell? ⟨g, 2, none⟩ = some a2) ∧ ∀ j, w.frozen? ⟨g, j, none⟩ = false :=
  ⟨⟨(cell_of_row w g 0 _ _ (0, 0) h).trans rfl, (cell_of_row w g 1 _ _ (0, 0) h).trans rfl, (cell_of_row w g 2 _ _ (0, 0) h).trans rfl⟩, fun j => by simp [World.frozen?, h]⟩
/-- A decimal alone, as it is handed back. -/
def DecOne (w : World) (r : DecR) (e : Ending) (w' : World) : Prop := e = .returned (.agg #[.bool r.neg, .string ⟨r.ds.toArray⟩, .int .i64 r.e]) ∧ Below w.heap.size w w'
theorem FromInt2_any (n : Nat) (w : World) (hn : n < 1000000000000000) :
    Calls Tryz.prog 120 #[.int .i64 n] w (DecOne w (normL false (numL n) 0)) := by
  have HF := Lib.hid (fun w => FromInt1_any n w hn)
  have hl : (numL n).length ≤ 15 := by unfold numL; rw [List.length_reverse]; exact digQ_len 15 n hn
  have HNM := Lib.hid (fun w => normal_any false ⟨(numL n).toArray⟩ 0 w (by show (numL n).toArray.size ≤ _; simp; omega) (by decide) (by decide))
  rw [show L ⟨(numL n).toArray⟩ = numL n from rfl] at HNM
  generalize normL false (numL n) 0 = r at *
  obtain ⟨rn, rs, re, rr⟩ := r
  generalize (⟨(numL n).toArray⟩ : ByteArray) = t at *
  have h0 : ¬ (n : Int) < 0 := by omega
  clear hl
  go_enter Tryz.func120, Tryz.ntmps120
  go_wp2_with fail
  refine (HF.out _).mono ?_
  rintro e w1 ⟨rfl, hb1⟩
  have HX1 := Lib.hid ((hb1.block w.heap.size (by simp)).trans (heap_alloc_new w _))
  have HB1 := Lib.hid (((Below.refl _ w).alloc (Nat.le_refl _) _).trans (hb1.mono (by simp)))
  have HZ1 : Hid (w.heap.size < w1.heap.size) := by unfold Hid; have := hb1.size; simp at this; omega
  clear hb1
  go_wp2_with fail
  refine (HNM.out _).mono ?_
  rintro e w2 ⟨rfl, hb2⟩
  have HX2 := Lib.hid ((hb2.block w.heap.size HZ1.out).trans HX1.out)
  have HB2 := Lib.hid (HB1.out.trans (hb2.mono HB1.out.size))
  have HZ2 : Hid (w.heap.size < w2.heap.size) := Nat.lt_of_lt_of_le HZ1.out hb2.size
  obtain ⟨⟨y0, y1, y2⟩, yf⟩ := box3 HX2.out
  have hz := HZ2.out
  clear hb2 HX1 HB1 HZ1
  go_wp2_with fail
  refine bodyPost_ret (v := .agg #[.bool rn, .string ⟨rs.toArray⟩, .int .i64 re]) (by simp [results, Tryz.results120, go_sem, y0, y1, y2, hz]) rfl ⟨rfl, ?_⟩
  refine Below.alloc ?_ (by have := HB2.out.size; simp; omega) _
  repeat refine Below.setCell ?_ (by dsimp only; omega) _
  exact HB2.out
theorem RInt7_any (n : Nat) (w : World) (hn : n < 1000000000000000) (r : DecR) (hr : r = normL false (numL n) 0) :
    Calls Tryz.prog 84 #[.int .i64 n] w (LeafPost w (hdN r.neg ⟨r.ds.toArray⟩ r.e)) := by
  have HF := Lib.hid (fun w => FromInt2_any n w hn)
  rw [← hr] at HF
  clear hr
  obtain ⟨rn, rs, re, rr⟩ := r
  go_enter Tryz.func84, Tryz.ntmps84
  go_wp2_with fail
  refine (HF.out _).mono ?_
  rintro e w1 ⟨rfl, hb1⟩
  have HX1 := Lib.hid ((hb1.block w.heap.size (by simp)).trans (heap_alloc_new w _))
  have HB1 := Lib.hid (((Below.refl _ w).alloc (Nat.le_refl _) _).trans (hb1.mono (by simp)))
  have HZ1 : Hid (w.heap.size < w1.heap.size) := by unfold Hid; have := hb1.size; simp at this; omega
  clear hb1
  go_wp2_with fail
  refine (RNum7_any _ _ _ _).mono ?_
  rintro e w2 ⟨rfl, hb2⟩
  have HX2 := Lib.hid ((hb2.block w.heap.size HZ1.out).trans HX1.out)
  have HB2 := Lib.hid (HB1.out.trans (hb2.mono HB1.out.size))
  obtain ⟨⟨y0, y1, y2, y3, y4, y5, y6, y7, y8, y9, y10, y11, y12⟩, yf⟩ := box13 HX2.out
  clear hb2 HX1 HB1 HZ1
  go_wp2_with fail
  refine bodyPost_ret (v := aggV ⟨hdN rn ⟨rs.toArray⟩ re, .slice none 0 0, .slice none 0 0, .slice none 0 0⟩) (by simp [results, Tryz.results84, go_sem, y0, y1, y2, y3, y4, y5, y6, y7, y8, y9, y10, y11, y12]) rfl ⟨rfl, ?_⟩
  repeat refine Below.setCell ?_ (by dsimp only; omega) _
  exact HB2.out
end Go.Proofs.YthdninnjjmhpfaaGreatDoor
