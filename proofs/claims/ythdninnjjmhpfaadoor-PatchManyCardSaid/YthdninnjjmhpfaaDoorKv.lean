/- value.Check walked. Conditions: at most 10^6 values in all. -/
import Derived.Test.YthdninnjjmhpfaaDoorVk
import Derived.Test.YthdninnjjmhpfaaDoorCi
namespace Go.Proofs.YthdninnjjmhpfaaDoor
open Go.RowKit
set_option maxHeartbeats 4000000
set_option maxRecDepth 100000

theorem rowV {w : World} {g : Nat} {c : VC} {t : TypeId} (h : w.heap[g]? = some (.cells (VC.cells c).toArray t (0, 0))) : ∀ j, j < 13 → w.cell? ⟨g, 0 + j, none⟩ = c.cells[j]? :=
  fun j _ => by rw [Nat.zero_add, cell_of_row _ _ _ _ _ _ h, List.getElem?_toArray]
theorem VCheck_any (v : V) (c : VC) (w : World) (hn : nodV v ≤ 1000000) (hv : RdV w c v) :
    Calls Tryd.prog 21 #[aggV c] w fun e w' => e = .returned (.int .i64 (checkV v : Nat)) ∧ Below w.heap.size w w' := by
  have hone := vc_one hv
  have HV := Lib.hid hv
  have HONE := Lib.hid hone
  have HN := Lib.hid hn
  clear hv hn hone
  go_enter Tryd.func21, Tryd.ntmps21
  go_upto_region 2 with fail
  generalize hW : World.alloc (World.alloc _ _) _ = w1
  obtain ⟨hb, hx, hy, hz⟩ := alloc2_of hW
  have hc13 : Hid (∀ j, j < 13 → w1.cell? ⟨w.heap.size, 0 + j, none⟩ = c.cells[j]?) := rowV hx
  have HB := Lib.hid hb
  have HY := Lib.hid hy
  have HZ := Lib.hid hz
  clear hb hx hy hz hW
  go_wp2_with (refine wpl_load rfl rfl stVk rfl (cells_len _) hc13.out ?_)
  have hr1 : RdI w1 (fun b => b < w.heap.size + 1) c v := stbV.mono (stbV.kept HV.out (fun b _ hb' => HB.out.block b hb') HB.out.size) (fun b h => Nat.lt_succ_of_lt h.2)
  refine (check_any _ v c w1 1 0 (w.heap.size + 1) (Nat.le_refl _) HN.out (by decide) (by decide) (by decide) (by decide) hr1 HY.out).mono ?_
  rintro e w2 ⟨rfl, o1, o2, o3, hz2, hbl, _⟩
  have hbw : Below w.heap.size w w2 := ⟨o1.trans HB.out.os, o2.trans HB.out.tape, o3.trans HB.out.output, Nat.le_trans HB.out.size hz2, fun k hk => (hbl k (by have := HZ.out; omega) (by omega)).trans (HB.out.block k hk)⟩
  clear o1 o2 o3 hz2 hbl hr1
  go_wp2_with fail
  go_ret
  exact ⟨rfl, hbw⟩
end Go.Proofs.YthdninnjjmhpfaaDoor
