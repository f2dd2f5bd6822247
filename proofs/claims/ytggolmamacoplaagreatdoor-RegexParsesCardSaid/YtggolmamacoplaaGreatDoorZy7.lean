/- Loads of whole structs, as one step each: in a walk, and in a region that draws its order. Conditions: none. -/
import Derived.Test.YtggolmamacoplaaGreatDoorZy5
import Derived.Great.BuildSlice
import Derived.Deep.WholeRow
import Derived.StillTailTactics
import Derived.Deep.QuietTactic
import Derived.Laws.CopyRow
namespace Go.Proofs.YtggolmamacoplaaGreatDoor
open Go.RowKit
set_option maxRecDepth 100000

section
variable {P : Program} {ops : Array Oper} {rest : List Oper} {o : Oper} {a : Act} {w : World}
/-- A slice of one element, whole. -/
theorem wp_slice1 {Q : Exit → Act → World → Prop} {ty e : TypeId} {m : Nat} {v : Value} {cs : List Value} (he : Elem P ty e m) (hv : v.cells.toList = cs) (hm : cs.length = m) (hbig : m ≤ 16777216)
    (hgd : o.guard = none) (x : Operand) (ho : o.op = .buildSlice ty 1 #[(0, x)]) (hx : a.eval x = v)
    (h : wpList P ops Q rest (a.put o.dst (.slice (some ⟨w.heap.size, 0, none⟩) 1 1)) (w.alloc (.cells cs.toArray e))) : wpList P ops Q (o :: rest) a w := by
  obtain ⟨hu, hpos, ie, z, hie, hz, hs, hby, hzs⟩ := he
  subst hs
  refine wpList_buildSlice hgd ty e 1 #[(0, x)] ho cs.toArray ie z hu hie hz (by omega) (by omega) ?_ h
  have hf := Great.fill_whole (s := ie.size) hpos [v] ((Array.range (1 * ie.size)).map (z.cells[· % z.cells.size]!)) (fun u hu => by
    rw [List.mem_singleton] at hu
    subst hu
    rw [← hm, ← hv]
    simp) (by simp)
  simp only [List.flatMap_cons, List.flatMap_nil, List.append_nil, hv] at hf
  simpa [hx] using hf
/-! The same laws; the operation is looked at first, so that an arm that does not fit fails at once. -/
theorem wpl_slice {Q : Exit → Act → World → Prop} (hgd : o.guard = none) {ty : TypeId} {x : Operand} (ho : o.op = .buildSlice ty 1 #[(0, x)]) {e : TypeId} {m : Nat} (he : Elem P ty e m) {v : Value} (hx : a.eval x = v) {cs : List Value} (hv : v.cells.toList = cs) (hm : cs.length = m) (hbig : m ≤ 16777216)
    (h : wpList P ops Q rest (a.put o.dst (.slice (some ⟨w.heap.size, 0, none⟩) 1 1)) (w.alloc (.cells cs.toArray e))) : wpList P ops Q (o :: rest) a w := wp_slice1 he hv hm hbig hgd x ho hx h
end
end Go.Proofs.YtggolmamacoplaaGreatDoor
