/- Laws for regions that draw their order: loads and stores of whole structs. Conditions: none. -/
import Derived.Test.YtlnpfpjncnkekaaGreatDoorZt10
import Derived.Deep.RegionHeld3
import Derived.Laws.CopyOwn
namespace Go.Proofs.YtlnpfpjncnkekaaGreatDoor
open Go.RowKit
set_option maxHeartbeats 4000000
set_option maxRecDepth 100000

section
variable {P : Program} {ops : Array Oper} {o : Oper} {a : Act} {w : World} {S : World → Prop}
theorem take_at {Q : Exit → Act → World → Prop} {md : Region.Mode} {oi : Oper} {v : Value} {fuel : Nat} {listed : Array Bool} (i : Nat) (d : Option Tmp) (hi : ops[i]? = some oi) (hd : oi.dst = d) (hs : Region.noSelect ops = true) (hf : Region.free md ops listed i = true) (hr : (Region.ready md ops listed).contains i = true)
    (hQ : ∀ c a w, Q (.panic c) (a.put d v) w → Q (.panic c) a w) (hy : YieldsIf P ops S oi v a) (hS : S w) (h : wpAnyH P md ops Q S fuel (listed.setIfInBounds i true) (a.put d v) w) : wpAnyH P md ops Q S (fuel + 1) listed a w := by
  subst hd
  exact wpAnyH_take hi hs hf hr hQ hy hS h
/-- A store into a block that is known whole, in such a region. -/
theorem step_store {K : Act → World → Prop} {Q : Exit → Act → World → Prop} {E : Prop} {ty : TypeId} {m : Nat} {v : Value} {cs cur : List Value} (row : List Value) (hw : Region.wanted o (yielded ops a.tmps) = true) (x y : Operand) (ho : o.op = .store ty x y) (hi : (P.info? ty).map (·.size) = some m) (g off : Nat) (hx : a.eval x = .pointer (some ⟨g, off, none⟩)) (hy : a.eval y = v) (hv : v.cells.toList = cs) (hm : cs.length = m) (h1 : ∀ u ∈ cs, u.oneCell' = true)
    {t : TypeId} (hg : w.heap[g]? = some (.cells cur.toArray t (0, 0))) (hfit : off + m ≤ cur.length) (hrow : cur.take off ++ cs ++ cur.drop (off + m) = row)
    (h : K (a.put o.dst undef) (w.setRow g row.toArray)) : if Region.wanted o (yielded ops a.tmps) = true then Oper.wp P o a w K Q else E := by
  subst hrow
  rw [if_pos hw]
  unfold Oper.wp execOp
  simp only [ho, hx, hy, Instr.storeAt, Instr.sureAddr, Sem.run_bind, Sem.run_pure, Result.andThen_ok, run_store_v hi hv hm h1 g off hg hfit]
  exact h
end
theorem setRow_of {w w3 : World} {g : Nat} {row cur : Array Value} {t : TypeId} (hW : w.setRow g row = w3) (hg : w.heap[g]? = some (.cells cur t (0, 0))) :
    w3.heap[g]? = some (.cells row t (0, 0)) ∧ (∀ b, b ≠ g → w3.heap[b]? = w.heap[b]?) ∧ w3.heap.size = w.heap.size ∧ (∀ B, B ≤ g → Below B w w3) := by
  subst hW
  exact ⟨setRow_heap _ _ _ _ _ _ hg, fun b hb => setRow_other _ _ _ _ hb, by simp, fun B hB => below_setRow (Below.refl _ _) hB _⟩
theorem alloc_of {w w1 : World} {X : Obj} (hW : w.alloc X = w1) : w1.heap[w.heap.size]? = some X ∧ (∀ b, b < w.heap.size → w1.heap[b]? = w.heap[b]?) ∧ w1.heap.size = w.heap.size + 1 ∧ Below w.heap.size w w1 := by
  subst hW
  exact ⟨heap_alloc_new w _, fun b hb => heap_alloc_old w X hb, by simp, (Below.refl _ _).alloc (Nat.le_refl _) _⟩
end Go.Proofs.YtlnpfpjncnkekaaGreatDoor
