/- Loads of whole structs, as one step each: in a walk, and in a region that draws its order. Conditions: none. -/
import Derived.Test.YtpkecepelcppiaaGreatDoorZd6
import Derived.Great.BuildSlice
import Derived.Deep.WholeRow
import Derived.StillTailTactics
import Derived.Deep.QuietTactic
import Derived.Laws.CopyRow
namespace Go.Proofs.YtpkecepelcppiaaGreatDoor
open Go.RowKit
set_option maxRecDepth 100000

def aggB (d : TypeDesc) : Bool := match d with
 | .struct _ | .array _ _ => true
 | _ => false
def StT (P : Program) (t : TypeId) (m : Nat) : Prop := (P.underlying t).map aggB = some true ∧ (P.info? t).map (·.size) = some m
theorem run_load_cells {P : Program} {w : World} {ty : TypeId} {ad : Addr} {cs : List Value} {m : Nat} (ht : StT P ty m) (hm : cs.length = m) (hc : ∀ j v, cs[j]? = some v → w.cell? (ad.add j) = some v) :
  (loadVar ty ad).run P w = .ok (.agg cs.toArray) w := by
 obtain ⟨h1, hi⟩ := ht
 have hl := run_loadCells_list (P := P) w ad cs hc
 cases hu : P.underlying ty with
 | none => rw [hu] at h1; cases h1
 | some d =>
 have hd : aggB d = true := by rw [hu] at h1; exact Option.some.inj h1
 have hagg : (isAgg ty).run P w = .ok true w := by
  unfold isAgg
  rw [Sem.run_bind, run_underlying hu w]
  clear h1 hi hl hc hu
  unfold aggB at hd
  cases d <;> simp_all
 cases hq : P.info? ty with
 | none => rw [hq] at hi; cases hi
 | some i =>
  have hs : i.size = cs.length := by rw [hm]; rw [hq] at hi; exact Option.some.inj hi
  simp [loadVar, Sem.run_bind, hagg, sizeOf, typeInfo, hq, hs, hl]
theorem addr_cells {w : World} {g o m : Nat} {cs : List Value} (hm : cs.length = m) (h : ∀ j, j < m → w.cell? ⟨g, o + j, none⟩ = cs[j]?) : ∀ j v, cs[j]? = some v → w.cell? ((⟨g, o, none⟩ : Addr).add j) = some v := by
 intro j v hv
 have hadd : (⟨g, o, none⟩ : Addr).add j = ⟨g, o + j, none⟩ := by unfold Addr.add; split <;> simp_all
 have hj : j < m := by
  rcases Nat.lt_or_ge j cs.length with h' | h'
  ·omega
  ·rw [List.getElem?_eq_none h'] at hv; cases hv
 rw [hadd, h j hj, hv]
section
variable {P : Program} {ops : Array Oper} {rest : List Oper} {o : Oper} {a : Act} {w : World}
theorem wp_load {Q : Exit → Act → World → Prop} {ty : TypeId} {m : Nat} {cs : List Value} (ht : StT P ty m) (hm : cs.length = m) (g off : Nat) (hc : ∀ j, j < m → w.cell? ⟨g, off + j, none⟩ = cs[j]?) (hgd : o.guard = none) (x : Operand) (ho : o.op = .load ty x) (hx : a.eval x = .pointer (some ⟨g, off, none⟩))
  (h : wpList P ops Q rest (a.put o.dst (.agg cs.toArray)) w) : wpList P ops Q (o :: rest) a w := by
 refine wpList_plain hgd fun K hK => ?_
 have hk := hK _ _ h
 unfold Oper.wp execOp
 simp only [ho, hx, Instr.loadAt, Instr.sureAddr, Sem.run_bind, Sem.run_pure, Result.andThen_ok, run_load_cells ht hm (addr_cells hm hc)]
 exact hk
/-! The same laws; the operation is looked at first, so that an arm that does not fit fails at once. -/
theorem wpl_load {Q : Exit → Act → World → Prop} (hgd : o.guard = none) {ty : TypeId} {x : Operand} (ho : o.op = .load ty x) {m : Nat} (ht : StT P ty m) {g off : Nat} (hx : a.eval x = .pointer (some ⟨g, off, none⟩)) {cs : List Value} (hm : cs.length = m) (hc : ∀ j, j < m → w.cell? ⟨g, off + j, none⟩ = cs[j]?)
  (h : wpList P ops Q rest (a.put o.dst (.agg cs.toArray)) w) : wpList P ops Q (o :: rest) a w := wp_load ht hm g off hc hgd x ho hx h
end
end Go.Proofs.YtpkecepelcppiaaGreatDoor
