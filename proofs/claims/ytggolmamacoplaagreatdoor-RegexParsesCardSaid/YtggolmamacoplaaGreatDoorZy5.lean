/- plain: Go's own decoding of strings. Conditions: none. -/
import Derived.Test.YtggolmamacoplaaGreatDoorZy4
import Derived.WalkSpells
import Derived.WalkLawsBesides
import Derived.Lib.AppendStr
namespace Go.Proofs.YtggolmamacoplaaGreatDoor
open Go.RowKit

theorem grown_of_below {w w' : World} (h : Below w.heap.size w w') (row : Option Nat) : w.grownBy w' row :=
  ⟨h.os, h.tape, h.output, h.size, fun k hk _ => h.block k hk⟩
theorem own_below {w w' : World} {base : Nat} {e : TypeId} {size : Nat} {v : Value} {n : Nat} {xs : List Value} (h : w.ownsRow base e size v n xs) (hb : Below w.heap.size w w') : w'.ownsRow base e size v n xs :=
  h.kept (grown_of_below hb none) (by cases hv : v.ownBlock <;> simp)
/-- A slice type t whose elements are of type e: size cells each. -/
def Elem (P : Program) (t e : TypeId) (size : Nat) : Prop :=
  P.underlying t = some (.slice e) ∧ 0 < size ∧ ∃ (i : TypeInfo) (z : Value), P.info? e = some i ∧ i.zero = some z ∧ i.size = size ∧ i.bytes ≤ 1024 ∧ z.cells.size = size
theorem elem_of {P : Program} {t e : TypeId} {z : Value} {size bytes : Nat} (h0 : P.underlying t = some (.slice e)) (h : (P.info? e).map (fun i => (i.zero, i.size, i.bytes)) = some (some z, size, bytes)) (h1 : 0 < size) (h2 : bytes ≤ 1024) (h3 : z.cells.size = size) : Elem P t e size := by
  obtain ⟨i, hi, hz, hs, hb⟩ := info_parts h
  exact ⟨h0, h1, i, z, hi, hz, hs, by omega, h3⟩

theorem new_cells (w : World) (us : List Value) (e : TypeId) : ∀ j u, us[j]? = some u → (w.alloc (.cells us.toArray e)).cell? ((⟨w.heap.size, 0, none⟩ : Addr).add j) = some u := by
  intro j u hu
  have hadd : (⟨w.heap.size, 0, none⟩ : Addr).add j = ⟨w.heap.size, j, none⟩ := by unfold Addr.add; split <;> simp_all
  rw [hadd, cell_of_row (w.alloc (.cells us.toArray e)) w.heap.size j us.toArray e (0, 0) (heap_alloc_new w _)]
  simpa using hu

/-! Rows of bytes. -/
def bv (b : UInt8) : Value := .int .u8 (b.toNat : Int)
end Go.Proofs.YtggolmamacoplaaGreatDoor

namespace Go.Proofs.YtggolmamacoplaaGreatDoor
open Go.RowKit
set_option maxHeartbeats 1000000
set_option maxRecDepth 100000

end Go.Proofs.YtggolmamacoplaaGreatDoor

namespace Go.Proofs.YtggolmamacoplaaGreatDoor
open Go.RowKit
set_option maxHeartbeats 1000000
set_option maxRecDepth 100000

end Go.Proofs.YtggolmamacoplaaGreatDoor

namespace Go.Proofs.YtggolmamacoplaaGreatDoor
open Go.RowKit
set_option maxHeartbeats 1000000
set_option maxRecDepth 100000

end Go.Proofs.YtggolmamacoplaaGreatDoor
