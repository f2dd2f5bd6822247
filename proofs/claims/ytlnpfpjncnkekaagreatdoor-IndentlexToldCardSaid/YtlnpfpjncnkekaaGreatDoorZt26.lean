/- value.Copy, datakitref07.room and Small walked. Conditions: at most 10^6 values in all. -/
import Derived.Test.YtlnpfpjncnkekaaGreatDoorZt22
import Derived.IntWalk
import Derived.Deep.RegionHeld3
import Derived.Deep.AppendLies
namespace Go.Proofs.YtlnpfpjncnkekaaGreatDoor
open Go.RowKit
set_option maxHeartbeats 4000000
set_option maxRecDepth 100000

theorem box13 {w : World} {g : Nat} {t : TypeId} {a0 a1 a2 a3 a4 a5 a6 a7 a8 a9 a10 a11 a12 : Value} (h : w.heap[g]? = some (.cells #[a0, a1, a2, a3, a4, a5, a6, a7, a8, a9, a10, a11, a12] t (0, 0))) :
    (w.cell? ⟨g, 0, none⟩ = some a0 ∧ w.cell? ⟨g, 1, none⟩ = some a1 ∧ w.cell? ⟨g, 2, none⟩ = some a2 ∧ w.cell? ⟨g, 3, none⟩ = some a3 ∧ w.cell? ⟨g, 4, none⟩ = some a4 ∧ w.cell? ⟨g, 5, none⟩ = some a5 ∧ w.cell? ⟨g, 6, none⟩ = some a6 ∧
      w.cell? ⟨g, 7, none⟩ = some a7 ∧ w.cell? ⟨g, 8, none⟩ = some a8 ∧ w.cell? ⟨g, 9, none⟩ = some a9 ∧ w.cell? ⟨g, 10, none⟩ = some a10 ∧ w.cell? ⟨g, 11, none⟩ = some a11 ∧ w.cell? ⟨g, 12, none⟩ = some a12) ∧ (∀ j, w.frozen? ⟨g, j, none⟩ = false) := by
  refine ⟨⟨?_, ?_, ?_, ?_, ?_, ?_, ?_, ?_, ?_, ?_, ?_, ?_, ?_⟩, fun j => ?_⟩
  all_goals first
    | exact (cell_of_row w g _ _ t (0, 0) h).trans rfl
    | (simp [World.frozen?, h])
theorem elemV : Elem Tryz.prog 27 30 13 := elem_of (z := .agg #[.int .i64 0, .bool false, .bool false, .string ⟨#[]⟩, .int .i64 0, .int .i64 0, .int .i64 0, .int .i64 0, .int .i64 0, .string ⟨#[]⟩, .slice none 0 0, .slice none 0 0, .slice none 0 0]) (bytes := 168) Tryz.underlying27 (by kernel_rfl) (by decide) (by decide) rfl
theorem RdI.forms {w : World} {S : Nat → Prop} {c : VC} {v : V} (h : RdI w S c v) : ∃ (h : Hd) (a1 a2 a3 : Option Addr) (n1 n2 n3 m1 m2 m3 : Nat), c = ⟨h, .slice a1 n1 m1, .slice a2 n2 m2, .slice a3 n3 m3⟩ := by
  cases h with
  | mk h l f bv lv fv lc fc ok hb hl hL hf hK hF sb sl sf =>
    obtain ⟨a1, m1, rfl, _⟩ := hb
    obtain ⟨a2, m2, rfl, _⟩ := hl
    obtain ⟨a3, m3, rfl, _⟩ := hf
    exact ⟨h, a1, a2, a3, _, _, _, m1, m2, m3, rfl⟩
end Go.Proofs.YtlnpfpjncnkekaaGreatDoor

namespace Go.Proofs.YtlnpfpjncnkekaaGreatDoor
open Go.RowKit
set_option maxHeartbeats 4000000
set_option maxRecDepth 100000

end Go.Proofs.YtlnpfpjncnkekaaGreatDoor
