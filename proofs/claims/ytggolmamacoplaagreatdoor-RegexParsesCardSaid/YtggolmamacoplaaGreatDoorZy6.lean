/- The package bracelex, walked: bytes, bare words, numbers. Conditions: strings of at most 2^40 bytes. -/
import Derived.Test.YtggolmamacoplaaGreatDoorZy4
import Derived.WalkSpells
import Derived.WalkLawsBesides
import Derived.Lib.Bytealg
namespace Go.Proofs.YtggolmamacoplaaGreatDoor
open Go.RowKit
set_option maxHeartbeats 1000000
set_option maxRecDepth 100000

theorem run_index (s : ByteArray) (c : UInt8) (w : World) : (callFunc 77 #[.string s, .int .u8 c.toNat]).run Tryz.prog w = .ok (.value (.int .i64 (Lib.indexByte (L s) c))) w := by
  rw [run_callFunc_extern Tryz.func77 (by kernel_rfl) (by kernel_rfl) (by kernel_rfl) (e := Extern.BytealgIndexByte.indexByte) (by kernel_rfl), Lib.run_indexByteString]
  simp [L]
theorem IndexByte_any (s : ByteArray) (c : UInt8) (w : World) :
    Calls Tryz.prog 60 #[.string s, .int .u8 c.toNat] w fun e w' => e = .returned (.int .i64 (Lib.indexByte (L s) c)) ∧ w = w' := by
  have hi := fun w => run_index s c w
  go_enter Tryz.func60, Tryz.ntmps60
  go_wp2
  go_ret
  exact ⟨rfl, rfl⟩

/-- Does l begin with p? -/
def pre (l p : List UInt8) : Bool := l.take p.length == p
end Go.Proofs.YtggolmamacoplaaGreatDoor

namespace Go.Proofs.YtggolmamacoplaaGreatDoor
open Go.RowKit

/-! Numbers, as the program reads them. -/
/-! Escapes and quoted strings. -/
/-! Comments: what stands behind the first two bytes (with fuel). -/
/-! Words and line ends. -/
end Go.Proofs.YtggolmamacoplaaGreatDoor

namespace Go.Proofs.YtggolmamacoplaaGreatDoor
open Go.RowKit
set_option maxHeartbeats 1000000
set_option maxRecDepth 100000

theorem ret_bool {a b : Bool} (h : a = b) : Ending.returned (.bool a) = Ending.returned (.bool b) := by rw [h]
end Go.Proofs.YtggolmamacoplaaGreatDoor
