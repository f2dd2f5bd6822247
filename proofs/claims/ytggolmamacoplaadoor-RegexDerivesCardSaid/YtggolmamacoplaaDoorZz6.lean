/- The package bracelex, walked: bytes, bare words, numbers. Conditions: strings of at most 2^40 bytes. -/
import Derived.Test.YtggolmamacoplaaDoorZz4
import Derived.WalkSpells
import Derived.WalkLawsBesides
import Derived.Lib.Bytealg
namespace Go.Proofs.YtggolmamacoplaaDoor
open Go.RowKit
set_option maxHeartbeats 1000000
set_option maxRecDepth 100000

theorem run_index (s : ByteArray) (c : UInt8) (w : World) : (callFunc 89 #[.string s, .int .u8 c.toNat]).run Tryd.prog w = .ok (.value (.int .i64 (Lib.indexByte (L s) c))) w := by
  rw [run_callFunc_extern Tryd.func89 (by kernel_rfl) (by kernel_rfl) (by kernel_rfl) (e := Extern.BytealgIndexByte.indexByte) (by kernel_rfl), Lib.run_indexByteString]
  simp [L]
theorem IndexByte_any (s : ByteArray) (c : UInt8) (w : World) :
    Calls Tryd.prog 73 #[.string s, .int .u8 c.toNat] w fun e w' => e = .returned (.int .i64 (Lib.indexByte (L s) c)) ∧ w = w' := by
  have hi := fun w => run_index s c w
  go_enter Tryd.func73, Tryd.ntmps73
  go_wp2
  go_ret
  exact ⟨rfl, rfl⟩

/-- Does l begin with p? -/
def pre (l p : List UInt8) : Bool := l.take p.length == p
end Go.Proofs.YtggolmamacoplaaDoor

namespace Go.Proofs.YtggolmamacoplaaDoor
open Go.RowKit

/-! Numbers, as the program reads them. -/
/-! Escapes and quoted strings. -/
/-! Comments: what stands behind the first two bytes (with fuel). -/
/-! Words and line ends. -/
end Go.Proofs.YtggolmamacoplaaDoor

namespace Go.Proofs.YtggolmamacoplaaDoor
open Go.RowKit
set_option maxHeartbeats 1000000
set_option maxRecDepth 100000

end Go.Proofs.YtggolmamacoplaaDoor
