/- formats.text, Pattern, Check, datakitref17.Source, Known, Pattern, Check walked; printed by gen_fo.py. Conditions: the value of strconv.ErrSyntax. -/
import Derived.Test.YtpkecepelcppiaaGreatDoorZd41
import Derived.Test.YtpkecepelcppiaaGreatDoorZd16
import Derived.Test.YtpkecepelcppiaaGreatDoorZd3
import Derived.Test.YtpkecepelcppiaaGreatDoorZd27
import Derived.Test.YtpkecepelcppiaaGreatDoorZd40
namespace Go.Proofs.YtpkecepelcppiaaGreatDoor
open Go.RowKit Go.Shelf
set_option maxHeartbeats 4000000
set_option maxRecDepth 100000

end Go.Proofs.YtpkecepelcppiaaGreatDoor

namespace Go.Proofs.YtpkecepelcppiaaGreatDoor
open Go.RowKit Go.Shelf
set_option maxHeartbeats 4000000
set_option maxRecDepth 100000

def srcB (n : Nat) : ByteArray := ⟨((srcF[n]?).getD []).toArray⟩
theorem fText_0 (w : World) : Calls Tryz.prog 45 #[.int .i64 0] w fun e w' => e = .returned (.string (srcB 0)) ∧ w = w' := by
 go_enter Tryz.func45, Tryz.ntmps45
 go_wp2_with fail
 go_ret
 exact ⟨rfl, rfl⟩
theorem fText_1 (w : World) : Calls Tryz.prog 45 #[.int .i64 1] w fun e w' => e = .returned (.string (srcB 1)) ∧ w = w' := by
 go_enter Tryz.func45, Tryz.ntmps45
 go_wp2_with fail
 go_ret
 exact ⟨rfl, rfl⟩
theorem fText_2 (w : World) : Calls Tryz.prog 45 #[.int .i64 2] w fun e w' => e = .returned (.string (srcB 2)) ∧ w = w' := by
 go_enter Tryz.func45, Tryz.ntmps45
 go_wp2_with fail
 go_ret
 exact ⟨rfl, rfl⟩
theorem fText_3 (w : World) : Calls Tryz.prog 45 #[.int .i64 3] w fun e w' => e = .returned (.string (srcB 3)) ∧ w = w' := by
 go_enter Tryz.func45, Tryz.ntmps45
 go_wp2_with fail
 go_ret
 exact ⟨rfl, rfl⟩
theorem fText_4 (w : World) : Calls Tryz.prog 45 #[.int .i64 4] w fun e w' => e = .returned (.string (srcB 4)) ∧ w = w' := by
 go_enter Tryz.func45, Tryz.ntmps45
 go_wp2_with fail
 go_ret
 exact ⟨rfl, rfl⟩
theorem fText_5 (w : World) : Calls Tryz.prog 45 #[.int .i64 5] w fun e w' => e = .returned (.string (srcB 5)) ∧ w = w' := by
 go_enter Tryz.func45, Tryz.ntmps45
 go_wp2_with fail
 go_ret
 exact ⟨rfl, rfl⟩
theorem fText_6 (w : World) : Calls Tryz.prog 45 #[.int .i64 6] w fun e w' => e = .returned (.string (srcB 6)) ∧ w = w' := by
 go_enter Tryz.func45, Tryz.ntmps45
 go_wp2_with fail
 go_ret
 exact ⟨rfl, rfl⟩
theorem fText_7 (w : World) : Calls Tryz.prog 45 #[.int .i64 7] w fun e w' => e = .returned (.string (srcB 7)) ∧ w = w' := by
 go_enter Tryz.func45, Tryz.ntmps45
 go_wp2_with fail
 go_ret
 exact ⟨rfl, rfl⟩
theorem fText_8 (w : World) : Calls Tryz.prog 45 #[.int .i64 8] w fun e w' => e = .returned (.string (srcB 8)) ∧ w = w' := by
 go_enter Tryz.func45, Tryz.ntmps45
 go_wp2_with fail
 go_ret
 exact ⟨rfl, rfl⟩
theorem fText_9 (w : World) : Calls Tryz.prog 45 #[.int .i64 9] w fun e w' => e = .returned (.string (srcB 9)) ∧ w = w' := by
 go_enter Tryz.func45, Tryz.ntmps45
 go_wp2_with fail
 go_ret
 exact ⟨rfl, rfl⟩
theorem fText_10 (w : World) : Calls Tryz.prog 45 #[.int .i64 10] w fun e w' => e = .returned (.string (srcB 10)) ∧ w = w' := by
 go_enter Tryz.func45, Tryz.ntmps45
 go_wp2_with fail
 go_ret
 exact ⟨rfl, rfl⟩
theorem fText_11 (w : World) : Calls Tryz.prog 45 #[.int .i64 11] w fun e w' => e = .returned (.string (srcB 11)) ∧ w = w' := by
 go_enter Tryz.func45, Tryz.ntmps45
 go_wp2_with fail
 go_ret
 exact ⟨rfl, rfl⟩
theorem fText_any (n : Nat) (hn : n < 12) (w : World) : Calls Tryz.prog 45 #[.int .i64 (n : Int)] w fun e w' => e = .returned (.string (srcB n)) ∧ w = w' := by
 match n, hn with
 | 0, _ => exact fText_0 w
 | 1, _ => exact fText_1 w
 | 2, _ => exact fText_2 w
 | 3, _ => exact fText_3 w
 | 4, _ => exact fText_4 w
 | 5, _ => exact fText_5 w
 | 6, _ => exact fText_6 w
 | 7, _ => exact fText_7 w
 | 8, _ => exact fText_8 w
 | 9, _ => exact fText_9 w
 | 10, _ => exact fText_10 w
 | 11, _ => exact fText_11 w
def PatO (O : Option RX) (w : World) (e : Ending) (w' : World) : Prop :=
 ∃ c, e = .returned (.tuple #[aggP c, .int .i64 (match O with | some _ => 0 | none => 7)]) ∧ RdP w' c (gotP O) ∧ Below w.heap.size w w'
end Go.Proofs.YtpkecepelcppiaaGreatDoor
