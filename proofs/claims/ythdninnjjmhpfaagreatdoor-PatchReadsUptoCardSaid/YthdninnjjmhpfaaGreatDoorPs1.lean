/- strconv at base 16: FormatInt of a byte below 128. Conditions: the tables of strconv and math/bits read as laid. -/
import Derived.Test.YthdninnjjmhpfaaGreatDoorPv6
import Derived.Test.YthdninnjjmhpfaaGreatDoorShelf
import Derived.LoopN
import Derived.Handy
import Derived.Lib.SmallJoins
namespace Go.Proofs.YthdninnjjmhpfaaGreatDoor
open Go.RowKit
set_option maxHeartbeats 1000000
set_option maxRecDepth 100000

/-- What the calls read of the package-level variables. -/
def EnvT (w : World) : Prop := Lib.TabIs Tryz.prog w "internal/strconv.uint64pow10" .u64 Lib.pow10Tab ∧ 3 + 1 ≤ w.heap.size ∧ 8 + 1 ≤ w.heap.size ∧ w.cell? ⟨8, 15, none⟩ = some (.int .u8 4)
theorem EnvT.below {w w' : World} (h : EnvT w) (hb : Below w.heap.size w w') : EnvT w' := by
  obtain ⟨h1, h0, h2, h3⟩ := h
  refine ⟨Go.Joins.tab_stays (show Tryz.prog.globalNamed "internal/strconv.uint64pow10" = some 3 by kernel_rfl) h1 hb (Nat.le_refl _), Nat.le_trans h0 hb.size, Nat.le_trans h2 hb.size, ?_⟩
  rw [hb.cell (p := ⟨8, 15, none⟩) (by show 8 < _; omega)]
  exact h3
/-- What the calls read of the error variables too. -/
def Env (w : World) : Prop := EnvT w ∧ 1 + 1 ≤ w.heap.size ∧ ∃ ev, w.cell? ⟨1, 0, none⟩ = some ev ∧ (ev = .nilIface ∨ ∃ te pe, ev = .iface te pe)
theorem Env.t {w : World} (h : Env w) : EnvT w := h.1
theorem Env.below {w w' : World} (h : Env w) (hb : Below w.heap.size w w') : Env w' := by
  obtain ⟨h1, h2, ev, h4, h5⟩ := h
  refine ⟨h1.below hb, Nat.le_trans h2 hb.size, ev, ?_, h5⟩
  rw [hb.cell (p := ⟨1, 0, none⟩) (by show 1 < _; omega)]
  exact h4

theorem tz_facts : bits .and .u64 16 (IntKind.u64.wrap (-16)) = 16 ∧ bits .and .i64 16 15 = 0 := by decide +kernel
theorem TrailingZeros64_16 (w : World) (h : w.cell? ⟨8, 15, none⟩ = some (.int .u8 4)) :
    Calls Tryz.prog 212 #[.int .u64 16] w fun e w' => e = .returned (.int .i64 4) ∧ w = w' := by
  obtain ⟨t1, t2⟩ := tz_facts
  go_enter Tryz.func212, Tryz.ntmps212
  go_wp2_with fail
  go_ret
  exact ⟨rfl, rfl⟩
theorem TrailingZeros_16 (w : World) (h : w.cell? ⟨8, 15, none⟩ = some (.int .u8 4)) :
    Calls Tryz.prog 201 #[.int .u64 16] w fun e w' => e = .returned (.int .i64 4) ∧ w = w' := by
  go_enter Tryz.func201, Tryz.ntmps201
  go_wp2_with (go_at_call 212; refine (TrailingZeros64_16 _ h).mono ?_; rintro e w1 ⟨rfl, rfl⟩)
  go_ret
  exact ⟨rfl, rfl⟩
theorem isPow_16 (w : World) :
    Calls Tryz.prog 200 #[.int .i64 16] w fun e w' => e = .returned (.bool true) ∧ w = w' := by
  obtain ⟨t1, t2⟩ := tz_facts
  go_enter Tryz.func200, Tryz.ntmps200
  go_wp2_with fail
  go_ret
  exact ⟨rfl, rfl⟩
theorem cell_of_alloc (w : World) (cs : Array Value) (t : TypeId) (i : Nat) : (w.alloc (.cells cs t)).cell? ⟨w.heap.size, i, none⟩ = cs[i]? := cell_of_row (w.alloc (.cells cs t)) w.heap.size i cs t (0, 0) (heap_alloc_new w _)
theorem z65 : (Tryz.zeroCells203).size = 65 := by kernel_rfl
theorem conv_64 (w : World) (a : Int) : (convert 26 9 (.slice (some ⟨w.heap.size, 64, none⟩) 1 1)).run Tryz.prog (w.alloc (.cells (Tryz.zeroCells203.setIfInBounds 64 (.int .u8 a)) 203)) =
    .ok (.string ⟨#[UInt8.ofNat a.toNat]⟩) (w.alloc (.cells (Tryz.zeroCells203.setIfInBounds 64 (.int .u8 a)) 203)) := by
  refine run_convert_bytes_arg (P := Tryz.prog) _ 26 5 Tryz.underlying26 Tryz.underlying5 w.heap.size 64 1 1 [a] rfl (fun i hi => ?_) 9 Tryz.underlying9
  rw [cell_of_alloc]
  obtain rfl : i = 0 := by simp at hi; omega
  have := z65
  simp [this]
theorem conv_63 (w : World) (a b : Int) : (convert 26 9 (.slice (some ⟨w.heap.size, 63, none⟩) 2 2)).run Tryz.prog (w.alloc (.cells ((Tryz.zeroCells203.setIfInBounds 64 (.int .u8 b)).setIfInBounds 63 (.int .u8 a)) 203)) =
    .ok (.string ⟨#[UInt8.ofNat a.toNat, UInt8.ofNat b.toNat]⟩) (w.alloc (.cells ((Tryz.zeroCells203.setIfInBounds 64 (.int .u8 b)).setIfInBounds 63 (.int .u8 a)) 203)) := by
  refine run_convert_bytes_arg (P := Tryz.prog) _ 26 5 Tryz.underlying26 Tryz.underlying5 w.heap.size 63 2 2 [a, b] rfl (fun i hi => ?_) 9 Tryz.underlying9
  rw [cell_of_alloc]
  have := z65
  rcases i with _ | _ | i
  · simp [this]
  · simp [this]
  · omega
theorem hx_byte : ∀ n : Fin 16, (⟨#[48, 49, 50, 51, 52, 53, 54, 55, 56, 57, 97, 98, 99, 100, 101, 102, 103, 104, 105, 106, 107, 108, 109, 110, 111, 112, 113, 114, 115, 116, 117, 118, 119, 120, 121, 122]⟩ : ByteArray)[n.val]'(Nat.lt_of_lt_of_le n.isLt (by decide)) = hx n.val := by decide +kernel
theorem formatBits_any (n : Nat) (hn : n < 128) (w : World) (h : w.cell? ⟨8, 15, none⟩ = some (.int .u8 4)) (h5 : 8 + 1 ≤ w.heap.size) :
    Calls Tryz.prog 177 #[.slice none 0 0, .int .u64 n, .int .i64 16, .bool false, .bool false] w fun e w' => e = .returned (.tuple #[.slice none 0 0, .string ⟨(hexT n).toArray⟩]) ∧ Below w.heap.size w w' := by
  obtain ⟨t1, t2⟩ := tz_facts
  have hcA : ∀ o, (w.alloc o).cell? ⟨8, 15, none⟩ = some (.int .u8 4) := fun o => by
    rw [((Below.refl w.heap.size w).alloc (Nat.le_refl _) o).cell (p := ⟨8, 15, none⟩) (by show 8 < _; omega)]; exact h
  have z64 : (w.alloc (.cells Tryz.zeroCells203 203)).cell? ⟨w.heap.size, 64, none⟩ = some (.int .u8 0) := by rw [cell_of_alloc]; kernel_rfl
  have z63 : (w.alloc (.cells Tryz.zeroCells203 203)).cell? ⟨w.heap.size, 63, none⟩ = some (.int .u8 0) := by rw [cell_of_alloc]; kernel_rfl
  have cv1 := conv_64 w
  have cv2 := conv_63 w
  have hBA : ∀ o, Below w.heap.size w (w.alloc o) := fun o => (Below.refl w.heap.size w).alloc (Nat.le_refl _) o
  have HBA := Lib.hid hBA; clear hBA
  by_cases h16 : n < 16
  · have a1 : ¬ (16 : Int) ≤ n := by omega
    have HF : Hid (hexT n = [hx n]) := by unfold Hid hexT; rw [if_pos h16]
    have HX := Lib.hid (hx_byte ⟨n, h16⟩)
    go_enter Tryz.func177, Tryz.ntmps177
    go_wp2_with (first | (go_at_call 200; refine (isPow_16 _).mono ?_; rintro e w1 ⟨rfl, rfl⟩) | (go_at_call 201; refine (TrailingZeros_16 _ (hcA _)).mono ?_; rintro e w1 ⟨rfl, rfl⟩))
    refine wp_loop_rounds 1 ?_
    rw [rounds_succ]
    go_wp2_with fail
    go_ret2
    exact ⟨by rw [HF.out, ← HX.out]; simp, HBA.out _⟩
  · have a1 : (16 : Int) ≤ n := by omega
    have HF : Hid (hexT n = [hx (n / 16), hx (n % 16)]) := by unfold Hid hexT; rw [if_neg h16]
    have HX := Lib.hid (hx_byte ⟨n % 16, by omega⟩)
    have HY := Lib.hid (hx_byte ⟨n / 16, by omega⟩)
    have m1 : bits .and .u64 (n : Int) 15 = ((n % 16 : Nat) : Int) := (show ∀ k : Fin 128, bits .and .u64 (k.val : Int) 15 = ((k.val % 16 : Nat) : Int) by decide +kernel) ⟨n, hn⟩
    go_enter Tryz.func177, Tryz.ntmps177
    go_wp2_with (first | (go_at_call 200; refine (isPow_16 _).mono ?_; rintro e w1 ⟨rfl, rfl⟩) | (go_at_call 201; refine (TrailingZeros_16 _ (hcA _)).mono ?_; rintro e w1 ⟨rfl, rfl⟩))
    refine wp_loop_rounds 2 ?_
    rw [rounds_succ]
    go_wp2_with fail
    rw [rounds_succ]
    go_wp2_with fail
    go_ret2
    exact ⟨by rw [HF.out, ← HX.out, ← HY.out]; simp, HBA.out _⟩
theorem FormatInt16_any (n : Nat) (hn : n < 128) (w : World) (he : EnvT w) :
    Calls Tryz.prog 110 #[.int .i64 n, .int .i64 16] w fun e w' => e = .returned (.string ⟨(hexT n).toArray⟩) ∧ Below w.heap.size w w' := by
  obtain ⟨-, -, h5, h⟩ := he
  have HFB := Lib.hid (formatBits_any n hn w h h5)
  have a1 : ¬ (n : Int) < 0 := by omega
  have HC : Calls Tryz.prog 142 #[.int .i64 n, .int .i64 16] w fun e w' => e = .returned (.string ⟨(hexT n).toArray⟩) ∧ Below w.heap.size w w' := by
    go_enter Tryz.func142, Tryz.ntmps142
    go_wp2_with fail
    refine HFB.out.mono ?_
    rintro e w1 ⟨rfl, hb1⟩
    go_wp2_with fail
    go_ret
    exact ⟨rfl, hb1⟩
  have HC' := Lib.hid HC
  clear HC
  go_enter Tryz.func110, Tryz.ntmps110
  go_wp2_with fail
  refine HC'.out.mono ?_
  rintro e w1 ⟨rfl, hb1⟩
  go_wp2_with fail
  go_ret
  exact ⟨rfl, hb1⟩
end Go.Proofs.YthdninnjjmhpfaaGreatDoor
