/- strconv.ParseUint at base 16, of one or two bytes (out of XPs4, for a seat with a builder). Conditions: ErrSyntax reads as laid. -/
import Derived.Test.YtpkecepelcppiaaGreatDoorZd17
import Derived.LoopN
import Derived.Handy
import Derived.Lib.SmallJoins
namespace Go.Proofs.YtpkecepelcppiaaGreatDoor
open Go.RowKit Go.Shelf
set_option maxHeartbeats 2000000
set_option maxRecDepth 100000

def hexd1 (b : UInt8) : Option Nat := if 48 ≤ b.toNat ∧ b.toNat ≤ 57 then some (b.toNat - 48) else if 97 ≤ b.toNat ∧ b.toNat ≤ 102 then some (b.toNat - 87) else if 65 ≤ b.toNat ∧ b.toNat ≤ 70 then some (b.toNat - 55) else none
def Env (w : World) : Prop := 6 + 1 ≤ w.heap.size ∧ ∃ ev, w.cell? ⟨6, 0, none⟩ = some ev ∧ (ev = .nilIface ∨ ∃ te pe, ev = .iface te pe)
theorem Env.below {w w' : World} (h : Env w) (hb : Below w.heap.size w w') : Env w' := by
 obtain ⟨h2, ev, h4, h5⟩ := h
 refine ⟨Nat.le_trans h2 hb.size, ev, ?_, h5⟩
 rw [hb.cell (p := ⟨6, 0, none⟩) (by show 6 < _; omega)]
 exact h4
theorem neJ {s : ByteArray} : (s.toList.isEmpty = true ↔ s.size = 0) := by
 rw [toList_L, List.isEmpty_iff, ← List.length_eq_zero_iff, L_len]
def lowN (n : Nat) : Nat := if n / 32 % 2 = 1 then n else n + 32
theorem low_bits : ∀ n : Fin 256, bits .or .u8 (n.val : Int) 32 = ((lowN n.val : Nat) : Int) := by decide +kernel
theorem lower_any (c : UInt8) (w : World) : Calls Tryz.prog 192 #[.int .u8 c.toNat] w fun e w' => e = .returned (.int .u8 (lowN c.toNat)) ∧ w = w' := by
 have hb := low_bits ⟨c.toNat, c.toNat_lt⟩
 go_enter Tryz.func192, Tryz.ntmps192
 go_wp2_with fail
 go_ret
 exact ⟨rfl, rfl⟩
theorem hex_class0 : ∀ n : Fin 256,
  (48 ≤ n.val ∧ n.val ≤ 57 ∧ hexd1 (UInt8.ofNat n.val) = some (n.val - 48)) ∨ (57 < n.val ∧ n.val ≠ 95 ∧ 97 ≤ lowN n.val ∧ lowN n.val ≤ 102 ∧ hexd1 (UInt8.ofNat n.val) = some (lowN n.val - 87)) ∨ (57 < n.val ∧ n.val ≠ 95 ∧ 103 ≤ lowN n.val ∧ lowN n.val ≤ 122 ∧ hexd1 (UInt8.ofNat n.val) = none)
  ∨ (n.val < 48 ∧ lowN n.val < 97 ∧ hexd1 (UInt8.ofNat n.val) = none) ∨ (57 < n.val ∧ n.val ≠ 95 ∧ lowN n.val < 97 ∧ hexd1 (UInt8.ofNat n.val) = none) ∨ (57 < n.val ∧ n.val ≠ 95 ∧ 122 < lowN n.val ∧ hexd1 (UInt8.ofNat n.val) = none) ∨ (n.val = 95 ∧ hexd1 (UInt8.ofNat n.val) = none) := by decide +kernel
def uintV (o : Option Nat) : Value := match o with
 | some v => .tuple #[.int .u64 (v : Int), .nilIface]
 | none => .tuple #[.int .u64 0, .iface 210 (.int .i64 2)]
def hexF (acc : Nat) : List UInt8 → Option Nat
 | [] => some acc
 | b :: t => match hexd1 b with
  | some d => hexF (acc * 16 + d) t
  | none => none
theorem PU_any (s : ByteArray) (h1 : 1 ≤ s.size) (h2 : s.size ≤ 2) (w : World) :
  Calls Tryz.prog 187 #[.string s, .int .i64 16, .int .i64 8] w fun e w' => e = .returned (uintV (hexF 0 (L s))) ∧ Below w.heap.size w w' := by
 have hne : s.toList.isEmpty = false := by rw [Bool.eq_false_iff, ne_eq, neJ]; omega
 have hcv := Lib.run_convert_string_bytes (P := Tryz.prog) w 9 56 5 s (u := .string) Tryz.underlying9 Tryz.underlying56 Tryz.underlying5
 have hB : ∀ j (hj : j < s.size), (Lib.bytesWorld w 5 s).cell? ⟨w.heap.size, j, none⟩ = some (.int .u8 (s[j].toNat : Int)) := fun j hj => by
  rw [Lib.bytesWorld_cell w 5 s j hj]
  have : s.data.toList.getD j 0 = s[j] := by
   rw [List.getD_eq_getElem?_getD, List.getElem?_eq_getElem (by rw [Array.length_toList, ByteArray.size_data]; exact hj)]
   rfl
  rw [this]
 have hbw : Below w.heap.size w (Lib.bytesWorld w 5 s) := Go.Joins.below_bytesWorld _ _ _ _ (Nat.le_refl _)
 obtain ⟨W1, hW1⟩ : ∃ W1, W1 = Lib.bytesWorld w 5 s := ⟨_, rfl⟩
 rw [← hW1] at hB hcv hbw
 clear hW1
 generalize grownCap w s.size 0 5 = cap at *
 have HB := Lib.hid hB; clear hB
 have HBW := Lib.hid hbw; clear hbw
 go_enter Tryz.func187, Tryz.ntmps187
 go_wp2
 go_loop [12, 13, 101] (fun vu vn vi => ∃ (k acc : Nat) (a : Int), vu = .bool false ∧ vn = .int .u64 a ∧ vi = .int .i64 k ∧ k ≤ s.size ∧ Hid (a = (acc : Int) ∧ acc < 16 ^ k ∧ hexF 0 (L s) = hexF acc ((L s).drop k))) (fun _ _ vi => s.size - (intOf vi).toNat)
 case atStart => exact ⟨0, 0, 0, rfl, rfl, rfl, Nat.zero_le _, rfl, by decide, rfl⟩
 case round =>
  obtain ⟨k, acc, a, rfl, rfl, rfl, hk, HR⟩ := hrel
  by_cases hlt : k < s.size
  case neg =>
   have HF : Hid (uintV (hexF 0 (L s)) = .tuple #[.int .u64 a, .nilIface]) := by
    unfold Hid; rw [HR.out.2.2, L_drop_nil s k (by omega), HR.out.1]; rfl
   clear HR
   go_wp2
   go_ret2
   exact ⟨by rw [HF.out]; rfl, HBW.out⟩
  have hc := HB.out k hlt
  have hacc : acc < 16 := by
   have h := HR.out.2.1
   have : k = 0 ∨ k = 1 := by omega
   rcases this with rfl | rfl <;> simp at h <;> omega
  have ha0 : 0 ≤ a := by have := HR.out.1; omega
  have ha1 : a < 16 := by have := HR.out.1; omega
  have hstep : ∀ d : Nat, d < 16 → hexd1 s[k] = some d → ∃ acc' : Nat, (a * 16 + d : Int) = (acc' : Int) ∧ acc' < 16 ^ (k + 1) ∧ hexF 0 (L s) = hexF acc' ((L s).drop (k + 1)) := by
   intro d hd h
   refine ⟨acc * 16 + d, by have := HR.out.1; omega, ?_, ?_⟩
   ·have h := HR.out.2.1
    rw [Nat.pow_succ]
    omega
   ·rw [HR.out.2.2, L_drop s k hlt, hexF, h]
  have hbad : hexd1 s[k] = none → Hid (uintV (hexF 0 (L s)) = .tuple #[.int .u64 0, .iface 210 (.int .i64 2)]) := by
   intro h
   unfold Hid
   rw [HR.out.2.2, L_drop s k hlt, hexF, h]
   rfl
  have HST := Lib.hid hstep; clear hstep
  have HBD := Lib.hid hbad; clear hbad HR hacc
  generalize s[k] = c at *
  have hcl := hex_class0 ⟨c.toNat, c.toNat_lt⟩
  have hlow : lowN c.toNat < 256 := by have := c.toNat_lt; unfold lowN; split <;> omega
  simp only [UInt8.ofNat_toNat] at hcl
  rcases hcl with ⟨h1, h2, h3⟩ | ⟨h1, h2, h3, h4, h5⟩ | ⟨h1, h2, h3, h4, h5⟩ | ⟨h1, h2, h5⟩ | ⟨h1, h2, h3, h5⟩ | ⟨h1, h2, h3, h5⟩ | ⟨h1, h5⟩
  ·have a1 : (48 : Int) ≤ c.toNat := by omega
   have a2 : (c.toNat : Int) ≤ 57 := by omega
   have a3 : ((c.toNat : Int) == 95) = false := by rw [beq_eq_false_iff_ne]; omega
   obtain ⟨acc', q1, q2, q3⟩ := HST.out _ (by omega) h3
   have HQ : Hid (a * 16 + ((c.toNat : Int) - 48) = (acc' : Int) ∧ acc' < 16 ^ (k + 1) ∧ hexF 0 (L s) = hexF acc' ((L s).drop (k + 1))) := ⟨by omega, q2, q3⟩
   clear h3 HST HBD q1 q2 q3
   go_wp2
   exact ⟨⟨k + 1, acc', _, rfl, rfl, rfl, by omega, HQ⟩, by simp [intOf]; omega⟩
  ·obtain ⟨lw, hlw⟩ : ∃ lw, lowN c.toNat = lw := ⟨_, rfl⟩
   have a1 : ¬ (c.toNat : Int) ≤ 57 := by omega
   have a3 : ((c.toNat : Int) == 95) = false := by rw [beq_eq_false_iff_ne]; omega
   have b1 : (97 : Int) ≤ lowN c.toNat := by omega
   have b2 : (lowN c.toNat : Int) ≤ 122 := by omega
   have b3 : (lowN c.toNat : Int) ≤ 102 := by omega
   obtain ⟨acc', q1, q2, q3⟩ := HST.out _ (by omega) h5
   have HQ : Hid (a * 16 + ((lowN c.toNat : Int) - 97 + 10) = (acc' : Int) ∧ acc' < 16 ^ (k + 1) ∧ hexF 0 (L s) = hexF acc' ((L s).drop (k + 1))) := ⟨by omega, q2, q3⟩
   clear h3 h4 h5 HST HBD q1 q2 q3 hlw
   go_wp2_with (go_at_call 192; refine (lower_any _ _).mono ?_; rintro e w' ⟨rfl, rfl⟩)
   exact ⟨⟨k + 1, acc', _, rfl, rfl, rfl, by omega, HQ⟩, by simp [intOf]; omega⟩
  ·have HF := HBD.out h5
   clear HST HBD
   have a3 : ((c.toNat : Int) == 95) = false := by rw [beq_eq_false_iff_ne]; omega
   have a0 : (48 : Int) ≤ c.toNat := by omega
   have a1 : ¬ (c.toNat : Int) ≤ 57 := by omega
   have b1 : (97 : Int) ≤ lowN c.toNat := by omega
   have b2 : (lowN c.toNat : Int) ≤ 122 := by omega
   have b3 : ¬ (lowN c.toNat : Int) ≤ 102 := by omega
   go_wp2_with (go_at_call 192; refine (lower_any _ _).mono ?_; rintro e w' ⟨rfl, rfl⟩)
   all_goals (go_ret2; exact ⟨by rw [HF.out]; rfl, HBW.out⟩)
  ·have HF := HBD.out h5
   clear HST HBD
   have a3 : ((c.toNat : Int) == 95) = false := by rw [beq_eq_false_iff_ne]; omega
   have a1 : ¬ (48 : Int) ≤ c.toNat := by omega
   have b1 : ¬ (97 : Int) ≤ lowN c.toNat := by omega
   go_wp2_with (go_at_call 192; refine (lower_any _ _).mono ?_; rintro e w' ⟨rfl, rfl⟩)
   all_goals (go_ret2; exact ⟨by rw [HF.out]; rfl, HBW.out⟩)
  ·have HF := HBD.out h5
   clear HST HBD
   have a3 : ((c.toNat : Int) == 95) = false := by rw [beq_eq_false_iff_ne]; omega
   have a0 : (48 : Int) ≤ c.toNat := by omega
   have a1 : ¬ (c.toNat : Int) ≤ 57 := by omega
   have b1 : ¬ (97 : Int) ≤ lowN c.toNat := by omega
   go_wp2_with (go_at_call 192; refine (lower_any _ _).mono ?_; rintro e w' ⟨rfl, rfl⟩)
   all_goals (go_ret2; exact ⟨by rw [HF.out]; rfl, HBW.out⟩)
  ·have HF := HBD.out h5
   clear HST HBD
   have a3 : ((c.toNat : Int) == 95) = false := by rw [beq_eq_false_iff_ne]; omega
   have a0 : (48 : Int) ≤ c.toNat := by omega
   have a1 : ¬ (c.toNat : Int) ≤ 57 := by omega
   have b1 : (97 : Int) ≤ lowN c.toNat := by omega
   have b2 : ¬ (lowN c.toNat : Int) ≤ 122 := by omega
   go_wp2_with (go_at_call 192; refine (lower_any _ _).mono ?_; rintro e w' ⟨rfl, rfl⟩)
   all_goals (go_ret2; exact ⟨by rw [HF.out]; rfl, HBW.out⟩)
  ·have HF := HBD.out h5
   clear HST HBD
   have a3 : ((c.toNat : Int) == 95) = true := by rw [beq_iff_eq]; omega
   have a0 : (48 : Int) ≤ c.toNat := by omega
   have a1 : ¬ (c.toNat : Int) ≤ 57 := by omega
   have b0 : lowN c.toNat = 127 := by rw [h1]; rfl
   have b1 : (97 : Int) ≤ lowN c.toNat := by omega
   have b2 : ¬ (lowN c.toNat : Int) ≤ 122 := by omega
   clear b0 h1 h5
   go_wp2_with (go_at_call 192; refine (lower_any _ _).mono ?_; rintro e w' ⟨rfl, rfl⟩)
   all_goals (go_ret2; exact ⟨by rw [HF.out]; rfl, HBW.out⟩)
theorem ParseUint_ok (s : ByteArray) (h1 : 1 ≤ s.size) (h2 : s.size ≤ 2) (n : Nat) (h : hexF 0 (L s) = some n) (w : World) :
  Calls Tryz.prog 178 #[.string s, .int .i64 16, .int .i64 8] w fun e w' => e = .returned (.tuple #[.int .u64 (n : Int), .nilIface]) ∧ Below w.heap.size w w' := by
 have HP := Lib.hid (PU_any s h1 h2)
 have HV : Hid (uintV (hexF 0 (L s)) = .tuple #[.int .u64 (n : Int), .nilIface]) := by unfold Hid; rw [h]; rfl
 clear h
 go_enter Tryz.func178, Tryz.ntmps178
 go_wp2_with fail
 refine (HP.out _).mono ?_
 rintro e w1 ⟨rfl, hb1⟩
 rw [HV.out]
 go_wp2_with fail
 go_ret2
 exact ⟨rfl, hb1⟩
theorem ParseUint_no (s : ByteArray) (h1 : 1 ≤ s.size) (h2 : s.size ≤ 2) (h : hexF 0 (L s) = none) (w : World) (he : Env w) :
  Calls Tryz.prog 178 #[.string s, .int .i64 16, .int .i64 8] w fun e w' => (∃ N, e = .returned (.tuple #[.int .u64 0, .iface 212 (.pointer (some ⟨N, 0, none⟩))])) ∧ Below w.heap.size w w' := by
 have HP := Lib.hid (PU_any s h1 h2)
 have HV : Hid (uintV (hexF 0 (L s)) = .tuple #[.int .u64 0, .iface 210 (.int .i64 2)]) := by unfold Hid; rw [h]; rfl
 clear h
 have HE := Lib.hid he; clear he
 go_enter Tryz.func178, Tryz.ntmps178
 go_wp2_with fail
 refine (HP.out _).mono ?_
 rintro e w1 ⟨rfl, hb1⟩
 rw [HV.out]
 obtain ⟨-, ev, hv, hev⟩ := HE.out.below hb1
 have HC := Lib.hid (Tryz.strconv_toError_syntax ⟨#[80, 97, 114, 115, 101, 85, 105, 110, 116]⟩ s 16 8 ev w1 (by omega) hv hev)
 clear hv hev
 go_wp2_with fail
 refine (HC.out).mono ?_
 rintro e w2 ⟨N, rfl, _, _, hb2⟩
 go_wp2_with fail
 go_ret2
 exact ⟨⟨N, rfl⟩, hb1.trans (hb2.mono hb1.size)⟩
end Go.Proofs.YtpkecepelcppiaaGreatDoor
