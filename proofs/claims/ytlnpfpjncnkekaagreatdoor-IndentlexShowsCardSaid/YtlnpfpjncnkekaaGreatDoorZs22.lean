/- datakitref01.FromInt walked. Conditions: at most 10^15. -/
import Derived.Test.YtlnpfpjncnkekaaGreatDoorZs17
import Derived.StillTailTactics
import Derived.Deep.DeepCutAuto
import Derived.Deep.CutBlock
import Derived.Deep.QuietTactic
import Derived.BigQuiet
import Derived.WalkSpells
import Derived.Test.YtlnpfpjncnkekaaGreatDoorZs7
namespace Go.Proofs.YtlnpfpjncnkekaaGreatDoor
open Go.RowKit
set_option maxHeartbeats 1000000
set_option maxRecDepth 100000

/-- A value as an aggregate. -/
abbrev aggV (c : VC) : Value := .agg #[.int .i64 c.h.kind, .bool c.h.bool, .bool c.h.neg, .string c.h.ds, .int .i64 c.h.exp, .int .i64 c.h.tk, .int .i64 c.h.day, .int .i64 c.h.nano, .int .i64 c.h.off, .string c.h.text, c.b, c.l, c.f]
/-- The bytes of a slice as a string. -/
theorem conv_rdb {w : World} {v : Value} {l : List UInt8} (h : RdB w v l) : (convert 26 9 v).run Tryz.prog w = .ok (.string ⟨l.toArray⟩) w := by
  obtain ⟨a, cap, rfl, h1, h2, h3, h4⟩ := h
  rcases l with _ | ⟨b, t⟩
  · rcases a with _ | a
    · exact run_convert_bytes_nil w 26 5 Tryz.underlying26 Tryz.underlying5 0 cap 9 Tryz.underlying9
    · exact run_convert_bytes_back w 26 9 5 a cap [] Tryz.underlying26 Tryz.underlying5 Tryz.underlying9 (fun j hj => absurd hj (Nat.not_lt_zero _))
  · obtain ⟨g, o, rfl, hg, hc⟩ := h4 (by simp)
    refine run_convert_bytes_back w 26 9 5 ⟨g, o, none⟩ cap (b :: t) Tryz.underlying26 Tryz.underlying5 Tryz.underlying9 (fun j hj => ?_)
    have := hc j hj 0 (by decide)
    simp only [Nat.mul_one, Nat.add_zero, List.getElem?_cons_zero] at this
    have hadd : (⟨g, o, none⟩ : Addr).add j = ⟨g, o + j, none⟩ := by unfold Addr.add; split <;> simp_all
    rw [hadd, this, List.getD_eq_getElem?_getD, List.getElem?_eq_getElem hj]
    rfl

/-- The cells of an element that is a value. -/
theorem cells13 {w : World} {g o : Nat} {c : VC} (h : ∀ j, j < 13 → w.cell? ⟨g, o + j, none⟩ = c.cells[j]?) :
    w.cell? ⟨g, o, none⟩ = some (.int .i64 c.h.kind) ∧ w.cell? ⟨g, o + 1, none⟩ = some (.bool c.h.bool) ∧ w.cell? ⟨g, o + 2, none⟩ = some (.bool c.h.neg) ∧ w.cell? ⟨g, o + 3, none⟩ = some (.string c.h.ds) ∧ w.cell? ⟨g, o + 4, none⟩ = some (.int .i64 c.h.exp) ∧
      w.cell? ⟨g, o + 5, none⟩ = some (.int .i64 c.h.tk) ∧ w.cell? ⟨g, o + 6, none⟩ = some (.int .i64 c.h.day) ∧ w.cell? ⟨g, o + 7, none⟩ = some (.int .i64 c.h.nano) ∧ w.cell? ⟨g, o + 8, none⟩ = some (.int .i64 c.h.off) ∧ w.cell? ⟨g, o + 9, none⟩ = some (.string c.h.text) ∧
      w.cell? ⟨g, o + 10, none⟩ = some c.b ∧ w.cell? ⟨g, o + 11, none⟩ = some c.l ∧ w.cell? ⟨g, o + 12, none⟩ = some c.f :=
  ⟨h 0 (by decide), h 1 (by decide), h 2 (by decide), h 3 (by decide), h 4 (by decide), h 5 (by decide), h 6 (by decide), h 7 (by decide), h 8 (by decide), h 9 (by decide), h 10 (by decide), h 11 (by decide), h 12 (by decide)⟩
theorem Below.drewN' {B n : Nat} {w w' : World} (h : Below B w w') : Below B w (w'.drewN n) := ⟨h.os, h.tape, h.output, h.size, h.block⟩

end Go.Proofs.YtlnpfpjncnkekaaGreatDoor

namespace Go.Proofs.YtlnpfpjncnkekaaGreatDoor
open Go.RowKit
set_option maxHeartbeats 1000000
set_option maxRecDepth 100000

end Go.Proofs.YtlnpfpjncnkekaaGreatDoor

namespace Go.Proofs.YtlnpfpjncnkekaaGreatDoor
open Go.RowKit
set_option maxHeartbeats 4000000
set_option maxRecDepth 100000

/-- The digits of a number, the last first. -/
def digQ (n : Nat) : List UInt8 := if h : n = 0 then [] else UInt8.ofNat (48 + n % 10) :: digQ (n / 10)
termination_by n
decreasing_by omega
def numL (n : Nat) : List UInt8 := (digQ n).reverse
theorem digQ_pos (n : Nat) (h : 0 < n) : digQ n = UInt8.ofNat (48 + n % 10) :: digQ (n / 10) := by
  rw [digQ, dif_neg (by omega)]
theorem digQ_zero : digQ 0 = [] := by rw [digQ, dif_pos rfl]
theorem numL_pos (n : Nat) (h : 0 < n) : numL n = numL (n / 10) ++ [UInt8.ofNat (48 + n % 10)] := by
  unfold numL
  rw [digQ_pos n h, List.reverse_cons]
theorem digQ_len : ∀ (k n : Nat), n < 10 ^ k → (digQ n).length ≤ k
  | 0, n, h => by
    have : n = 0 := by simpa using h
    rw [this, digQ_zero]
    exact Nat.le_refl _
  | k + 1, n, h => by
    rcases Nat.eq_zero_or_pos n with rfl | hp
    · rw [digQ_zero]; exact Nat.zero_le _
    · rw [digQ_pos n hp, List.length_cons]
      have := digQ_len k (n / 10) (by rw [Nat.pow_succ] at h; omega)
      omega
theorem FromInt1_any (n0 : Nat) (w : World) (hn0 : n0 < 1000000000000000) :
    Calls Tryz.prog 101 #[.int .i64 n0] w fun e w' => e = .returned (.string ⟨(numL n0).toArray⟩) ∧ Below w.heap.size w w' := by
  have hl : (numL n0).length ≤ 15 := by unfold numL; rw [List.length_reverse]; exact digQ_len 15 n0 hn0
  have HL := Lib.hid hl
  clear hl
  go_enter Tryz.func101, Tryz.ntmps101
  go_wp2_with fail
  go_loopw [0, 3] (fun nv sv wr => ∃ (n : Nat) (s : ByteArray), n ≤ n0 ∧ nv = .int .i64 n ∧ sv = .string s ∧ Hid (numL n0 = numL n ++ L s) ∧ Below w.heap.size w wr) (fun nv _ _ => (intOf nv).toNat)
  case atStart => exact ⟨n0, ⟨#[]⟩, Nat.le_refl _, rfl, rfl, by unfold Hid; show _ = _ ++ []; rw [List.append_nil], Below.refl _ _⟩
  case round =>
    obtain ⟨n, s, hn, rfl, rfl, HC, hbw⟩ := hrel
    rcases Nat.eq_zero_or_pos n with rfl | hp
    · have HF : Hid (s = ⟨(numL n0).toArray⟩) := by
        unfold Hid
        refine L_inj ?_
        rw [HC.out]
        unfold numL
        rw [digQ_zero]
        rfl
      clear HC
      go_wp2_with fail
      go_ret
      exact ⟨by rw [← HF.out]; rfl, hbw⟩
    · have HN : Hid (numL n0 = numL (n / 10) ++ (UInt8.ofNat (48 + n % 10) :: L s)) := by
        unfold Hid
        rw [HC.out, numL_pos n hp, List.append_assoc]
        rfl
      have hss : s.size ≤ 15 := by
        have h1 := HL.out
        rw [HC.out, List.length_append, L_len] at h1
        omega
      have hpi : (0 : Int) < n := by omega
      have hmod : ((n : Int) % 10) = ((n % 10 : Nat) : Int) := by omega
      obtain ⟨d, hd⟩ : ∃ d, d = n % 10 := ⟨_, rfl⟩
      rw [← hd] at hmod HN
      have hd10 : d < 10 := by omega
      have hnb : n < 1000000000000000 := by omega
      obtain ⟨c, hc⟩ : ∃ c, c = UInt8.ofNat (48 + d) := ⟨_, rfl⟩
      have hu : c.toNat = 48 + d := by rw [hc]; simp; omega
      rw [← hc] at HN
      clear hc
      have hcv : (convert 26 9 (.slice (some ⟨wr.heap.size, 0, none⟩) 1 1)).run Tryz.prog (wr.alloc (.cells #[.int .u8 (48 + (d : Int))] 5)) = .ok (.string ⟨#[c]⟩) (wr.alloc (.cells #[.int .u8 (48 + (d : Int))] 5)) := by
        have hb : RdB (wr.alloc (.cells #[.int .u8 (48 + (d : Int))] 5)) (.slice (some ⟨wr.heap.size, 0, none⟩) 1 1) [c] := by
          refine ⟨_, 1, rfl, Nat.le_refl _, ⟨by show 1 ≤ _; decide, by show 1 ≤ _; decide⟩, (fun h => by cases h), fun _ => ⟨wr.heap.size, 0, rfl, by simp, fun i hi j hj => ?_⟩⟩
          have hi0 : i = 0 := by simpa using hi
          have hj0 : j = 0 := by omega
          subst hi0 hj0
          refine ((cell_of_row _ wr.heap.size 0 _ _ (0, 0) (heap_alloc_new wr _)).trans ?_)
          simp only [bv, List.getD_cons_zero, hu]
          rfl
        exact conv_rdb hb
      have HS : Hid (L (⟨#[c]⟩ ++ s) = c :: L s) := by unfold Hid; rw [L_append]; rfl
      have hbw2 : ∀ X, Below w.heap.size w (wr.alloc X) := fun X => hbw.alloc hbw.size X
      have HBW := Lib.hid hbw2
      have hsz1 : (⟨#[c]⟩ : ByteArray).size = 1 := rfl
      clear hu hd HC hp hbw hbw2
      go_wp2_with fail
      exact ⟨⟨n / 10, _, by omega, by go_num, rfl, by unfold Hid; rw [HS.out]; exact HN.out, HBW.out _⟩, by simp [intOf]; omega⟩
end Go.Proofs.YtlnpfpjncnkekaaGreatDoor
