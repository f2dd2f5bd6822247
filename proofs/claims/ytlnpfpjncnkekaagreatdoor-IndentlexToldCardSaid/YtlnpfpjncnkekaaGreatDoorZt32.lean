/- base.Encode walked. Conditions: at most 10^8 bytes. -/
import Derived.Test.YtlnpfpjncnkekaaGreatDoorZt28
import Derived.Test.YtlnpfpjncnkekaaGreatDoorZt17
import Derived.Test.YtlnpfpjncnkekaaGreatDoorZt16
import Derived.RegionTactic
import Derived.BigRegion
import Derived.Test.YtlnpfpjncnkekaaGreatDoorZt15
import Derived.Test.YtlnpfpjncnkekaaGreatDoorZt4
import Derived.Test.YtlnpfpjncnkekaaGreatDoorZt22
namespace Go.Proofs.YtlnpfpjncnkekaaGreatDoor
open Go.RowKit
set_option maxHeartbeats 4000000
set_option maxRecDepth 100000

/-- Block g, laid by the call, holds n bytes: byte j is f j. -/
structure BlkAt (w wr : World) (g n : Nat) (f : Nat → UInt8) : Prop where
  below : Below g w wr
  lt : g < wr.heap.size
  ex : ∃ cur : Array Value, wr.heap[g]? = some (.cells cur 5 (0, 0)) ∧ cur.size = n ∧ ∀ j, j < n → cur[j]? = some (bv (f j))
theorem BlkAt.cell {w wr : World} {g n : Nat} {f : Nat → UInt8} (h : BlkAt w wr g n f) (j : Nat) (hj : j < n) : wr.cell? ⟨g, j, none⟩ = some (bv (f j)) := by
  obtain ⟨cur, hx, -, hc⟩ := h.ex
  rw [cell_of_row wr g j _ _ (0, 0) hx, hc j hj]
theorem BlkAt.frozen {w wr : World} {g n : Nat} {f : Nat → UInt8} (h : BlkAt w wr g n f) (j : Nat) : wr.frozen? ⟨g, j, none⟩ = false := by
  obtain ⟨cur, hx, -⟩ := h.ex
  simp [World.frozen?, hx]
theorem BlkAt.set {w wr w2 : World} {g n : Nat} {f f2 : Nat → UInt8} (h : BlkAt w wr g n f) (k : Nat) (hf : ∀ j, j < n → j ≠ k → f2 j = f j) (h1 : Below g wr w2) (hs : g < w2.heap.size)
    (hx2 : ∀ cur, wr.heap[g]? = some (.cells cur 5 (0, 0)) → w2.heap[g]? = some (.cells (cur.setIfInBounds k (bv (f2 k))) 5 (0, 0))) : BlkAt w w2 g n f2 := by
  obtain ⟨hb, hg, cur, hx, hz, hc⟩ := h
  refine ⟨hb.trans h1, hs, _, hx2 cur hx, by rw [Array.size_setIfInBounds]; exact hz, fun j hj => ?_⟩
  rw [Array.getElem?_setIfInBounds]
  by_cases hjk : k = j
  · subst hjk
    rw [if_pos rfl, if_pos (by omega)]
  · rw [if_neg hjk, hc j hj, hf j hj (fun h => hjk h.symm)]
theorem BlkAt.stays {w wr w2 : World} {g n : Nat} {f : Nat → UInt8} (h : BlkAt w wr g n f) (hb : Below wr.heap.size wr w2) : BlkAt w w2 g n f := by
  obtain ⟨h1, h2, cur, hx, hz, hc⟩ := h
  exact ⟨h1.trans (hb.mono (Nat.le_of_lt h2)), Nat.lt_of_lt_of_le h2 hb.size, cur, (hb.block g h2).trans hx, hz, hc⟩
/-- Such a block read as bytes. -/
theorem BlkAt.rdb {w wr : World} {g n cap : Nat} {f : Nat → UInt8} (h : BlkAt w wr g n f) (l : List UInt8) (hl : l.length = n) (hf : ∀ j, j < n → l[j]? = some (f j)) (hn : n ≤ cap) (hc : cap ≤ maxLen) (hb : n ≤ 140737488351232) : RdB wr (.slice (some ⟨g, 0, none⟩) n cap) l := by
  subst hl
  refine ⟨_, cap, rfl, hn, ⟨hb, hc⟩, (fun h => by cases h), fun _ => ⟨g, 0, rfl, h.lt, fun i hi j hj => ?_⟩⟩
  obtain rfl : j = 0 := by omega
  have h1 := h.cell i hi
  rw [show 0 + i * 1 + 0 = i by omega, h1]
  show some (bv (f i)) = some (bv (l.getD i 0))
  rw [List.getD_eq_getElem?_getD, hf i hi]
  rfl
theorem u8_info : (Tryz.prog.info? 5).map (fun i => (i.zero, i.size, i.bytes)) = some (some (.int .u8 0), 1, 1) := by kernel_rfl
theorem make_u8 (n : Nat) (hn : n ≤ 1000000000) (w : World) : (Instr.makeSlice 26 (.int .i64 (n : Int)) (.int .i64 (n : Int))).run Tryz.prog w = .ok (.slice (some ⟨w.heap.size, 0, none⟩) n n) (w.alloc (.cells (madeCells #[.int .u8 0] n) 5)) := by
  obtain ⟨i, hi, hz, hs, hb⟩ := info_parts u8_info
  have hr := run_make (P := Tryz.prog) w 26 5 i _ Tryz.underlying26 hi hz .i64 .i64 n n (by omega) (Int.le_refl _) (by rw [hb]; omega) (by omega)
  rw [hr, Int.toNat_natCast, hs, Nat.mul_one]
  rfl
theorem BlkAt.start {w w1 : World} (n : Nat) (hW : w.alloc (.cells (madeCells #[.int .u8 0] n) 5) = w1) : BlkAt w w1 w.heap.size n (fun _ => 0) := by
  obtain ⟨h1, _, h3, h4⟩ := alloc_of hW
  refine ⟨h4, by omega, _, h1, ?_, fun j hj => ?_⟩
  · unfold madeCells
    simp
  · unfold madeCells
    rw [Array.getElem?_map, Array.getElem?_range, if_pos (by omega)]
    simp [bv, Nat.mod_one]
/-! Bits. -/
end Go.Proofs.YtlnpfpjncnkekaaGreatDoor

namespace Go.Proofs.YtlnpfpjncnkekaaGreatDoor
open Go.RowKit
set_option maxHeartbeats 4000000
set_option maxRecDepth 100000

theorem letB_at0 : ∀ n : Fin 64, (letB[n.val]'(by have := n.isLt; exact this)) = lt64 n.val := by decide +kernel
theorem letB_at (n : Nat) (h : n < 64) (h2 : n < letB.size) : letB[n]'h2 = lt64 n := letB_at0 ⟨n, h⟩
end Go.Proofs.YtlnpfpjncnkekaaGreatDoor

namespace Go.Proofs.YtlnpfpjncnkekaaGreatDoor
open Go.RowKit
set_option maxHeartbeats 4000000
set_option maxRecDepth 100000

/-- The last digits of a number. -/
def padL : Nat → Nat → List UInt8
  | 0, _ => []
  | c + 1, n => UInt8.ofNat (48 + n / 10 ^ c % 10) :: padL c n
theorem padL_len : ∀ c n : Nat, (padL c n).length = c
  | 0, _ => rfl
  | c + 1, n => by rw [padL, List.length_cons, padL_len c n]
theorem padL_get : ∀ (c n j : Nat), j < c → (padL c n)[j]? = some (UInt8.ofNat (48 + n / 10 ^ (c - 1 - j) % 10))
  | 0, _, _, h => absurd h (Nat.not_lt_zero _)
  | c + 1, n, 0, _ => rfl
  | c + 1, n, j + 1, h => by
    rw [padL, List.getElem?_cons_succ, padL_get c n j (by omega), show c + 1 - 1 - (j + 1) = c - 1 - j by omega]
theorem digits_any (n wd : Nat) (w : World) (hn : n < 4000000000000000000) (hw : wd ≤ 100) (hw1 : 1 ≤ wd) :
    Calls Tryz.prog 99 #[.int .i64 (n : Int), .int .i64 (wd : Int)] w fun e w' => e = .returned (.string ⟨(padL wd n).toArray⟩) ∧ Below w.heap.size w w' := by
  have hmk := make_u8 wd (by omega)
  have HST := Lib.hid (fun w w1 hW => BlkAt.start (w := w) (w1 := w1) wd hW)
  go_enter Tryz.func99, Tryz.ntmps99
  go_wp2_with fail
  generalize hW : World.alloc w _ = w1
  have CUR0 := Lib.hid (HST.out _ _ hW)
  have CUR1 : Hid (BlkAt w w1 w.heap.size wd (fun j => if wd - 0 ≤ j then UInt8.ofNat (48 + n / 10 ^ (wd - 1 - j) % 10) else 0)) := by
    obtain ⟨h1, h2, cur, h3, h4, h5⟩ := CUR0.out
    refine ⟨h1, h2, cur, h3, h4, fun j hj => ?_⟩
    rw [h5 j hj, if_neg (by omega)]
  clear hW hmk HST CUR0
  go_loopw [0, 6] (fun nv iv wr => ∃ c : Nat, c ≤ wd ∧ nv = .int .i64 ((n / 10 ^ c : Nat) : Int) ∧ iv = .int .i64 ((wd : Int) - 1 - (c : Int)) ∧ Hid (BlkAt w wr w.heap.size wd (fun j => if wd - c ≤ j then UInt8.ofNat (48 + n / 10 ^ (wd - 1 - j) % 10) else 0))) (fun _ iv _ => (intOf iv + 1).toNat)
  case atStart => exact ⟨0, Nat.zero_le _, by rw [Nat.pow_zero, Nat.div_one], congrArg (Value.int .i64) (by omega), CUR1.out⟩
  case round =>
    clear CUR1
    obtain ⟨c, hc, rfl, rfl, CUR⟩ := hrel
    have HNX : Hid (n / 10 ^ (c + 1) = n / 10 ^ c / 10) := by unfold Hid; rw [Nat.div_div_eq_div_mul, Nat.pow_succ]
    have hmb : n / 10 ^ c ≤ n := Nat.div_le_self _ _
    by_cases hlt : c < wd
    case neg =>
      obtain rfl : c = wd := by omega
      have hcv := conv_rdb (CUR.out.rdb (cap := c) (padL c n) (padL_len _ _) (fun j hj => by rw [padL_get c n j hj, if_pos (by omega)]) (Nat.le_refl _) (by simp only [maxLen]; omega) (by omega))
      rw [show ((c : Int) - 1 - (c : Int)) = -1 by omega]
      have HB := Lib.hid CUR.out.below
      clear CUR HNX
      generalize n / 10 ^ c = m at *
      go_wp2_with fail
      go_ret
      exact ⟨rfl, HB.out⟩
    obtain ⟨j, hj⟩ : ∃ j, j + 1 + c = wd := ⟨wd - 1 - c, by omega⟩
    have hji : (wd : Int) - 1 - (c : Int) = (j : Int) := by omega
    have hjl : j < wd := by omega
    have c1 := CUR.out.cell j hjl
    have f1 := CUR.out.frozen j
    rw [if_neg (by omega)] at c1
    have HG := Lib.hid CUR.out.lt
    have HMV : Hid ((UInt8.ofNat (48 + n / 10 ^ (wd - 1 - j) % 10)).toNat = 48 + n / 10 ^ c % 10) := by
      unfold Hid
      rw [show wd - 1 - j = c by omega, ofn _ (by omega)]
    rw [hji]
    generalize hmm : n / 10 ^ c = m at *
    have hjw : (j : Int) < (wd : Int) := by omega
    have HJ := Lib.hid hj
    have HMM := Lib.hid hmm
    clear hj hji hmm
    go_wp2_with fail
    have hJ := HJ.out
    refine ⟨⟨c + 1, by omega, congrArg (Value.int .i64) (by rw [HNX.out]; omega), congrArg (Value.int .i64) (by omega), CUR.out.set j (fun i hi hne => ?_) ?_ ?_ ?_⟩, by first | (simp [intOf]; done) | (simp [intOf]; omega)⟩
    · by_cases h1 : wd - c ≤ i
      · rw [if_pos h1, if_pos (by omega)]
      · rw [if_neg h1, if_neg (by omega)]
    · exact ((Below.refl _ wr).setCell (p := ⟨w.heap.size, j, none⟩) (Nat.le_refl _) _)
    · have := HG.out; simpa using this
    · intro cur hx
      rw [if_pos (by omega)]
      show _ = some (Obj.cells (cur.setIfInBounds j (Value.int .u8 ((UInt8.ofNat (48 + n / 10 ^ (wd - 1 - j) % 10)).toNat : Int))) _ _)
      rw [HMV.out]
      have h := heap_setCell_same wr w.heap.size j _ _ (Value.int .u8 (48 + (m : Int) % 10)) hx
      rw [show ((48 + m % 10 : Nat) : Int) = 48 + (m : Int) % 10 by omega]
      exact h
end Go.Proofs.YtlnpfpjncnkekaaGreatDoor

namespace Go.Proofs.YtlnpfpjncnkekaaGreatDoor
open Go.RowKit
set_option maxHeartbeats 4000000
set_option maxRecDepth 100000

end Go.Proofs.YtlnpfpjncnkekaaGreatDoor

namespace Go.Proofs.YtlnpfpjncnkekaaGreatDoor
open Go.RowKit
set_option maxHeartbeats 4000000
set_option maxRecDepth 100000

theorem encD_app (b : List UInt8) : ∀ a : List UInt8, a.length % 3 = 0 → encD (a ++ b) = encD a ++ encD b := by
  refine three_ind (P := fun a => a.length % 3 = 0 → encD (a ++ b) = encD a ++ encD b) (fun _ => rfl) (fun x h => by cases h) (fun x y h => by cases h) (fun x y z t ih h => ?_)
  have := ih (by simp only [List.length_cons] at h; omega)
  simp only [List.cons_append, encD, this]
theorem encP_app (a b : List UInt8) (h : a.length % 3 = 0) : encP (a ++ b) = encP a ++ encP b := by
  unfold encP
  have h1 : padN a.length = 0 := by unfold padN; rw [h]
  have h2 : padN (a ++ b).length = padN b.length := by
    unfold padN
    rw [List.length_append, show (a.length + b.length) % 3 = b.length % 3 by omega]
  rw [h1, h2, encD_app b a h, List.map_append, List.replicate_zero, List.append_nil, List.append_assoc]
/-- One group more. -/
theorem encP_step (l : List UInt8) (q : Nat) (h : 3 * q ≤ l.length) : encP (l.take (3 * (q + 1))) = encP (l.take (3 * q)) ++ encP ((l.drop (3 * q)).take 3) := by
  rw [show 3 * (q + 1) = 3 * q + 3 by omega, List.take_add]
  exact encP_app _ _ (by rw [List.length_take]; omega)
theorem or_byte (a b : Nat) (h1 : a < 65536) (h2 : b < 256) : bits .or .i64 ((a : Int) * 256) (b : Int) = (a : Int) * 256 + (b : Int) :=
  or_join 8 _ _ (by omega) (by omega) (by omega) (by omega) (by omega) (by omega)
theorem or_none : ∀ b : Fin 256, bits .or .i64 0 (b.val : Int) = (b.val : Int) := by decide +kernel
theorem and63w (W : Nat) (h : W < 16777216) : bits .and .i64 (W : Int) 63 = ((W % 64 : Nat) : Int) :=
  bits_mask .i64 63 (by decide) wraps_i64' 6 (by decide) (W : Int) (by omega) (by omega)
theorem BEncode_any (l : List UInt8) (v : Value) (w : World) (hv : RdB w v l) (hl : l.length ≤ 100000000) :
    Calls Tryz.prog 20 #[v, .bool true] w fun e w' => e = .returned (.string ⟨(encP l).toArray⟩) ∧ Below w.heap.size w w' := by
  have HV := Lib.hid hv
  obtain ⟨a, cap, rfl, h1, ⟨h2, h2'⟩, h3, h4⟩ := hv
  have HC := Lib.hid h4
  clear h1 h2 h2' h3 h4
  go_enter Tryz.func20, Tryz.ntmps20
  go_wp2_with fail
  go_loopw [5, 6, 7, 8, 9, 10] (fun ov iv _ _ _ _ wr => ∃ q : Nat, iv = .int .i64 ((3 * q : Nat) : Int) ∧ 3 * q ≤ l.length + 2 ∧ wr.ownsRow w.heap.size 5 1 ov (encP (l.take (3 * q))).length ((encP (l.take (3 * q))).map bv) ∧ Hid (Below w.heap.size w wr)) (fun _ iv _ _ _ _ _ => l.length + 3 - (intOf iv).toNat)
  case atStart =>
    refine ⟨0, rfl, Nat.zero_le _, ?_, Below.refl _ _⟩
    have h0 : encP (l.take (3 * 0)) = [] := by rw [Nat.mul_zero, List.take_zero]; rfl
    rw [h0]
    exact World.ownsRow_nil _ _ _ _
  case round =>
    obtain ⟨q, rfl, hq, hown, HBW⟩ := hrel
    have HOWN := Lib.hid hown
    clear hown
    generalize hI : 3 * q = I at *
    have HI := Lib.hid hI
    have hI0 : (0 : Int) ≤ (I : Int) := by omega
    clear hI
    by_cases hlt : I < l.length
    case neg =>
      have hge : ((I : Int) < (l.length : Int)) = False := eq_false (by omega)
      have hcv := conv_own bytesT HOWN.out
      rw [List.take_of_length_le (by omega)] at hcv
      clear HOWN hlt hq
      go_wp2_with fail
      go_ret
      exact ⟨rfl, HBW.out⟩
    have hlt2 : (I : Int) < (l.length : Int) := by omega
    obtain ⟨g, o, rfl, hg, hcc⟩ := HC.out (by omega)
    have hcell : ∀ i, i < l.length → wr.cell? ⟨g, o + i, none⟩ = some (.int .u8 ((l.getD i 0).toNat : Int)) := fun i hi => by
      have := (HBW.out.cell (p := ⟨g, o + i * 1 + 0, none⟩) hg).trans (hcc i hi 0 (by decide))
      rw [Nat.mul_one, Nat.add_zero] at this
      exact this
    have c0 := hcell I hlt
    have HSZ : Hid (w.heap.size ≤ wr.heap.size) := HBW.out.size
    have HAL : Hid ((encP (l.take I)).length < 10000000000) := by
      unfold Hid encP
      rw [List.length_append, List.length_map, List.length_replicate, encD_len, List.length_take]
      unfold padN
      omega
    by_cases h2 : I + 1 < l.length
    case neg =>
      have hmin : (min 3 ((l.length : Int) - (I : Int))) = 1 := by omega
      have HG : Hid (encP ((l.drop I).take 3) = [lt64 ((l.getD I 0).toNat / 4), lt64 ((l.getD I 0).toNat % 4 * 16), 61, 61]) := by
        have : (l.drop I).take 3 = [l.getD I 0] := by
          rw [List.drop_eq_getElem_cons hlt, List.drop_of_length_le (by omega), List.getD_eq_getElem?_getD, List.getElem?_eq_getElem hlt]
          rfl
        unfold Hid
        rw [this]
        rfl
      generalize l.getD I 0 = x at *
      clear hcell hcc
      have hx := x.toNat_lt
      have w0 := or_none ⟨x.toNat, hx⟩
      have HAL0 : Hid ((encP (l.take I)).length < 100000000000) := by have := HAL.out; unfold Hid; omega
      go_wp2_with fail
      refine wp_loop_rounds 4 ?_
      rw [rounds_succ]
      go_wp2_with fail
      rw [rounds_succ]
      go_wp2_with fail
      rw [rounds_succ]
      go_wp2_with fail
      rw [rounds_succ]
      go_wp2_with fail
      rw [show (x.toNat : Int) * 256 * 256 = ((x.toNat * 65536 : Nat) : Int) by omega]
      have hWb : x.toNat * 65536 < 16777216 := by omega
      have e0 : bits .and .i64 (((x.toNat * 65536 : Nat) : Int) / 262144) 63 = ((x.toNat / 4 : Nat) : Int) := by
        rw [show (((x.toNat * 65536 : Nat) : Int) / 262144) = (((x.toNat * 65536) / 262144 : Nat) : Int) by omega, and63w _ (by omega)]
        omega
      have l0 : x.toNat / 4 < 64 := by omega
      have e1 : bits .and .i64 (((x.toNat * 65536 : Nat) : Int) / 4096) 63 = ((x.toNat % 4 * 16 : Nat) : Int) := by
        rw [show (((x.toNat * 65536 : Nat) : Int) / 4096) = (((x.toNat * 65536) / 4096 : Nat) : Int) by omega, and63w _ (by omega)]
        omega
      have l1 : x.toNat % 4 * 16 < 64 := by omega
      generalize x.toNat * 65536 = W at *
      generalize x.toNat / 4 = d0 at *
      have li0 : (d0 : Int) < 64 := by omega
      generalize x.toNat % 4 * 16 = d1 at *
      have li1 : (d1 : Int) < 64 := by omega
      clear hWb
      try clear hx
      refine wp_loop_rounds 5 ?_
      rw [rounds_succ]
      go_wp2_with (at_builtin; refine wp_push elem_u8 rfl _ _ rfl HOWN.out [_] rfl (fun u hu => by rw [List.mem_singleton.1 hu]; rfl) rfl rfl HAL0.out HBW.out.size ?_; intro v0 u0 hn9 hg9 hb9; have HO0 := Lib.hid hn9; have HB0 := Lib.hid (HBW.out.trans hb9); clear hn9 hg9 hb9)
      have HP0 : Hid (u0.ownsRow w.heap.size 5 1 v0 ((encP (l.take I)).length + 1) (((encP (l.take I)) ++ [lt64 d0]).map bv)) := by
        have h := HO0.out
        rw [List.map_append (l₁ := (encP (l.take I)))]
        rw [← letB_at d0 l0 l0]
        exact h
      have HAL1 : Hid ((encP (l.take I)).length + 1 < 100000000000) := by have := HAL.out; unfold Hid; omega
      clear HO0
      rw [rounds_succ]
      go_wp2_with (at_builtin; refine wp_push elem_u8 rfl _ _ rfl HP0.out [_] rfl (fun u hu => by rw [List.mem_singleton.1 hu]; rfl) rfl rfl HAL1.out HB0.out.size ?_; intro v1 u1 hn9 hg9 hb9; have HO1 := Lib.hid hn9; have HB1 := Lib.hid (HB0.out.trans hb9); clear hn9 hg9 hb9)
      have HP1 : Hid (u1.ownsRow w.heap.size 5 1 v1 ((encP (l.take I)).length + 1 + 1) (((encP (l.take I)) ++ [lt64 d0] ++ [lt64 d1]).map bv)) := by
        have h := HO1.out
        rw [List.map_append (l₁ := (encP (l.take I)) ++ [lt64 d0])]
        rw [← letB_at d1 l1 l1]
        exact h
      have HAL2 : Hid ((encP (l.take I)).length + 1 + 1 < 100000000000) := by have := HAL.out; unfold Hid; omega
      clear HO1
      rw [rounds_succ]
      go_wp2_with (at_builtin; refine wp_push elem_u8 rfl _ _ rfl HP1.out [_] rfl (fun u hu => by rw [List.mem_singleton.1 hu]; rfl) rfl rfl HAL2.out HB1.out.size ?_; intro v2 u2 hn9 hg9 hb9; have HO2 := Lib.hid hn9; have HB2 := Lib.hid (HB1.out.trans hb9); clear hn9 hg9 hb9)
      have HP2 : Hid (u2.ownsRow w.heap.size 5 1 v2 ((encP (l.take I)).length + 1 + 1 + 1) (((encP (l.take I)) ++ [lt64 d0] ++ [lt64 d1] ++ [61]).map bv)) := by
        have h := HO2.out
        rw [List.map_append (l₁ := (encP (l.take I)) ++ [lt64 d0] ++ [lt64 d1])]
        exact h
      have HAL3 : Hid ((encP (l.take I)).length + 1 + 1 + 1 < 100000000000) := by have := HAL.out; unfold Hid; omega
      clear HO2
      rw [rounds_succ]
      go_wp2_with (at_builtin; refine wp_push elem_u8 rfl _ _ rfl HP2.out [_] rfl (fun u hu => by rw [List.mem_singleton.1 hu]; rfl) rfl rfl HAL3.out HB2.out.size ?_; intro v3 u3 hn9 hg9 hb9; have HO3 := Lib.hid hn9; have HB3 := Lib.hid (HB2.out.trans hb9); clear hn9 hg9 hb9)
      have HP3 : Hid (u3.ownsRow w.heap.size 5 1 v3 ((encP (l.take I)).length + 1 + 1 + 1 + 1) (((encP (l.take I)) ++ [lt64 d0] ++ [lt64 d1] ++ [61] ++ [61]).map bv)) := by
        have h := HO3.out
        rw [List.map_append (l₁ := (encP (l.take I)) ++ [lt64 d0] ++ [lt64 d1] ++ [61])]
        exact h
      have HAL4 : Hid ((encP (l.take I)).length + 1 + 1 + 1 + 1 < 100000000000) := by have := HAL.out; unfold Hid; omega
      clear HO3
      rw [rounds_succ]
      go_wp2_with fail
      have hI := HI.out
      refine ⟨⟨q + 1, congrArg (Value.int .i64) (by omega), by omega, ?_, HB3.out⟩, by simp [intOf]; omega⟩
      have hst := encP_step l q (by omega)
      rw [hI, HG.out] at hst
      rw [hst, List.length_append]
      have h := HP3.out
      rw [List.append_assoc, List.append_assoc, List.append_assoc] at h
      exact h
    have h2i : (I : Int) + 1 < (l.length : Int) := by omega
    have c1 := hcell (I + 1) h2
    by_cases h3 : I + 2 < l.length
    case neg =>
      have hmin : (min 3 ((l.length : Int) - (I : Int))) = 2 := by omega
      have HG : Hid (encP ((l.drop I).take 3) = [lt64 ((l.getD I 0).toNat / 4), lt64 ((l.getD I 0).toNat % 4 * 16 + (l.getD (I + 1) 0).toNat / 16), lt64 ((l.getD (I + 1) 0).toNat % 16 * 4), 61]) := by
        have : (l.drop I).take 3 = [l.getD I 0, l.getD (I + 1) 0] := by
          rw [List.drop_eq_getElem_cons hlt, List.drop_eq_getElem_cons h2, List.drop_of_length_le (by omega), List.getD_eq_getElem?_getD, List.getElem?_eq_getElem hlt, List.getD_eq_getElem?_getD, List.getElem?_eq_getElem h2]
          rfl
        unfold Hid
        rw [this]
        rfl
      generalize l.getD I 0 = x at *
      generalize l.getD (I + 1) 0 = y at *
      clear hcell hcc
      have hx := x.toNat_lt
      have hy := y.toNat_lt
      have w0 := or_none ⟨x.toNat, hx⟩
      have w1 := or_byte x.toNat y.toNat (by omega) hy
      have HAL0 : Hid ((encP (l.take I)).length < 100000000000) := by have := HAL.out; unfold Hid; omega
      go_wp2_with fail
      refine wp_loop_rounds 4 ?_
      rw [rounds_succ]
      go_wp2_with fail
      rw [rounds_succ]
      go_wp2_with fail
      rw [rounds_succ]
      go_wp2_with fail
      rw [rounds_succ]
      go_wp2_with fail
      rw [show ((x.toNat : Int) * 256 + (y.toNat : Int)) * 256 = (((x.toNat * 256 + y.toNat) * 256 : Nat) : Int) by omega]
      have hWb : (x.toNat * 256 + y.toNat) * 256 < 16777216 := by omega
      have e0 : bits .and .i64 ((((x.toNat * 256 + y.toNat) * 256 : Nat) : Int) / 262144) 63 = ((x.toNat / 4 : Nat) : Int) := by
        rw [show ((((x.toNat * 256 + y.toNat) * 256 : Nat) : Int) / 262144) = ((((x.toNat * 256 + y.toNat) * 256) / 262144 : Nat) : Int) by omega, and63w _ (by omega)]
        omega
      have l0 : x.toNat / 4 < 64 := by omega
      have e1 : bits .and .i64 ((((x.toNat * 256 + y.toNat) * 256 : Nat) : Int) / 4096) 63 = ((x.toNat % 4 * 16 + y.toNat / 16 : Nat) : Int) := by
        rw [show ((((x.toNat * 256 + y.toNat) * 256 : Nat) : Int) / 4096) = ((((x.toNat * 256 + y.toNat) * 256) / 4096 : Nat) : Int) by omega, and63w _ (by omega)]
        omega
      have l1 : x.toNat % 4 * 16 + y.toNat / 16 < 64 := by omega
      have e2 : bits .and .i64 ((((x.toNat * 256 + y.toNat) * 256 : Nat) : Int) / 64) 63 = ((y.toNat % 16 * 4 : Nat) : Int) := by
        rw [show ((((x.toNat * 256 + y.toNat) * 256 : Nat) : Int) / 64) = ((((x.toNat * 256 + y.toNat) * 256) / 64 : Nat) : Int) by omega, and63w _ (by omega)]
        omega
      have l2 : y.toNat % 16 * 4 < 64 := by omega
      generalize (x.toNat * 256 + y.toNat) * 256 = W at *
      generalize x.toNat / 4 = d0 at *
      have li0 : (d0 : Int) < 64 := by omega
      generalize x.toNat % 4 * 16 + y.toNat / 16 = d1 at *
      have li1 : (d1 : Int) < 64 := by omega
      generalize y.toNat % 16 * 4 = d2 at *
      have li2 : (d2 : Int) < 64 := by omega
      clear hWb
      try clear hx
      try clear hy
      refine wp_loop_rounds 5 ?_
      rw [rounds_succ]
      go_wp2_with (at_builtin; refine wp_push elem_u8 rfl _ _ rfl HOWN.out [_] rfl (fun u hu => by rw [List.mem_singleton.1 hu]; rfl) rfl rfl HAL0.out HBW.out.size ?_; intro v0 u0 hn9 hg9 hb9; have HO0 := Lib.hid hn9; have HB0 := Lib.hid (HBW.out.trans hb9); clear hn9 hg9 hb9)
      have HP0 : Hid (u0.ownsRow w.heap.size 5 1 v0 ((encP (l.take I)).length + 1) (((encP (l.take I)) ++ [lt64 d0]).map bv)) := by
        have h := HO0.out
        rw [List.map_append (l₁ := (encP (l.take I)))]
        rw [← letB_at d0 l0 l0]
        exact h
      have HAL1 : Hid ((encP (l.take I)).length + 1 < 100000000000) := by have := HAL.out; unfold Hid; omega
      clear HO0
      rw [rounds_succ]
      go_wp2_with (at_builtin; refine wp_push elem_u8 rfl _ _ rfl HP0.out [_] rfl (fun u hu => by rw [List.mem_singleton.1 hu]; rfl) rfl rfl HAL1.out HB0.out.size ?_; intro v1 u1 hn9 hg9 hb9; have HO1 := Lib.hid hn9; have HB1 := Lib.hid (HB0.out.trans hb9); clear hn9 hg9 hb9)
      have HP1 : Hid (u1.ownsRow w.heap.size 5 1 v1 ((encP (l.take I)).length + 1 + 1) (((encP (l.take I)) ++ [lt64 d0] ++ [lt64 d1]).map bv)) := by
        have h := HO1.out
        rw [List.map_append (l₁ := (encP (l.take I)) ++ [lt64 d0])]
        rw [← letB_at d1 l1 l1]
        exact h
      have HAL2 : Hid ((encP (l.take I)).length + 1 + 1 < 100000000000) := by have := HAL.out; unfold Hid; omega
      clear HO1
      rw [rounds_succ]
      go_wp2_with (at_builtin; refine wp_push elem_u8 rfl _ _ rfl HP1.out [_] rfl (fun u hu => by rw [List.mem_singleton.1 hu]; rfl) rfl rfl HAL2.out HB1.out.size ?_; intro v2 u2 hn9 hg9 hb9; have HO2 := Lib.hid hn9; have HB2 := Lib.hid (HB1.out.trans hb9); clear hn9 hg9 hb9)
      have HP2 : Hid (u2.ownsRow w.heap.size 5 1 v2 ((encP (l.take I)).length + 1 + 1 + 1) (((encP (l.take I)) ++ [lt64 d0] ++ [lt64 d1] ++ [lt64 d2]).map bv)) := by
        have h := HO2.out
        rw [List.map_append (l₁ := (encP (l.take I)) ++ [lt64 d0] ++ [lt64 d1])]
        rw [← letB_at d2 l2 l2]
        exact h
      have HAL3 : Hid ((encP (l.take I)).length + 1 + 1 + 1 < 100000000000) := by have := HAL.out; unfold Hid; omega
      clear HO2
      rw [rounds_succ]
      go_wp2_with (at_builtin; refine wp_push elem_u8 rfl _ _ rfl HP2.out [_] rfl (fun u hu => by rw [List.mem_singleton.1 hu]; rfl) rfl rfl HAL3.out HB2.out.size ?_; intro v3 u3 hn9 hg9 hb9; have HO3 := Lib.hid hn9; have HB3 := Lib.hid (HB2.out.trans hb9); clear hn9 hg9 hb9)
      have HP3 : Hid (u3.ownsRow w.heap.size 5 1 v3 ((encP (l.take I)).length + 1 + 1 + 1 + 1) (((encP (l.take I)) ++ [lt64 d0] ++ [lt64 d1] ++ [lt64 d2] ++ [61]).map bv)) := by
        have h := HO3.out
        rw [List.map_append (l₁ := (encP (l.take I)) ++ [lt64 d0] ++ [lt64 d1] ++ [lt64 d2])]
        exact h
      have HAL4 : Hid ((encP (l.take I)).length + 1 + 1 + 1 + 1 < 100000000000) := by have := HAL.out; unfold Hid; omega
      clear HO3
      rw [rounds_succ]
      go_wp2_with fail
      have hI := HI.out
      refine ⟨⟨q + 1, congrArg (Value.int .i64) (by omega), by omega, ?_, HB3.out⟩, by simp [intOf]; omega⟩
      have hst := encP_step l q (by omega)
      rw [hI, HG.out] at hst
      rw [hst, List.length_append]
      have h := HP3.out
      rw [List.append_assoc, List.append_assoc, List.append_assoc] at h
      exact h
    have h3i : (I : Int) + 2 < (l.length : Int) := by omega
    have c2 := hcell (I + 2) h3
    have hmin : (min 3 ((l.length : Int) - (I : Int))) = 3 := by omega
    have HG : Hid (encP ((l.drop I).take 3) = [lt64 ((l.getD I 0).toNat / 4), lt64 ((l.getD I 0).toNat % 4 * 16 + (l.getD (I + 1) 0).toNat / 16), lt64 ((l.getD (I + 1) 0).toNat % 16 * 4 + (l.getD (I + 2) 0).toNat / 64), lt64 ((l.getD (I + 2) 0).toNat % 64)]) := by
      have : (l.drop I).take 3 = [l.getD I 0, l.getD (I + 1) 0, l.getD (I + 2) 0] := by
        rw [List.drop_eq_getElem_cons hlt, List.drop_eq_getElem_cons h2, List.drop_eq_getElem_cons h3, List.getD_eq_getElem?_getD, List.getElem?_eq_getElem hlt, List.getD_eq_getElem?_getD, List.getElem?_eq_getElem h2, List.getD_eq_getElem?_getD, List.getElem?_eq_getElem h3]
        rfl
      unfold Hid
      rw [this]
      simp [encP, encD, padN]
    generalize l.getD I 0 = x at *
    generalize l.getD (I + 1) 0 = y at *
    generalize l.getD (I + 2) 0 = z at *
    clear hcell hcc
    have hx := x.toNat_lt
    have hy := y.toNat_lt
    have hz := z.toNat_lt
    have w0 := or_none ⟨x.toNat, hx⟩
    have w1 := or_byte x.toNat y.toNat (by omega) hy
    have w2 : bits .or .i64 (((x.toNat : Int) * 256 + (y.toNat : Int)) * 256) (z.toNat : Int) = ((x.toNat : Int) * 256 + (y.toNat : Int)) * 256 + (z.toNat : Int) := by
      have := or_byte (x.toNat * 256 + y.toNat) z.toNat (by omega) hz
      rwa [show ((x.toNat * 256 + y.toNat : Nat) : Int) = (x.toNat : Int) * 256 + (y.toNat : Int) by omega] at this
    have HAL0 : Hid ((encP (l.take I)).length < 100000000000) := by have := HAL.out; unfold Hid; omega
    go_wp2_with fail
    refine wp_loop_rounds 4 ?_
    rw [rounds_succ]
    go_wp2_with fail
    rw [rounds_succ]
    go_wp2_with fail
    rw [rounds_succ]
    go_wp2_with fail
    rw [rounds_succ]
    go_wp2_with fail
    rw [show ((x.toNat : Int) * 256 + (y.toNat : Int)) * 256 + (z.toNat : Int) = (((x.toNat * 256 + y.toNat) * 256 + z.toNat : Nat) : Int) by omega]
    have hWb : (x.toNat * 256 + y.toNat) * 256 + z.toNat < 16777216 := by omega
    have e0 : bits .and .i64 ((((x.toNat * 256 + y.toNat) * 256 + z.toNat : Nat) : Int) / 262144) 63 = ((x.toNat / 4 : Nat) : Int) := by
      rw [show ((((x.toNat * 256 + y.toNat) * 256 + z.toNat : Nat) : Int) / 262144) = ((((x.toNat * 256 + y.toNat) * 256 + z.toNat) / 262144 : Nat) : Int) by omega, and63w _ (by omega)]
      omega
    have l0 : x.toNat / 4 < 64 := by omega
    have e1 : bits .and .i64 ((((x.toNat * 256 + y.toNat) * 256 + z.toNat : Nat) : Int) / 4096) 63 = ((x.toNat % 4 * 16 + y.toNat / 16 : Nat) : Int) := by
      rw [show ((((x.toNat * 256 + y.toNat) * 256 + z.toNat : Nat) : Int) / 4096) = ((((x.toNat * 256 + y.toNat) * 256 + z.toNat) / 4096 : Nat) : Int) by omega, and63w _ (by omega)]
      omega
    have l1 : x.toNat % 4 * 16 + y.toNat / 16 < 64 := by omega
    have e2 : bits .and .i64 ((((x.toNat * 256 + y.toNat) * 256 + z.toNat : Nat) : Int) / 64) 63 = ((y.toNat % 16 * 4 + z.toNat / 64 : Nat) : Int) := by
      rw [show ((((x.toNat * 256 + y.toNat) * 256 + z.toNat : Nat) : Int) / 64) = ((((x.toNat * 256 + y.toNat) * 256 + z.toNat) / 64 : Nat) : Int) by omega, and63w _ (by omega)]
      omega
    have l2 : y.toNat % 16 * 4 + z.toNat / 64 < 64 := by omega
    have e3 : bits .and .i64 (((x.toNat * 256 + y.toNat) * 256 + z.toNat : Nat) : Int) 63 = ((z.toNat % 64 : Nat) : Int) := by
      rw [show (((x.toNat * 256 + y.toNat) * 256 + z.toNat : Nat) : Int) = (((x.toNat * 256 + y.toNat) * 256 + z.toNat : Nat) : Int) by omega, and63w _ (by omega)]
      omega
    have l3 : z.toNat % 64 < 64 := by omega
    generalize (x.toNat * 256 + y.toNat) * 256 + z.toNat = W at *
    generalize x.toNat / 4 = d0 at *
    have li0 : (d0 : Int) < 64 := by omega
    generalize x.toNat % 4 * 16 + y.toNat / 16 = d1 at *
    have li1 : (d1 : Int) < 64 := by omega
    generalize y.toNat % 16 * 4 + z.toNat / 64 = d2 at *
    have li2 : (d2 : Int) < 64 := by omega
    generalize z.toNat % 64 = d3 at *
    have li3 : (d3 : Int) < 64 := by omega
    clear hWb
    try clear hx
    try clear hy
    try clear hz
    refine wp_loop_rounds 5 ?_
    rw [rounds_succ]
    go_wp2_with (at_builtin; refine wp_push elem_u8 rfl _ _ rfl HOWN.out [_] rfl (fun u hu => by rw [List.mem_singleton.1 hu]; rfl) rfl rfl HAL0.out HBW.out.size ?_; intro v0 u0 hn9 hg9 hb9; have HO0 := Lib.hid hn9; have HB0 := Lib.hid (HBW.out.trans hb9); clear hn9 hg9 hb9)
    have HP0 : Hid (u0.ownsRow w.heap.size 5 1 v0 ((encP (l.take I)).length + 1) (((encP (l.take I)) ++ [lt64 d0]).map bv)) := by
      have h := HO0.out
      rw [List.map_append (l₁ := (encP (l.take I)))]
      rw [← letB_at d0 l0 l0]
      exact h
    have HAL1 : Hid ((encP (l.take I)).length + 1 < 100000000000) := by have := HAL.out; unfold Hid; omega
    clear HO0
    rw [rounds_succ]
    go_wp2_with (at_builtin; refine wp_push elem_u8 rfl _ _ rfl HP0.out [_] rfl (fun u hu => by rw [List.mem_singleton.1 hu]; rfl) rfl rfl HAL1.out HB0.out.size ?_; intro v1 u1 hn9 hg9 hb9; have HO1 := Lib.hid hn9; have HB1 := Lib.hid (HB0.out.trans hb9); clear hn9 hg9 hb9)
    have HP1 : Hid (u1.ownsRow w.heap.size 5 1 v1 ((encP (l.take I)).length + 1 + 1) (((encP (l.take I)) ++ [lt64 d0] ++ [lt64 d1]).map bv)) := by
      have h := HO1.out
      rw [List.map_append (l₁ := (encP (l.take I)) ++ [lt64 d0])]
      rw [← letB_at d1 l1 l1]
      exact h
    have HAL2 : Hid ((encP (l.take I)).length + 1 + 1 < 100000000000) := by have := HAL.out; unfold Hid; omega
    clear HO1
    rw [rounds_succ]
    go_wp2_with (at_builtin; refine wp_push elem_u8 rfl _ _ rfl HP1.out [_] rfl (fun u hu => by rw [List.mem_singleton.1 hu]; rfl) rfl rfl HAL2.out HB1.out.size ?_; intro v2 u2 hn9 hg9 hb9; have HO2 := Lib.hid hn9; have HB2 := Lib.hid (HB1.out.trans hb9); clear hn9 hg9 hb9)
    have HP2 : Hid (u2.ownsRow w.heap.size 5 1 v2 ((encP (l.take I)).length + 1 + 1 + 1) (((encP (l.take I)) ++ [lt64 d0] ++ [lt64 d1] ++ [lt64 d2]).map bv)) := by
      have h := HO2.out
      rw [List.map_append (l₁ := (encP (l.take I)) ++ [lt64 d0] ++ [lt64 d1])]
      rw [← letB_at d2 l2 l2]
      exact h
    have HAL3 : Hid ((encP (l.take I)).length + 1 + 1 + 1 < 100000000000) := by have := HAL.out; unfold Hid; omega
    clear HO2
    rw [rounds_succ]
    go_wp2_with (at_builtin; refine wp_push elem_u8 rfl _ _ rfl HP2.out [_] rfl (fun u hu => by rw [List.mem_singleton.1 hu]; rfl) rfl rfl HAL3.out HB2.out.size ?_; intro v3 u3 hn9 hg9 hb9; have HO3 := Lib.hid hn9; have HB3 := Lib.hid (HB2.out.trans hb9); clear hn9 hg9 hb9)
    have HP3 : Hid (u3.ownsRow w.heap.size 5 1 v3 ((encP (l.take I)).length + 1 + 1 + 1 + 1) (((encP (l.take I)) ++ [lt64 d0] ++ [lt64 d1] ++ [lt64 d2] ++ [lt64 d3]).map bv)) := by
      have h := HO3.out
      rw [List.map_append (l₁ := (encP (l.take I)) ++ [lt64 d0] ++ [lt64 d1] ++ [lt64 d2])]
      rw [← letB_at d3 l3 l3]
      exact h
    have HAL4 : Hid ((encP (l.take I)).length + 1 + 1 + 1 + 1 < 100000000000) := by have := HAL.out; unfold Hid; omega
    clear HO3
    rw [rounds_succ]
    go_wp2_with fail
    have hI := HI.out
    refine ⟨⟨q + 1, congrArg (Value.int .i64) (by omega), by omega, ?_, HB3.out⟩, by simp [intOf]; omega⟩
    have hst := encP_step l q (by omega)
    rw [hI, HG.out] at hst
    rw [hst, List.length_append]
    have h := HP3.out
    rw [List.append_assoc, List.append_assoc, List.append_assoc] at h
    exact h
end Go.Proofs.YtlnpfpjncnkekaaGreatDoor
