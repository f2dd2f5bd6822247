/- datakitref06.Decode walked. Conditions: strings of at most 10^8 bytes. -/
import Derived.Test.YtgddhkanfcpipaaGreatDoorZp7
import Derived.Test.YtgddhkanfcpipaaGreatDoorZp5
import Derived.Test.YtgddhkanfcpipaaGreatDoorZk15
import Derived.RegionTactic
import Derived.BigRegion
import Derived.Test.YtgddhkanfcpipaaGreatDoorZk14
namespace Go.Proofs.YtgddhkanfcpipaaGreatDoor
open Go.RowKit
set_option maxHeartbeats 4000000
set_option maxRecDepth 100000

/-- Block g, laid by the call, holds n bytes: byte j is f j. -/
structure BlkAt (w wr : World) (g n : Nat) (f : Nat → UInt8) : Prop where
  below : Below g w wr
  lt : g < wr.heap.size
  ex : ∃ cur : Array Value, wr.heap[g]? = some (.cells cur 5 (0, 0)) ∧ cur.size = n ∧ ∀ j, j < n → cur[j]? = some (bv (f j))
theorem BlkAt.cell {w wr : World} {g n : Nat} {f : Nat → UInt8} (h : BlkAt w wr g n f) (j : Nat) (hj : j < n) : wr.cell? ⟨g, j, none⟩ = some (bv (f j)) := by
  obtain ⟨cur, hx, -, hc⟩ := h.ex
  rw [cell_of_row wr g j _ _ (0, 0) hx, hc j hj]
theorem BlkAt.frozen {w wr : World} {g n : Nat} {f : Nat → UInt8} (h : BlkAt w wr g n f) (j : Nat) : wr.frozen? ⟨g, j, none⟩ = false := by
  obtain ⟨cur, hx, -⟩ := h.ex
  simp [World.frozen?, hx]
theorem BlkAt.set {w wr w2 : World} {g n : Nat} {f f2 : Nat → UInt8} (h : BlkAt w wr g n f) (k : Nat) (hf : ∀ j, j < n → j ≠ k → f2 j = f j) (h1 : Below g wr w2) (hs : g < w2.heap.size)
    (hx2 : ∀ cur, wr.heap[g]? = some (.cells cur 5 (0, 0)) → w2.heap[g]? = some (.cells (cur.setIfInBounds k (bv (f2 k))) 5 (0, 0))) : BlkAt w w2 g n f2 := by
  obtain ⟨hb, hg, cur, hx, hz, hc⟩ := h
  refine ⟨hb.trans h1, hs, _, hx2 cur hx, by rw [Array.size_setIfInBounds]; exact hz, fun j hj => ?_⟩
  rw [Array.getElem?_setIfInBounds]
  by_cases hjk : k = j
  · subst hjk
    rw [if_pos rfl, if_pos (by omega)]
  · rw [if_neg hjk, hc j hj, hf j hj (fun h => hjk h.symm)]
theorem BlkAt.stays {w wr w2 : World} {g n : Nat} {f : Nat → UInt8} (h : BlkAt w wr g n f) (hb : Below wr.heap.size wr w2) : BlkAt w w2 g n f := by
  obtain ⟨h1, h2, cur, hx, hz, hc⟩ := h
  exact ⟨h1.trans (hb.mono (Nat.le_of_lt h2)), Nat.lt_of_lt_of_le h2 hb.size, cur, (hb.block g h2).trans hx, hz, hc⟩
/-- Such a block read as bytes. -/
theorem BlkAt.rdb {w wr : World} {g n cap : Nat} {f : Nat → UInt8} (h : BlkAt w wr g n f) (l : List UInt8) (hl : l.length = n) (hf : ∀ j, j < n → l[j]? = some (f j)) (hn : n ≤ cap) (hc : cap ≤ maxLen) (hb : n ≤ 140737488351232) : RdB wr (.slice (some ⟨g, 0, none⟩) n cap) l := by
  subst hl
  refine ⟨_, cap, rfl, hn, ⟨hb, hc⟩, (fun h => by cases h), fun _ => ⟨g, 0, rfl, h.lt, fun i hi j hj => ?_⟩⟩
  obtain rfl : j = 0 := by omega
  have h1 := h.cell i hi
  rw [show 0 + i * 1 + 0 = i by omega, h1]
  show some (bv (f i)) = some (bv (l.getD i 0))
  rw [List.getD_eq_getElem?_getD, hf i hi]
  rfl
theorem u8_info : (Tryz.prog.info? 5).map (fun i => (i.zero, i.size, i.bytes)) = some (some (.int .u8 0), 1, 1) := by kernel_rfl
theorem make_u8 (n : Nat) (hn : n ≤ 1000000000) (w : World) : (Instr.makeSlice 36 (.int .i64 (n : Int)) (.int .i64 (n : Int))).run Tryz.prog w = .ok (.slice (some ⟨w.heap.size, 0, none⟩) n n) (w.alloc (.cells (madeCells #[.int .u8 0] n) 5)) := by
  obtain ⟨i, hi, hz, hs, hb⟩ := info_parts u8_info
  have hr := run_make (P := Tryz.prog) w 36 5 i _ Tryz.underlying36 hi hz .i64 .i64 n n (by omega) (Int.le_refl _) (by rw [hb]; omega) (by omega)
  rw [hr, Int.toNat_natCast, hs, Nat.mul_one]
  rfl
theorem BlkAt.start {w w1 : World} (n : Nat) (hW : w.alloc (.cells (madeCells #[.int .u8 0] n) 5) = w1) : BlkAt w w1 w.heap.size n (fun _ => 0) := by
  obtain ⟨h1, _, h3, h4⟩ := alloc_of hW
  refine ⟨h4, by omega, _, h1, ?_, fun j hj => ?_⟩
  · unfold madeCells
    simp
  · unfold madeCells
    rw [Array.getElem?_map, Array.getElem?_range, if_pos (by omega)]
    simp [bv, Nat.mod_one]
/-! Bits. -/
theorem and1 (r : Nat) (h : r < 2097152) : bits .and .i64 (r : Int) 1 = ((r % 2 : Nat) : Int) :=
  bits_mask .i64 63 (by decide) wraps_i64' 1 (by decide) (r : Int) (by omega) (by omega)
theorem bit_val (c : UInt8) (e : Nat) : bits .and .i64 (wrap64 ((c.toNat : Int) / 2 ^ e)) 1 = ((c.toNat / 2 ^ e % 2 : Nat) : Int) := by
  have h0 : ((c.toNat : Int) / 2 ^ e) = ((c.toNat / 2 ^ e : Nat) : Int) := by
    rw [Int.natCast_ediv, Int.natCast_pow]
    rfl
  have h1 : c.toNat / 2 ^ e ≤ c.toNat := Nat.div_le_self _ _
  have h2 := c.toNat_lt
  rw [h0]
  generalize c.toNat / 2 ^ e = q at *
  rw [IntWalk.wrap64_in _ (by omega), and1 _ (by omega)]
theorem bit_any (l : List UInt8) (v : Value) (i : Nat) (w : World) (hv : RdB w v l) (hi : i < 100000000000) :
    Calls Tryz.prog 137 #[v, .int .i64 (i : Int)] w fun e w' => e = .returned (.int .i64 (bitB l i : Nat)) ∧ Below w.heap.size w w' := by
  obtain ⟨a, cap, rfl, h1, ⟨h2, h2'⟩, h3, h4⟩ := hv
  have hi0 : (0 : Int) ≤ (i : Int) := by omega
  by_cases hlt : i / 8 < l.length
  case neg =>
    have HF : Hid (bitB l i = 0) := by
      unfold Hid bitB
      rw [List.getD_eq_getElem?_getD, List.getElem?_eq_none (by omega)]
      show (0 : UInt8).toNat / _ % 2 = 0
      have h0 : (0 : UInt8).toNat = 0 := rfl
      rw [h0, Nat.zero_div]
    have g : ((l.length : Int) ≤ (i : Int) / 8) = True := eq_true (by omega)
    clear h4 hlt h2 h2'
    go_enter Tryz.func137, Tryz.ntmps137
    go_wp2_with fail
    go_ret
    exact ⟨by rw [HF.out]; rfl, Below.refl _ _⟩
  obtain ⟨g, o, rfl, hg, hc⟩ := h4 (by omega)
  have hcell : w.cell? ⟨g, o + i / 8, none⟩ = some (.int .u8 ((l.getD (i / 8) 0).toNat : Int)) := by
    have := hc (i / 8) hlt 0 (by decide)
    rw [Nat.mul_one, Nat.add_zero] at this
    exact this
  have g1 : ((l.length : Int) ≤ (i : Int) / 8) = False := eq_false (by omega)
  have HF : Hid (bitB l i = (l.getD (i / 8) 0).toNat / 2 ^ (7 - i % 8) % 2) := rfl
  generalize l.getD (i / 8) 0 = c at *
  clear hc h4
  go_enter Tryz.func137, Tryz.ntmps137
  go_wp2_with fail
  go_ret
  exact ⟨by rw [HF.out, bit_val]; rfl, Below.refl _ _⟩
theorem bit_d (d e : Nat) (hd : d < 64) : bits .and .i64 ((d : Int) / 2 ^ e) 1 = ((d / 2 ^ e % 2 : Nat) : Int) := by
  have h0 : ((d : Int) / 2 ^ e) = ((d / 2 ^ e : Nat) : Int) := by
    rw [Int.natCast_ediv, Int.natCast_pow]
    rfl
  have h1 : d / 2 ^ e ≤ d := Nat.div_le_self _ _
  rw [h0, and1 _ (by omega)]
theorem or_bits0 : ∀ (m : Fin 8) (Q : Fin 256) (b : Fin 2), Q.val < 2 ^ m.val → bits .or .u8 ((Q.val * 2 ^ (8 - m.val) : Nat) : Int) ((b.val * 2 ^ (7 - m.val) : Nat) : Int) = ((Q.val * 2 ^ (8 - m.val) + b.val * 2 ^ (7 - m.val) : Nat) : Int) ∧ Q.val * 2 ^ (8 - m.val) < 256 ∧ b.val * 2 ^ (7 - m.val) < 256 ∧ Q.val * 2 ^ (8 - m.val) + b.val * 2 ^ (7 - m.val) < 256 := by decide +kernel
theorem or_bit (ds : List Nat) (q m d e : Nat) (hm : m < 8) (hd : d < 64) (hb : bitD ds (8 * q + m) = d / 2 ^ e % 2) :
    bits .or .u8 ((UInt8.ofNat (parD ds q m)).toNat : Int) (bits .and .i64 ((d : Int) / 2 ^ e) 1 % 256 * 2 ^ (7 - m) % 256) = ((UInt8.ofNat (parD ds q (m + 1))).toNat : Int) := by
  obtain ⟨Q, h1, h2⟩ := parD_lt ds q m (by omega)
  have hbl := bitD_lt ds (8 * q + m)
  have hQ : Q < 256 := Nat.lt_of_lt_of_le h2 (Nat.le_trans (Nat.pow_le_pow_right (by decide) (show m ≤ 8 by omega)) (by decide))
  obtain ⟨k1, k2, k3, k4⟩ := or_bits0 ⟨m, hm⟩ ⟨Q, hQ⟩ ⟨bitD ds (8 * q + m), hbl⟩ h2
  simp only at k1 k2 k3 k4
  rw [bit_d d e hd, ← hb, parD, h1, ofn _ k2, ofn _ k4]
  generalize bitD ds (8 * q + m) = b at *
  have h3 : ((b : Nat) : Int) % 256 * 2 ^ (7 - m) % 256 = ((b * 2 ^ (7 - m) : Nat) : Int) := by
    rw [show ((b : Nat) : Int) % 256 = (b : Int) by omega]
    have h4 : (b : Int) * 2 ^ (7 - m) = ((b * 2 ^ (7 - m) : Nat) : Int) := by
      rw [Int.natCast_mul, Int.natCast_pow]
      rfl
    rw [h4]
    omega
  rw [h3, k1]
theorem blk_new (g n cap : Nat) : BlkIn (fun b => g ≤ b) (.slice (some ⟨g, 0, none⟩) n cap) := by
  intro g' o p m cap' hv _
  cases hv
  exact Nat.le_refl _
theorem RBytes_any (s : ByteArray) (w : World) (hs : s.size ≤ 100000000) (hd : runB (L s) = s.size) :
    Calls Tryz.prog 159 #[.string s] w fun e w' => (∃ v, e = .returned v ∧ RdB w' v (dcG ((L s).map dg)) ∧ BlkIn (fun b => w.heap.size ≤ b) v) ∧ Below w.heap.size w w' := by
  have hm : s.size ≤ maxLen := by simp only [maxLen]; omega
  obtain ⟨ds, hds⟩ : ∃ ds, ds = (L s).map dg := ⟨_, rfl⟩
  rw [← hds]
  have HDS := Lib.hid hds
  obtain ⟨n, hn⟩ : ∃ n, n = s.size * 6 / 8 := ⟨_, rfl⟩
  have hmk := make_u8 n (by omega)
  have he : (n : Int) = (s.size : Int) * 6 / 8 := by omega
  have HST := Lib.hid (fun w w1 hW => BlkAt.start (w := w) (w1 := w1) n hW)
  rw [he] at hmk
  have HN := Lib.hid hn
  have HE := Lib.hid he
  clear hn he hds
  go_enter Tryz.func159, Tryz.ntmps159
  go_wp2_with fail
  generalize hW : World.alloc w _ = w1
  have CUR0 := Lib.hid (HST.out _ _ hW)
  clear hW hmk HST
  have CUR1 : Hid (BlkAt w w1 w.heap.size n (fun j => UInt8.ofNat (parD ds j (min 8 (0 - 8 * j))))) := by
    unfold Hid
    rw [show (fun j => UInt8.ofNat (parD ds j (min 8 (0 - 8 * j)))) = fun _ => (0 : UInt8) from funext fun j => by rw [Nat.zero_sub]; rfl]
    exact CUR0.out
  have HRUN := Lib.hid hd
  clear CUR0 hd
  go_loopw [4, 5] (fun iv _ wr => ∃ i : Nat, iv = .int .i64 (i : Int) ∧ i ≤ 8 * n ∧ Hid (BlkAt w wr w.heap.size n (fun j => UInt8.ofNat (parD ds j (min 8 (i - 8 * j)))))) (fun iv _ _ => 8 * n - (intOf iv).toNat)
  case atStart => exact ⟨0, rfl, Nat.zero_le _, CUR1.out⟩
  case round =>
    clear CUR1
    obtain ⟨i, rfl, hi, CUR⟩ := hrel
    have hi0 : (0 : Int) ≤ (i : Int) := by omega
    have hn1 := HN.out
    have hnb : n ≤ 75000000 := by omega
    by_cases hlt : i < 8 * n
    case neg =>
      have HF : Hid (RdB wr (.slice (some ⟨w.heap.size, 0, none⟩) n n) (dcG ds)) := by
        have hlen : (dcG ds).length = n := by rw [dec_len64, HDS.out, List.length_map, L_len, hn1]
        refine CUR.out.rdb _ hlen (fun j hj => ?_) (Nat.le_refl _) (by simp only [maxLen]; omega) (by omega)
        rw [par_dec ds (fun m hm => by rw [HDS.out] at hm; obtain ⟨c, -, rfl⟩ := List.mem_map.1 hm; exact dg_lt c) j (by omega), show min 8 (i - 8 * j) = 8 by omega]
      have HB := Lib.hid CUR.out.below
      have hlt2 : ¬ (i : Int) < 8 * (n : Int) := by omega
      clear hn1 CUR
      go_wp2_with fail
      go_ret
      exact ⟨⟨_, rfl, HF.out, blk_new _ _ _⟩, HB.out⟩
    have hlt2 : (i : Int) < 8 * (n : Int) := by omega
    have g60 : (0 : Int) ≤ (i : Int) / 6 := by omega
    have g80 : (0 : Int) ≤ (i : Int) / 8 := by omega
    have h6 : i / 6 < s.size := by omega
    have hq : i / 8 < n := by omega
    have hd0 := run_dgs s (i / 6) h6 (by rw [HRUN.out]; exact h6)
    have hde : b64 s[i / 6] = ((dg s[i / 6] : Nat) : Int) := by unfold dg; omega
    have hdl := dg_lt s[i / 6]
    have HF := Lib.hid (fun w' => find_any s[i / 6] w')
    rw [hde] at HF
    have c1 := CUR.out.cell (i / 8) hq
    have f1 := CUR.out.frozen (i / 8)
    rw [show min 8 (i - 8 * (i / 8)) = i % 8 by omega] at c1
    have g6 : (i : Int) / 6 < s.size := by omega
    have g8 : (i : Int) / 8 < n := by omega
    have HG := Lib.hid CUR.out.lt
    unfold bv at c1
    have HBD : Hid (bitD ds i = dg s[i / 6] / 2 ^ (5 - i % 6) % 2) := by
      unfold Hid bitD
      rw [HDS.out, List.getD_eq_getElem?_getD, List.getElem?_map, List.getElem?_eq_getElem (by rw [L_len]; exact h6)]
      rfl
    generalize dg s[i / 6] = d at *
    generalize hp : (UInt8.ofNat (parD ds (i / 8) (i % 8))).toNat = p at *
    clear hde hd0 hn1
    go_wp2_with (go_at_call 158; refine (HF.out _).mono ?_; rintro e w' ⟨rfl, rfl⟩)
    refine ⟨⟨i + 1, by go_num, by omega, CUR.out.set (i / 8) (fun j hj hne => ?_) ?_ ?_ ?_⟩, by simp [intOf]; omega⟩
    · rw [show min 8 (i + 1 - 8 * j) = min 8 (i - 8 * j) by omega]
    · exact ((Below.refl _ wr).setCell (p := ⟨w.heap.size, i / 8, none⟩) (Nat.le_refl _) _)
    · have := HG.out; simpa using this
    · intro cur hx
      rw [show min 8 (i + 1 - 8 * (i / 8)) = i % 8 + 1 by omega]
      have hob := or_bit ds (i / 8) (i % 8) d (5 - i % 6) (by omega) hdl (by rw [show 8 * (i / 8) + i % 8 = i by omega]; exact HBD.out)
      rw [hp] at hob
      rw [hob]
      exact heap_setCell_same wr w.heap.size (i / 8) _ _ _ hx
end Go.Proofs.YtgddhkanfcpipaaGreatDoor

namespace Go.Proofs.YtgddhkanfcpipaaGreatDoor
open Go.RowKit
set_option maxHeartbeats 4000000
set_option maxRecDepth 100000

theorem or_two0 : ∀ (n : Fin 64) (b : Fin 2), bits .or .i64 ((n.val * 2 : Nat) : Int) (b.val : Int) = ((2 * n.val + b.val : Nat) : Int) := by decide +kernel
theorem or_two (n b : Nat) (hn : n < 64) (hb : b < 2) : bits .or .i64 ((n : Int) * 2) (b : Int) = ((2 * n + b : Nat) : Int) := by
  have := or_two0 ⟨n, hn⟩ ⟨b, hb⟩
  simp only at this
  rw [show (n : Int) * 2 = ((n * 2 : Nat) : Int) by omega, this]
theorem letB_at0 : ∀ n : Fin 64, (letB[n.val]'(by have := n.isLt; exact this)) = lt64 n.val := by decide +kernel
theorem letB_at (n : Nat) (h : n < 64) (h2 : n < letB.size) : letB[n]'h2 = lt64 n := letB_at0 ⟨n, h⟩
theorem take_get (l : List Nat) (m d : Nat) (h : l[m]? = some d) : l.take (m + 1) = l.take m ++ [d] := by
  rw [List.take_add_one, h]
  rfl
theorem pad_mod (n M p : Nat) (h : M = (8 * n + 5) / 6) (hp : p < padN n) : ((M : Int) + (p : Int)) % 4 ≠ 0 := by
  unfold padN at hp
  rcases (by omega : n % 3 = 0 ∨ n % 3 = 1 ∨ n % 3 = 2) with h3 | h3 | h3
  · rw [h3] at hp
    omega
  · rw [h3] at hp
    omega
  · rw [h3] at hp
    omega
theorem pad_end (n M p : Nat) (h : M = (8 * n + 5) / 6) (hp : p = padN n) : ((M : Int) + (p : Int)) % 4 = 0 := by
  unfold padN at hp
  rcases (by omega : n % 3 = 0 ∨ n % 3 = 1 ∨ n % 3 = 2) with h3 | h3 | h3
  · rw [h3] at hp
    omega
  · rw [h3] at hp
    omega
  · rw [h3] at hp
    omega
def lenV : Value → Nat
  | .slice _ n _ => n
  | _ => 0
theorem own_lenV {w : World} {base n : Nat} {e : TypeId} {v : Value} {xs : List Value} (h : w.ownsRow base e 1 v n xs) : lenV v = n ∧ ∃ a cap, v = .slice a n cap := by
  rcases h.2 with ⟨rfl, h0⟩ | ⟨g, cap, cur, rfl, -⟩
  · subst h0
    exact ⟨rfl, _, _, rfl⟩
  · exact ⟨rfl, _, _, rfl⟩
theorem map_snoc (ns : List Nat) (d : Nat) : ((ns ++ [d]).map lt64).map bv = (ns.map lt64).map bv ++ [bv (lt64 d)] := by
  rw [List.map_append, List.map_append]
  rfl
theorem REncode_any (l : List UInt8) (v : Value) (w : World) (hv : RdB w v l) (hl : l.length ≤ 100000000) :
    Calls Tryz.prog 76 #[v, .bool true] w fun e w' => e = .returned (.string ⟨(encP l).toArray⟩) ∧ Below w.heap.size w w' := by
  have HV := Lib.hid hv
  have hel := encD_len l
  obtain ⟨M, hM⟩ : ∃ M, M = (encD l).length := ⟨_, rfl⟩
  rw [← hM] at hel
  have HM := Lib.hid hM
  have HEL := Lib.hid hel
  have hMb : M ≤ 200000000 := by omega
  clear hM hel
  obtain ⟨a, cap, rfl, h1, ⟨h2, h2'⟩, h3, -⟩ := hv
  clear h1 h2 h2' h3
  go_enter Tryz.func76, Tryz.ntmps76
  go_wp2_with fail
  go_loopw [5, 6, 7, 8] (fun ov iv _ _ wr => ∃ m : Nat, iv = .int .i64 ((6 * m : Nat) : Int) ∧ m ≤ M ∧ wr.ownsRow w.heap.size 5 1 ov m ((((encD l).take m).map lt64).map bv) ∧ Hid (Below w.heap.size w wr)) (fun _ iv _ _ _ => 6 * M - (intOf iv).toNat)
  case atStart => exact ⟨0, rfl, Nat.zero_le _, World.ownsRow_nil _ _ _ _, Below.refl _ _⟩
  case round =>
    obtain ⟨m, rfl, hm, hown, HBW⟩ := hrel
    have HOWN := Lib.hid hown
    clear hown
    have hmi : 6 * m ≤ 1200000000 := by omega
    generalize hI : 6 * m = I at *
    have HI := Lib.hid hI
    have hm0 : (0 : Int) ≤ (I : Int) := by omega
    clear hI
    by_cases hlt : m < M
    case neg =>
      have hge : ((I : Int) < 8 * (l.length : Int)) = False := eq_false (by have := HEL.out; have := HI.out; omega)
      have HW : Hid (wr.ownsRow w.heap.size 5 1 u5 M ((((encD l).map lt64) ++ List.replicate 0 61).map bv)) := by
        have h := HOWN.out
        obtain rfl : m = M := by omega
        rw [List.take_of_length_le (by rw [← HM.out]; exact Nat.le_refl _)] at h
        rw [List.replicate_zero, List.append_nil]
        exact h
      clear HOWN hlt hm
      go_wp2_with fail
      go_loopw [5] (fun ov wq => ∃ p : Nat, p ≤ padN l.length ∧ wq.ownsRow w.heap.size 5 1 ov (M + p) ((((encD l).map lt64) ++ List.replicate p 61).map bv) ∧ Hid (Below w.heap.size w wq)) (fun ov _ => padN l.length + M - lenV ov)
      case atStart => exact ⟨0, Nat.zero_le _, HW.out, HBW.out⟩
      case round =>
        obtain ⟨p, hp, hown, HBQ⟩ := hrel
        have HOWN := Lib.hid hown
        obtain ⟨hlv, a2, cap2, rfl⟩ := own_lenV hown
        have HAL : Hid (M + p < 100000000000) := by unfold Hid padN at *; omega
        clear hown hlv
        by_cases hlp : p < padN l.length
        case pos =>
          have hg : (((M : Int) + (p : Int)) % 4 != 0) = true := by
            rw [bne_iff_ne]
            exact pad_mod l.length M p HEL.out hlp
          clear hp
          go_wp2_with (at_builtin; refine wp_push elem_u8 rfl _ _ rfl HOWN.out [_] rfl (fun u hu => by rw [List.mem_singleton.1 hu]; rfl) rfl rfl HAL.out HBQ.out.size ?_; intro v9 w9 hn9 hg9 hb9; have HO9 := Lib.hid hn9; have HB9 := Lib.hid (HBQ.out.trans hb9); clear hn9 hg9 hb9)
          have h9 := HO9.out
          have hlv := (own_lenV h9).1
          refine ⟨⟨p + 1, by omega, ?_, HB9.out⟩, by rw [hlv]; show _ < padN l.length + M - (M + p); omega⟩
          rw [List.replicate_succ', ← List.append_assoc, List.map_append]
          exact h9
        case neg =>
          have hpe : p = padN l.length := by omega
          have hg : (((M : Int) + (p : Int)) % 4 != 0) = false := by
            rw [bne_eq_false_iff_eq]
            exact pad_end l.length M p HEL.out hpe
          have hcv := conv_own bytesT HOWN.out
          have HF : Hid ((encD l).map lt64 ++ List.replicate p 61 = encP l) := by unfold Hid; rw [hpe]; rfl
          clear hp hpe hlp
          go_wp2_with fail
          go_ret
          exact ⟨by first | rfl | (rw [HF.out]; rfl), HBQ.out⟩
    have hlt2 : (I : Int) < 8 * (l.length : Int) := by have := HEL.out; have := HI.out; omega
    go_wp2_with fail
    rename World => wo
    go_loopw [7, 8] (fun nv kv wq => ∃ q : Nat, q ≤ 6 ∧ nv = .int .i64 (digB l m q : Nat) ∧ kv = .int .i64 ((I + q : Nat) : Int) ∧ Hid (Below wo.heap.size wo wq)) (fun _ kv _ => I + 6 - (intOf kv).toNat)
    case atStart => exact ⟨0, Nat.zero_le _, rfl, rfl, Below.refl _ _⟩
    case round =>
      obtain ⟨q, hq, rfl, rfl, HBQ⟩ := hrel
      have hq0 : (0 : Int) ≤ ((I + q : Nat) : Int) := by omega
      have hdl := digB_lt l m q
      by_cases hq6 : q < 6
      case pos =>
        have hg : ((I + q : Nat) : Int) < (I : Int) + 6 := by omega
        have HBT := Lib.hid (fun w' h => bit_any l (.slice a l.length cap) (I + q) w' h (by omega))
        have hbl := bitB_lt l (I + q)
        have HN : Hid (digB l m (q + 1) = 2 * digB l m q + bitB l (I + q)) := by unfold Hid; rw [digB, HI.out]
        have hd6 : digB l m q < 64 := Nat.lt_of_lt_of_le hdl (Nat.le_trans (Nat.pow_le_pow_right (by decide) hq) (by decide))
        have hor := or_two (digB l m q) (bitB l (I + q)) hd6 hbl
        generalize digB l m q = dq at *
        generalize bitB l (I + q) = bq at *
        have HVQ := Lib.hid (HV.out.below (HBW.out.trans (HBQ.out.mono HBW.out.size)))
        clear hdl
        go_wp2_with (go_at_call 137; refine (HBT.out _ HVQ.out).mono ?_; rintro e w9 ⟨rfl, hb9⟩; have HB9 := Lib.hid (HBQ.out.trans (hb9.mono HBQ.out.size)); clear hb9)
        refine ⟨⟨q + 1, by omega, ?_, congrArg (Value.int .i64) (by omega), HB9.out⟩, by simp [intOf]; omega⟩
        rw [HN.out]
        exact congrArg (Value.int .i64) (by omega)
      case neg =>
        obtain rfl : q = 6 := by omega
        have hg : ¬ ((I + 6 : Nat) : Int) < (I : Int) + 6 := by omega
        have HT := Lib.hid (take_get (encD l) m _ (dig_enc l m (by rw [← HM.out]; exact hlt)))
        have hd6 : digB l m 6 < 64 := hdl
        generalize digB l m 6 = dq at *
        have hdi : (dq : Int) < 64 := by omega
        have HOW2 := Lib.hid (own_below HOWN.out HBQ.out)
        have HBW2 := Lib.hid (HBW.out.trans (HBQ.out.mono HBW.out.size))
        have HAL : Hid (m < 100000000000) := by unfold Hid; omega
        clear HOWN hq hdl hq6
        go_wp2_with (at_builtin; refine wp_push elem_u8 rfl _ _ rfl HOW2.out [_] rfl (fun u hu => by rw [List.mem_singleton.1 hu]; rfl) rfl rfl HAL.out HBW2.out.size ?_; intro v9 w9 hn9 hg9 hb9; have HO9 := Lib.hid hn9; have HB9 := Lib.hid (HBW2.out.trans hb9); clear hn9 hg9 hb9)
        have h9 := HO9.out
        have hI := HI.out
        refine ⟨⟨m + 1, congrArg (Value.int .i64) (by omega), by omega, ?_, HB9.out⟩, by simp [intOf]; omega⟩
        rw [HT.out, map_snoc, ← letB_at dq hd6 hd6]
        exact h9
end Go.Proofs.YtgddhkanfcpipaaGreatDoor

namespace Go.Proofs.YtgddhkanfcpipaaGreatDoor
open Go.RowKit
set_option maxHeartbeats 4000000
set_option maxRecDepth 100000

/-- What the reference's Decode hands back. -/
def DecR6 (base : Nat) (l : List UInt8) (e : Ending) (w' : World) : Prop :=
  ∃ (v : Value) (n : Nat), e = .returned (.tuple #[v, .int .i64 (n : Int)]) ∧ (okB l → n = 0 ∧ RdB w' v (bytB l) ∧ BlkIn (fun b => base ≤ b) v) ∧ (¬ okB l → n ≠ 0 ∧ v = .slice none 0 0)
theorem decR6_no {base : Nat} {l : List UInt8} {w' : World} (n : Nat) (h : ¬ okB l) (hn : n ≠ 0) : DecR6 base l (.returned (.tuple #[.slice none 0 0, .int .i64 (n : Int)])) w' :=
  ⟨_, n, rfl, fun h' => absurd h' h, fun _ => ⟨hn, rfl⟩⟩
theorem run_take : ∀ l : List UInt8, runB (l.take (runB l)) = runB l
  | [] => rfl
  | c :: t => by
    by_cases h : 0 ≤ b64 c
    · have e : runB (c :: t) = runB t + 1 := if_pos h
      rw [e, List.take_succ_cons, runB, if_pos h, run_take t]
    · have e : runB (c :: t) = 0 := if_neg h
      rw [e]
      rfl
theorem RDecode_any (s : ByteArray) (w : World) (hs : s.size ≤ 100000000) :
    Calls Tryz.prog 97 #[.string s, .bool true] w fun e w' => DecR6 w.heap.size (L s) e w' ∧ Below w.heap.size w w' := by
  have hm : s.size ≤ maxLen := by simp only [maxLen]; omega
  have hKs := runB_le (L s)
  rw [L_len] at hKs
  obtain ⟨K, hK⟩ : ∃ K, K = runB (L s) := ⟨_, rfl⟩
  rw [← hK] at hKs
  have HK := Lib.hid hK
  have HK0 : Hid (K = 0 + runB ((L s).drop 0)) := by unfold Hid; rw [List.drop_zero, Nat.zero_add]; exact hK
  clear hK
  go_enter Tryz.func97, Tryz.ntmps97
  go_wp2_with fail
  go_loopw [6] (fun v wr => ∃ k : Nat, v = .int .i64 (k : Int) ∧ k ≤ s.size ∧ Hid (K = k + runB ((L s).drop k)) ∧ w = wr) (fun v _ => s.size - (intOf v).toNat)
  case atStart => exact ⟨0, rfl, Nat.zero_le _, HK0.out, rfl⟩
  case round =>
    clear HK0
    obtain ⟨k, rfl, hks, HR, rfl⟩ := hrel
    have hk0 : (0 : Int) ≤ (k : Int) := by omega
    go_upto_region 2 with fail
    go_cut [19] (fun v wx => v = .bool (decide (0 < runB ((L s).drop k))) ∧ w = wx)
    case first =>
      clear HR
      by_cases hlt : k < s.size
      case neg =>
        have HF : Hid (decide (0 < runB ((L s).drop k)) = false) := by unfold Hid; rw [L_drop_nil s k (by omega)]; rfl
        go_wp2_with fail
        go_meet
        exact ⟨by rw [HF.out], rfl⟩
      have HP := Lib.hid (fun w' => find_any s[k] w')
      have hst := runB_at s k hlt
      by_cases hd : 0 ≤ b64 s[k]
      · have HF : Hid (decide (0 < runB ((L s).drop k)) = true) := by unfold Hid; rw [hst, if_pos hd]; exact decide_eq_true (by omega)
        clear hst
        generalize b64 s[k] = bd at *
        go_wp2_with (go_at_call 158; refine (HP.out _).mono ?_; rintro e w' ⟨rfl, rfl⟩)
        go_meet
        exact ⟨by rw [HF.out], rfl⟩
      · have HF : Hid (decide (0 < runB ((L s).drop k)) = false) := by unfold Hid; rw [hst, if_neg hd]; rfl
        clear hst
        generalize b64 s[k] = bd at *
        go_wp2_with (go_at_call 158; refine (HP.out _).mono ?_; rintro e w' ⟨rfl, rfl⟩)
        go_meet
        exact ⟨by rw [HF.out, decide_eq_false (by omega)], rfl⟩
    case rest =>
    obtain ⟨rfl, rfl⟩ := hcut
    by_cases hp : 0 < runB ((L s).drop k)
    · have hlt : k < s.size := by
        have := runB_le ((L s).drop k)
        rw [List.length_drop, L_len] at this
        omega
      have HN : Hid (K = (k + 1) + runB ((L s).drop (k + 1))) := by
        unfold Hid
        have h2 := runB_at s k hlt
        have h3 := HR.out
        by_cases hd : 0 ≤ b64 s[k]
        · rw [if_pos hd] at h2
          omega
        · rw [if_neg hd] at h2
          omega
      clear HR
      go_wp2_with fail
      exact ⟨⟨k + 1, by go_num, by omega, HN.out, trivial⟩, by simp [intOf]; omega⟩
    · have hkK : k = K := by have := HR.out; omega
      subst hkK
      clear HR
      have hLt : L (s.extract 0 k) = (L s).take k := L_upto s k
      have hsz : (s.extract 0 k).size = k := by
        have := L_len (s.extract 0 k)
        rw [hLt, List.length_take, L_len] at this
        omega
      have HBY := Lib.hid (fun w' => RBytes_any (s.extract 0 k) w' (by omega) (by rw [hLt, hsz, HK.out]; exact run_take _))
      have hbb : dcG ((L (s.extract 0 k)).map dg) = bytB (L s) := by unfold bytB; rw [hLt, ← HK.out]
      rw [hbb] at HBY
      have hlen : (bytB (L s)).length ≤ 100000000 := by
        have : (bytB (L s)).length = ((L s).take (runB (L s))).length * 6 / 8 := by unfold bytB; rw [dec_len64, List.length_map]
        rw [List.length_take, L_len] at this
        omega
      have HEN := Lib.hid (fun v w' h => REncode_any (bytB (L s)) v w' h hlen)
      have HIF := Lib.hid (enc_iff (L s))
      rw [decide_eq_false hp]
      clear hp hLt hsz hbb hlen
      obtain ⟨bs, hbs⟩ : ∃ bs, bytB (L s) = bs := ⟨_, rfl⟩
      have HBE := Lib.hid hbs
      rw [hbs] at HBY HEN HIF
      clear hbs
      obtain ⟨tb, htb⟩ : ∃ tb : ByteArray, (⟨(encP bs).toArray⟩ : ByteArray) = tb := ⟨_, rfl⟩
      have HTL : Hid (L tb = encP bs) := by unfold Hid; rw [← htb]; rfl
      rw [htb] at HEN
      clear htb
      go_wp2_with fail
      refine (HBY.out _).mono ?_
      rintro e w1 ⟨⟨v, rfl, hv, hbk⟩, hb1⟩
      have HBK := Lib.hid hbk
      have HB1 := Lib.hid hb1
      have HV1 := Lib.hid hv
      clear hb1 hv hbk HBY
      go_wp2_with fail
      refine (HEN.out _ _ HV1.out).mono ?_
      rintro e w2 ⟨rfl, hb2⟩
      have HB2 := Lib.hid (HB1.out.trans (hb2.mono HB1.out.size))
      have HV2 := Lib.hid (HV1.out.below hb2)
      clear hb2 HEN HV1 HB1
      by_cases heq : L tb = L s
      · have hq : (tb.toList == s.toList) = true := by rw [toList_L, toList_L]; exact beq_true heq
        have HOK : Hid (okB (L s)) := by unfold Hid; exact HIF.out.1 (by rw [← HTL.out]; exact heq)
        clear heq HIF
        go_wp2_with fail
        go_ret2
        exact ⟨⟨v, 0, rfl, fun _ => ⟨rfl, by rw [HBE.out]; exact HV2.out, HBK.out⟩, fun h => absurd HOK.out h⟩, HB2.out⟩
      · have hq : (tb.toList == s.toList) = false := by rw [toList_L, toList_L]; exact beq_false heq
        have HOK : Hid (¬ okB (L s)) := by unfold Hid; exact fun h => heq (by rw [HTL.out]; exact HIF.out.2 h)
        clear heq HIF
        go_wp2_with fail
        all_goals
          go_ret2
          first
            | exact ⟨decR6_no 4 HOK.out (by decide), HB2.out⟩
            | exact ⟨decR6_no 3 HOK.out (by decide), HB2.out⟩
end Go.Proofs.YtgddhkanfcpipaaGreatDoor
