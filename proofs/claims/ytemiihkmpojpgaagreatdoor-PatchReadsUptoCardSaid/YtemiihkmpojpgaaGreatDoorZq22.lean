/- datakitref08.Text walked: one, Text. Conditions: valid paths. -/
import Derived.Test.YtemiihkmpojpgaaGreatDoorZq10
import Derived.Test.YtemiihkmpojpgaaGreatDoorShelf
import Derived.LoopN
import Derived.Handy
import Derived.Lib.SmallJoins
import Derived.Test.YtemiihkmpojpgaaGreatDoorZq4
namespace Go.Proofs.YtemiihkmpojpgaaGreatDoor
open Go.RowKit
set_option maxHeartbeats 1000000
set_option maxRecDepth 100000

/-- What the calls read of the package-level variables. -/
def EnvT (w : World) : Prop := Lib.TabIs Tryz.prog w "internal/strconv.uint64pow10" .u64 Lib.pow10Tab ∧ 3 + 1 ≤ w.heap.size ∧ 5 + 1 ≤ w.heap.size ∧ w.cell? ⟨5, 15, none⟩ = some (.int .u8 4)
theorem EnvT.below {w w' : World} (h : EnvT w) (hb : Below w.heap.size w w') : EnvT w' := by
  obtain ⟨h1, h0, h2, h3⟩ := h
  refine ⟨Go.Joins.tab_stays (show Tryz.prog.globalNamed "internal/strconv.uint64pow10" = some 3 by kernel_rfl) h1 hb (Nat.le_refl _), Nat.le_trans h0 hb.size, Nat.le_trans h2 hb.size, ?_⟩
  rw [hb.cell (p := ⟨5, 15, none⟩) (by show 5 < _; omega)]
  exact h3
/-- What the calls read of the error variables too. -/
def Env (w : World) : Prop := EnvT w ∧ 1 + 1 ≤ w.heap.size ∧ ∃ ev, w.cell? ⟨1, 0, none⟩ = some ev ∧ (ev = .nilIface ∨ ∃ te pe, ev = .iface te pe)
theorem Env.t {w : World} (h : Env w) : EnvT w := h.1
theorem Env.below {w w' : World} (h : Env w) (hb : Below w.heap.size w w') : Env w' := by
  obtain ⟨h1, h2, ev, h4, h5⟩ := h
  refine ⟨h1.below hb, Nat.le_trans h2 hb.size, ev, ?_, h5⟩
  rw [hb.cell (p := ⟨1, 0, none⟩) (by show 1 < _; omega)]
  exact h4

theorem tz_facts : bits .and .u64 16 (IntKind.u64.wrap (-16)) = 16 ∧ bits .and .i64 16 15 = 0 := by decide +kernel
theorem TrailingZeros64_16 (w : World) (h : w.cell? ⟨5, 15, none⟩ = some (.int .u8 4)) :
    Calls Tryz.prog 116 #[.int .u64 16] w fun e w' => e = .returned (.int .i64 4) ∧ w = w' := by
  obtain ⟨t1, t2⟩ := tz_facts
  go_enter Tryz.func116, Tryz.ntmps116
  go_wp2_with fail
  go_ret
  exact ⟨rfl, rfl⟩
theorem TrailingZeros_16 (w : World) (h : w.cell? ⟨5, 15, none⟩ = some (.int .u8 4)) :
    Calls Tryz.prog 114 #[.int .u64 16] w fun e w' => e = .returned (.int .i64 4) ∧ w = w' := by
  go_enter Tryz.func114, Tryz.ntmps114
  go_wp2_with (go_at_call 116; refine (TrailingZeros64_16 _ h).mono ?_; rintro e w1 ⟨rfl, rfl⟩)
  go_ret
  exact ⟨rfl, rfl⟩
theorem isPow_16 (w : World) :
    Calls Tryz.prog 113 #[.int .i64 16] w fun e w' => e = .returned (.bool true) ∧ w = w' := by
  obtain ⟨t1, t2⟩ := tz_facts
  go_enter Tryz.func113, Tryz.ntmps113
  go_wp2_with fail
  go_ret
  exact ⟨rfl, rfl⟩
theorem cell_of_alloc (w : World) (cs : Array Value) (t : TypeId) (i : Nat) : (w.alloc (.cells cs t)).cell? ⟨w.heap.size, i, none⟩ = cs[i]? := cell_of_row (w.alloc (.cells cs t)) w.heap.size i cs t (0, 0) (heap_alloc_new w _)
theorem z65 : (Tryz.zeroCells145).size = 65 := by kernel_rfl
theorem conv_64 (w : World) (a : Int) : (convert 26 9 (.slice (some ⟨w.heap.size, 64, none⟩) 1 1)).run Tryz.prog (w.alloc (.cells (Tryz.zeroCells145.setIfInBounds 64 (.int .u8 a)) 145)) =
    .ok (.string ⟨#[UInt8.ofNat a.toNat]⟩) (w.alloc (.cells (Tryz.zeroCells145.setIfInBounds 64 (.int .u8 a)) 145)) := by
  refine run_convert_bytes_arg (P := Tryz.prog) _ 26 5 Tryz.underlying26 Tryz.underlying5 w.heap.size 64 1 1 [a] rfl (fun i hi => ?_) 9 Tryz.underlying9
  rw [cell_of_alloc]
  obtain rfl : i = 0 := by simp at hi; omega
  have := z65
  simp [this]
theorem conv_63 (w : World) (a b : Int) : (convert 26 9 (.slice (some ⟨w.heap.size, 63, none⟩) 2 2)).run Tryz.prog (w.alloc (.cells ((Tryz.zeroCells145.setIfInBounds 64 (.int .u8 b)).setIfInBounds 63 (.int .u8 a)) 145)) =
    .ok (.string ⟨#[UInt8.ofNat a.toNat, UInt8.ofNat b.toNat]⟩) (w.alloc (.cells ((Tryz.zeroCells145.setIfInBounds 64 (.int .u8 b)).setIfInBounds 63 (.int .u8 a)) 145)) := by
  refine run_convert_bytes_arg (P := Tryz.prog) _ 26 5 Tryz.underlying26 Tryz.underlying5 w.heap.size 63 2 2 [a, b] rfl (fun i hi => ?_) 9 Tryz.underlying9
  rw [cell_of_alloc]
  have := z65
  rcases i with _ | _ | i
  · simp [this]
  · simp [this]
  · omega
theorem hx_byte : ∀ n : Fin 16, (⟨#[48, 49, 50, 51, 52, 53, 54, 55, 56, 57, 97, 98, 99, 100, 101, 102, 103, 104, 105, 106, 107, 108, 109, 110, 111, 112, 113, 114, 115, 116, 117, 118, 119, 120, 121, 122]⟩ : ByteArray)[n.val]'(Nat.lt_of_lt_of_le n.isLt (by decide)) = hx n.val := by decide +kernel
theorem formatBits_any (n : Nat) (hn : n < 128) (w : World) (h : w.cell? ⟨5, 15, none⟩ = some (.int .u8 4)) (h5 : 5 + 1 ≤ w.heap.size) :
    Calls Tryz.prog 109 #[.slice none 0 0, .int .u64 n, .int .i64 16, .bool false, .bool false] w fun e w' => e = .returned (.tuple #[.slice none 0 0, .string ⟨(hexT n).toArray⟩]) ∧ Below w.heap.size w w' := by
  obtain ⟨t1, t2⟩ := tz_facts
  have hcA : ∀ o, (w.alloc o).cell? ⟨5, 15, none⟩ = some (.int .u8 4) := fun o => by
    rw [((Below.refl w.heap.size w).alloc (Nat.le_refl _) o).cell (p := ⟨5, 15, none⟩) (by show 5 < _; omega)]; exact h
  have z64 : (w.alloc (.cells Tryz.zeroCells145 145)).cell? ⟨w.heap.size, 64, none⟩ = some (.int .u8 0) := by rw [cell_of_alloc]; kernel_rfl
  have z63 : (w.alloc (.cells Tryz.zeroCells145 145)).cell? ⟨w.heap.size, 63, none⟩ = some (.int .u8 0) := by rw [cell_of_alloc]; kernel_rfl
  have cv1 := conv_64 w
  have cv2 := conv_63 w
  have hBA : ∀ o, Below w.heap.size w (w.alloc o) := fun o => (Below.refl w.heap.size w).alloc (Nat.le_refl _) o
  have HBA := Lib.hid hBA; clear hBA
  by_cases h16 : n < 16
  · have a1 : ¬ (16 : Int) ≤ n := by omega
    have HF : Hid (hexT n = [hx n]) := by unfold Hid hexT; rw [if_pos h16]
    have HX := Lib.hid (hx_byte ⟨n, h16⟩)
    go_enter Tryz.func109, Tryz.ntmps109
    go_wp2_with (first | (go_at_call 113; refine (isPow_16 _).mono ?_; rintro e w1 ⟨rfl, rfl⟩) | (go_at_call 114; refine (TrailingZeros_16 _ (hcA _)).mono ?_; rintro e w1 ⟨rfl, rfl⟩))
    refine wp_loop_rounds 1 ?_
    rw [rounds_succ]
    go_wp2_with fail
    go_ret2
    exact ⟨by rw [HF.out, ← HX.out]; simp, HBA.out _⟩
  · have a1 : (16 : Int) ≤ n := by omega
    have HF : Hid (hexT n = [hx (n / 16), hx (n % 16)]) := by unfold Hid hexT; rw [if_neg h16]
    have HX := Lib.hid (hx_byte ⟨n % 16, by omega⟩)
    have HY := Lib.hid (hx_byte ⟨n / 16, by omega⟩)
    have m1 : bits .and .u64 (n : Int) 15 = ((n % 16 : Nat) : Int) := (show ∀ k : Fin 128, bits .and .u64 (k.val : Int) 15 = ((k.val % 16 : Nat) : Int) by decide +kernel) ⟨n, hn⟩
    go_enter Tryz.func109, Tryz.ntmps109
    go_wp2_with (first | (go_at_call 113; refine (isPow_16 _).mono ?_; rintro e w1 ⟨rfl, rfl⟩) | (go_at_call 114; refine (TrailingZeros_16 _ (hcA _)).mono ?_; rintro e w1 ⟨rfl, rfl⟩))
    refine wp_loop_rounds 2 ?_
    rw [rounds_succ]
    go_wp2_with fail
    rw [rounds_succ]
    go_wp2_with fail
    go_ret2
    exact ⟨by rw [HF.out, ← HX.out, ← HY.out]; simp, HBA.out _⟩
theorem FormatInt16_any (n : Nat) (hn : n < 128) (w : World) (he : EnvT w) :
    Calls Tryz.prog 84 #[.int .i64 n, .int .i64 16] w fun e w' => e = .returned (.string ⟨(hexT n).toArray⟩) ∧ Below w.heap.size w w' := by
  obtain ⟨-, -, h5, h⟩ := he
  have HFB := Lib.hid (formatBits_any n hn w h h5)
  have a1 : ¬ (n : Int) < 0 := by omega
  have HC : Calls Tryz.prog 99 #[.int .i64 n, .int .i64 16] w fun e w' => e = .returned (.string ⟨(hexT n).toArray⟩) ∧ Below w.heap.size w w' := by
    go_enter Tryz.func99, Tryz.ntmps99
    go_wp2_with fail
    refine HFB.out.mono ?_
    rintro e w1 ⟨rfl, hb1⟩
    go_wp2_with fail
    go_ret
    exact ⟨rfl, hb1⟩
  have HC' := Lib.hid HC
  clear HC
  go_enter Tryz.func84, Tryz.ntmps84
  go_wp2_with fail
  refine HC'.out.mono ?_
  rintro e w1 ⟨rfl, hb1⟩
  go_wp2_with fail
  go_ret
  exact ⟨rfl, hb1⟩
end Go.Proofs.YtemiihkmpojpgaaGreatDoor

namespace Go.Proofs.YtemiihkmpojpgaaGreatDoor
open Go.RowKit
set_option maxHeartbeats 1000000
set_option maxRecDepth 100000

/-- 'v = append(v, b, c, ..)': a row of bytes, the bytes just laid in a new block. -/
theorem wp_pushM {P : Program} {w1 : World} {ops : Array Oper} {rest : List Oper} {o : Oper} {a : Act} {Q : Exit → Act → World → Prop} {t u e : TypeId} {base n : Nat} {v : Value} {bs : List UInt8}
    (he : BytesT P t u e) (hgd : o.guard = none) (s x : Operand) (ho : o.op = .call { callee := .builtin .append, args := #[s, x], argTypes := #[t, t] })
    (hown : w1.ownsRow base e 1 v n (bs.map bv)) (cs : List UInt8) (us : List Value) (hus : us = cs.map bv) (m : Nat) (hm : cs.length = m) (hs : a.eval s = v) (g : Nat) (hg : w1.heap.size = g) (hx : a.eval x = .slice (some ⟨g, 0, none⟩) m m)
    (hn : n + m < 100000000000) (hbase : base ≤ w1.heap.size)
    (h : ∀ v' w', w'.ownsRow base e 1 v' (n + m) ((bs ++ cs).map bv) → w1.grownBy w' v.ownBlock → Below base w1 w' → wpList P ops Q rest (a.put o.dst v') w') :
    wpList P ops Q (o :: rest) a (w1.alloc (.cells us.toArray e)) := by
  subst hg hus hm
  obtain ⟨ht, hsz, i, z, hi, hz, hsi, hby, hzs⟩ := he.elem
  refine wpList_append_own _ hgd s x t ho base e i z 1 i.bytes ht hi hz hsi rfl hzs hsz v n _ hs (hown.alloc _) ⟨w1.heap.size, 0, none⟩ cs.length cs.length (cs.map bv) hx (by rw [List.length_map]; omega) (new_cells w1 _ e) (bv_one cs) (by simp only [maxLen]; omega) ?_ (by simp; omega) ?_
  · exact Nat.le_trans (Nat.mul_le_mul (show n + cs.length ≤ 100000000000 by omega) hby) (by decide)
  · intro v' w' hown' hg _
    have hg' : w1.grownBy w' v.ownBlock := ⟨hg.os, hg.tape, hg.output, Nat.le_trans (by simp) hg.size, fun k hk hne => (hg.block k (by simp; omega) hne).trans (heap_alloc_old w1 _ hk)⟩
    rw [← List.map_append] at hown'
    exact h v' w' hown' hg' ((Below.refl base w1).grown hg' hbase (fun k hk => (hown.lt k hk).1))

theorem bytesT : BytesT Tryz.prog 26 9 5 := bytesT_of Tryz.underlying26 Tryz.underlying9 Tryz.underlying5 (by kernel_rfl)
theorem take_snoc (s : ByteArray) (k : Nat) (h : k < s.size) : (L s).take (k + 1) = (L s).take k ++ [s[k]] := L_take_succ s k h
theorem beqB (b : UInt8) (n : Int) (h : (b.toNat : Int) = n) : ((b.toNat : Int) == n) = true := by rw [beq_iff_eq]; exact h
theorem beqNB (b : UInt8) (n : Int) (h : ¬ (b.toNat : Int) = n) : ((b.toNat : Int) == n) = false := by rw [beq_eq_false_iff_ne]; exact h
theorem u8_of {b : UInt8} {n : Nat} (h : b.toNat = n) : b = UInt8.ofNat n := by rw [← h]; simp
def quoteT (l : List UInt8) : List UInt8 := 34 :: (l.flatMap sgn ++ [34])
theorem hexT_len (n : Nat) : (hexT n).length ≤ 2 := by unfold hexT; split <;> simp
theorem quote_any (s : ByteArray) (w : World) (hs : s.size ≤ 1000000000) (he : EnvT w) :
    Calls Tryz.prog 66 #[.string s] w fun e w' => e = .returned (.string ⟨(quoteT (L s)).toArray⟩) ∧ Below w.heap.size w w' := by
  have hown0 : (w.alloc (.cells #[.int .u8 34] 5)).ownsRow w.heap.size 5 1 (.slice (some ⟨w.heap.size, 0, none⟩) 1 1) 1 ([34].map bv) := World.ownsRow_lit w #[.int .u8 34] 1 (Nat.le_refl _) (by simp only [maxLen]; decide) rfl
  have hb0 : Below w.heap.size w (w.alloc (.cells #[.int .u8 34] 5)) := (Below.refl _ w).alloc (Nat.le_refl _) _
  have HO0 := Lib.hid hown0; clear hown0
  have HE := Lib.hid he; clear he
  go_enter Tryz.func66, Tryz.ntmps66
  go_wp2_with fail
  go_loopw [3, 4, 5, 9] (fun o _ _ cnt wr => ∃ (k : Nat) (acc : List UInt8), k ≤ s.size ∧ cnt = .int .i64 k ∧ acc.length ≤ 6 * k + 1 ∧ wr.ownsRow w.heap.size 5 1 o acc.length (acc.map bv) ∧ Hid (acc = 34 :: ((L s).take k).flatMap sgn) ∧ Below w.heap.size w wr) (fun _ _ _ cnt _ => s.size - (intOf cnt).toNat)
  case atStart => exact ⟨0, [34], Nat.zero_le _, rfl, by decide, HO0.out, rfl, hb0⟩
  case round =>
    clear HO0 hb0
    obtain ⟨k, acc, hk, rfl, hal, hown, HA, hbw⟩ := hrel
    have hz := hbw.size
    by_cases hlt : k < s.size
    case neg =>
      obtain rfl : k = s.size := by omega
      have HX : Hid (quoteT (L s) = acc ++ [34]) := by
        unfold Hid
        rw [HA.out, List.take_of_length_le (by rw [L_len]; exact Nat.le_refl _)]
        rfl
      clear HA
      go_wp2_with (at_builtin; refine wp_pushM bytesT rfl _ _ rfl hown [34] [.int .u8 34] rfl 1 rfl rfl _ rfl rfl (by omega) hz ?_; intro v' w2 hown2 hg2 hb2; have hcv := conv_own bytesT hown2)
      go_ret
      exact ⟨by rw [HX.out]; rfl, hbw.trans hb2⟩
    have hstep : ∀ cs, cs = sgn s[k] → Hid (acc ++ cs = 34 :: ((L s).take (k + 1)).flatMap sgn) := by
      intro cs hcs
      unfold Hid
      rw [HA.out, hcs, take_snoc s k hlt]
      simp
    have HS := Lib.hid hstep; clear hstep HA
    obtain ⟨c, hc⟩ : ∃ c, s[k] = c := ⟨_, rfl⟩
    rw [hc] at HS
    by_cases c1 : c.toNat = 34
    · have e1 : ((s[k].toNat : Int) == 34) = true := beqB _ _ (by rw [hc]; omega)
      have HQ := HS.out [92, c] (by rw [u8_of c1]; rfl)
      rw [← hc] at HQ
      clear HS c1 hc
      go_wp2_with (at_builtin; refine wp_pushM bytesT rfl _ _ rfl hown [92, s[k]] [.int .u8 92, .int .u8 (s[k].toNat : Int)] rfl 2 rfl rfl _ rfl rfl (by omega) hz ?_; intro v' w2 hown2 hg2 hb2)
      exact ⟨⟨k + 1, _, by omega, rfl, by simp; omega, by rw [List.length_append]; exact hown2, HQ, hbw.trans hb2⟩, by simp [intOf]; omega⟩
    have e1 : ((s[k].toNat : Int) == 34) = false := beqNB _ _ (by rw [hc]; omega)
    by_cases c2 : c.toNat = 92
    · have e2 : ((s[k].toNat : Int) == 92) = true := beqB _ _ (by rw [hc]; omega)
      have HQ := HS.out [92, c] (by rw [u8_of c2]; rfl)
      rw [← hc] at HQ
      clear HS c1 c2 hc
      go_wp2_with (at_builtin; refine wp_pushM bytesT rfl _ _ rfl hown [92, s[k]] [.int .u8 92, .int .u8 (s[k].toNat : Int)] rfl 2 rfl rfl _ rfl rfl (by omega) hz ?_; intro v' w2 hown2 hg2 hb2)
      exact ⟨⟨k + 1, _, by omega, rfl, by simp; omega, by rw [List.length_append]; exact hown2, HQ, hbw.trans hb2⟩, by simp [intOf]; omega⟩
    have e2 : ((s[k].toNat : Int) == 92) = false := beqNB _ _ (by rw [hc]; omega)
    by_cases c3 : c.toNat = 10
    · have e3 : ((s[k].toNat : Int) == 10) = true := beqB _ _ (by rw [hc]; omega)
      have HQ := HS.out [92, 110] (by rw [u8_of c3]; rfl)
      clear HS c1 c2 c3 hc
      go_wp2_with (at_builtin; refine wp_pushS bytesT rfl _ _ rfl hown ⟨#[92, 110]⟩ rfl rfl (by show _ + 2 < _; omega) hz ?_; intro v' w2 hown2 hg2 hb2)
      exact ⟨⟨k + 1, _, by omega, rfl, by simp; omega, by rw [List.length_append]; exact hown2, HQ, hbw.trans hb2⟩, by simp [intOf]; omega⟩
    have e3 : ((s[k].toNat : Int) == 10) = false := beqNB _ _ (by rw [hc]; omega)
    by_cases c4 : c.toNat = 9
    · have e4 : ((s[k].toNat : Int) == 9) = true := beqB _ _ (by rw [hc]; omega)
      have HQ := HS.out [92, 116] (by rw [u8_of c4]; rfl)
      clear HS c1 c2 c3 c4 hc
      go_wp2_with (at_builtin; refine wp_pushS bytesT rfl _ _ rfl hown ⟨#[92, 116]⟩ rfl rfl (by show _ + 2 < _; omega) hz ?_; intro v' w2 hown2 hg2 hb2)
      exact ⟨⟨k + 1, _, by omega, rfl, by simp; omega, by rw [List.length_append]; exact hown2, HQ, hbw.trans hb2⟩, by simp [intOf]; omega⟩
    have e4 : ((s[k].toNat : Int) == 9) = false := beqNB _ _ (by rw [hc]; omega)
    by_cases c5 : c.toNat = 13
    · have e5 : ((s[k].toNat : Int) == 13) = true := beqB _ _ (by rw [hc]; omega)
      have HQ := HS.out [92, 114] (by rw [u8_of c5]; rfl)
      clear HS c1 c2 c3 c4 c5 hc
      go_wp2_with (at_builtin; refine wp_pushS bytesT rfl _ _ rfl hown ⟨#[92, 114]⟩ rfl rfl (by show _ + 2 < _; omega) hz ?_; intro v' w2 hown2 hg2 hb2)
      exact ⟨⟨k + 1, _, by omega, rfl, by simp; omega, by rw [List.length_append]; exact hown2, HQ, hbw.trans hb2⟩, by simp [intOf]; omega⟩
    have e5 : ((s[k].toNat : Int) == 13) = false := beqNB _ _ (by rw [hc]; omega)
    by_cases c6 : c.toNat < 32 ∨ c.toNat = 127
    · have HQ := HS.out (92 :: 117 :: 123 :: (hexT c.toNat ++ [125])) (by unfold sgn; rw [if_neg c1, if_neg c2, if_neg c3, if_neg c4, if_neg c5, if_pos c6])
      have hn : c.toNat < 128 := by omega
      have HC := Lib.hid (FormatInt16_any c.toNat hn)
      have hle := hexT_len c.toNat
      obtain ⟨H, hH⟩ : ∃ H : ByteArray, H = ⟨(hexT c.toNat).toArray⟩ := ⟨_, rfl⟩
      have hLH : L H = hexT c.toNat := by rw [hH]; rfl
      rw [← hH] at HC
      have hHs : H.size ≤ 2 := by rw [← L_len, hLH]; exact hle
      have hLT : L (⟨#[92, 117, 123]⟩ ++ H ++ ⟨#[125]⟩) = 92 :: 117 :: 123 :: (hexT c.toNat ++ [125]) := by rw [L_append, L_append, hLH]; rfl
      have hTs : (⟨#[92, 117, 123]⟩ ++ H ++ ⟨#[125]⟩ : ByteArray).size ≤ 6 := by rw [← L_len, hLT]; simp only [List.length_cons, List.length_append, List.length_nil]; omega
      rw [← hLT] at HQ
      have hLl : (L (⟨#[92, 117, 123]⟩ ++ H ++ ⟨#[125]⟩)).length ≤ 6 := by rw [L_len]; exact hTs
      have HT := Lib.hid hTs; clear hTs
      have HL2 := Lib.hid hLl; clear hLl
      rw [← hc] at HC
      have hwr : wrap64 (s[k].toNat : Int) = s[k].toNat := by unfold wrap64; rw [hc]; have := c.toNat_lt; omega
      have key : (s[k].toNat : Int) < 32 ∨ ((s[k].toNat : Int) == 127) = true ∧ ¬ (s[k].toNat : Int) < 32 := by
        rw [hc, beq_iff_eq]; omega
      clear HS c1 c2 c3 c4 c5 c6 hH hLH hLT hle hn hc
      rcases key with e6 | ⟨e6, e7⟩
      all_goals
        go_wp2_with fail
        refine (HC.out _ (HE.out.below hbw)).mono ?_
        rintro e w1 ⟨rfl, hb1⟩
        have hown1 := own_below hown hb1
        have hbw1 := hbw.trans (hb1.mono hz)
        have hz1 := hbw1.size
        clear hown
        have hT6 := HT.out
        have HS6 : Hid (acc.length + (⟨#[92, 117, 123]⟩ ++ H ++ ⟨#[125]⟩ : ByteArray).size < 100000000000000) := by unfold Hid; omega
        clear hT6
        go_wp2_with (at_builtin; refine wp_pushS bytesT rfl _ _ rfl hown1 (⟨#[92, 117, 123]⟩ ++ H ++ ⟨#[125]⟩) rfl rfl HS6.out hz1 ?_; intro v' w2 hown2 hg2 hb2)
        refine ⟨⟨k + 1, acc ++ L (⟨#[92, 117, 123]⟩ ++ H ++ ⟨#[125]⟩), by omega, rfl, ?_, ?_, HQ, hbw1.trans hb2⟩, by simp [intOf]; omega⟩
        · rw [List.length_append]; have := HL2.out; omega
        · rw [List.length_append, L_len]; exact hown2
    · have HQ := HS.out [c] (by unfold sgn; rw [if_neg c1, if_neg c2, if_neg c3, if_neg c4, if_neg c5, if_neg c6])
      have e6 : ¬ (s[k].toNat : Int) < 32 := by rw [hc]; omega
      have e7 : ((s[k].toNat : Int) == 127) = false := beqNB _ _ (by rw [hc]; omega)
      rw [← hc] at HQ
      clear HS c1 c2 c3 c4 c5 c6 hc
      go_wp2_with (at_builtin; refine wp_pushM bytesT rfl _ _ rfl hown [s[k]] [.int .u8 (s[k].toNat : Int)] rfl 1 rfl rfl _ rfl rfl (by omega) hz ?_; intro v' w2 hown2 hg2 hb2)
      exact ⟨⟨k + 1, _, by omega, rfl, by simp; omega, by rw [List.length_append]; exact hown2, HQ, hbw.trans hb2⟩, by simp [intOf]; omega⟩
end Go.Proofs.YtemiihkmpojpgaaGreatDoor

namespace Go.Proofs.YtemiihkmpojpgaaGreatDoor
open Go.RowKit Go.Shelf
set_option maxHeartbeats 1000000
set_option maxRecDepth 100000

theorem below_grow' (w : World) (k : Nat) (os : Array Obj) : Below w.heap.size w (Go.Sort.grow (w.drewN k) os) :=
  ⟨rfl, rfl, rfl, by show w.heap.size ≤ (w.heap ++ os).size; rw [Array.size_append]; omega, fun j hj => by show (w.heap ++ os)[j]? = w.heap[j]?; rw [Array.getElem?_append_left hj]⟩
theorem Itoa_any (n : Int) (h0 : 0 ≤ n) (h1 : n ≤ 65536) (w : World) (he : EnvT w) :
    Calls Tryz.prog 65 #[.int .i64 n] w fun e w' => e = .returned (.string ⟨(Lib.itoa n).toArray⟩) ∧ Below w.heap.size w w' := by
  refine (Tryz.strconv_Itoa n (by omega) (by omega) w he.1).mono ?_
  rintro e w' ⟨rfl, k, os, rfl⟩
  exact ⟨rfl, below_grow' w k os⟩
theorem Atoi_ok (s : ByteArray) (n : Int) (hl : s.size ≤ 18) (h : Lib.atoi (L s) = some n) (w : World) :
    Calls Tryz.prog 40 #[.string s] w fun e w' => e = .returned (.tuple #[.int .i64 n, .nilIface]) ∧ Below w.heap.size w w' := by
  refine (Tryz.strconv_Atoi s n hl h w).mono ?_
  rintro e w' ⟨rfl, t, rfl⟩
  exact ⟨rfl, Go.Joins.below_bytesWorld _ _ _ _ (Nat.le_refl _)⟩
theorem Atoi_no (s : ByteArray) (hl : s.size ≤ 18) (h : Lib.atoi (L s) = none) (w : World) (he : Env w) :
    Calls Tryz.prog 40 #[.string s] w fun e w' => (∃ N, e = .returned (.tuple #[.int .i64 0, .iface 112 (.pointer (some ⟨N, 0, none⟩))])) ∧ Below w.heap.size w w' := by
  obtain ⟨-, -, ev, hv, hev⟩ := he
  refine (Tryz.strconv_Atoi_err s hl h ev w hv hev).mono ?_
  rintro e w' ⟨N, rfl, _, _, hb⟩
  exact ⟨⟨N, rfl⟩, hb⟩

theorem itoa_len (n : Int) (h0 : 0 ≤ n) (h1 : n ≤ 65536) : (Lib.itoa n).length ≤ 5 := by
  unfold Lib.itoa
  rw [if_neg (by omega)]
  exact decDigits_len _ (by omega)
theorem sgn_len (b : UInt8) : (sgn b).length ≤ 6 := by
  unfold sgn
  have := hexT_len b.toNat
  repeat' split
  all_goals first | (simp; done) | (simp only [List.length_cons, List.length_append, List.length_nil]; omega)
theorem flat_len6 (l : List UInt8) : (l.flatMap sgn).length ≤ 6 * l.length := by
  induction l with
  | nil => exact Nat.le_refl _
  | cons b l ih =>
    have := sgn_len b
    rw [List.flatMap_cons, List.length_append, List.length_cons]
    omega
theorem okSt_at {l : List St} (h : l.all okSt = true) (k : Nat) (hk : k < l.length) : okSt l[k] = true := List.all_eq_true.1 h _ (List.getElem_mem hk)
theorem text_snoc (l : List St) (k : Nat) (h : k < l.length) : (l.take (k + 1)).flatMap stepT = (l.take k).flatMap stepT ++ stepT l[k] := by
  rw [List.take_succ_eq_append_getElem h, List.flatMap_append]
  simp
theorem PText_any (v : Value) (l : List St) (w : World) (h : Rd w v l) (hv : validP l = true) (he : EnvT w) :
    Calls Tryz.prog 46 #[v] w fun e w' => e = .returned (.string ⟨(textL l).toArray⟩) ∧ Below w.heap.size w w' := by
  obtain ⟨a, cap, rfl, hcap, hmax, _, hl⟩ := h
  obtain ⟨hok, h48⟩ := all_ok hv
  clear hv
  by_cases h0 : l = []
  · subst h0
    clear hl
    go_enter Tryz.func46, Tryz.ntmps46
    go_wp2_with fail
    go_ret
    exact ⟨rfl, Below.refl _ _⟩
  have hlen : 0 < l.length := List.length_pos_iff.2 h0
  obtain ⟨g, o, rfl, hg, hat⟩ := hl h0
  obtain ⟨c0, c1, c2⟩ := hat 0 hlen
  simp only [Nat.zero_mul, Nat.add_zero] at c0
  clear c1 c2 hl
  have HT : Hid (textL l = preT l ++ l.flatMap stepT) := by unfold Hid textL; rw [if_neg (by simp [h0])]
  have HP : Hid (preT l = if l[0].1 then [46] else []) := by
    unfold Hid
    cases l with
    | nil => exact absurd rfl h0
    | cons s p => rfl
  have HA := Lib.hid hat; clear hat
  have HOK := Lib.hid hok; clear hok
  have HE := Lib.hid he; clear he
  have hne0 : ((l.length : Int) == 0) = false := by rw [beq_eq_false_iff_ne]; omega
  clear h0
  cases hb : l[0].1
  case false =>
    rw [hb] at c0 HP
    clear hb
    have HPR : Hid (preT l = []) := HP.out
    clear HP
    go_enter Tryz.func46, Tryz.ntmps46
    go_wp2_with fail
    have hb1 : Below w.heap.size w w := Below.refl _ _
    have hst : ∃ acc : List UInt8, acc.length ≤ 1 ∧ acc = [] ∧ w.ownsRow w.heap.size 5 1 (.slice none 0 0) acc.length (acc.map bv) := ⟨[], by decide, rfl, World.ownsRow_nil _ _ _ _⟩
    have HST := Lib.hid hst; clear hst
    have HB1 := Lib.hid hb1
    go_loopw [3, 5, 18] (fun o _ n wr => ∃ (k : Nat) (acc : List UInt8), k ≤ l.length ∧ n = .int .i64 k ∧ acc.length ≤ 7000 * k + 1 ∧ wr.ownsRow w.heap.size 5 1 o acc.length (acc.map bv) ∧ Hid (acc = preT l ++ (l.take k).flatMap stepT) ∧ Below w.heap.size w wr) (fun _ _ n _ => l.length - (intOf n).toNat)
    case atStart =>
      obtain ⟨acc, ha, hacc, hown⟩ := HST.out
      exact ⟨0, acc, Nat.zero_le _, rfl, by omega, hown, by unfold Hid; rw [hacc, HPR.out]; rfl, HB1.out⟩
    case round =>
      clear HST HB1 hb1 c0 
      obtain ⟨k, acc, hk, rfl, hal, hown, HA2, hbw⟩ := hrel
      have hz := hbw.size
      by_cases hlt : k < l.length
      case neg =>
        obtain rfl : k = l.length := by omega
        have HX : Hid (textL l = acc) := by
          unfold Hid
          rw [HT.out, HA2.out, List.take_of_length_le (Nat.le_refl _)]
        clear HA2 HT HPR
        have hcv := conv_own bytesT hown
        go_wp2_with fail
        go_ret
        exact ⟨by rw [HX.out]; rfl, hbw⟩
      have hstep : ∀ cs, cs = stepT l[k] → Hid (acc ++ cs = preT l ++ (l.take (k + 1)).flatMap stepT) := by
        intro cs hcs
        unfold Hid
        rw [HA2.out, hcs, text_snoc l k hlt, List.append_assoc]
      have HS := Lib.hid hstep; clear hstep HA2
      obtain ⟨d0, d1, d2⟩ := HA.out k hlt
      have hs := okSt_at HOK.out k hlt
      rw [← hbw.cell (p := ⟨g, o + k * 3, none⟩) hg] at d0
      rw [← hbw.cell (p := ⟨g, o + k * 3 + 1, none⟩) hg] at d1
      rw [← hbw.cell (p := ⟨g, o + k * 3 + 2, none⟩) hg] at d2
      generalize l[k] = s at *
      obtain ⟨b, key, ix⟩ := s
      simp only [] at d0 d1 d2
      have hownC := hown.alloc (.cells #[.bool b, .string key, .int .i64 ix] 81)
      have hbwC : Below w.heap.size w (wr.alloc (.cells #[.bool b, .string key, .int .i64 ix] 81)) := hbw.alloc hz _
      have hzC := hbwC.size
      have HEC := Lib.hid (HE.out.below hbwC)
      have hg1 : g < wr.heap.size := by omega
      have HOC := Lib.hid hownC
      clear hown hownC
      cases b with
      | true =>
        rw [okSt_true, decide_eq_true_eq] at hs
        obtain ⟨_, hi0, hi1⟩ := hs
        have hle := itoa_len ix hi0 hi1
        have hi1' : Hid (ix ≤ 65536) := hi1
        clear hi1
        obtain ⟨H, hH⟩ : ∃ H : ByteArray, H = ⟨(Lib.itoa ix).toArray⟩ := ⟨_, rfl⟩
        have hLH : L H = Lib.itoa ix := by rw [hH]; rfl
        have hHs : H.size ≤ 5 := by rw [← L_len, hLH]; exact hle
        have hLT : L (⟨#[91]⟩ ++ H ++ ⟨#[93]⟩) = 91 :: (Lib.itoa ix ++ [93]) := by rw [L_append, L_append, hLH]; rfl
        have hTs : (⟨#[91]⟩ ++ H ++ ⟨#[93]⟩ : ByteArray).size ≤ 7 := by rw [← L_len, hLT]; simp only [List.length_cons, List.length_append, List.length_nil]; omega
        have HQ := HS.out (L (⟨#[91]⟩ ++ H ++ ⟨#[93]⟩)) (by rw [hLT]; rfl)
        have HC := Lib.hid (fun w' (h : EnvT w') => Itoa_any ix hi0 hi1'.out w' h)
        rw [← hH] at HC
        have HT7 := Lib.hid hTs
        have HLT7 : Hid ((L (⟨#[91]⟩ ++ H ++ ⟨#[93]⟩)).length ≤ 7) := by unfold Hid; rw [L_len]; exact hTs
        clear HS hH hLH hLT hTs hle
        go_wp2_with fail
        refine (HC.out _ HEC.out).mono ?_
        rintro e w2 ⟨rfl, hb2⟩
        have hown2 := own_below HOC.out hb2
        have hbw2 := hbwC.trans (hb2.mono hzC)
        have hz2 := hbw2.size
        have HS7 : Hid (acc.length + (⟨#[91]⟩ ++ H ++ ⟨#[93]⟩ : ByteArray).size < 100000000000000) := by have := HT7.out; unfold Hid; omega
        clear HOC HC hbwC hzC hb2
        go_wp2_with (at_builtin; refine wp_pushS bytesT rfl _ _ rfl hown2 (⟨#[91]⟩ ++ H ++ ⟨#[93]⟩) rfl rfl HS7.out hz2 ?_; intro v' w3 hown3 hg3 hb3)
        refine ⟨⟨k + 1, acc ++ L (⟨#[91]⟩ ++ H ++ ⟨#[93]⟩), by omega, rfl, ?_, ?_, HQ, hbw2.trans hb3⟩, by simp [intOf]; omega⟩
        · rw [List.length_append]; have := HLT7.out; omega
        · rw [List.length_append, L_len]; exact hown3
      | false =>
        rw [okSt_false, decide_eq_true_eq] at hs
        obtain ⟨rfl, hks, _⟩ := hs
        have hF : ∀ w', Calls Tryz.prog 44 #[.string key] w' fun e w'' => e = .returned (.int .i64 (folL (L key))) ∧ w'' = w' := fun w' => (follows_any key w' (by omega)).mono fun e w'' ⟨he, hw⟩ => ⟨he, hw.symm⟩
        have HF2 := Lib.hid hF; clear hF
        by_cases hnm : isName (L key) = true
        · have hnm' := hnm
          unfold isName at hnm'
          simp only [decide_eq_true_eq] at hnm'
          obtain ⟨hn0, hn1⟩ := hnm'
          have e1 : key.toList.isEmpty = false := by
            rw [Bool.eq_false_iff, ne_eq, neE, ← L_len]
            intro h
            exact hn0 (List.length_eq_zero_iff.1 h)
          have e2 : ((folL (L key) : Int) == key.size) = true := by rw [beq_iff_eq, hn1, L_len]
          have hLT : L (⟨#[46]⟩ ++ key) = 46 :: L key := by rw [L_append]; rfl
          have hTs : (⟨#[46]⟩ ++ key : ByteArray).size ≤ 1025 := by rw [ByteArray.size_append]; show 1 + _ ≤ _; omega
          have HQ := HS.out (L (⟨#[46]⟩ ++ key)) (by rw [hLT]; unfold stepT; simp [hnm])
          have HT7 := Lib.hid hTs
          clear HS hLT hnm hn0 hn1
          have HOD : Hid (∀ nq, ((wr.alloc (.cells #[.bool false, .string key, .int .i64 0] 81)).drewN nq).ownsRow w.heap.size 5 1 u3 acc.length (acc.map bv)) := fun nq => HOC.out
          have HBD : Hid (∀ nq, Below w.heap.size w ((wr.alloc (.cells #[.bool false, .string key, .int .i64 0] 81)).drewN nq)) := fun nq => ⟨hbwC.os, hbwC.tape, hbwC.output, hbwC.size, hbwC.block⟩
          have HS7 : Hid (acc.length + (⟨#[46]⟩ ++ key : ByteArray).size < 100000000000000) := by unfold Hid; omega
          clear HOC hbwC hzC hTs
          go_wp2_with fail
          go_quiet (first | (go_at_call 44; exact Calls.quiet_of_same (HF2.out _)))
          have hownD := HOD.out nq
          have hbwD := HBD.out nq
          have hzD := hbwD.size
          go_wp2_with (at_builtin; refine wp_pushS bytesT rfl _ _ rfl hownD (⟨#[46]⟩ ++ key) rfl rfl HS7.out hzD ?_; intro v' w3 hown3 hg3 hb3)
          refine ⟨⟨k + 1, acc ++ L (⟨#[46]⟩ ++ key), by omega, rfl, ?_, ?_, HQ, hbwD.trans hb3⟩, by simp [intOf]; omega⟩
          · rw [List.length_append, L_len]; have := HT7.out; omega
          · rw [List.length_append, L_len]; exact hown3
        · obtain ⟨Q, hQ⟩ : ∃ Q : ByteArray, Q = ⟨(quoteT (L key)).toArray⟩ := ⟨_, rfl⟩
          have hLQ : L Q = quoteT (L key) := by rw [hQ]; rfl
          have hf6 := flat_len6 (L key)
          rw [L_len] at hf6
          have hQs : Q.size ≤ 6146 := by rw [← L_len, hLQ]; unfold quoteT; simp only [List.length_cons, List.length_append, List.length_nil]; omega
          have hLT : L (⟨#[46]⟩ ++ Q) = 46 :: quoteT (L key) := by rw [L_append, hLQ]; rfl
          have hTs : (⟨#[46]⟩ ++ Q : ByteArray).size ≤ 6147 := by rw [ByteArray.size_append]; show 1 + _ ≤ _; omega
          have HQ := HS.out (L (⟨#[46]⟩ ++ Q)) (by rw [hLT]; unfold stepT quoteT; simp [hnm])
          have HC := Lib.hid (fun w' (h : EnvT w') => quote_any key w' (by omega) h)
          rw [← hQ] at HC
          have HT7 := Lib.hid hTs
          have HOD : Hid (∀ nq, ((wr.alloc (.cells #[.bool false, .string key, .int .i64 0] 81)).drewN nq).ownsRow w.heap.size 5 1 u3 acc.length (acc.map bv)) := fun nq => HOC.out
          have HBD : Hid (∀ nq, Below w.heap.size w ((wr.alloc (.cells #[.bool false, .string key, .int .i64 0] 81)).drewN nq)) := fun nq => ⟨hbwC.os, hbwC.tape, hbwC.output, hbwC.size, hbwC.block⟩
          have HS7 : Hid (acc.length + (⟨#[46]⟩ ++ Q : ByteArray).size < 100000000000000) := by unfold Hid; omega
          have key2 : (key.toList.isEmpty = true) ∨ (key.toList.isEmpty = false ∧ ((folL (L key) : Int) == key.size) = false) := by
            cases h1 : key.toList.isEmpty with
            | true => exact .inl rfl
            | false =>
              right
              refine ⟨rfl, ?_⟩
              rw [beq_eq_false_iff_ne]
              intro h2
              apply hnm
              unfold isName
              simp only [decide_eq_true_eq]
              refine ⟨fun h3 => ?_, by rw [L_len]; omega⟩
              have h4 : key.size = 0 := by rw [← L_len, h3]; rfl
              rw [neE.2 h4] at h1
              cases h1
          clear HS hQ hLQ hLT hTs hnm HOC hbwC hzC hf6
          rcases key2 with e1 | ⟨e1, e2⟩
          all_goals
            go_wp2_with fail
            go_quiet (first | (go_at_call 44; exact Calls.quiet_of_same (HF2.out _)))
            have hownD := HOD.out nq
            have hbwD := HBD.out nq
            have hzD := hbwD.size
            have HED := Lib.hid (HE.out.below hbwD)
            go_wp2_with fail
            refine (HC.out _ HED.out).mono ?_
            rintro e w2 ⟨rfl, hb2⟩
            have hown2 := own_below hownD hb2
            have hbw2 := hbwD.trans (hb2.mono hzD)
            have hz2 := hbw2.size
            clear hownD hbwD hzD hb2
            go_wp2_with (at_builtin; refine wp_pushS bytesT rfl _ _ rfl hown2 (⟨#[46]⟩ ++ Q) rfl rfl HS7.out hz2 ?_; intro v' w3 hown3 hg3 hb3)
            refine ⟨⟨k + 1, acc ++ L (⟨#[46]⟩ ++ Q), by omega, rfl, ?_, ?_, HQ, hbw2.trans hb3⟩, by simp [intOf]; omega⟩
            · rw [List.length_append, L_len]; have := HT7.out; omega
            · rw [List.length_append, L_len]; exact hown3
  case true =>
    rw [hb] at c0 HP
    clear hb
    have HPR : Hid (preT l = [46]) := HP.out
    clear HP
    go_enter Tryz.func46, Tryz.ntmps46
    have hownN : w.ownsRow w.heap.size 5 1 (.slice none 0 0) 0 (([] : List UInt8).map bv) := World.ownsRow_nil _ _ _ _
    go_wp2_with (at_builtin; refine wp_pushM bytesT rfl _ _ rfl hownN [46] [.int .u8 46] rfl 1 rfl rfl _ rfl rfl (by omega) (Nat.le_refl _) ?_; intro v1 w1 hown1 hg1 hb1)
    have hst : ∃ acc : List UInt8, acc.length ≤ 1 ∧ acc = [46] ∧ w1.ownsRow w.heap.size 5 1 v1 acc.length (acc.map bv) := ⟨[46], by decide, rfl, hown1⟩
    have HST := Lib.hid hst; clear hst
    have HB1 := Lib.hid hb1
    go_loopw [3, 5, 18] (fun o _ n wr => ∃ (k : Nat) (acc : List UInt8), k ≤ l.length ∧ n = .int .i64 k ∧ acc.length ≤ 7000 * k + 1 ∧ wr.ownsRow w.heap.size 5 1 o acc.length (acc.map bv) ∧ Hid (acc = preT l ++ (l.take k).flatMap stepT) ∧ Below w.heap.size w wr) (fun _ _ n _ => l.length - (intOf n).toNat)
    case atStart =>
      obtain ⟨acc, ha, hacc, hown⟩ := HST.out
      exact ⟨0, acc, Nat.zero_le _, rfl, by omega, hown, by unfold Hid; rw [hacc, HPR.out]; rfl, HB1.out⟩
    case round =>
      clear HST HB1 hb1 c0 hown1
      obtain ⟨k, acc, hk, rfl, hal, hown, HA2, hbw⟩ := hrel
      have hz := hbw.size
      by_cases hlt : k < l.length
      case neg =>
        obtain rfl : k = l.length := by omega
        have HX : Hid (textL l = acc) := by
          unfold Hid
          rw [HT.out, HA2.out, List.take_of_length_le (Nat.le_refl _)]
        clear HA2 HT HPR
        have hcv := conv_own bytesT hown
        go_wp2_with fail
        go_ret
        exact ⟨by rw [HX.out]; rfl, hbw⟩
      have hstep : ∀ cs, cs = stepT l[k] → Hid (acc ++ cs = preT l ++ (l.take (k + 1)).flatMap stepT) := by
        intro cs hcs
        unfold Hid
        rw [HA2.out, hcs, text_snoc l k hlt, List.append_assoc]
      have HS := Lib.hid hstep; clear hstep HA2
      obtain ⟨d0, d1, d2⟩ := HA.out k hlt
      have hs := okSt_at HOK.out k hlt
      rw [← hbw.cell (p := ⟨g, o + k * 3, none⟩) hg] at d0
      rw [← hbw.cell (p := ⟨g, o + k * 3 + 1, none⟩) hg] at d1
      rw [← hbw.cell (p := ⟨g, o + k * 3 + 2, none⟩) hg] at d2
      generalize l[k] = s at *
      obtain ⟨b, key, ix⟩ := s
      simp only [] at d0 d1 d2
      have hownC := hown.alloc (.cells #[.bool b, .string key, .int .i64 ix] 81)
      have hbwC : Below w.heap.size w (wr.alloc (.cells #[.bool b, .string key, .int .i64 ix] 81)) := hbw.alloc hz _
      have hzC := hbwC.size
      have HEC := Lib.hid (HE.out.below hbwC)
      have hg1 : g < wr.heap.size := by omega
      have HOC := Lib.hid hownC
      clear hown hownC
      cases b with
      | true =>
        rw [okSt_true, decide_eq_true_eq] at hs
        obtain ⟨_, hi0, hi1⟩ := hs
        have hle := itoa_len ix hi0 hi1
        have hi1' : Hid (ix ≤ 65536) := hi1
        clear hi1
        obtain ⟨H, hH⟩ : ∃ H : ByteArray, H = ⟨(Lib.itoa ix).toArray⟩ := ⟨_, rfl⟩
        have hLH : L H = Lib.itoa ix := by rw [hH]; rfl
        have hHs : H.size ≤ 5 := by rw [← L_len, hLH]; exact hle
        have hLT : L (⟨#[91]⟩ ++ H ++ ⟨#[93]⟩) = 91 :: (Lib.itoa ix ++ [93]) := by rw [L_append, L_append, hLH]; rfl
        have hTs : (⟨#[91]⟩ ++ H ++ ⟨#[93]⟩ : ByteArray).size ≤ 7 := by rw [← L_len, hLT]; simp only [List.length_cons, List.length_append, List.length_nil]; omega
        have HQ := HS.out (L (⟨#[91]⟩ ++ H ++ ⟨#[93]⟩)) (by rw [hLT]; rfl)
        have HC := Lib.hid (fun w' (h : EnvT w') => Itoa_any ix hi0 hi1'.out w' h)
        rw [← hH] at HC
        have HT7 := Lib.hid hTs
        have HLT7 : Hid ((L (⟨#[91]⟩ ++ H ++ ⟨#[93]⟩)).length ≤ 7) := by unfold Hid; rw [L_len]; exact hTs
        clear HS hH hLH hLT hTs hle
        go_wp2_with fail
        refine (HC.out _ HEC.out).mono ?_
        rintro e w2 ⟨rfl, hb2⟩
        have hown2 := own_below HOC.out hb2
        have hbw2 := hbwC.trans (hb2.mono hzC)
        have hz2 := hbw2.size
        have HS7 : Hid (acc.length + (⟨#[91]⟩ ++ H ++ ⟨#[93]⟩ : ByteArray).size < 100000000000000) := by have := HT7.out; unfold Hid; omega
        clear HOC HC hbwC hzC hb2
        go_wp2_with (at_builtin; refine wp_pushS bytesT rfl _ _ rfl hown2 (⟨#[91]⟩ ++ H ++ ⟨#[93]⟩) rfl rfl HS7.out hz2 ?_; intro v' w3 hown3 hg3 hb3)
        refine ⟨⟨k + 1, acc ++ L (⟨#[91]⟩ ++ H ++ ⟨#[93]⟩), by omega, rfl, ?_, ?_, HQ, hbw2.trans hb3⟩, by simp [intOf]; omega⟩
        · rw [List.length_append]; have := HLT7.out; omega
        · rw [List.length_append, L_len]; exact hown3
      | false =>
        rw [okSt_false, decide_eq_true_eq] at hs
        obtain ⟨rfl, hks, _⟩ := hs
        have hF : ∀ w', Calls Tryz.prog 44 #[.string key] w' fun e w'' => e = .returned (.int .i64 (folL (L key))) ∧ w'' = w' := fun w' => (follows_any key w' (by omega)).mono fun e w'' ⟨he, hw⟩ => ⟨he, hw.symm⟩
        have HF2 := Lib.hid hF; clear hF
        by_cases hnm : isName (L key) = true
        · have hnm' := hnm
          unfold isName at hnm'
          simp only [decide_eq_true_eq] at hnm'
          obtain ⟨hn0, hn1⟩ := hnm'
          have e1 : key.toList.isEmpty = false := by
            rw [Bool.eq_false_iff, ne_eq, neE, ← L_len]
            intro h
            exact hn0 (List.length_eq_zero_iff.1 h)
          have e2 : ((folL (L key) : Int) == key.size) = true := by rw [beq_iff_eq, hn1, L_len]
          have hLT : L (⟨#[46]⟩ ++ key) = 46 :: L key := by rw [L_append]; rfl
          have hTs : (⟨#[46]⟩ ++ key : ByteArray).size ≤ 1025 := by rw [ByteArray.size_append]; show 1 + _ ≤ _; omega
          have HQ := HS.out (L (⟨#[46]⟩ ++ key)) (by rw [hLT]; unfold stepT; simp [hnm])
          have HT7 := Lib.hid hTs
          clear HS hLT hnm hn0 hn1
          have HOD : Hid (∀ nq, ((wr.alloc (.cells #[.bool false, .string key, .int .i64 0] 81)).drewN nq).ownsRow w.heap.size 5 1 u3 acc.length (acc.map bv)) := fun nq => HOC.out
          have HBD : Hid (∀ nq, Below w.heap.size w ((wr.alloc (.cells #[.bool false, .string key, .int .i64 0] 81)).drewN nq)) := fun nq => ⟨hbwC.os, hbwC.tape, hbwC.output, hbwC.size, hbwC.block⟩
          have HS7 : Hid (acc.length + (⟨#[46]⟩ ++ key : ByteArray).size < 100000000000000) := by unfold Hid; omega
          clear HOC hbwC hzC hTs
          go_wp2_with fail
          go_quiet (first | (go_at_call 44; exact Calls.quiet_of_same (HF2.out _)))
          have hownD := HOD.out nq
          have hbwD := HBD.out nq
          have hzD := hbwD.size
          go_wp2_with (at_builtin; refine wp_pushS bytesT rfl _ _ rfl hownD (⟨#[46]⟩ ++ key) rfl rfl HS7.out hzD ?_; intro v' w3 hown3 hg3 hb3)
          refine ⟨⟨k + 1, acc ++ L (⟨#[46]⟩ ++ key), by omega, rfl, ?_, ?_, HQ, hbwD.trans hb3⟩, by simp [intOf]; omega⟩
          · rw [List.length_append, L_len]; have := HT7.out; omega
          · rw [List.length_append, L_len]; exact hown3
        · obtain ⟨Q, hQ⟩ : ∃ Q : ByteArray, Q = ⟨(quoteT (L key)).toArray⟩ := ⟨_, rfl⟩
          have hLQ : L Q = quoteT (L key) := by rw [hQ]; rfl
          have hf6 := flat_len6 (L key)
          rw [L_len] at hf6
          have hQs : Q.size ≤ 6146 := by rw [← L_len, hLQ]; unfold quoteT; simp only [List.length_cons, List.length_append, List.length_nil]; omega
          have hLT : L (⟨#[46]⟩ ++ Q) = 46 :: quoteT (L key) := by rw [L_append, hLQ]; rfl
          have hTs : (⟨#[46]⟩ ++ Q : ByteArray).size ≤ 6147 := by rw [ByteArray.size_append]; show 1 + _ ≤ _; omega
          have HQ := HS.out (L (⟨#[46]⟩ ++ Q)) (by rw [hLT]; unfold stepT quoteT; simp [hnm])
          have HC := Lib.hid (fun w' (h : EnvT w') => quote_any key w' (by omega) h)
          rw [← hQ] at HC
          have HT7 := Lib.hid hTs
          have HOD : Hid (∀ nq, ((wr.alloc (.cells #[.bool false, .string key, .int .i64 0] 81)).drewN nq).ownsRow w.heap.size 5 1 u3 acc.length (acc.map bv)) := fun nq => HOC.out
          have HBD : Hid (∀ nq, Below w.heap.size w ((wr.alloc (.cells #[.bool false, .string key, .int .i64 0] 81)).drewN nq)) := fun nq => ⟨hbwC.os, hbwC.tape, hbwC.output, hbwC.size, hbwC.block⟩
          have HS7 : Hid (acc.length + (⟨#[46]⟩ ++ Q : ByteArray).size < 100000000000000) := by unfold Hid; omega
          have key2 : (key.toList.isEmpty = true) ∨ (key.toList.isEmpty = false ∧ ((folL (L key) : Int) == key.size) = false) := by
            cases h1 : key.toList.isEmpty with
            | true => exact .inl rfl
            | false =>
              right
              refine ⟨rfl, ?_⟩
              rw [beq_eq_false_iff_ne]
              intro h2
              apply hnm
              unfold isName
              simp only [decide_eq_true_eq]
              refine ⟨fun h3 => ?_, by rw [L_len]; omega⟩
              have h4 : key.size = 0 := by rw [← L_len, h3]; rfl
              rw [neE.2 h4] at h1
              cases h1
          clear HS hQ hLQ hLT hTs hnm HOC hbwC hzC hf6
          rcases key2 with e1 | ⟨e1, e2⟩
          all_goals
            go_wp2_with fail
            go_quiet (first | (go_at_call 44; exact Calls.quiet_of_same (HF2.out _)))
            have hownD := HOD.out nq
            have hbwD := HBD.out nq
            have hzD := hbwD.size
            have HED := Lib.hid (HE.out.below hbwD)
            go_wp2_with fail
            refine (HC.out _ HED.out).mono ?_
            rintro e w2 ⟨rfl, hb2⟩
            have hown2 := own_below hownD hb2
            have hbw2 := hbwD.trans (hb2.mono hzD)
            have hz2 := hbw2.size
            clear hownD hbwD hzD hb2
            go_wp2_with (at_builtin; refine wp_pushS bytesT rfl _ _ rfl hown2 (⟨#[46]⟩ ++ Q) rfl rfl HS7.out hz2 ?_; intro v' w3 hown3 hg3 hb3)
            refine ⟨⟨k + 1, acc ++ L (⟨#[46]⟩ ++ Q), by omega, rfl, ?_, ?_, HQ, hbw2.trans hb3⟩, by simp [intOf]; omega⟩
            · rw [List.length_append, L_len]; have := HT7.out; omega
            · rw [List.length_append, L_len]; exact hown3
end Go.Proofs.YtemiihkmpojpgaaGreatDoor

namespace Go.Proofs.YtemiihkmpojpgaaGreatDoor
open Go.RowKit Go.Shelf
set_option maxHeartbeats 2000000
set_option maxRecDepth 100000

def lowN (n : Nat) : Nat := if n / 32 % 2 = 1 then n else n + 32
theorem low_bits : ∀ n : Fin 256, bits .or .u8 (n.val : Int) 32 = ((lowN n.val : Nat) : Int) := by decide +kernel
theorem lower_any (c : UInt8) (w : World) : Calls Tryz.prog 104 #[.int .u8 c.toNat] w fun e w' => e = .returned (.int .u8 (lowN c.toNat)) ∧ w = w' := by
  have hb := low_bits ⟨c.toNat, c.toNat_lt⟩
  go_enter Tryz.func104, Tryz.ntmps104
  go_wp2_with fail
  go_ret
  exact ⟨rfl, rfl⟩
theorem hex_class0 : ∀ n : Fin 256,
    (48 ≤ n.val ∧ n.val ≤ 57 ∧ hexd1 (UInt8.ofNat n.val) = some (n.val - 48)) ∨ (57 < n.val ∧ n.val ≠ 95 ∧ 97 ≤ lowN n.val ∧ lowN n.val ≤ 102 ∧ hexd1 (UInt8.ofNat n.val) = some (lowN n.val - 87)) ∨ (57 < n.val ∧ n.val ≠ 95 ∧ 103 ≤ lowN n.val ∧ lowN n.val ≤ 122 ∧ hexd1 (UInt8.ofNat n.val) = none)
    ∨ (n.val < 48 ∧ lowN n.val < 97 ∧ hexd1 (UInt8.ofNat n.val) = none) ∨ (57 < n.val ∧ n.val ≠ 95 ∧ lowN n.val < 97 ∧ hexd1 (UInt8.ofNat n.val) = none) ∨ (57 < n.val ∧ n.val ≠ 95 ∧ 122 < lowN n.val ∧ hexd1 (UInt8.ofNat n.val) = none) ∨ (n.val = 95 ∧ hexd1 (UInt8.ofNat n.val) = none) := by decide +kernel
def uintV (o : Option Nat) : Value := match o with
  | some v => .tuple #[.int .u64 (v : Int), .nilIface]
  | none => .tuple #[.int .u64 0, .iface 109 (.int .i64 2)]
def hexF (acc : Nat) : List UInt8 → Option Nat
  | [] => some acc
  | b :: t => match hexd1 b with
    | some d => hexF (acc * 16 + d) t
    | none => none
theorem hexF_one (a : UInt8) : hexF 0 [a] = hexs [a] := by
  simp only [hexF, hexs]
  cases hexd1 a <;> simp
theorem hexF_two (a b : UInt8) : hexF 0 [a, b] = hexs [a, b] := by
  simp only [hexF, hexs]
  cases hexd1 a with
  | none => rfl
  | some x => cases hexd1 b <;> simp [Nat.mul_comm]
theorem PU_any (s : ByteArray) (h1 : 1 ≤ s.size) (h2 : s.size ≤ 2) (w : World) :
    Calls Tryz.prog 96 #[.string s, .int .i64 16, .int .i64 8] w fun e w' => e = .returned (uintV (hexF 0 (L s))) ∧ Below w.heap.size w w' := by
  have hne : s.toList.isEmpty = false := by rw [Bool.eq_false_iff, ne_eq, neE]; omega
  have hcv := Lib.run_convert_string_bytes (P := Tryz.prog) w 9 26 5 s (u := .string) Tryz.underlying9 Tryz.underlying26 Tryz.underlying5
  have hB : ∀ j (hj : j < s.size), (Lib.bytesWorld w 5 s).cell? ⟨w.heap.size, j, none⟩ = some (.int .u8 (s[j].toNat : Int)) := fun j hj => by
    rw [Lib.bytesWorld_cell w 5 s j hj]
    have : s.data.toList.getD j 0 = s[j] := by
      rw [List.getD_eq_getElem?_getD, List.getElem?_eq_getElem (by rw [Array.length_toList, ByteArray.size_data]; exact hj)]
      rfl
    rw [this]
  have hbw : Below w.heap.size w (Lib.bytesWorld w 5 s) := Go.Joins.below_bytesWorld _ _ _ _ (Nat.le_refl _)
  obtain ⟨W1, hW1⟩ : ∃ W1, W1 = Lib.bytesWorld w 5 s := ⟨_, rfl⟩
  rw [← hW1] at hB hcv hbw
  clear hW1
  generalize grownCap w s.size 0 5 = cap at *
  have HB := Lib.hid hB; clear hB
  have HBW := Lib.hid hbw; clear hbw
  go_enter Tryz.func96, Tryz.ntmps96
  go_wp2
  go_loop [12, 13, 101] (fun vu vn vi => ∃ (k acc : Nat) (a : Int), vu = .bool false ∧ vn = .int .u64 a ∧ vi = .int .i64 k ∧ k ≤ s.size ∧ Hid (a = (acc : Int) ∧ acc < 16 ^ k ∧ hexF 0 (L s) = hexF acc ((L s).drop k))) (fun _ _ vi => s.size - (intOf vi).toNat)
  case atStart => exact ⟨0, 0, 0, rfl, rfl, rfl, Nat.zero_le _, rfl, by decide, rfl⟩
  case round =>
    obtain ⟨k, acc, a, rfl, rfl, rfl, hk, HR⟩ := hrel
    by_cases hlt : k < s.size
    case neg =>
      have HF : Hid (uintV (hexF 0 (L s)) = .tuple #[.int .u64 a, .nilIface]) := by
        unfold Hid; rw [HR.out.2.2, L_drop_nil s k (by omega), HR.out.1]; rfl
      clear HR
      go_wp2
      go_ret2
      exact ⟨by rw [HF.out]; rfl, HBW.out⟩
    have hc := HB.out k hlt
    have hacc : acc < 16 := by
      have h := HR.out.2.1
      have : k = 0 ∨ k = 1 := by omega
      rcases this with rfl | rfl <;> simp at h <;> omega
    have ha0 : 0 ≤ a := by have := HR.out.1; omega
    have ha1 : a < 16 := by have := HR.out.1; omega
    have hstep : ∀ d : Nat, d < 16 → hexd1 s[k] = some d → ∃ acc' : Nat, (a * 16 + d : Int) = (acc' : Int) ∧ acc' < 16 ^ (k + 1) ∧ hexF 0 (L s) = hexF acc' ((L s).drop (k + 1)) := by
      intro d hd h
      refine ⟨acc * 16 + d, by have := HR.out.1; omega, ?_, ?_⟩
      · have h := HR.out.2.1
        rw [Nat.pow_succ]
        omega
      · rw [HR.out.2.2, L_drop s k hlt, hexF, h]
    have hbad : hexd1 s[k] = none → Hid (uintV (hexF 0 (L s)) = .tuple #[.int .u64 0, .iface 109 (.int .i64 2)]) := by
      intro h
      unfold Hid
      rw [HR.out.2.2, L_drop s k hlt, hexF, h]
      rfl
    have HST := Lib.hid hstep; clear hstep
    have HBD := Lib.hid hbad; clear hbad HR hacc
    generalize s[k] = c at *
    have hcl := hex_class0 ⟨c.toNat, c.toNat_lt⟩
    have hlow : lowN c.toNat < 256 := by have := c.toNat_lt; unfold lowN; split <;> omega
    simp only [UInt8.ofNat_toNat] at hcl
    rcases hcl with ⟨h1, h2, h3⟩ | ⟨h1, h2, h3, h4, h5⟩ | ⟨h1, h2, h3, h4, h5⟩ | ⟨h1, h2, h5⟩ | ⟨h1, h2, h3, h5⟩ | ⟨h1, h2, h3, h5⟩ | ⟨h1, h5⟩
    · have a1 : (48 : Int) ≤ c.toNat := by omega
      have a2 : (c.toNat : Int) ≤ 57 := by omega
      have a3 : ((c.toNat : Int) == 95) = false := by rw [beq_eq_false_iff_ne]; omega
      obtain ⟨acc', q1, q2, q3⟩ := HST.out _ (by omega) h3
      have HQ : Hid (a * 16 + ((c.toNat : Int) - 48) = (acc' : Int) ∧ acc' < 16 ^ (k + 1) ∧ hexF 0 (L s) = hexF acc' ((L s).drop (k + 1))) := ⟨by omega, q2, q3⟩
      clear h3 HST HBD q1 q2 q3
      go_wp2
      exact ⟨⟨k + 1, acc', _, rfl, rfl, rfl, by omega, HQ⟩, by simp [intOf]; omega⟩
    · obtain ⟨lw, hlw⟩ : ∃ lw, lowN c.toNat = lw := ⟨_, rfl⟩
      have a1 : ¬ (c.toNat : Int) ≤ 57 := by omega
      have a3 : ((c.toNat : Int) == 95) = false := by rw [beq_eq_false_iff_ne]; omega
      have b1 : (97 : Int) ≤ lowN c.toNat := by omega
      have b2 : (lowN c.toNat : Int) ≤ 122 := by omega
      have b3 : (lowN c.toNat : Int) ≤ 102 := by omega
      obtain ⟨acc', q1, q2, q3⟩ := HST.out _ (by omega) h5
      have HQ : Hid (a * 16 + ((lowN c.toNat : Int) - 97 + 10) = (acc' : Int) ∧ acc' < 16 ^ (k + 1) ∧ hexF 0 (L s) = hexF acc' ((L s).drop (k + 1))) := ⟨by omega, q2, q3⟩
      clear h3 h4 h5 HST HBD q1 q2 q3 hlw
      go_wp2_with (go_at_call 104; refine (lower_any _ _).mono ?_; rintro e w' ⟨rfl, rfl⟩)
      exact ⟨⟨k + 1, acc', _, rfl, rfl, rfl, by omega, HQ⟩, by simp [intOf]; omega⟩
    · have HF := HBD.out h5
      clear HST HBD
      have a3 : ((c.toNat : Int) == 95) = false := by rw [beq_eq_false_iff_ne]; omega
      have a0 : (48 : Int) ≤ c.toNat := by omega
      have a1 : ¬ (c.toNat : Int) ≤ 57 := by omega
      have b1 : (97 : Int) ≤ lowN c.toNat := by omega
      have b2 : (lowN c.toNat : Int) ≤ 122 := by omega
      have b3 : ¬ (lowN c.toNat : Int) ≤ 102 := by omega
      go_wp2_with (go_at_call 104; refine (lower_any _ _).mono ?_; rintro e w' ⟨rfl, rfl⟩)
      all_goals (go_ret2; exact ⟨by rw [HF.out]; rfl, HBW.out⟩)
    · have HF := HBD.out h5
      clear HST HBD
      have a3 : ((c.toNat : Int) == 95) = false := by rw [beq_eq_false_iff_ne]; omega
      have a1 : ¬ (48 : Int) ≤ c.toNat := by omega
      have b1 : ¬ (97 : Int) ≤ lowN c.toNat := by omega
      go_wp2_with (go_at_call 104; refine (lower_any _ _).mono ?_; rintro e w' ⟨rfl, rfl⟩)
      all_goals (go_ret2; exact ⟨by rw [HF.out]; rfl, HBW.out⟩)
    · have HF := HBD.out h5
      clear HST HBD
      have a3 : ((c.toNat : Int) == 95) = false := by rw [beq_eq_false_iff_ne]; omega
      have a0 : (48 : Int) ≤ c.toNat := by omega
      have a1 : ¬ (c.toNat : Int) ≤ 57 := by omega
      have b1 : ¬ (97 : Int) ≤ lowN c.toNat := by omega
      go_wp2_with (go_at_call 104; refine (lower_any _ _).mono ?_; rintro e w' ⟨rfl, rfl⟩)
      all_goals (go_ret2; exact ⟨by rw [HF.out]; rfl, HBW.out⟩)
    · have HF := HBD.out h5
      clear HST HBD
      have a3 : ((c.toNat : Int) == 95) = false := by rw [beq_eq_false_iff_ne]; omega
      have a0 : (48 : Int) ≤ c.toNat := by omega
      have a1 : ¬ (c.toNat : Int) ≤ 57 := by omega
      have b1 : (97 : Int) ≤ lowN c.toNat := by omega
      have b2 : ¬ (lowN c.toNat : Int) ≤ 122 := by omega
      go_wp2_with (go_at_call 104; refine (lower_any _ _).mono ?_; rintro e w' ⟨rfl, rfl⟩)
      all_goals (go_ret2; exact ⟨by rw [HF.out]; rfl, HBW.out⟩)
    · have HF := HBD.out h5
      clear HST HBD
      have a3 : ((c.toNat : Int) == 95) = true := by rw [beq_iff_eq]; omega
      have a0 : (48 : Int) ≤ c.toNat := by omega
      have a1 : ¬ (c.toNat : Int) ≤ 57 := by omega
      have b0 : lowN c.toNat = 127 := by rw [h1]; rfl
      have b1 : (97 : Int) ≤ lowN c.toNat := by omega
      have b2 : ¬ (lowN c.toNat : Int) ≤ 122 := by omega
      clear b0 h1 h5
      go_wp2_with (go_at_call 104; refine (lower_any _ _).mono ?_; rintro e w' ⟨rfl, rfl⟩)
      all_goals (go_ret2; exact ⟨by rw [HF.out]; rfl, HBW.out⟩)
theorem ParseUint_ok (s : ByteArray) (h1 : 1 ≤ s.size) (h2 : s.size ≤ 2) (n : Nat) (h : hexF 0 (L s) = some n) (w : World) :
    Calls Tryz.prog 82 #[.string s, .int .i64 16, .int .i64 8] w fun e w' => e = .returned (.tuple #[.int .u64 (n : Int), .nilIface]) ∧ Below w.heap.size w w' := by
  have HP := Lib.hid (PU_any s h1 h2)
  have HV : Hid (uintV (hexF 0 (L s)) = .tuple #[.int .u64 (n : Int), .nilIface]) := by unfold Hid; rw [h]; rfl
  clear h
  go_enter Tryz.func82, Tryz.ntmps82
  go_wp2_with fail
  refine (HP.out _).mono ?_
  rintro e w1 ⟨rfl, hb1⟩
  rw [HV.out]
  go_wp2_with fail
  go_ret2
  exact ⟨rfl, hb1⟩
theorem ParseUint_no (s : ByteArray) (h1 : 1 ≤ s.size) (h2 : s.size ≤ 2) (h : hexF 0 (L s) = none) (w : World) (he : Env w) :
    Calls Tryz.prog 82 #[.string s, .int .i64 16, .int .i64 8] w fun e w' => (∃ N, e = .returned (.tuple #[.int .u64 0, .iface 112 (.pointer (some ⟨N, 0, none⟩))])) ∧ Below w.heap.size w w' := by
  have HP := Lib.hid (PU_any s h1 h2)
  have HV : Hid (uintV (hexF 0 (L s)) = .tuple #[.int .u64 0, .iface 109 (.int .i64 2)]) := by unfold Hid; rw [h]; rfl
  clear h
  have HE := Lib.hid he; clear he
  go_enter Tryz.func82, Tryz.ntmps82
  go_wp2_with fail
  refine (HP.out _).mono ?_
  rintro e w1 ⟨rfl, hb1⟩
  rw [HV.out]
  obtain ⟨-, -, ev, hv, hev⟩ := HE.out.below hb1
  have HC := Lib.hid (Tryz.strconv_toError_syntax ⟨#[80, 97, 114, 115, 101, 85, 105, 110, 116]⟩ s 16 8 ev w1 (by omega) hv hev)
  clear hv hev
  go_wp2_with fail
  refine (HC.out).mono ?_
  rintro e w2 ⟨N, rfl, _, _, hb2⟩
  go_wp2_with fail
  go_ret2
  exact ⟨⟨N, rfl⟩, hb1.trans (hb2.mono hb1.size)⟩
end Go.Proofs.YtemiihkmpojpgaaGreatDoor

namespace Go.Proofs.YtemiihkmpojpgaaGreatDoor
open Go.RowKit Go.Shelf
set_option maxHeartbeats 1000000
set_option maxRecDepth 100000

theorem hexd1_lt : ∀ b : UInt8, ∀ d, hexd1 b = some d → d < 16 := by
  intro b d h
  unfold hexd1 at h
  repeat' split at h
  all_goals first | (simp only [Option.some.injEq] at h; omega) | cases h
theorem hexs_lt (l : List UInt8) (d : Nat) (h : hexs l = some d) : d < 256 := by
  unfold hexs at h
  split at h
  · have := hexd1_lt _ _ h; omega
  · split at h
    · split at h
      · rename_i _ _ h1 _ _ h2
        have := hexd1_lt _ _ h1
        have := hexd1_lt _ _ h2
        simp only [Option.some.injEq] at h
        omega
      · cases h
    · cases h
  · cases h
theorem escI_lt (l : List UInt8) : (escI l).1 < 256 ∧ (escI l).2 ≤ l.length := by
  rcases l with _ | ⟨b, t⟩
  · exact ⟨by decide, Nat.le_refl _⟩
  rw [escI_cons]
  have := b.toNat_lt
  split
  · exact ⟨by omega, by simp⟩
  split
  · exact ⟨by decide, by simp⟩
  split
  · exact ⟨by decide, by simp⟩
  split
  · exact ⟨by decide, by simp⟩
  split
  · unfold ues
    split
    · rename_i c hc
      split at hc
      · rename_i h1
        have h2 := h1.2
        rw [List.getElem?_eq_some_iff] at h2
        obtain ⟨h2, _⟩ := h2
        exact ⟨hexs_lt _ _ hc, by simp only [List.length_cons]; omega⟩
      · cases hc
    · split
      · rename_i c hc
        split at hc
        · rename_i h1
          have h2 := h1.2
          rw [List.getElem?_eq_some_iff] at h2
          obtain ⟨h2, _⟩ := h2
          exact ⟨hexs_lt _ _ hc, by simp only [List.length_cons]; omega⟩
        · cases hc
      · exact ⟨by decide, by simp⟩
  · exact ⟨by decide, by simp⟩

/-- One look of the loop: at n = 3 and n = 4. -/
def uesAt (s : ByteArray) (n : Nat) : Option Nat := if (L s)[1]? = some 123 ∧ (L s)[n]? = some 125 then hexs (((L s).drop 2).take (n - 2)) else none
theorem ues_eq (s : ByteArray) (t : List UInt8) (b : UInt8) (h : L s = b :: t) : ues t = match uesAt s 3 with
    | some c => (c, 4)
    | none => match uesAt s 4 with
      | some c => (c, 5)
      | none => (0, 0) := by
  unfold ues uesAt
  rw [h]
  simp
  rfl
theorem hexF_hexs (l : List UInt8) (h1 : 1 ≤ l.length) (h2 : l.length ≤ 2) : hexF 0 l = hexs l := by
  rcases l with _ | ⟨a, _ | ⟨b, _ | ⟨c, l⟩⟩⟩
  · simp at h1
  · exact hexF_one a
  · exact hexF_two a b
  · simp at h2
theorem ret2_esc {a b : Int} {p : Nat × Nat} (h1 : a = p.1) (h2 : b = p.2) : Ending.returned (.tuple #[.int .u8 a, .int .i64 b]) = Ending.returned (.tuple #[.int .u8 p.1, .int .i64 p.2]) := by rw [h1, h2]
theorem L_at (s : ByteArray) (i : Nat) : (L s)[i]? = if h : i < s.size then some s[i] else none := by
  split
  · rename_i h
    rw [List.getElem?_eq_getElem (by rw [L_len]; exact h), L_get s i h]
  · rename_i h
    rw [List.getElem?_eq_none (by rw [L_len]; omega)]
theorem escape_any (s : ByteArray) (w : World) (hs : s.size ≤ 1000000000) (he : Env w) :
    Calls Tryz.prog 64 #[.string s] w fun e w' => e = .returned (.tuple #[.int .u8 ((escI (L s)).1 : Int), .int .i64 ((escI (L s)).2 : Int)]) ∧ Below w.heap.size w w' := by
  by_cases h0 : s.size = 0
  · have e0 : s.toList.isEmpty = true := neE.2 h0
    have HF : Hid (escI (L s) = (0, 0)) := by
      have : L s = [] := List.length_eq_zero_iff.1 (by rw [L_len]; exact h0)
      unfold Hid; rw [this]; rfl
    clear h0 he
    go_enter Tryz.func64, Tryz.ntmps64
    go_wp2_with fail
    go_ret2
    exact ⟨ret2_esc (by rw [HF.out]; rfl) (by rw [HF.out]; rfl), Below.refl _ _⟩
  have hp : 0 < s.size := by omega
  have e0 : s.toList.isEmpty = false := by rw [Bool.eq_false_iff, ne_eq, neE]; exact h0
  have hd := L_drop s 0 hp
  rw [List.drop_zero] at hd
  have HX : Hid (escI (L s) = if s[0].toNat = 34 ∨ s[0].toNat = 92 then (s[0].toNat, 1) else if s[0].toNat = 110 then (10, 1) else if s[0].toNat = 116 then (9, 1) else if s[0].toNat = 114 then (13, 1) else if s[0].toNat = 117 then ues ((L s).drop 1) else (0, 0)) := by
    unfold Hid
    conv => lhs; rw [hd]
    rw [escI_cons]
  have HU := Lib.hid (ues_eq s _ _ hd)
  have HE := Lib.hid he
  clear h0 he hd
  by_cases c1 : s[0].toNat = 34
  · have e1 : ((s[0].toNat : Int) == 34) = true := beqB _ _ (by omega)
    have HF : Hid (escI (L s) = (s[0].toNat, 1)) := by unfold Hid; rw [HX.out, if_pos (.inl c1)]
    clear HX c1 HU
    go_enter Tryz.func64, Tryz.ntmps64
    go_wp2_with fail
    go_ret2
    exact ⟨ret2_esc (by rw [HF.out]) (by rw [HF.out]; rfl), Below.refl _ _⟩
  have e1 : ((s[0].toNat : Int) == 34) = false := beqNB _ _ (by omega)
  by_cases c2 : s[0].toNat = 92
  · have e2 : ((s[0].toNat : Int) == 92) = true := beqB _ _ (by omega)
    have HF : Hid (escI (L s) = (s[0].toNat, 1)) := by unfold Hid; rw [HX.out, if_pos (.inr c2)]
    clear HX c1 c2 HU
    go_enter Tryz.func64, Tryz.ntmps64
    go_wp2_with fail
    go_ret2
    exact ⟨ret2_esc (by rw [HF.out]) (by rw [HF.out]; rfl), Below.refl _ _⟩
  have e2 : ((s[0].toNat : Int) == 92) = false := beqNB _ _ (by omega)
  have HX2 : Hid (escI (L s) = if s[0].toNat = 110 then (10, 1) else if s[0].toNat = 116 then (9, 1) else if s[0].toNat = 114 then (13, 1) else if s[0].toNat = 117 then ues ((L s).drop 1) else (0, 0)) := by unfold Hid; rw [HX.out, if_neg (by omega)]
  clear HX c1 c2
  by_cases c3 : s[0].toNat = 110
  · have e3 : ((s[0].toNat : Int) == 110) = true := beqB _ _ (by omega)
    have HF : Hid (escI (L s) = (10, 1)) := by unfold Hid; rw [HX2.out, if_pos c3]
    clear HX2 HU c3
    go_enter Tryz.func64, Tryz.ntmps64
    go_wp2_with fail
    go_ret2
    exact ⟨ret2_esc (by rw [HF.out]; rfl) (by rw [HF.out]; rfl), Below.refl _ _⟩
  have e3 : ((s[0].toNat : Int) == 110) = false := beqNB _ _ (by omega)
  by_cases c4 : s[0].toNat = 116
  · have e4 : ((s[0].toNat : Int) == 116) = true := beqB _ _ (by omega)
    have HF : Hid (escI (L s) = (9, 1)) := by unfold Hid; rw [HX2.out, if_neg c3, if_pos c4]
    clear HX2 HU c3 c4
    go_enter Tryz.func64, Tryz.ntmps64
    go_wp2_with fail
    go_ret2
    exact ⟨ret2_esc (by rw [HF.out]; rfl) (by rw [HF.out]; rfl), Below.refl _ _⟩
  have e4 : ((s[0].toNat : Int) == 116) = false := beqNB _ _ (by omega)
  by_cases c5 : s[0].toNat = 114
  · have e5 : ((s[0].toNat : Int) == 114) = true := beqB _ _ (by omega)
    have HF : Hid (escI (L s) = (13, 1)) := by unfold Hid; rw [HX2.out, if_neg c3, if_neg c4, if_pos c5]
    clear HX2 HU c3 c4 c5
    go_enter Tryz.func64, Tryz.ntmps64
    go_wp2_with fail
    go_ret2
    exact ⟨ret2_esc (by rw [HF.out]; rfl) (by rw [HF.out]; rfl), Below.refl _ _⟩
  have e5 : ((s[0].toNat : Int) == 114) = false := beqNB _ _ (by omega)
  by_cases c6 : s[0].toNat = 117
  case neg =>
    have e6 : ((s[0].toNat : Int) == 117) = false := beqNB _ _ (by omega)
    have HF : Hid (escI (L s) = (0, 0)) := by unfold Hid; rw [HX2.out, if_neg c3, if_neg c4, if_neg c5, if_neg c6]
    clear HX2 HU c3 c4 c5 c6
    go_enter Tryz.func64, Tryz.ntmps64
    go_wp2_with fail
    go_ret2
    exact ⟨ret2_esc (by rw [HF.out]; rfl) (by rw [HF.out]; rfl), Below.refl _ _⟩
  have e6 : ((s[0].toNat : Int) == 117) = true := beqB _ _ (by omega)
  have HX3 : Hid (escI (L s) = match uesAt s 3 with
    | some c => (c, 4)
    | none => match uesAt s 4 with
      | some c => (c, 5)
      | none => (0, 0)) := by unfold Hid; rw [HX2.out, if_neg c3, if_neg c4, if_neg c5, if_pos c6, HU.out]
  clear HX2 HU c3 c4 c5 c6
  go_enter Tryz.func64, Tryz.ntmps64
  go_wp2_with fail
  go_loopw [4, 5, 6] (fun n _ _ wr => ∃ k : Nat, 3 ≤ k ∧ k ≤ 5 ∧ n = .int .i64 k ∧ Hid (∀ m, 3 ≤ m → m < k → uesAt s m = none) ∧ Below w.heap.size w wr) (fun n _ _ _ => 5 - (intOf n).toNat)
  case atStart => exact ⟨3, by omega, by omega, rfl, by unfold Hid; intro m h1 h2; omega, Below.refl _ _⟩
  case round =>
    obtain ⟨k, hk3, hk5, rfl, HN, hbw⟩ := hrel
    have hz := hbw.size
    by_cases hin : k ≤ 4 ∧ k < s.size
    case neg =>
      have hnone : ∀ m, 3 ≤ m → m ≤ 4 → uesAt s m = none := by
        intro m h1 h2
        by_cases h3 : m < k
        · exact HN.out m h1 h3
        · unfold uesAt
          rw [L_at s m, dif_neg (by omega)]
          simp
      have HF : Hid (escI (L s) = (0, 0)) := by unfold Hid; rw [HX3.out, hnone 3 (by omega) (by omega), hnone 4 (by omega) (by omega)]
      clear HX3 HN hnone
      go_wp2_with fail
      all_goals first
        | omega
        | (go_ret2; exact ⟨ret2_esc (by rw [HF.out]; rfl) (by rw [HF.out]; rfl), hbw⟩)
    obtain ⟨hk4, hks⟩ := hin
    have h1s : 1 < s.size := by omega
    have hnext : uesAt s k = none → Hid (∀ m, 3 ≤ m → m < k + 1 → uesAt s m = none) := by
      intro h m h1 h2
      by_cases h3 : m < k
      · exact HN.out m h1 h3
      · obtain rfl : m = k := by omega
        exact h
    have hhit : ∀ c, uesAt s k = some c → Hid (escI (L s) = (c, k + 1)) := by
      intro c h
      unfold Hid
      rw [HX3.out]
      rcases (by omega : k = 3 ∨ k = 4) with rfl | rfl
      · rw [h]
      · rw [HN.out 3 (by omega) (by omega), h]
    have HNX := Lib.hid hnext; clear hnext
    have HHT := Lib.hid hhit; clear hhit HN
    by_cases d1 : s[1].toNat = 123
    case neg =>
      have f1 : ((s[1].toNat : Int) == 123) = false := beqNB _ _ (by omega)
      have HN2 := HNX.out (by unfold uesAt; rw [L_at s 1, dif_pos h1s, if_neg]; rintro ⟨h, _⟩; simp only [Option.some.injEq] at h; rw [h] at d1; exact d1 (by decide))
      clear HNX HHT HX3 d1
      go_wp2_with fail
      exact ⟨⟨k + 1, by omega, by omega, rfl, HN2, hbw⟩, by simp [intOf]; omega⟩
    have f1 : ((s[1].toNat : Int) == 123) = true := beqB _ _ (by omega)
    by_cases d2 : s[k].toNat = 125
    case neg =>
      have f2 : ((s[k].toNat : Int) == 125) = false := beqNB _ _ (by omega)
      have HN2 := HNX.out (by unfold uesAt; rw [L_at s k, dif_pos hks, if_neg]; rintro ⟨_, h⟩; simp only [Option.some.injEq] at h; rw [h] at d2; exact d2 (by decide))
      clear HNX HHT HX3 d1 d2
      go_wp2_with fail
      exact ⟨⟨k + 1, by omega, by omega, rfl, HN2, hbw⟩, by simp [intOf]; omega⟩
    have f2 : ((s[k].toNat : Int) == 125) = true := beqB _ _ (by omega)
    have hLx : L (s.extract 2 k) = ((L s).drop 2).take (k - 2) := L_extract s 2 k
    have hxs : (s.extract 2 k).size = k - 2 := by rw [ByteArray.size_extract]; omega
    have hU : uesAt s k = hexF 0 (L (s.extract 2 k)) := by
      rw [hexF_hexs _ (by rw [L_len]; omega) (by rw [L_len]; omega), hLx]
      unfold uesAt
      rw [L_at s 1, dif_pos h1s, L_at s k, dif_pos hks, if_pos]
      exact ⟨congrArg some (by rw [u8_of d1]; rfl), congrArg some (by rw [u8_of d2]; rfl)⟩
    have hlt256 : ∀ c, hexF 0 (L (s.extract 2 k)) = some c → c < 256 := by
      intro c h
      rw [hexF_hexs _ (by rw [L_len]; omega) (by rw [L_len]; omega)] at h
      exact hexs_lt _ _ h
    rw [hU] at HNX HHT
    have HP1 := Lib.hid (ParseUint_ok (s.extract 2 k) (by omega) (by omega))
    have HP2 := Lib.hid (ParseUint_no (s.extract 2 k) (by omega) (by omega))
    have HEW := Lib.hid (HE.out.below hbw)
    clear HX3 d1 d2 hLx hxs hU
    generalize hexF 0 (L (s.extract 2 k)) = r at *
    cases r with
    | none =>
      have HN2 := HNX.out rfl
      have HP := Lib.hid (HP2.out rfl)
      clear HNX HHT hlt256 HP1 HP2
      go_wp2_with fail
      refine (HP.out _ HEW.out).mono ?_
      rintro e w1 ⟨⟨N, rfl⟩, hb1⟩
      go_wp2_with fail
      exact ⟨⟨k + 1, by omega, by omega, rfl, HN2, hbw.trans (hb1.mono hz)⟩, by simp [intOf]; omega⟩
    | some c =>
      have HF := HHT.out c rfl
      have h256 := hlt256 c rfl
      have HP := Lib.hid (HP1.out c rfl)
      clear HNX HHT hlt256 HP1 HP2
      go_wp2_with fail
      refine (HP.out _).mono ?_
      rintro e w1 ⟨rfl, hb1⟩
      go_wp2_with fail
      go_ret2
      refine ⟨ret2_esc ?_ ?_, hbw.trans (hb1.mono hz)⟩
      · rw [HF.out] <;> first | rfl | (show _ % _ = _; omega)
      · rw [HF.out]; rfl
theorem unqF_fuel : ∀ (f g : Nat) (l : List UInt8), l.length < f → l.length < g → unqF f l = unqF g l
  | 0, _, _, h, _ => absurd h (Nat.not_lt_zero _)
  | _ + 1, 0, _, _, h => absurd h (Nat.not_lt_zero _)
  | f + 1, g + 1, [], _, _ => rfl
  | f + 1, g + 1, b :: t, h1, h2 => by
    simp only [List.length_cons] at h1 h2
    rw [unqF_cons, unqF_cons, unqF_fuel f g t (by omega) (by omega), unqF_fuel f g (t.drop (escI t).2) (by rw [List.length_drop]; omega) (by rw [List.length_drop]; omega)]
def unqT (s : ByteArray) : Option (List UInt8 × Nat) := (unqF s.size ((L s).drop 1)).map fun r => (r.1, r.2 + 1)
def unqV (o : Option (List UInt8 × Nat)) : Value := match o with
  | some r => .tuple #[.string ⟨r.1.toArray⟩, .int .i64 (r.2 : Int)]
  | none => .tuple #[.string ⟨#[]⟩, .int .i64 0]
theorem unquote_any (s : ByteArray) (w : World) (h1 : 1 ≤ s.size) (hs : s.size ≤ 1000000000) (he : Env w) :
    Calls Tryz.prog 42 #[.string s] w fun e w' => e = .returned (unqV (unqT s)) ∧ Below w.heap.size w w' := by
  have HE := Lib.hid he; clear he
  have hst : unqT s = (unqF (s.size - 1 + 1) ((L s).drop 1)).map fun r => ([] ++ r.1, r.2 + 1) := by unfold unqT; rw [Nat.sub_add_cancel h1]; rfl
  have HST := Lib.hid hst; clear hst
  go_enter Tryz.func42, Tryz.ntmps42
  go_wp2_with fail
  go_loopw [4, 5, 6, 7] (fun o i _ _ wr => ∃ (k : Nat) (acc : List UInt8), 1 ≤ k ∧ k ≤ s.size ∧ i = .int .i64 k ∧ acc.length ≤ k ∧ wr.ownsRow w.heap.size 5 1 o acc.length (acc.map bv) ∧ Hid (unqT s = (unqF (s.size - k + 1) ((L s).drop k)).map fun r => (acc ++ r.1, r.2 + k)) ∧ Below w.heap.size w wr) (fun _ i _ _ _ => s.size - (intOf i).toNat)
  case atStart => exact ⟨1, [], Nat.le_refl _, h1, rfl, Nat.zero_le _, World.ownsRow_nil _ _ _ _, HST.out, Below.refl _ _⟩
  case round =>
    clear HST
    obtain ⟨k, acc, hk1, hk, rfl, hal, hown, HR, hbw⟩ := hrel
    have hz := hbw.size
    by_cases hlt : k < s.size
    case neg =>
      have HF : Hid (unqV (unqT s) = .tuple #[.string ⟨#[]⟩, .int .i64 0]) := by
        unfold Hid
        rw [HR.out, L_drop_nil s k (by omega)]
        rfl
      clear HR
      go_wp2_with fail
      go_ret2
      exact ⟨by rw [HF.out]; rfl, hbw⟩
    have hd := L_drop s k hlt
    have HD : Hid (unqT s = (if s[k].toNat = 34 then some ([], 1) else if s[k].toNat = 92 then (if (escI ((L s).drop (k + 1))).2 = 0 then none else (unqF (s.size - k) (((L s).drop (k + 1)).drop (escI ((L s).drop (k + 1))).2)).map fun r => (UInt8.ofNat (escI ((L s).drop (k + 1))).1 :: r.1, r.2 + 1 + (escI ((L s).drop (k + 1))).2)) else (unqF (s.size - k) ((L s).drop (k + 1))).map fun r => (s[k] :: r.1, r.2 + 1)).map fun r => (acc ++ r.1, r.2 + k)) := by
      unfold Hid
      rw [HR.out, hd, unqF_cons]
    clear HR hd
    by_cases c1 : s[k].toNat = 34
    · have e1 : ((s[k].toNat : Int) == 34) = true := beqB _ _ (by omega)
      have HF : Hid (unqT s = some (acc, k + 1)) := by
        unfold Hid
        rw [HD.out, if_pos c1]
        simp [Nat.add_comm]
      have hcv := conv_own bytesT hown
      clear HD c1
      go_wp2_with fail
      go_ret2
      exact ⟨by rw [HF.out]; rfl, hbw⟩
    have e1 : ((s[k].toNat : Int) == 34) = false := beqNB _ _ (by omega)
    by_cases c2 : s[k].toNat = 92
    · have e2 : ((s[k].toNat : Int) == 92) = true := beqB _ _ (by omega)
      have HD2 : Hid (unqT s = (if (escI ((L s).drop (k + 1))).2 = 0 then none else (unqF (s.size - k) (((L s).drop (k + 1)).drop (escI ((L s).drop (k + 1))).2)).map fun r => (UInt8.ofNat (escI ((L s).drop (k + 1))).1 :: r.1, r.2 + 1 + (escI ((L s).drop (k + 1))).2)).map fun r => (acc ++ r.1, r.2 + k)) := by unfold Hid; rw [HD.out, if_neg c1, if_pos c2]
      have hLx : L (s.extract (k + 1) s.size) = (L s).drop (k + 1) := L_from s (k + 1)
      have hxs : (s.extract (k + 1) s.size).size ≤ s.size := by rw [ByteArray.size_extract]; omega
      have hlt2 := escI_lt ((L s).drop (k + 1))
      rw [List.length_drop, L_len] at hlt2
      have HC := Lib.hid (fun w' => escape_any (s.extract (k + 1) s.size) w' (by omega))
      rw [hLx] at HC
      have HEW := Lib.hid (HE.out.below hbw)
      clear HD c1 c2 hLx
      generalize hcc : (escI ((L s).drop (k + 1))).1 = c at *
      generalize hnn : (escI ((L s).drop (k + 1))).2 = n at *
      clear hcc hnn
      obtain ⟨hc256, hnl⟩ := hlt2
      go_wp2_with fail
      refine (HC.out _ HEW.out).mono ?_
      rintro e w1 ⟨rfl, hb1⟩
      have hown1 := own_below hown hb1
      have hbw1 := hbw.trans (hb1.mono hz)
      have hz1 := hbw1.size
      clear hown hb1 HC
      by_cases hn : n = 0
      · have hn0 : ((n : Int) == 0) = true := beq_iff_eq.2 (by omega)
        have HF : Hid (unqV (unqT s) = .tuple #[.string ⟨#[]⟩, .int .i64 0]) := by unfold Hid; rw [HD2.out, if_pos hn]; rfl
        clear HD2 hn
        go_wp2_with fail
        go_ret2
        exact ⟨by rw [HF.out]; rfl, hbw1⟩
      · have hn0 : ((n : Int) == 0) = false := beq_eq_false_iff_ne.2 (by omega)
        have HF : Hid (unqT s = (unqF (s.size - (k + 1 + n) + 1) ((L s).drop (k + 1 + n))).map fun r => ((acc ++ [UInt8.ofNat c]) ++ r.1, r.2 + (k + 1 + n))) := by
          unfold Hid
          rw [HD2.out, if_neg hn, List.drop_drop, unqF_fuel (s.size - k) (s.size - (k + 1 + n) + 1) _ (by rw [List.length_drop, L_len]; omega) (by rw [List.length_drop, L_len]; omega), Option.map_map]
          congr 1
          funext r
          simp only [Function.comp, List.append_assoc, List.cons_append, List.nil_append, Prod.mk.injEq, true_and]
          omega
        have hcn : (UInt8.ofNat c).toNat = c := by simp; omega
        have hcv : (c : Int) = ((UInt8.ofNat c).toNat : Int) := by rw [hcn]
        have HCN := Lib.hid hcv
        clear HD2 hn hcn hcv
        go_wp2_with (at_builtin; refine wp_pushM bytesT rfl _ _ rfl hown1 [UInt8.ofNat c] [.int .u8 (c : Int)] (by rw [HCN.out]; rfl) 1 rfl rfl _ rfl rfl (by omega) hz1 ?_; intro v' w2 hown2 hg2 hb2)
        exact ⟨⟨k + 1 + n, acc ++ [UInt8.ofNat c], by omega, by omega, by congr 1; omega, by simp; omega, by rw [List.length_append]; exact hown2, HF, hbw1.trans hb2⟩, by simp [intOf]; omega⟩
    · have e2 : ((s[k].toNat : Int) == 92) = false := beqNB _ _ (by omega)
      have HF : Hid (unqT s = (unqF (s.size - (k + 1) + 1) ((L s).drop (k + 1))).map fun r => ((acc ++ [s[k]]) ++ r.1, r.2 + (k + 1))) := by
        unfold Hid
        rw [HD.out, if_neg c1, if_neg c2, show s.size - (k + 1) + 1 = s.size - k by omega, Option.map_map]
        congr 1
        funext r
        simp only [Function.comp, List.append_assoc, List.cons_append, List.nil_append, Prod.mk.injEq, true_and]
        omega
      clear HD c1 c2
      go_wp2_with (at_builtin; refine wp_pushM bytesT rfl _ _ rfl hown [s[k]] [.int .u8 (s[k].toNat : Int)] rfl 1 rfl rfl _ rfl rfl (by omega) hz ?_; intro v' w2 hown2 hg2 hb2)
      exact ⟨⟨k + 1, acc ++ [s[k]], by omega, by omega, rfl, by simp; omega, by rw [List.length_append]; exact hown2, HF, hbw.trans hb2⟩, by simp [intOf]; omega⟩
end Go.Proofs.YtemiihkmpojpgaaGreatDoor

namespace Go.Proofs.YtemiihkmpojpgaaGreatDoor
open Go.RowKit Go.Shelf
set_option maxHeartbeats 1000000
set_option maxRecDepth 100000

def digZ (n : Nat) : List UInt8 := if n = 0 then [] else Lib.decDigits n
theorem digZ_step (n : Nat) (h : 0 < n) : digZ n = digZ (n / 10) ++ [UInt8.ofNat (48 + n % 10)] := by
  unfold digZ
  rw [if_neg (by omega), Lib.decDigits]
  split
  · rename_i h10
    rw [if_pos (by omega), Nat.mod_eq_of_lt h10]
    rfl
  · rename_i h10
    rw [if_neg (by omega)]
theorem digZ_len (n : Nat) (h : n ≤ 65536) : (digZ n).length ≤ 5 := by
  unfold digZ
  split
  · simp
  · exact decDigits_len n h
theorem FromInt_any (n : Nat) (hn : n ≤ 65536) (w : World) :
    Calls Tryz.prog 89 #[.int .i64 n] w fun e w' => e = .returned (.string ⟨(digZ n).toArray⟩) ∧ Below w.heap.size w w' := by
  have hnl := digZ_len n hn
  go_enter Tryz.func89, Tryz.ntmps89
  go_wp2_with fail
  go_loopw [0, 3] (fun m t wr => ∃ (k : Nat) (acc : ByteArray), k ≤ 65536 ∧ m = .int .i64 k ∧ t = .string acc ∧ Hid (digZ n = digZ k ++ L acc) ∧ Below w.heap.size w wr) (fun m _ _ => (intOf m).toNat)
  case atStart => exact ⟨n, ⟨#[]⟩, hn, rfl, rfl, by unfold Hid; simp [L], Below.refl _ _⟩
  case round =>
    obtain ⟨k, acc, hk, rfl, rfl, HD, hbw⟩ := hrel
    have hz := hbw.size
    by_cases h0 : k = 0
    · have HF : Hid (digZ n = L acc) := by unfold Hid; rw [HD.out, h0]; rfl
      have hk0 : ¬ (0 : Int) < k := by omega
      clear HD h0
      go_wp2_with fail
      go_ret
      exact ⟨by rw [HF.out]; rfl, hbw⟩
    · have hk0 : (0 : Int) < k := by omega
      have has : acc.size ≤ 5 := by
        have h := congrArg List.length HD.out
        rw [List.length_append, L_len] at h
        omega
      have hcv := conv1 wr (48 + (k : Int) % 10)
      have hbt : (48 + (k : Int) % 10).toNat = 48 + k % 10 := by omega
      have HF : Hid (digZ n = digZ (k / 10) ++ L (⟨#[48 + UInt8.ofNat (k % 10)]⟩ ++ acc)) := by
        unfold Hid
        rw [HD.out, digZ_step k (by omega), L_append]
        simp [L]
      have m0 : 0 ≤ (k : Int) % 10 := by omega
      have m1 : (k : Int) % 10 < 10 := by omega
      have hkd : ((k : Int) / 10) = ((k / 10 : Nat) : Int) := by omega
      have HKD := Lib.hid hkd
      clear HD h0 hbt hkd
      go_wp2_with fail
      refine ⟨⟨k / 10, _, by omega, by rw [HKD.out], rfl, HF, hbw.alloc hz _⟩, by simp [intOf]; omega⟩
theorem Number_any (n : Int) (h0 : 0 ≤ n) (h1 : n ≤ 65536) (w : World) :
    Calls Tryz.prog 86 #[.int .i64 n] w fun e w' => e = .returned (.string ⟨(Lib.itoa n).toArray⟩) ∧ Below w.heap.size w w' := by
  obtain ⟨k, rfl⟩ : ∃ k : Nat, n = (k : Int) := ⟨n.toNat, by omega⟩
  have hi : Lib.itoa (k : Int) = Lib.decDigits k := by unfold Lib.itoa; rw [if_neg (by omega)]; simp
  by_cases hk : k = 0
  · have HF : Hid (Lib.itoa (k : Int) = [48]) := by unfold Hid; rw [hi, hk, Lib.decDigits]; rfl
    have e0 : ((k : Int) == 0) = true := by rw [beq_iff_eq]; omega
    clear hi hk
    go_enter Tryz.func86, Tryz.ntmps86
    go_wp2_with fail
    go_ret
    exact ⟨by rw [HF.out]; rfl, Below.refl _ _⟩
  · have HF : Hid (Lib.itoa (k : Int) = digZ k) := by unfold Hid digZ; rw [hi, if_neg hk]
    have e0 : ((k : Int) == 0) = false := by rw [beq_eq_false_iff_ne]; omega
    have HFI := Lib.hid (FromInt_any k (by omega) w)
    clear hi hk
    go_enter Tryz.func86, Tryz.ntmps86
    go_wp2_with fail
    refine HFI.out.mono ?_
    rintro e w1 ⟨rfl, hb⟩
    go_wp2_with fail
    go_ret
    exact ⟨by rw [HF.out]; rfl, hb⟩
theorem sub_hex : ∀ n : Fin 16, (⟨#[48, 49, 50, 51, 52, 53, 54, 55, 56, 57, 97, 98, 99, 100, 101, 102]⟩ : ByteArray).extract n.val (n.val + 1) = ⟨#[hx n.val]⟩ := by decide +kernel
theorem sign_any (b : UInt8) (w : World) :
    Calls Tryz.prog 88 #[.int .u8 b.toNat] w fun e w' => e = .returned (.string ⟨(sgn b).toArray⟩) ∧ Below w.heap.size w w' := by
  have hb255 : b.toNat < 256 := b.toNat_lt
  by_cases c1 : b.toNat = 34
  · have e1 : ((b.toNat : Int) == 34) = true := beqB _ _ (by omega)
    have HF : Hid (sgn b = [92, 34]) := by unfold Hid sgn; rw [if_pos c1]
    clear c1 
    go_enter Tryz.func88, Tryz.ntmps88
    go_wp2_with fail
    go_ret
    exact ⟨by rw [HF.out]; rfl, Below.refl _ _⟩
  have e1 : ((b.toNat : Int) == 34) = false := beqNB _ _ (by omega)
  by_cases c2 : b.toNat = 92
  · have e2 : ((b.toNat : Int) == 92) = true := beqB _ _ (by omega)
    have HF : Hid (sgn b = [92, 92]) := by unfold Hid sgn; rw [if_neg c1, if_pos c2]
    clear c2 c1
    go_enter Tryz.func88, Tryz.ntmps88
    go_wp2_with fail
    go_ret
    exact ⟨by rw [HF.out]; rfl, Below.refl _ _⟩
  have e2 : ((b.toNat : Int) == 92) = false := beqNB _ _ (by omega)
  by_cases c3 : b.toNat = 10
  · have e3 : ((b.toNat : Int) == 10) = true := beqB _ _ (by omega)
    have HF : Hid (sgn b = [92, 110]) := by unfold Hid sgn; rw [if_neg c1, if_neg c2, if_pos c3]
    clear c3 c1 c2
    go_enter Tryz.func88, Tryz.ntmps88
    go_wp2_with fail
    go_ret
    exact ⟨by rw [HF.out]; rfl, Below.refl _ _⟩
  have e3 : ((b.toNat : Int) == 10) = false := beqNB _ _ (by omega)
  by_cases c4 : b.toNat = 9
  · have e4 : ((b.toNat : Int) == 9) = true := beqB _ _ (by omega)
    have HF : Hid (sgn b = [92, 116]) := by unfold Hid sgn; rw [if_neg c1, if_neg c2, if_neg c3, if_pos c4]
    clear c4 c1 c2 c3
    go_enter Tryz.func88, Tryz.ntmps88
    go_wp2_with fail
    go_ret
    exact ⟨by rw [HF.out]; rfl, Below.refl _ _⟩
  have e4 : ((b.toNat : Int) == 9) = false := beqNB _ _ (by omega)
  by_cases c5 : b.toNat = 13
  · have e5 : ((b.toNat : Int) == 13) = true := beqB _ _ (by omega)
    have HF : Hid (sgn b = [92, 114]) := by unfold Hid sgn; rw [if_neg c1, if_neg c2, if_neg c3, if_neg c4, if_pos c5]
    clear c5 c1 c2 c3 c4
    go_enter Tryz.func88, Tryz.ntmps88
    go_wp2_with fail
    go_ret
    exact ⟨by rw [HF.out]; rfl, Below.refl _ _⟩
  have e5 : ((b.toNat : Int) == 13) = false := beqNB _ _ (by omega)
  by_cases c6 : b.toNat = 127
  · have e6 : ((b.toNat : Int) == 127) = true := beqB _ _ (by omega)
    have HF : Hid (sgn b = [92, 117, 123, 55, 102, 125]) := by rw [u8_of c6]; rfl
    clear c1 c2 c3 c4 c5 c6
    go_enter Tryz.func88, Tryz.ntmps88
    go_wp2_with fail
    go_ret
    exact ⟨by rw [HF.out]; rfl, Below.refl _ _⟩
  have e6 : ((b.toNat : Int) == 127) = false := beqNB _ _ (by omega)
  by_cases c7 : 32 ≤ b.toNat
  · have e7 : (32 : Int) ≤ b.toNat := by omega
    have HF : Hid (sgn b = [b]) := by unfold Hid sgn; rw [if_neg c1, if_neg c2, if_neg c3, if_neg c4, if_neg c5, if_neg (by omega)]
    have hcv := conv1 w (b.toNat : Int)
    have hbb : UInt8.ofNat ((b.toNat : Int)).toNat = b := by simp
    rw [hbb] at hcv
    clear c1 c2 c3 c4 c5 c6 c7 hbb
    go_enter Tryz.func88, Tryz.ntmps88
    go_wp2_with fail
    go_ret
    exact ⟨by rw [HF.out]; rfl, (Below.refl _ w).alloc (Nat.le_refl _) _⟩
  have e7 : ¬ (32 : Int) ≤ b.toNat := by omega
  have HF : Hid (sgn b = 92 :: 117 :: 123 :: (hexT b.toNat ++ [125])) := by unfold Hid sgn; rw [if_neg c1, if_neg c2, if_neg c3, if_neg c4, if_neg c5, if_pos (by omega)]
  by_cases c8 : b.toNat < 16
  · have e8 : (b.toNat : Int) < 16 := by omega
    have HX : Hid ((⟨#[48, 49, 50, 51, 52, 53, 54, 55, 56, 57, 97, 98, 99, 100, 101, 102]⟩ : ByteArray).extract b.toNat (b.toNat + 1) = ⟨#[hx b.toNat]⟩) := sub_hex ⟨b.toNat, c8⟩
    have HT : Hid (hexT b.toNat = [hx b.toNat]) := by unfold Hid hexT; rw [if_pos c8]
    clear c1 c2 c3 c4 c5 c6 c7 c8
    go_enter Tryz.func88, Tryz.ntmps88
    go_wp2_with fail
    go_ret
    refine ⟨?_, Below.refl _ _⟩
    rw [HF.out, HT.out]
    show Ending.returned (.string (⟨#[92, 117, 123]⟩ ++ ByteArray.extract _ _ _ ++ ⟨#[125]⟩)) = _
    rw [HX.out]
    exact congrArg (fun x => Ending.returned (.string x)) (L_inj (by rw [L_append, L_append]; rfl))
  · have e8 : ¬ (b.toNat : Int) < 16 := by omega
    have HX : Hid ((⟨#[48, 49, 50, 51, 52, 53, 54, 55, 56, 57, 97, 98, 99, 100, 101, 102]⟩ : ByteArray).extract (b.toNat - 16) (b.toNat - 16 + 1) = ⟨#[hx (b.toNat - 16)]⟩) := sub_hex ⟨b.toNat - 16, by omega⟩
    have HT : Hid (hexT b.toNat = [49, hx (b.toNat - 16)]) := by
      unfold Hid hexT
      rw [if_neg c8, show b.toNat / 16 = 1 by omega, show b.toNat % 16 = b.toNat - 16 by omega]
      rfl
    have s1 : (0 : Int) ≤ (b.toNat : Int) - 16 := by omega
    clear c1 c2 c3 c4 c5 c6 c7
    go_enter Tryz.func88, Tryz.ntmps88
    go_wp2_with fail
    go_ret
    refine ⟨?_, Below.refl _ _⟩
    rw [HF.out, HT.out]
    show Ending.returned (.string (⟨#[92, 117, 123, 49]⟩ ++ ByteArray.extract _ _ _ ++ ⟨#[125]⟩)) = _
    rw [show b.toNat - 15 = b.toNat - 16 + 1 by omega, HX.out]
    exact congrArg (fun x => Ending.returned (.string x)) (L_inj (by rw [L_append, L_append]; rfl))
end Go.Proofs.YtemiihkmpojpgaaGreatDoor

namespace Go.Proofs.YtemiihkmpojpgaaGreatDoor
open Go.RowKit Go.Shelf
set_option maxHeartbeats 1000000
set_option maxRecDepth 100000

theorem one8_any (s : St) (hs : okSt s = true) (w : World) :
    Calls Tryz.prog 71 #[stpV s] w fun e w' => e = .returned (.string ⟨(stepT s).toArray⟩) ∧ Below w.heap.size w w' := by
  obtain ⟨b, key, ix⟩ := s
  simp only [stpV]
  have hbx : ∀ o, Below w.heap.size w (w.alloc o) := fun o => (Below.refl _ w).alloc (Nat.le_refl _) o
  have HBX := Lib.hid hbx
  clear hbx
  cases b with
  | true =>
    rw [okSt_true, decide_eq_true_eq] at hs
    obtain ⟨_, h0, h1⟩ := hs
    have hle := itoa_len ix h0 h1
    obtain ⟨H, hH⟩ : ∃ H : ByteArray, H = ⟨(Lib.itoa ix).toArray⟩ := ⟨_, rfl⟩
    have hHs : H.size ≤ 5 := by rw [← L_len, hH]; exact hle
    have HN := Lib.hid (Number_any ix h0 h1)
    rw [← hH] at HN
    have HF : Hid ((⟨(stepT (true, key, ix)).toArray⟩ : ByteArray) = ⟨#[91]⟩ ++ H ++ ⟨#[93]⟩) := by
      unfold Hid
      apply L_inj
      rw [L_append, L_append, hH]
      rfl
    have h1' : Hid (ix ≤ 65536) := h1
    clear hH hle h1
    go_enter Tryz.func71, Tryz.ntmps71
    go_wp2_with fail
    refine (HN.out _).mono ?_
    rintro e w1 ⟨rfl, hb1⟩
    have hbw := (HBX.out _).trans (hb1.mono (HBX.out _).size)
    clear hb1
    go_wp2_with fail
    go_ret
    exact ⟨by rw [HF.out]; rfl, hbw⟩
  | false =>
    rw [okSt_false, decide_eq_true_eq] at hs
    obtain ⟨rfl, hks, _⟩ := hs
    have HNM := Lib.hid (fun w' => Name8_any key w' (by omega))
    cases hn : isName (L key)
    case true =>
      rw [hn] at HNM
      have HF : Hid ((⟨(stepT (false, key, 0)).toArray⟩ : ByteArray) = ⟨#[46]⟩ ++ key) := by
        unfold Hid
        apply L_inj
        rw [L_append]
        show stepT (false, key, 0) = _
        unfold stepT
        simp only [Bool.false_eq_true, if_false, hn, if_true]
        rfl
      clear hn
      go_enter Tryz.func71, Tryz.ntmps71
      go_wp2_with fail
      refine (HNM.out _).mono ?_
      rintro e w1 ⟨rfl, rfl⟩
      go_wp2_with fail
      go_ret
      exact ⟨by rw [HF.out]; rfl, HBX.out _⟩
    rw [hn] at HNM
    have HF : Hid (stepT (false, key, 0) = 46 :: 34 :: ((L key).flatMap sgn ++ [34])) := by
      unfold Hid stepT
      simp [hn]
    clear hn
    go_enter Tryz.func71, Tryz.ntmps71
    go_wp2_with fail
    refine (HNM.out _).mono ?_
    rintro e w1 ⟨rfl, rfl⟩
    have hcell := cell_of_alloc w #[.bool false, .string key, .int .i64 0] 81 1
    have hbw0 := HBX.out (.cells #[.bool false, .string key, .int .i64 0] 81)
    have hlt0 : w.heap.size < (w.alloc (.cells #[.bool false, .string key, .int .i64 0] 81)).heap.size := by simp
    simp only [show (#[Value.bool false, .string key, .int .i64 0] : Array Value)[1]? = some (.string key) from rfl] at hcell
    have HCL := Lib.hid hcell
    have HB0 := Lib.hid hbw0
    have HLT := Lib.hid hlt0
    clear hcell hbw0 hlt0
    go_wp2_with fail
    go_loopw [3, 4] (fun t i wr => ∃ (k : Nat) (acc : ByteArray), k ≤ key.size ∧ i = .int .i64 k ∧ t = .string acc ∧ acc.size ≤ 6 * k + 2 ∧ wr.cell? ⟨w.heap.size, 1, none⟩ = some (.string key) ∧ w.heap.size < wr.heap.size ∧ Hid (L acc = 46 :: 34 :: ((L key).take k).flatMap sgn) ∧ Below w.heap.size w wr) (fun _ i _ => key.size - (intOf i).toNat)
    case atStart => exact ⟨0, ⟨#[46, 34]⟩, Nat.zero_le _, rfl, rfl, by show 2 ≤ _; omega, HCL.out, HLT.out, rfl, HB0.out⟩
    case round =>
      clear HCL HB0 HLT
      obtain ⟨k, acc, hk, rfl, rfl, hal, hc, hlt, HA, hbw⟩ := hrel
      have hz := hbw.size
      by_cases hkk : k < key.size
      case neg =>
        obtain rfl : k = key.size := by omega
        have HX : Hid ((⟨(stepT (false, key, 0)).toArray⟩ : ByteArray) = acc ++ ⟨#[34]⟩) := by
          unfold Hid
          apply L_inj
          rw [L_append, HA.out, List.take_of_length_le (by rw [L_len]; exact Nat.le_refl _)]
          show stepT (false, key, 0) = _
          rw [HF.out]
          rfl
        clear HA HF
        go_wp2_with fail
        go_ret
        exact ⟨by rw [HX.out]; rfl, hbw⟩
      have HSG := Lib.hid (sign_any key[k] wr)
      obtain ⟨T, hT⟩ : ∃ T : ByteArray, T = ⟨(sgn key[k]).toArray⟩ := ⟨_, rfl⟩
      have hTs : T.size ≤ 6 := by rw [← L_len, hT]; exact sgn_len _
      have hLA : L (acc ++ T) = 46 :: 34 :: ((L key).take (k + 1)).flatMap sgn := by
        rw [L_append, HA.out, hT, take_snoc key k hkk]
        simp [L]
      have HLA := Lib.hid hLA
      rw [← hT] at HSG
      clear hT hLA HA
      go_wp2_with fail
      refine HSG.out.mono ?_
      rintro e w2 ⟨rfl, hb2⟩
      have hc2 : w2.cell? ⟨w.heap.size, 1, none⟩ = some (.string key) := by rw [hb2.cell (p := ⟨w.heap.size, 1, none⟩) hlt]; exact hc
      have hbw2 := hbw.trans (hb2.mono hz)
      have hlt2 : w.heap.size < w2.heap.size := Nat.lt_of_lt_of_le hlt hb2.size
      clear hc hb2 HSG
      go_wp2_with fail
      exact ⟨⟨k + 1, acc ++ T, by omega, rfl, rfl, by rw [ByteArray.size_append]; omega, hc2, hlt2, HLA, hbw2⟩, by simp [intOf]; omega⟩
theorem stepT_len (s : St) (hs : okSt s = true) : (stepT s).length ≤ 7000 := by
  obtain ⟨b, key, ix⟩ := s
  cases b with
  | true =>
    rw [okSt_true, decide_eq_true_eq] at hs
    have := itoa_len ix hs.2.1 hs.2.2
    show (91 :: (Lib.itoa ix ++ [93])).length ≤ _
    simp only [List.length_cons, List.length_append, List.length_nil]
    omega
  | false =>
    rw [okSt_false, decide_eq_true_eq] at hs
    have h6 := flat_len6 (L key)
    rw [L_len] at h6
    unfold stepT
    simp only [Bool.false_eq_true, if_false]
    split
    · simp only [List.length_cons, L_len]; omega
    · simp only [List.length_cons, List.length_append, List.length_nil]; omega
theorem RText_any (v : Value) (l : List St) (w : World) (h : Rd w v l) (hv : validP l = true) :
    Calls Tryz.prog 49 #[v] w fun e w' => e = .returned (.string ⟨(textL l).toArray⟩) ∧ Below w.heap.size w w' := by
  obtain ⟨a, cap, rfl, hcap, hmax, _, hl⟩ := h
  obtain ⟨hok, h48⟩ := all_ok hv
  clear hv
  by_cases h0 : l = []
  · subst h0
    clear hl
    go_enter Tryz.func49, Tryz.ntmps49
    go_wp2_with fail
    go_ret
    exact ⟨rfl, Below.refl _ _⟩
  have hlen : 0 < l.length := List.length_pos_iff.2 h0
  obtain ⟨g, o, rfl, hg, hat⟩ := hl h0
  obtain ⟨c0, c1, c2⟩ := hat 0 hlen
  simp only [Nat.zero_mul, Nat.add_zero] at c0
  clear c1 c2 hl
  have HT : Hid (textL l = preT l ++ l.flatMap stepT) := by unfold Hid textL; rw [if_neg (by simp [h0])]
  have HP : Hid (preT l = if l[0].1 then [46] else []) := by
    unfold Hid
    cases l with
    | nil => exact absurd rfl h0
    | cons s p => rfl
  have HA := Lib.hid hat; clear hat
  have HOK := Lib.hid hok; clear hok
  have hne0 : ((l.length : Int) == 0) = false := by rw [beq_eq_false_iff_ne]; omega
  clear h0
  obtain ⟨a0, ha0⟩ : ∃ a0 : ByteArray, a0 = if l[0].1 then ⟨#[46]⟩ else ⟨#[]⟩ := ⟨_, rfl⟩
  have HI : Hid (L a0 = preT l ∧ a0.size ≤ 1) := by
    unfold Hid
    rw [HP.out, ha0]
    cases l[0].1
    · exact ⟨rfl, Nat.zero_le _⟩
    · exact ⟨rfl, Nat.le_refl _⟩
  clear HP
  cases hb : l[0].1
  all_goals
    rw [hb] at c0 ha0
    simp only [if_true, Bool.false_eq_true, if_false] at ha0
    subst ha0
    clear hb
    go_enter Tryz.func49, Tryz.ntmps49
    go_wp2_with fail
    go_loopw [3, 4] (fun t i wr => ∃ (k : Nat) (acc : ByteArray), k ≤ l.length ∧ i = .int .i64 k ∧ t = .string acc ∧ acc.size ≤ 7000 * k + 1 ∧ Hid (L acc = preT l ++ (l.take k).flatMap stepT) ∧ Below w.heap.size w wr) (fun _ i _ => l.length - (intOf i).toNat)
    case atStart => exact ⟨0, _, Nat.zero_le _, rfl, rfl, by have := HI.out.2; omega, by unfold Hid; rw [HI.out.1]; simp, Below.refl _ _⟩
    case round =>
      clear HI c0
      obtain ⟨k, acc, hk, rfl, rfl, hal, HX, hbw⟩ := hrel
      have hz := hbw.size
      by_cases hlt : k < l.length
      case neg =>
        obtain rfl : k = l.length := by omega
        have HF : Hid ((⟨(textL l).toArray⟩ : ByteArray) = acc) := by
          unfold Hid
          apply L_inj
          rw [HX.out, List.take_of_length_le (Nat.le_refl _)]
          exact HT.out
        clear HX HT
        go_wp2_with fail
        go_ret
        exact ⟨by rw [HF.out]; rfl, hbw⟩
      obtain ⟨d0, d1, d2⟩ := HA.out k hlt
      have hs := okSt_at HOK.out k hlt
      have hsl := stepT_len _ hs
      have HON := Lib.hid (one8_any l[k] hs wr)
      obtain ⟨T, hT⟩ : ∃ T : ByteArray, T = ⟨(stepT l[k]).toArray⟩ := ⟨_, rfl⟩
      have hTs : T.size ≤ 7000 := by rw [← L_len, hT]; exact hsl
      have HX2 : Hid (L (acc ++ T) = preT l ++ (l.take (k + 1)).flatMap stepT) := by
        unfold Hid
        rw [L_append, HX.out, hT, text_snoc l k hlt, List.append_assoc]
        rfl
      rw [← hT] at HON
      rw [← hbw.cell (p := ⟨g, o + k * 3, none⟩) hg] at d0
      rw [← hbw.cell (p := ⟨g, o + k * 3 + 1, none⟩) hg] at d1
      rw [← hbw.cell (p := ⟨g, o + k * 3 + 2, none⟩) hg] at d2
      clear hs hsl hT HX
      generalize l[k] = s at *
      obtain ⟨b, key, ix⟩ := s
      simp only [stpV] at d0 d1 d2 HON
      go_wp2_with fail
      refine HON.out.mono ?_
      rintro e w2 ⟨rfl, hb2⟩
      have hbw2 := hbw.trans (hb2.mono hz)
      clear hb2 HON d0 d1 d2
      go_wp2_with fail
      exact ⟨⟨k + 1, acc ++ T, by omega, rfl, rfl, by rw [ByteArray.size_append]; omega, HX2, hbw2⟩, by simp [intOf]; omega⟩
end Go.Proofs.YtemiihkmpojpgaaGreatDoor
