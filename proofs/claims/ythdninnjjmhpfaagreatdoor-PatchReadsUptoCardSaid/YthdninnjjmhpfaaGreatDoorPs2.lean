/- path.quote walked. Conditions: keys of at most 10^9 bytes; the tables of strconv and math/bits read as laid. -/
import Derived.Test.YthdninnjjmhpfaaGreatDoorPs1
namespace Go.Proofs.YthdninnjjmhpfaaGreatDoor
open Go.RowKit
set_option maxHeartbeats 1000000
set_option maxRecDepth 100000

/-- 'v = append(v, b, c, ..)': a row of bytes, the bytes just laid in a new block. -/
theorem wp_pushM {P : Program} {w1 : World} {ops : Array Oper} {rest : List Oper} {o : Oper} {a : Act} {Q : Exit → Act → World → Prop} {t u e : TypeId} {base n : Nat} {v : Value} {bs : List UInt8}
    (he : BytesT P t u e) (hgd : o.guard = none) (s x : Operand) (ho : o.op = .call { callee := .builtin .append, args := #[s, x], argTypes := #[t, t] })
    (hown : w1.ownsRow base e 1 v n (bs.map bv)) (cs : List UInt8) (us : List Value) (hus : us = cs.map bv) (m : Nat) (hm : cs.length = m) (hs : a.eval s = v) (g : Nat) (hg : w1.heap.size = g) (hx : a.eval x = .slice (some ⟨g, 0, none⟩) m m)
    (hn : n + m < 100000000000) (hbase : base ≤ w1.heap.size)
    (h : ∀ v' w', w'.ownsRow base e 1 v' (n + m) ((bs ++ cs).map bv) → w1.grownBy w' v.ownBlock → Below base w1 w' → wpList P ops Q rest (a.put o.dst v') w') :
    wpList P ops Q (o :: rest) a (w1.alloc (.cells us.toArray e)) := by
  subst hg hus hm
  obtain ⟨ht, hsz, i, z, hi, hz, hsi, hby, hzs⟩ := he.elem
  refine wpList_append_own _ hgd s x t ho base e i z 1 i.bytes ht hi hz hsi rfl hzs hsz v n _ hs (hown.alloc _) ⟨w1.heap.size, 0, none⟩ cs.length cs.length (cs.map bv) hx (by rw [List.length_map]; omega) (new_cells w1 _ e) (bv_one cs) (by simp only [maxLen]; omega) ?_ (by simp; omega) ?_
  · exact Nat.le_trans (Nat.mul_le_mul (show n + cs.length ≤ 100000000000 by omega) hby) (by decide)
  · intro v' w' hown' hg _
    have hg' : w1.grownBy w' v.ownBlock := ⟨hg.os, hg.tape, hg.output, Nat.le_trans (by simp) hg.size, fun k hk hne => (hg.block k (by simp; omega) hne).trans (heap_alloc_old w1 _ hk)⟩
    rw [← List.map_append] at hown'
    exact h v' w' hown' hg' ((Below.refl base w1).grown hg' hbase (fun k hk => (hown.lt k hk).1))

theorem bytesT : BytesT Tryz.prog 26 9 5 := bytesT_of Tryz.underlying26 Tryz.underlying9 Tryz.underlying5 (by kernel_rfl)
theorem take_snoc (s : ByteArray) (k : Nat) (h : k < s.size) : (L s).take (k + 1) = (L s).take k ++ [s[k]] := L_take_succ s k h
theorem beqB (b : UInt8) (n : Int) (h : (b.toNat : Int) = n) : ((b.toNat : Int) == n) = true := by rw [beq_iff_eq]; exact h
theorem beqNB (b : UInt8) (n : Int) (h : ¬ (b.toNat : Int) = n) : ((b.toNat : Int) == n) = false := by rw [beq_eq_false_iff_ne]; exact h
theorem u8_of {b : UInt8} {n : Nat} (h : b.toNat = n) : b = UInt8.ofNat n := by rw [← h]; simp
def quoteT (l : List UInt8) : List UInt8 := 34 :: (l.flatMap sgn ++ [34])
theorem hexT_len (n : Nat) : (hexT n).length ≤ 2 := by unfold hexT; split <;> simp
theorem quote_any (s : ByteArray) (w : World) (hs : s.size ≤ 1000000000) (he : EnvT w) :
    Calls Tryz.prog 78 #[.string s] w fun e w' => e = .returned (.string ⟨(quoteT (L s)).toArray⟩) ∧ Below w.heap.size w w' := by
  have hown0 : (w.alloc (.cells #[.int .u8 34] 5)).ownsRow w.heap.size 5 1 (.slice (some ⟨w.heap.size, 0, none⟩) 1 1) 1 ([34].map bv) := World.ownsRow_lit w #[.int .u8 34] 1 (Nat.le_refl _) (by simp only [maxLen]; decide) rfl
  have hb0 : Below w.heap.size w (w.alloc (.cells #[.int .u8 34] 5)) := (Below.refl _ w).alloc (Nat.le_refl _) _
  have HO0 := Lib.hid hown0; clear hown0
  have HE := Lib.hid he; clear he
  go_enter Tryz.func78, Tryz.ntmps78
  go_wp2_with fail
  go_loopw [3, 4, 5, 9] (fun o _ _ cnt wr => ∃ (k : Nat) (acc : List UInt8), k ≤ s.size ∧ cnt = .int .i64 k ∧ acc.length ≤ 6 * k + 1 ∧ wr.ownsRow w.heap.size 5 1 o acc.length (acc.map bv) ∧ Hid (acc = 34 :: ((L s).take k).flatMap sgn) ∧ Below w.heap.size w wr) (fun _ _ _ cnt _ => s.size - (intOf cnt).toNat)
  case atStart => exact ⟨0, [34], Nat.zero_le _, rfl, by decide, HO0.out, rfl, hb0⟩
  case round =>
    clear HO0 hb0
    obtain ⟨k, acc, hk, rfl, hal, hown, HA, hbw⟩ := hrel
    have hz := hbw.size
    by_cases hlt : k < s.size
    case neg =>
      obtain rfl : k = s.size := by omega
      have HX : Hid (quoteT (L s) = acc ++ [34]) := by
        unfold Hid
        rw [HA.out, List.take_of_length_le (by rw [L_len]; exact Nat.le_refl _)]
        rfl
      clear HA
      go_wp2_with (at_builtin; refine wp_pushM bytesT rfl _ _ rfl hown [34] [.int .u8 34] rfl 1 rfl rfl _ rfl rfl (by omega) hz ?_; intro v' w2 hown2 hg2 hb2; have hcv := conv_own bytesT hown2)
      go_ret
      exact ⟨by rw [HX.out]; rfl, hbw.trans hb2⟩
    have hstep : ∀ cs, cs = sgn s[k] → Hid (acc ++ cs = 34 :: ((L s).take (k + 1)).flatMap sgn) := by
      intro cs hcs
      unfold Hid
      rw [HA.out, hcs, take_snoc s k hlt]
      simp
    have HS := Lib.hid hstep; clear hstep HA
    obtain ⟨c, hc⟩ : ∃ c, s[k] = c := ⟨_, rfl⟩
    rw [hc] at HS
    by_cases c1 : c.toNat = 34
    · have e1 : ((s[k].toNat : Int) == 34) = true := beqB _ _ (by rw [hc]; omega)
      have HQ := HS.out [92, c] (by rw [u8_of c1]; rfl)
      rw [← hc] at HQ
      clear HS c1 hc
      go_wp2_with (at_builtin; refine wp_pushM bytesT rfl _ _ rfl hown [92, s[k]] [.int .u8 92, .int .u8 (s[k].toNat : Int)] rfl 2 rfl rfl _ rfl rfl (by omega) hz ?_; intro v' w2 hown2 hg2 hb2)
      exact ⟨⟨k + 1, _, by omega, rfl, by simp; omega, by rw [List.length_append]; exact hown2, HQ, hbw.trans hb2⟩, by simp [intOf]; omega⟩
    have e1 : ((s[k].toNat : Int) == 34) = false := beqNB _ _ (by rw [hc]; omega)
    by_cases c2 : c.toNat = 92
    · have e2 : ((s[k].toNat : Int) == 92) = true := beqB _ _ (by rw [hc]; omega)
      have HQ := HS.out [92, c] (by rw [u8_of c2]; rfl)
      rw [← hc] at HQ
      clear HS c1 c2 hc
      go_wp2_with (at_builtin; refine wp_pushM bytesT rfl _ _ rfl hown [92, s[k]] [.int .u8 92, .int .u8 (s[k].toNat : Int)] rfl 2 rfl rfl _ rfl rfl (by omega) hz ?_; intro v' w2 hown2 hg2 hb2)
      exact ⟨⟨k + 1, _, by omega, rfl, by simp; omega, by rw [List.length_append]; exact hown2, HQ, hbw.trans hb2⟩, by simp [intOf]; omega⟩
    have e2 : ((s[k].toNat : Int) == 92) = false := beqNB _ _ (by rw [hc]; omega)
    by_cases c3 : c.toNat = 10
    · have e3 : ((s[k].toNat : Int) == 10) = true := beqB _ _ (by rw [hc]; omega)
      have HQ := HS.out [92, 110] (by rw [u8_of c3]; rfl)
      clear HS c1 c2 c3 hc
      go_wp2_with (at_builtin; refine wp_pushS bytesT rfl _ _ rfl hown ⟨#[92, 110]⟩ rfl rfl (by show _ + 2 < _; omega) hz ?_; intro v' w2 hown2 hg2 hb2)
      exact ⟨⟨k + 1, _, by omega, rfl, by simp; omega, by rw [List.length_append]; exact hown2, HQ, hbw.trans hb2⟩, by simp [intOf]; omega⟩
    have e3 : ((s[k].toNat : Int) == 10) = false := beqNB _ _ (by rw [hc]; omega)
    by_cases c4 : c.toNat = 9
    · have e4 : ((s[k].toNat : Int) == 9) = true := beqB _ _ (by rw [hc]; omega)
      have HQ := HS.out [92, 116] (by rw [u8_of c4]; rfl)
      clear HS c1 c2 c3 c4 hc
      go_wp2_with (at_builtin; refine wp_pushS bytesT rfl _ _ rfl hown ⟨#[92, 116]⟩ rfl rfl (by show _ + 2 < _; omega) hz ?_; intro v' w2 hown2 hg2 hb2)
      exact ⟨⟨k + 1, _, by omega, rfl, by simp; omega, by rw [List.length_append]; exact hown2, HQ, hbw.trans hb2⟩, by simp [intOf]; omega⟩
    have e4 : ((s[k].toNat : Int) == 9) = false := beqNB _ _ (by rw [hc]; omega)
    by_cases c5 : c.toNat = 13
    · have e5 : ((s[k].toNat : Int) == 13) = true := beqB _ _ (by rw [hc]; omega)
      have HQ := HS.out [92, 114] (by rw [u8_of c5]; rfl)
      clear HS c1 c2 c3 c4 c5 hc
      go_wp2_with (at_builtin; refine wp_pushS bytesT rfl _ _ rfl hown ⟨#[92, 114]⟩ rfl rfl (by show _ + 2 < _; omega) hz ?_; intro v' w2 hown2 hg2 hb2)
      exact ⟨⟨k + 1, _, by omega, rfl, by simp; omega, by rw [List.length_append]; exact hown2, HQ, hbw.trans hb2⟩, by simp [intOf]; omega⟩
    have e5 : ((s[k].toNat : Int) == 13) = false := beqNB _ _ (by rw [hc]; omega)
    by_cases c6 : c.toNat < 32 ∨ c.toNat = 127
    · have HQ := HS.out (92 :: 117 :: 123 :: (hexT c.toNat ++ [125])) (by unfold sgn; rw [if_neg c1, if_neg c2, if_neg c3, if_neg c4, if_neg c5, if_pos c6])
      have hn : c.toNat < 128 := by omega
      have HC := Lib.hid (FormatInt16_any c.toNat hn)
      have hle := hexT_len c.toNat
      obtain ⟨H, hH⟩ : ∃ H : ByteArray, H = ⟨(hexT c.toNat).toArray⟩ := ⟨_, rfl⟩
      have hLH : L H = hexT c.toNat := by rw [hH]; rfl
      rw [← hH] at HC
      have hHs : H.size ≤ 2 := by rw [← L_len, hLH]; exact hle
      have hLT : L (⟨#[92, 117, 123]⟩ ++ H ++ ⟨#[125]⟩) = 92 :: 117 :: 123 :: (hexT c.toNat ++ [125]) := by rw [L_append, L_append, hLH]; rfl
      have hTs : (⟨#[92, 117, 123]⟩ ++ H ++ ⟨#[125]⟩ : ByteArray).size ≤ 6 := by rw [← L_len, hLT]; simp only [List.length_cons, List.length_append, List.length_nil]; omega
      rw [← hLT] at HQ
      have hLl : (L (⟨#[92, 117, 123]⟩ ++ H ++ ⟨#[125]⟩)).length ≤ 6 := by rw [L_len]; exact hTs
      have HT := Lib.hid hTs; clear hTs
      have HL2 := Lib.hid hLl; clear hLl
      rw [← hc] at HC
      have hwr : wrap64 (s[k].toNat : Int) = s[k].toNat := by unfold wrap64; rw [hc]; have := c.toNat_lt; omega
      have key : (s[k].toNat : Int) < 32 ∨ ((s[k].toNat : Int) == 127) = true ∧ ¬ (s[k].toNat : Int) < 32 := by
        rw [hc, beq_iff_eq]; omega
      clear HS c1 c2 c3 c4 c5 c6 hH hLH hLT hle hn hc
      rcases key with e6 | ⟨e6, e7⟩
      all_goals
        go_wp2_with fail
        refine (HC.out _ (HE.out.below hbw)).mono ?_
        rintro e w1 ⟨rfl, hb1⟩
        have hown1 := own_below hown hb1
        have hbw1 := hbw.trans (hb1.mono hz)
        have hz1 := hbw1.size
        clear hown
        have hT6 := HT.out
        have HS6 : Hid (acc.length + (⟨#[92, 117, 123]⟩ ++ H ++ ⟨#[125]⟩ : ByteArray).size < 100000000000000) := by unfold Hid; omega
        clear hT6
        go_wp2_with (at_builtin; refine wp_pushS bytesT rfl _ _ rfl hown1 (⟨#[92, 117, 123]⟩ ++ H ++ ⟨#[125]⟩) rfl rfl HS6.out hz1 ?_; intro v' w2 hown2 hg2 hb2)
        refine ⟨⟨k + 1, acc ++ L (⟨#[92, 117, 123]⟩ ++ H ++ ⟨#[125]⟩), by omega, rfl, ?_, ?_, HQ, hbw1.trans hb2⟩, by simp [intOf]; omega⟩
        · rw [List.length_append]; have := HL2.out; omega
        · rw [List.length_append, L_len]; exact hown2
    · have HQ := HS.out [c] (by unfold sgn; rw [if_neg c1, if_neg c2, if_neg c3, if_neg c4, if_neg c5, if_neg c6])
      have e6 : ¬ (s[k].toNat : Int) < 32 := by rw [hc]; omega
      have e7 : ((s[k].toNat : Int) == 127) = false := beqNB _ _ (by rw [hc]; omega)
      rw [← hc] at HQ
      clear HS c1 c2 c3 c4 c5 c6 hc
      go_wp2_with (at_builtin; refine wp_pushM bytesT rfl _ _ rfl hown [s[k]] [.int .u8 (s[k].toNat : Int)] rfl 1 rfl rfl _ rfl rfl (by omega) hz ?_; intro v' w2 hown2 hg2 hb2)
      exact ⟨⟨k + 1, _, by omega, rfl, by simp; omega, by rw [List.length_append]; exact hown2, HQ, hbw.trans hb2⟩, by simp [intOf]; omega⟩
end Go.Proofs.YthdninnjjmhpfaaGreatDoor
