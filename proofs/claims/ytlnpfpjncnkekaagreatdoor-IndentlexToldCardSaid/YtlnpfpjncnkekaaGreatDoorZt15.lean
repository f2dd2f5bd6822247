/- bracelex.Quote walked. Conditions: strings of at most 10^9 bytes. -/
import Derived.Test.YtlnpfpjncnkekaaGreatDoorZt13
import Derived.Deep.RegionLaw
namespace Go.Proofs.YtlnpfpjncnkekaaGreatDoor
open Go.RowKit
set_option maxHeartbeats 1000000
set_option maxRecDepth 100000

/-- 'v = append(v, b, c, ..)': a row of bytes, the bytes just laid in a new block. -/
theorem wp_pushM {P : Program} {w1 : World} {ops : Array Oper} {rest : List Oper} {o : Oper} {a : Act} {Q : Exit → Act → World → Prop} {t u e : TypeId} {base n : Nat} {v : Value} {bs : List UInt8}
    (he : BytesT P t u e) (hgd : o.guard = none) (s x : Operand) (ho : o.op = .call { callee := .builtin .append, args := #[s, x], argTypes := #[t, t] })
    (hown : w1.ownsRow base e 1 v n (bs.map bv)) (cs : List UInt8) (us : List Value) (hus : us = cs.map bv) (m : Nat) (hm : cs.length = m) (hs : a.eval s = v) (g : Nat) (hg : w1.heap.size = g) (hx : a.eval x = .slice (some ⟨g, 0, none⟩) m m)
    (hn : n + m < 100000000000) (hbase : base ≤ w1.heap.size)
    (h : ∀ v' w', w'.ownsRow base e 1 v' (n + m) ((bs ++ cs).map bv) → w1.grownBy w' v.ownBlock → Below base w1 w' → wpList P ops Q rest (a.put o.dst v') w') :
    wpList P ops Q (o :: rest) a (w1.alloc (.cells us.toArray e)) := by
  subst hg hus hm
  obtain ⟨ht, hsz, i, z, hi, hz, hsi, hby, hzs⟩ := he.elem
  refine wpList_append_own _ hgd s x t ho base e i z 1 i.bytes ht hi hz hsi rfl hzs hsz v n _ hs (hown.alloc _) ⟨w1.heap.size, 0, none⟩ cs.length cs.length (cs.map bv) hx (by rw [List.length_map]; omega) (new_cells w1 _ e) (bv_one cs) (by simp only [maxLen]; omega) ?_ (by simp; omega) ?_
  · exact Nat.le_trans (Nat.mul_le_mul (show n + cs.length ≤ 100000000000 by omega) hby) (by decide)
  · intro v' w' hown' hg _
    have hg' : w1.grownBy w' v.ownBlock := ⟨hg.os, hg.tape, hg.output, Nat.le_trans (by simp) hg.size, fun k hk hne => (hg.block k (by simp; omega) hne).trans (heap_alloc_old w1 _ hk)⟩
    rw [← List.map_append] at hown'
    exact h v' w' hown' hg' ((Below.refl base w1).grown hg' hbase (fun k hk => (hown.lt k hk).1))

/-- The same, at a step of a region that draws its order. -/
theorem step_pushM {P : Program} {w1 : World} {ops : Array Oper} {o : Oper} {a : Act} {K : Act → World → Prop} {Q : Exit → Act → World → Prop} {E : Prop} {t u e : TypeId} {base n : Nat} {v : Value} {bs : List UInt8}
    (he : BytesT P t u e) (hgd : o.guard = none) (s x : Operand) (ho : o.op = .call { callee := .builtin .append, args := #[s, x], argTypes := #[t, t] })
    (hown : w1.ownsRow base e 1 v n (bs.map bv)) (cs : List UInt8) (us : List Value) (hus : us = cs.map bv) (m : Nat) (hm : cs.length = m) (hs : a.eval s = v) (g : Nat) (hg : w1.heap.size = g) (hx : a.eval x = .slice (some ⟨g, 0, none⟩) m m)
    (hn : n + m < 100000000000) (hbase : base ≤ w1.heap.size)
    (h : ∀ v' w', w'.ownsRow base e 1 v' (n + m) ((bs ++ cs).map bv) → w1.grownBy w' v.ownBlock → Below base w1 w' → K (a.put o.dst v') w') :
    if Region.wanted o (yielded ops a.tmps) = true then Oper.wp P o a (w1.alloc (.cells us.toArray e)) K Q else E := by
  have hw : Region.wanted o (yielded ops a.tmps) = true := by simp [Region.wanted, hgd]
  rw [if_pos hw]
  subst hg hus hm
  obtain ⟨ht, hsz, i, z, hi, hz, hsi, hby, hzs⟩ := he.elem
  refine wp_append_own _ s x t ho base e i z 1 i.bytes ht hi hz hsi rfl hzs hsz v n _ hs (hown.alloc _) ⟨w1.heap.size, 0, none⟩ cs.length cs.length (cs.map bv) hx (by rw [List.length_map]; omega) (new_cells w1 _ e) (bv_one cs) (by simp only [maxLen]; omega) ?_ (by simp; omega) ?_
  · exact Nat.le_trans (Nat.mul_le_mul (show n + cs.length ≤ 100000000000 by omega) hby) (by decide)
  · intro v' w' hown' hg _
    have hg' : w1.grownBy w' v.ownBlock := ⟨hg.os, hg.tape, hg.output, Nat.le_trans (by simp) hg.size, fun k hk hne => (hg.block k (by simp; omega) hne).trans (heap_alloc_old w1 _ hk)⟩
    rw [← List.map_append] at hown'
    exact h v' w' hown' hg' ((Below.refl base w1).grown hg' hbase (fun k hk => (hown.lt k hk).1))

theorem and15u : ∀ n : Fin 256, bits .and .u8 ((UInt8.ofNat n.val).toNat : Int) 15 = ((UInt8.ofNat n.val).toNat : Int) % 16 := by decide +kernel
theorem and15_u8 (c : UInt8) : bits .and .u8 (c.toNat : Int) 15 = (c.toNat : Int) % 16 := by
  have h := and15u ⟨c.toNat, c.toNat_lt⟩
  simpa only [UInt8.ofNat_toNat] using h
theorem hex_dig0 : ∀ n : Fin 16, (L ⟨#[48, 49, 50, 51, 52, 53, 54, 55, 56, 57, 97, 98, 99, 100, 101, 102]⟩)[n.val]'(by have := n.isLt; simp only [L]; exact this) = hexd n.val := by decide +kernel
theorem hex_dig (m i : Nat) (h : i < 16) (e : i = m) : Value.int .u8 (((⟨#[48, 49, 50, 51, 52, 53, 54, 55, 56, 57, 97, 98, 99, 100, 101, 102]⟩ : ByteArray)[i]'h).toNat : Int) = bv (hexd m) := by
  subst e
  exact congrArg bv (hex_dig0 ⟨i, h⟩)
theorem six_eq {a b : Value} {x y : UInt8} (ha : a = bv x) (hb : b = bv y) : [.int .u8 92, .int .u8 117, .int .u8 48, .int .u8 48, a, b] = [92, 117, 48, 48, x, y].map bv := by
  subst ha hb
  rfl
/-- The escapes that have a letter. -/
theorem idx_q0 : ∀ n : Fin 256, (∃ j : Fin 7, Lib.indexByte (L ⟨#[34, 92, 8, 12, 10, 13, 9]⟩) (UInt8.ofNat n.val) = (j.val : Int) ∧ qb (UInt8.ofNat n.val) = [92, (L ⟨#[34, 92, 98, 102, 110, 114, 116]⟩)[j.val]'(by have := j.isLt; simp only [L]; exact this)]) ∨ (Lib.indexByte (L ⟨#[34, 92, 8, 12, 10, 13, 9]⟩) (UInt8.ofNat n.val) = -1 ∧ (n.val < 32 → qb (UInt8.ofNat n.val) = [92, 117, 48, 48, hexd (n.val / 16), hexd (n.val % 16)]) ∧ (¬ n.val < 32 → qb (UInt8.ofNat n.val) = [UInt8.ofNat n.val])) := by decide +kernel
theorem idx_q (c : UInt8) : (∃ (j : Nat) (hj : j < 7), Lib.indexByte (L ⟨#[34, 92, 8, 12, 10, 13, 9]⟩) c = (j : Int) ∧ qb c = [92, (⟨#[34, 92, 98, 102, 110, 114, 116]⟩ : ByteArray)[j]'hj]) ∨ (Lib.indexByte (L ⟨#[34, 92, 8, 12, 10, 13, 9]⟩) c = -1 ∧ (c.toNat < 32 → qb c = [92, 117, 48, 48, hexd (c.toNat / 16), hexd (c.toNat % 16)]) ∧ (¬ c.toNat < 32 → qb c = [c])) := by
  have h := idx_q0 ⟨c.toNat, c.toNat_lt⟩
  simp only [UInt8.ofNat_toNat] at h
  rcases h with ⟨j, h1, h2⟩ | h
  · exact .inl ⟨j.val, j.isLt, h1, h2⟩
  · exact .inr h

theorem Quote_any (s : ByteArray) (w : World) (hs : s.size ≤ 1000000000) :
    Calls Tryz.prog 53 #[.string s] w fun e w' => e = .returned (.tuple #[.string ⟨(quoR (L s)).1.toArray⟩, .int .i64 (quoR (L s)).2]) ∧ Below w.heap.size w w' := by
  by_cases hbad : badL (L s) = (L s).length
  case neg =>
    have HF : Hid (quoR (L s) = ([], 5)) := by unfold Hid quoR; rw [if_neg hbad]
    have hi : invR (L s) = badL (L s) := by unfold invR; rw [if_neg hbad]
    go_enter Tryz.func53, Tryz.ntmps53
    go_wp2_with (go_at_call 100; refine (invalid_any s _ (by omega)).mono ?_; rintro e w1 ⟨rfl, hb1⟩; rw [hi])
    go_ret2
    exact ⟨ret2_str HF.out, hb1⟩
  have HF : Hid (quoR (L s) = (34 :: (L s).flatMap qb ++ [34], 0)) := by unfold Hid quoR; rw [if_pos hbad]
  have hi : invR (L s) = -1 := by unfold invR; rw [if_pos hbad]
  clear hbad
  go_enter Tryz.func53, Tryz.ntmps53
  go_wp2_with fail
  refine (invalid_any s _ (by omega)).mono ?_
  rintro e w1 ⟨rfl, hb1⟩
  rw [hi]
  clear hi
  have hown0 : (w1.alloc (.cells #[.int .u8 34] 5)).ownsRow w.heap.size 5 1 (.slice (some ⟨w1.heap.size, 0, none⟩) 1 1) 1 ([34].map bv) := World.ownsRow_lit w1 #[.int .u8 34] 1 hb1.size (by simp only [maxLen]; decide) rfl
  have hb0 : Below w.heap.size w (w1.alloc (.cells #[.int .u8 34] 5)) := hb1.alloc hb1.size _
  have HO0 := Lib.hid hown0; clear hown0
  go_wp2_with fail
  go_loopw [4, 5, 6, 13] (fun o _ _ cnt wr => ∃ (k : Nat) (acc : List UInt8), k ≤ s.size ∧ cnt = .int .i64 k ∧ acc.length ≤ 6 * k + 1 ∧ wr.ownsRow w.heap.size 5 1 o acc.length (acc.map bv) ∧ Hid (acc = 34 :: ((L s).take k).flatMap qb) ∧ Below w.heap.size w wr) (fun _ _ _ cnt _ => s.size - (intOf cnt).toNat)
  case atStart => exact ⟨0, [34], Nat.zero_le _, rfl, by decide, HO0.out, rfl, hb0⟩
  case round =>
    clear HO0 hb0 hb1
    obtain ⟨k, acc, hk, rfl, hal, hown, HA, hbw⟩ := hrel
    have hz := hbw.size
    by_cases hlt : k < s.size
    case neg =>
      obtain rfl : k = s.size := by omega
      have HX : Hid (quoR (L s) = (acc ++ [34], 0)) := by
        unfold Hid
        rw [HF.out, HA.out, List.take_of_length_le (by rw [L_len]; exact Nat.le_refl _)]
        
      clear HA HF
      go_wp2_with (at_builtin; refine wp_pushM bytesT rfl _ _ rfl hown [34] [.int .u8 34] rfl 1 rfl rfl _ rfl rfl (by omega) hz ?_; intro v' w2 hown2 hg2 hb2; have hcv := conv_own bytesT hown2)
      go_ret2
      exact ⟨ret2_str HX.out, hbw.trans hb2⟩
    have hstep : ∀ cs, cs = qb s[k] → Hid (acc ++ cs = 34 :: ((L s).take (k + 1)).flatMap qb) := by
      intro cs hcs
      unfold Hid
      rw [HA.out, hcs, take_snoc s k hlt]
      simp
    have HS := Lib.hid hstep; clear hstep HA
    rcases idx_q s[k] with ⟨j, hj, hidx, hq⟩ | ⟨hidx, hq1, hq2⟩
    · have HQ := HS.out _ hq.symm
      clear HS hq
      go_wp2_with (first | (go_at_call 77; refine (IndexByte_any _ _ _).mono ?_; rintro e w' ⟨rfl, rfl⟩; rw [hidx]) | (at_builtin; refine wp_pushM bytesT rfl _ _ rfl hown [92, (⟨#[34, 92, 98, 102, 110, 114, 116]⟩ : ByteArray)[j]'hj] [.int .u8 92, .int .u8 (((⟨#[34, 92, 98, 102, 110, 114, 116]⟩ : ByteArray)[j]'hj).toNat : Int)] rfl 2 rfl rfl _ rfl rfl (by omega) hz ?_; intro v' w2 hown2 hg2 hb2))
      exact ⟨⟨k + 1, _, by omega, rfl, by simp; omega, by rw [List.length_append]; exact hown2, HQ, hbw.trans hb2⟩, by simp [intOf]; omega⟩
    by_cases h32 : s[k].toNat < 32
    · have HQ := HS.out _ (hq1 h32).symm
      have q32 : (s[k].toNat : Int) < 32 := by omega
      clear HS hq1 hq2 h32
      have hownD := hown.drew
      have hbwD : Below w.heap.size w wr.drew := hbw.drew
      have hzD : w.heap.size ≤ wr.drew.heap.size := hz
      go_wp2_with (go_at_call 77; refine (IndexByte_any _ _ _).mono ?_; rintro e w' ⟨rfl, rfl⟩; rw [hidx])
      have x1 : 0 ≤ (s[k].toNat : Int) / 16 := by omega
      have x2 : (s[k].toNat : Int) / 16 < 16 := by omega
      have x3 : ((s[k].toNat : Int) / 16).toNat = s[k].toNat / 16 := by omega
      have y0 := and15_u8 s[k]
      have y1 : 0 ≤ (s[k].toNat : Int) % 16 := by omega
      have y2 : (s[k].toNat : Int) % 16 < 16 := by omega
      have y3 : ((s[k].toNat : Int) % 16).toNat = s[k].toNat % 16 := by omega
      go_region_law (refine step_pushM bytesT rfl _ _ rfl hownD [92, 117, 48, 48, hexd (s[k].toNat / 16), hexd (s[k].toNat % 16)] _ (six_eq (hex_dig _ _ _ (by omega)) (hex_dig _ _ _ (by omega))) 6 rfl rfl _ rfl rfl (by omega) hzD ?_; intro v' w2 hown2 hg2 hb2)
      all_goals (go_wp2_with fail; exact ⟨⟨k + 1, _, by omega, rfl, by simp; omega, by rw [List.length_append]; exact hown2, HQ, hbwD.trans hb2⟩, by simp [intOf]; omega⟩)
    · have HQ := HS.out _ (hq2 h32).symm
      have q32 : ¬ (s[k].toNat : Int) < 32 := by omega
      clear HS hq1 hq2 h32
      go_wp2_with (first | (go_at_call 77; refine (IndexByte_any _ _ _).mono ?_; rintro e w' ⟨rfl, rfl⟩; rw [hidx]) | (at_builtin; refine wp_pushM bytesT rfl _ _ rfl hown [s[k]] [.int .u8 (s[k].toNat : Int)] rfl 1 rfl rfl _ rfl rfl (by omega) hz ?_; intro v' w2 hown2 hg2 hb2))
      exact ⟨⟨k + 1, _, by omega, rfl, by simp; omega, by rw [List.length_append]; exact hown2, HQ, hbw.trans hb2⟩, by simp [intOf]; omega⟩
end Go.Proofs.YtlnpfpjncnkekaaGreatDoor
