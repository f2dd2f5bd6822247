/- datakitref21.text; datakitref21.Scalar walked case by case (printed by gen_sc3.py), but for base64. Conditions: strings of at most 100000 bytes. -/
import Derived.Test.YtgddhkanfcpipaaGreatDoorZo1
import Derived.Test.YtgddhkanfcpipaaGreatDoorZp4
import Derived.Test.YtgddhkanfcpipaaGreatDoorZk19
namespace Go.Proofs.YtgddhkanfcpipaaGreatDoor
open Go.RowKit
set_option maxHeartbeats 4000000
set_option maxRecDepth 100000
theorem text21_any (t : ByteArray) (w : World) :
    Calls Tryz.prog 45 #[.string t] w fun e w' => e = .returned (.tuple #[.agg (txtR t).1.toArray, .int .i64 (txtR t).2]) ∧ Below w.heap.size w w' := by
  by_cases h : 65536 < t.size
  · have HF : Hid (txtR t = (vZ, 10)) := if_pos h
    have g1 : ((65536 : Int) < (t.size : Int)) = True := eq_true (by omega)
    clear h
    go_enter Tryz.func45, Tryz.ntmps45
    go_upto_region 1 with fail
    generalize hW1 : World.alloc w _ = w1
    obtain ⟨ha1, -, hz1, hb1⟩ := alloc_of hW1
    have HX : Hid (w1.heap[w.heap.size]? = some (.cells vZ.toArray 40 (0, 0))) := ha1
    have HB1 := Lib.hid hb1
    clear hW1 ha1 hz1 hb1
    go_wp2_with (refine wpl_store rfl rfl stVl.2 rfl rfl (cs := vZ) rfl rfl (one13 rfl) HX.out (Nat.le_of_ble_eq_true rfl) (row := vZ) rfl ?_; generalize hW : World.setRow _ _ _ = w5; have HS := Lib.hid (setRow_of hW HX.out); clear hW)
    obtain ⟨hd5, -, hz5, hb5⟩ := HS.out
    obtain ⟨z0, z1, z2, z3, z4, z5, z6, z7, z8, z9, za, zb, zc⟩ := row13 hd5
    exact bodyPost_ret (v := .tuple #[.agg vZ.toArray, .int .i64 10]) (by simp [results, Tryz.results45, go_sem, z0, z1, z2, z3, z4, z5, z6, z7, z8, z9, za, zb, zc]) rfl ⟨by rw [HF.out]; try rfl, HB1.out.trans (hb5 _ (Nat.le_refl _))⟩
  · have HF : Hid (txtR t = (vT t, 0)) := if_neg h
    have g1 : ((65536 : Int) < (t.size : Int)) = False := eq_false (by omega)
    clear h
    go_enter Tryz.func45, Tryz.ntmps45
    go_upto_region 1 with fail
    generalize hW1 : World.alloc w _ = w1
    obtain ⟨ha1, -, hz1, hb1⟩ := alloc_of hW1
    have HX : Hid (w1.heap[w.heap.size]? = some (.cells vZ.toArray 40 (0, 0))) := ha1
    have HB1 := Lib.hid hb1
    clear hW1 ha1 hz1 hb1
    go_wp2_with (refine wpl_store rfl rfl stVl.2 rfl rfl (cs := vT t) rfl rfl (one13 rfl) HX.out (Nat.le_of_ble_eq_true rfl) (row := vT t) rfl ?_; generalize hW : World.setRow _ _ _ = w5; have HS := Lib.hid (setRow_of hW HX.out); clear hW)
    obtain ⟨hd5, -, hz5, hb5⟩ := HS.out
    obtain ⟨z0, z1, z2, z3, z4, z5, z6, z7, z8, z9, za, zb, zc⟩ := row13 hd5
    exact bodyPost_ret (v := .tuple #[.agg (vT t).toArray, .int .i64 0]) (by simp [results, Tryz.results45, go_sem, z0, z1, z2, z3, z4, z5, z6, z7, z8, z9, za, zb, zc]) rfl ⟨by rw [HF.out]; try rfl, HB1.out.trans (hb5 _ (Nat.le_refl _))⟩
theorem Rc_inv (s : ByteArray) (w : World) (hs : s.size ≤ 100000) (hv : (!ctlB (L s) && validL (L s)) = false) :
    Calls Tryz.prog 15 #[.string s] w fun e w' => e = .returned (.tuple #[.agg (vZ).toArray, .int .i64 5]) ∧ Below w.heap.size w w' := by
  have HC := Lib.hid (fun w' => clean_any s w' (by omega))
  rw [hv] at HC
  clear hv
  go_enter Tryz.func15, Tryz.ntmps15
  go_upto_region 1 with fail
  generalize hW1 : World.alloc w _ = w1
  obtain ⟨ha1, -, hz1, hb1⟩ := alloc_of hW1
  have HX : Hid (w1.heap[w.heap.size]? = some (.cells vZ.toArray 40 (0, 0))) := ha1
  have HB := Lib.hid hb1
  have HZ : Hid (w.heap.size < w1.heap.size) := by unfold Hid; omega
  clear hW1 ha1 hz1 hb1
  go_wp2_with fail
  refine (HC.out _).mono ?_
  rintro e w2 ⟨rfl, hb2⟩
  replace HX := Lib.hid ((hb2.block _ HZ.out).trans HX.out)
  replace HB := Lib.hid (HB.out.trans (hb2.mono HB.out.size))
  replace HZ : Hid (w.heap.size < w2.heap.size) := Nat.lt_of_lt_of_le HZ.out hb2.size
  clear hb2
  clear HC
  go_wp2_with (refine wpl_store rfl rfl stVl.2 rfl rfl (cs := vZ) rfl rfl (one13 rfl) HX.out (Nat.le_of_ble_eq_true rfl) (row := vZ) rfl ?_; generalize hW : World.setRow _ _ _ = ww; have HS := Lib.hid (setRow_of hW HX.out); clear hW)
  obtain ⟨hd5, -, hz5, hb5⟩ := HS.out
  obtain ⟨z0, z1, z2, z3, z4, z5, z6, z7, z8, z9, za, zb, zc⟩ := row13 hd5
  exact bodyPost_ret (v := .tuple #[.agg (vZ).toArray, .int .i64 5]) (by simp [results, Tryz.results15, go_sem, z0, z1, z2, z3, z4, z5, z6, z7, z8, z9, za, zb, zc]) rfl ⟨rfl, HB.out.trans (hb5 _ (Nat.le_refl _))⟩
theorem Rc_nil (w : World) :
    Calls Tryz.prog 15 #[.string ⟨#[]⟩] w fun e w' => e = .returned (.tuple #[.agg (vZ).toArray, .int .i64 0]) ∧ Below w.heap.size w w' := by
  have HC := Lib.hid (fun w' => clean_any ⟨#[]⟩ w' (by decide))
  rw [show (!ctlB (L ⟨#[]⟩) && validL (L ⟨#[]⟩)) = true from by decide +kernel] at HC
  go_enter Tryz.func15, Tryz.ntmps15
  go_upto_region 1 with fail
  generalize hW1 : World.alloc w _ = w1
  obtain ⟨ha1, -, hz1, hb1⟩ := alloc_of hW1
  have HX : Hid (w1.heap[w.heap.size]? = some (.cells vZ.toArray 40 (0, 0))) := ha1
  have HB := Lib.hid hb1
  have HZ : Hid (w.heap.size < w1.heap.size) := by unfold Hid; omega
  clear hW1 ha1 hz1 hb1
  go_wp2_with fail
  refine (HC.out _).mono ?_
  rintro e w2 ⟨rfl, hb2⟩
  replace HX := Lib.hid ((hb2.block _ HZ.out).trans HX.out)
  replace HB := Lib.hid (HB.out.trans (hb2.mono HB.out.size))
  replace HZ : Hid (w.heap.size < w2.heap.size) := Nat.lt_of_lt_of_le HZ.out hb2.size
  clear hb2
  clear HC
  go_wp2_with (refine wpl_store rfl rfl stVl.2 rfl rfl (cs := vZ) rfl rfl (one13 rfl) HX.out (Nat.le_of_ble_eq_true rfl) (row := vZ) rfl ?_; generalize hW : World.setRow _ _ _ = ww; have HS := Lib.hid (setRow_of hW HX.out); clear hW)
  obtain ⟨hd5, -, hz5, hb5⟩ := HS.out
  obtain ⟨z0, z1, z2, z3, z4, z5, z6, z7, z8, z9, za, zb, zc⟩ := row13 hd5
  exact bodyPost_ret (v := .tuple #[.agg (vZ).toArray, .int .i64 0]) (by simp [results, Tryz.results15, go_sem, z0, z1, z2, z3, z4, z5, z6, z7, z8, z9, za, zb, zc]) rfl ⟨rfl, HB.out.trans (hb5 _ (Nat.le_refl _))⟩
theorem Rc_null (w : World) :
    Calls Tryz.prog 15 #[.string ⟨#[110, 117, 108, 108]⟩] w fun e w' => e = .returned (.tuple #[.agg (vZ).toArray, .int .i64 0]) ∧ Below w.heap.size w w' := by
  have HC := Lib.hid (fun w' => clean_any ⟨#[110, 117, 108, 108]⟩ w' (by decide))
  rw [show (!ctlB (L ⟨#[110, 117, 108, 108]⟩) && validL (L ⟨#[110, 117, 108, 108]⟩)) = true from by decide +kernel] at HC
  go_enter Tryz.func15, Tryz.ntmps15
  go_upto_region 1 with fail
  generalize hW1 : World.alloc w _ = w1
  obtain ⟨ha1, -, hz1, hb1⟩ := alloc_of hW1
  have HX : Hid (w1.heap[w.heap.size]? = some (.cells vZ.toArray 40 (0, 0))) := ha1
  have HB := Lib.hid hb1
  have HZ : Hid (w.heap.size < w1.heap.size) := by unfold Hid; omega
  clear hW1 ha1 hz1 hb1
  go_wp2_with fail
  refine (HC.out _).mono ?_
  rintro e w2 ⟨rfl, hb2⟩
  replace HX := Lib.hid ((hb2.block _ HZ.out).trans HX.out)
  replace HB := Lib.hid (HB.out.trans (hb2.mono HB.out.size))
  replace HZ : Hid (w.heap.size < w2.heap.size) := Nat.lt_of_lt_of_le HZ.out hb2.size
  clear hb2
  clear HC
  go_wp2_with (refine wpl_store rfl rfl stVl.2 rfl rfl (cs := vZ) rfl rfl (one13 rfl) HX.out (Nat.le_of_ble_eq_true rfl) (row := vZ) rfl ?_; generalize hW : World.setRow _ _ _ = ww; have HS := Lib.hid (setRow_of hW HX.out); clear hW)
  obtain ⟨hd5, -, hz5, hb5⟩ := HS.out
  obtain ⟨z0, z1, z2, z3, z4, z5, z6, z7, z8, z9, za, zb, zc⟩ := row13 hd5
  exact bodyPost_ret (v := .tuple #[.agg (vZ).toArray, .int .i64 0]) (by simp [results, Tryz.results15, go_sem, z0, z1, z2, z3, z4, z5, z6, z7, z8, z9, za, zb, zc]) rfl ⟨rfl, HB.out.trans (hb5 _ (Nat.le_refl _))⟩
theorem Rc_true (w : World) :
    Calls Tryz.prog 15 #[.string ⟨#[116, 114, 117, 101]⟩] w fun e w' => e = .returned (.tuple #[.agg (vB true).toArray, .int .i64 0]) ∧ Below w.heap.size w w' := by
  have HC := Lib.hid (fun w' => clean_any ⟨#[116, 114, 117, 101]⟩ w' (by decide))
  rw [show (!ctlB (L ⟨#[116, 114, 117, 101]⟩) && validL (L ⟨#[116, 114, 117, 101]⟩)) = true from by decide +kernel] at HC
  go_enter Tryz.func15, Tryz.ntmps15
  go_upto_region 1 with fail
  generalize hW1 : World.alloc w _ = w1
  obtain ⟨ha1, -, hz1, hb1⟩ := alloc_of hW1
  have HX : Hid (w1.heap[w.heap.size]? = some (.cells vZ.toArray 40 (0, 0))) := ha1
  have HB := Lib.hid hb1
  have HZ : Hid (w.heap.size < w1.heap.size) := by unfold Hid; omega
  clear hW1 ha1 hz1 hb1
  go_wp2_with fail
  refine (HC.out _).mono ?_
  rintro e w2 ⟨rfl, hb2⟩
  replace HX := Lib.hid ((hb2.block _ HZ.out).trans HX.out)
  replace HB := Lib.hid (HB.out.trans (hb2.mono HB.out.size))
  replace HZ : Hid (w.heap.size < w2.heap.size) := Nat.lt_of_lt_of_le HZ.out hb2.size
  clear hb2
  clear HC
  go_wp2_with (refine wpl_store rfl rfl stVl.2 rfl rfl (cs := vB true) rfl rfl (one13 rfl) HX.out (Nat.le_of_ble_eq_true rfl) (row := vB true) rfl ?_; generalize hW : World.setRow _ _ _ = ww; have HS := Lib.hid (setRow_of hW HX.out); clear hW)
  obtain ⟨hd5, -, hz5, hb5⟩ := HS.out
  obtain ⟨z0, z1, z2, z3, z4, z5, z6, z7, z8, z9, za, zb, zc⟩ := row13 hd5
  exact bodyPost_ret (v := .tuple #[.agg (vB true).toArray, .int .i64 0]) (by simp [results, Tryz.results15, go_sem, z0, z1, z2, z3, z4, z5, z6, z7, z8, z9, za, zb, zc]) rfl ⟨rfl, HB.out.trans (hb5 _ (Nat.le_refl _))⟩
theorem Rc_false (w : World) :
    Calls Tryz.prog 15 #[.string ⟨#[102, 97, 108, 115, 101]⟩] w fun e w' => e = .returned (.tuple #[.agg (vB false).toArray, .int .i64 0]) ∧ Below w.heap.size w w' := by
  have HC := Lib.hid (fun w' => clean_any ⟨#[102, 97, 108, 115, 101]⟩ w' (by decide))
  rw [show (!ctlB (L ⟨#[102, 97, 108, 115, 101]⟩) && validL (L ⟨#[102, 97, 108, 115, 101]⟩)) = true from by decide +kernel] at HC
  go_enter Tryz.func15, Tryz.ntmps15
  go_upto_region 1 with fail
  generalize hW1 : World.alloc w _ = w1
  obtain ⟨ha1, -, hz1, hb1⟩ := alloc_of hW1
  have HX : Hid (w1.heap[w.heap.size]? = some (.cells vZ.toArray 40 (0, 0))) := ha1
  have HB := Lib.hid hb1
  have HZ : Hid (w.heap.size < w1.heap.size) := by unfold Hid; omega
  clear hW1 ha1 hz1 hb1
  go_wp2_with fail
  refine (HC.out _).mono ?_
  rintro e w2 ⟨rfl, hb2⟩
  replace HX := Lib.hid ((hb2.block _ HZ.out).trans HX.out)
  replace HB := Lib.hid (HB.out.trans (hb2.mono HB.out.size))
  replace HZ : Hid (w.heap.size < w2.heap.size) := Nat.lt_of_lt_of_le HZ.out hb2.size
  clear hb2
  clear HC
  go_wp2_with (refine wpl_store rfl rfl stVl.2 rfl rfl (cs := vB false) rfl rfl (one13 rfl) HX.out (Nat.le_of_ble_eq_true rfl) (row := vB false) rfl ?_; generalize hW : World.setRow _ _ _ = ww; have HS := Lib.hid (setRow_of hW HX.out); clear hW)
  obtain ⟨hd5, -, hz5, hb5⟩ := HS.out
  obtain ⟨z0, z1, z2, z3, z4, z5, z6, z7, z8, z9, za, zb, zc⟩ := row13 hd5
  exact bodyPost_ret (v := .tuple #[.agg (vB false).toArray, .int .i64 0]) (by simp [results, Tryz.results15, go_sem, z0, z1, z2, z3, z4, z5, z6, z7, z8, z9, za, zb, zc]) rfl ⟨rfl, HB.out.trans (hb5 _ (Nat.le_refl _))⟩
theorem Rc_b (w : World) :
    Calls Tryz.prog 15 #[.string ⟨#[33, 98]⟩] w fun e w' => e = .returned (.tuple #[.agg (vE).toArray, .int .i64 0]) ∧ Below w.heap.size w w' := by
  have HC := Lib.hid (fun w' => clean_any ⟨#[33, 98]⟩ w' (by decide))
  rw [show (!ctlB (L ⟨#[33, 98]⟩) && validL (L ⟨#[33, 98]⟩)) = true from by decide +kernel] at HC
  go_enter Tryz.func15, Tryz.ntmps15
  go_upto_region 1 with fail
  generalize hW1 : World.alloc w _ = w1
  obtain ⟨ha1, -, hz1, hb1⟩ := alloc_of hW1
  have HX : Hid (w1.heap[w.heap.size]? = some (.cells vZ.toArray 40 (0, 0))) := ha1
  have HB := Lib.hid hb1
  have HZ : Hid (w.heap.size < w1.heap.size) := by unfold Hid; omega
  clear hW1 ha1 hz1 hb1
  go_wp2_with fail
  refine (HC.out _).mono ?_
  rintro e w2 ⟨rfl, hb2⟩
  replace HX := Lib.hid ((hb2.block _ HZ.out).trans HX.out)
  replace HB := Lib.hid (HB.out.trans (hb2.mono HB.out.size))
  replace HZ : Hid (w.heap.size < w2.heap.size) := Nat.lt_of_lt_of_le HZ.out hb2.size
  clear hb2
  clear HC
  go_wp2_with (refine wpl_store rfl rfl stVl.2 rfl rfl (cs := vE) rfl rfl (one13 rfl) HX.out (Nat.le_of_ble_eq_true rfl) (row := vE) rfl ?_; generalize hW : World.setRow _ _ _ = ww; have HS := Lib.hid (setRow_of hW HX.out); clear hW)
  obtain ⟨hd5, -, hz5, hb5⟩ := HS.out
  obtain ⟨z0, z1, z2, z3, z4, z5, z6, z7, z8, z9, za, zb, zc⟩ := row13 hd5
  exact bodyPost_ret (v := .tuple #[.agg (vE).toArray, .int .i64 0]) (by simp [results, Tryz.results15, go_sem, z0, z1, z2, z3, z4, z5, z6, z7, z8, z9, za, zb, zc]) rfl ⟨rfl, HB.out.trans (hb5 _ (Nat.le_refl _))⟩
theorem Rc_quo (s : ByteArray) (w : World) (hs : s.size ≤ 100000) (hv : validL (L s) = true) (hc : ctlB (L s) = false) (hw : ¬ wordS (L s)) (hp : 0 < s.size) (hq : s[0].toNat = 34 ∨ s[0].toNat = 39) (t : List UInt8) (hu : unqR (L s) = (t, 0)) :
    Calls Tryz.prog 15 #[.string s] w fun e w' => e = .returned (.tuple #[.agg ((txtR ⟨t.toArray⟩).1).toArray, .int .i64 ((txtR ⟨t.toArray⟩).2 : Nat)]) ∧ Below w.heap.size w w' := by
  have HC := Lib.hid (fun w' => clean_any s w' (by omega))
  rw [hv, hc] at HC
  obtain ⟨he1, n1, n2, n3, n4⟩ := no_word s hw
  have g34 : Hid (s[0].toNat = 34 ∨ s[0].toNat = 39) := hq
  have HU := Lib.hid (fun w' => UnquoteR_any s w' (by omega))
  rw [hu] at HU
  have HTV := Lib.hid (fun w' => text21_any ⟨t.toArray⟩ w')
  obtain ⟨tq, tu, htq⟩ := txt_form ⟨t.toArray⟩
  generalize txtR ⟨t.toArray⟩ = tr at *
  obtain ⟨tx, te⟩ := tr
  dsimp only at HU HTV htq ⊢
  subst htq
  clear hv hc hw hu hq
  go_enter Tryz.func15, Tryz.ntmps15
  go_upto_region 1 with fail
  generalize hW1 : World.alloc w _ = w1
  obtain ⟨ha1, -, hz1, hb1⟩ := alloc_of hW1
  have HX : Hid (w1.heap[w.heap.size]? = some (.cells vZ.toArray 40 (0, 0))) := ha1
  have HB := Lib.hid hb1
  have HZ : Hid (w.heap.size < w1.heap.size) := by unfold Hid; omega
  clear hW1 ha1 hz1 hb1
  go_wp2_with fail
  refine (HC.out _).mono ?_
  rintro e w2 ⟨rfl, hb2⟩
  replace HX := Lib.hid ((hb2.block _ HZ.out).trans HX.out)
  replace HB := Lib.hid (HB.out.trans (hb2.mono HB.out.size))
  replace HZ : Hid (w.heap.size < w2.heap.size) := Nat.lt_of_lt_of_le HZ.out hb2.size
  clear hb2
  clear HC
  have hq := g34.out
  clear g34
  by_cases h39 : s[0].toNat = 39
  all_goals
    first
      | have g1 := beqB s[0] 39 (by omega)
      | have g1 := beqNB s[0] 39 (by omega)
        have g2 := beqB s[0] 34 (by omega)
    clear h39 hq
    go_wp2_with fail
    refine (HU.out _).mono ?_
    rintro e w3 ⟨rfl, hb3⟩
    replace HX := Lib.hid ((hb3.block _ HZ.out).trans HX.out)
    replace HB := Lib.hid (HB.out.trans (hb3.mono HB.out.size))
    replace HZ : Hid (w.heap.size < w3.heap.size) := Nat.lt_of_lt_of_le HZ.out hb3.size
    clear hb3
    clear HU
    go_wp2_with fail
    refine (HTV.out _).mono ?_
    rintro e w4 ⟨rfl, hb4⟩
    replace HX := Lib.hid ((hb4.block _ HZ.out).trans HX.out)
    replace HB := Lib.hid (HB.out.trans (hb4.mono HB.out.size))
    replace HZ : Hid (w.heap.size < w4.heap.size) := Nat.lt_of_lt_of_le HZ.out hb4.size
    clear hb4
    clear HTV
    go_wp2_with (refine wpl_store rfl rfl stVl.2 rfl rfl (cs := vQ tq tu) rfl rfl (one13 rfl) HX.out (Nat.le_of_ble_eq_true rfl) (row := vQ tq tu) rfl ?_; generalize hW : World.setRow _ _ _ = ww; have HS := Lib.hid (setRow_of hW HX.out); clear hW)
    obtain ⟨hd5, -, hz5, hb5⟩ := HS.out
    obtain ⟨z0, z1, z2, z3, z4, z5, z6, z7, z8, z9, za, zb, zc⟩ := row13 hd5
    exact bodyPost_ret (v := .tuple #[.agg (vQ tq tu).toArray, .int .i64 te]) (by simp [results, Tryz.results15, go_sem, z0, z1, z2, z3, z4, z5, z6, z7, z8, z9, za, zb, zc]) rfl ⟨rfl, HB.out.trans (hb5 _ (Nat.le_refl _))⟩
theorem Rc_quoT (s : ByteArray) (w : World) (hs : s.size ≤ 100000) (hv : validL (L s) = true) (hc : ctlB (L s) = false) (hw : ¬ wordS (L s)) (hp : 0 < s.size) (hq : s[0].toNat = 34 ∨ s[0].toNat = 39) (hu : (unqR (L s)).2 = 5) :
    Calls Tryz.prog 15 #[.string s] w fun e w' => e = .returned (.tuple #[.agg (vZ).toArray, .int .i64 5]) ∧ Below w.heap.size w w' := by
  have HC := Lib.hid (fun w' => clean_any s w' (by omega))
  rw [hv, hc] at HC
  obtain ⟨he1, n1, n2, n3, n4⟩ := no_word s hw
  have g34 : Hid (s[0].toNat = 34 ∨ s[0].toNat = 39) := hq
  have HU := Lib.hid (fun w' => UnquoteR_any s w' (by omega))
  generalize unqR (L s) = ur at *
  obtain ⟨u1, u2⟩ := ur
  dsimp only at HU hu
  subst hu
  clear hv hc hw hq
  go_enter Tryz.func15, Tryz.ntmps15
  go_upto_region 1 with fail
  generalize hW1 : World.alloc w _ = w1
  obtain ⟨ha1, -, hz1, hb1⟩ := alloc_of hW1
  have HX : Hid (w1.heap[w.heap.size]? = some (.cells vZ.toArray 40 (0, 0))) := ha1
  have HB := Lib.hid hb1
  have HZ : Hid (w.heap.size < w1.heap.size) := by unfold Hid; omega
  clear hW1 ha1 hz1 hb1
  go_wp2_with fail
  refine (HC.out _).mono ?_
  rintro e w2 ⟨rfl, hb2⟩
  replace HX := Lib.hid ((hb2.block _ HZ.out).trans HX.out)
  replace HB := Lib.hid (HB.out.trans (hb2.mono HB.out.size))
  replace HZ : Hid (w.heap.size < w2.heap.size) := Nat.lt_of_lt_of_le HZ.out hb2.size
  clear hb2
  clear HC
  have hq := g34.out
  clear g34
  by_cases h39 : s[0].toNat = 39
  all_goals
    first
      | have g1 := beqB s[0] 39 (by omega)
      | have g1 := beqNB s[0] 39 (by omega)
        have g2 := beqB s[0] 34 (by omega)
    clear h39 hq
    go_wp2_with fail
    refine (HU.out _).mono ?_
    rintro e w3 ⟨rfl, hb3⟩
    replace HX := Lib.hid ((hb3.block _ HZ.out).trans HX.out)
    replace HB := Lib.hid (HB.out.trans (hb3.mono HB.out.size))
    replace HZ : Hid (w.heap.size < w3.heap.size) := Nat.lt_of_lt_of_le HZ.out hb3.size
    clear hb3
    clear HU
    go_wp2_with (refine wpl_store rfl rfl stVl.2 rfl rfl (cs := vZ) rfl rfl (one13 rfl) HX.out (Nat.le_of_ble_eq_true rfl) (row := vZ) rfl ?_; generalize hW : World.setRow _ _ _ = ww; have HS := Lib.hid (setRow_of hW HX.out); clear hW)
    obtain ⟨hd5, -, hz5, hb5⟩ := HS.out
    obtain ⟨z0, z1, z2, z3, z4, z5, z6, z7, z8, z9, za, zb, zc⟩ := row13 hd5
    exact bodyPost_ret (v := .tuple #[.agg (vZ).toArray, .int .i64 5]) (by simp [results, Tryz.results15, go_sem, z0, z1, z2, z3, z4, z5, z6, z7, z8, z9, za, zb, zc]) rfl ⟨rfl, HB.out.trans (hb5 _ (Nat.le_refl _))⟩
theorem Rc_quoS (s : ByteArray) (w : World) (hs : s.size ≤ 100000) (hv : validL (L s) = true) (hc : ctlB (L s) = false) (hw : ¬ wordS (L s)) (hp : 0 < s.size) (hq : s[0].toNat = 34 ∨ s[0].toNat = 39) (hu : (unqR (L s)).2 ≠ 5) (hu0 : (unqR (L s)).2 ≠ 0) :
    Calls Tryz.prog 15 #[.string s] w fun e w' => e = .returned (.tuple #[.agg (vZ).toArray, .int .i64 3]) ∧ Below w.heap.size w w' := by
  have HC := Lib.hid (fun w' => clean_any s w' (by omega))
  rw [hv, hc] at HC
  obtain ⟨he1, n1, n2, n3, n4⟩ := no_word s hw
  have g34 : Hid (s[0].toNat = 34 ∨ s[0].toNat = 39) := hq
  have HU := Lib.hid (fun w' => UnquoteR_any s w' (by omega))
  generalize unqR (L s) = ur at *
  obtain ⟨u1, u2⟩ := ur
  dsimp only at HU hu hu0
  have q5 : ((u2 : Int) == 5) = false := by rw [beq_eq_false_iff_ne]; omega
  have q0 : ((u2 : Int) != 0) = true := by rw [bne_iff_ne]; omega
  clear hv hc hw hq hu hu0
  go_enter Tryz.func15, Tryz.ntmps15
  go_upto_region 1 with fail
  generalize hW1 : World.alloc w _ = w1
  obtain ⟨ha1, -, hz1, hb1⟩ := alloc_of hW1
  have HX : Hid (w1.heap[w.heap.size]? = some (.cells vZ.toArray 40 (0, 0))) := ha1
  have HB := Lib.hid hb1
  have HZ : Hid (w.heap.size < w1.heap.size) := by unfold Hid; omega
  clear hW1 ha1 hz1 hb1
  go_wp2_with fail
  refine (HC.out _).mono ?_
  rintro e w2 ⟨rfl, hb2⟩
  replace HX := Lib.hid ((hb2.block _ HZ.out).trans HX.out)
  replace HB := Lib.hid (HB.out.trans (hb2.mono HB.out.size))
  replace HZ : Hid (w.heap.size < w2.heap.size) := Nat.lt_of_lt_of_le HZ.out hb2.size
  clear hb2
  clear HC
  have hq := g34.out
  clear g34
  by_cases h39 : s[0].toNat = 39
  all_goals
    first
      | have g1 := beqB s[0] 39 (by omega)
      | have g1 := beqNB s[0] 39 (by omega)
        have g2 := beqB s[0] 34 (by omega)
    clear h39 hq
    go_wp2_with fail
    refine (HU.out _).mono ?_
    rintro e w3 ⟨rfl, hb3⟩
    replace HX := Lib.hid ((hb3.block _ HZ.out).trans HX.out)
    replace HB := Lib.hid (HB.out.trans (hb3.mono HB.out.size))
    replace HZ : Hid (w.heap.size < w3.heap.size) := Nat.lt_of_lt_of_le HZ.out hb3.size
    clear hb3
    clear HU
    go_wp2_with (refine wpl_store rfl rfl stVl.2 rfl rfl (cs := vZ) rfl rfl (one13 rfl) HX.out (Nat.le_of_ble_eq_true rfl) (row := vZ) rfl ?_; generalize hW : World.setRow _ _ _ = ww; have HS := Lib.hid (setRow_of hW HX.out); clear hW)
    obtain ⟨hd5, -, hz5, hb5⟩ := HS.out
    obtain ⟨z0, z1, z2, z3, z4, z5, z6, z7, z8, z9, za, zb, zc⟩ := row13 hd5
    exact bodyPost_ret (v := .tuple #[.agg (vZ).toArray, .int .i64 3]) (by simp [results, Tryz.results15, go_sem, z0, z1, z2, z3, z4, z5, z6, z7, z8, z9, za, zb, zc]) rfl ⟨rfl, HB.out.trans (hb5 _ (Nat.le_refl _))⟩
theorem Rc_numE (s : ByteArray) (w : World) (hs : s.size ≤ 100000) (hv : validL (L s) = true) (hc : ctlB (L s) = false) (hw : ¬ wordS (L s)) (hp : 0 < s.size) (hq : s[0].toNat ≠ 34 ∧ s[0].toNat ≠ 39) (hnb : ¬ (3 < s.size ∧ pre (L s) [33, 98, 32] = true)) (hn : numB (L s) = true) (h0 : (decP numR (L s)).err ≠ 0) :
    Calls Tryz.prog 15 #[.string s] w fun e w' => e = .returned (.tuple #[.agg (vZ).toArray, .int .i64 2]) ∧ Below w.heap.size w w' := by
  have HC := Lib.hid (fun w' => clean_any s w' (by omega))
  rw [hv, hc] at HC
  obtain ⟨he1, n1, n2, n3, n4⟩ := no_word s hw
  have g1 := beqNB s[0] 39 (by omega)
  have g2 := beqNB s[0] 34 (by omega)
  have hm : s.size ≤ maxLen := by simp only [maxLen]; omega
  have HBF : Hid (((3 : Int) < (s.size : Int)) = False ∨ (((3 : Int) < (s.size : Int)) = True ∧ ((s.extract 0 3).toList == [33, 98, 32]) = false ∧ (3 : Int) ≤ (s.size : Int))) := by
    unfold Hid
    by_cases h3 : 3 < s.size
    · refine .inr ⟨eq_true (by omega), ?_, by omega⟩
      rw [toList_L, L_upto]
      exact beq_false (fun h => hnb ⟨h3, by unfold pre; exact beq_true h⟩)
    · exact .inl (eq_false (by omega))
  have HI := Lib.hid (fun w' => IsNumber3_any s w' (by omega))
  rw [isN_fst] at HI
  rw [hn] at HI
  have HD := Lib.hid (fun w' => Parse2_any s w' hs)
  generalize decP numR (L s) = r at *
  obtain ⟨d1, d2, d3, d4⟩ := r
  dsimp only at h0
  have q0 : ((d4 : Int) != 0) = true := by rw [bne_iff_ne]; omega
  clear hv hc hw hq hnb hn h0
  go_enter Tryz.func15, Tryz.ntmps15
  go_upto_region 1 with fail
  generalize hW1 : World.alloc w _ = w1
  obtain ⟨ha1, -, hz1, hb1⟩ := alloc_of hW1
  have HX : Hid (w1.heap[w.heap.size]? = some (.cells vZ.toArray 40 (0, 0))) := ha1
  have HB := Lib.hid hb1
  have HZ : Hid (w.heap.size < w1.heap.size) := by unfold Hid; omega
  clear hW1 ha1 hz1 hb1
  go_wp2_with fail
  refine (HC.out _).mono ?_
  rintro e w2 ⟨rfl, hb2⟩
  replace HX := Lib.hid ((hb2.block _ HZ.out).trans HX.out)
  replace HB := Lib.hid (HB.out.trans (hb2.mono HB.out.size))
  replace HZ : Hid (w.heap.size < w2.heap.size) := Nat.lt_of_lt_of_le HZ.out hb2.size
  clear hb2
  clear HC
  have hbf := HBF.out
  clear HBF
  rcases hbf with q3 | ⟨q3, q4, q6⟩
  all_goals
    go_wp2_with fail
    refine (HI.out _).mono ?_
    rintro e w' ⟨rfl, rfl⟩
    clear HI
    go_wp2_with fail
    refine (HD.out _).mono ?_
    rintro e w3 ⟨rfl, hb3⟩
    replace HX := Lib.hid ((hb3.block _ HZ.out).trans HX.out)
    replace HB := Lib.hid (HB.out.trans (hb3.mono HB.out.size))
    replace HZ : Hid (w.heap.size < w3.heap.size) := Nat.lt_of_lt_of_le HZ.out hb3.size
    clear hb3
    clear HD
    unfold decV
    dsimp only
    go_upto_region 22 with fail
    generalize hW4 : World.alloc w3 _ = w4
    obtain ⟨ha4, -, hz4, hb4⟩ := alloc_of hW4
    replace HX := Lib.hid ((hb4.block _ HZ.out).trans HX.out)
    replace HB := Lib.hid (HB.out.trans (hb4.mono HB.out.size))
    replace HZ : Hid (w.heap.size < w4.heap.size) := Nat.lt_of_lt_of_le HZ.out hb4.size
    clear hb4
    clear hW4 hz4
    clear ha4
    go_wp2_with (refine wpl_store rfl rfl stVl.2 rfl rfl (cs := vZ) rfl rfl (one13 rfl) HX.out (Nat.le_of_ble_eq_true rfl) (row := vZ) rfl ?_; generalize hW : World.setRow _ _ _ = ww; have HS := Lib.hid (setRow_of hW HX.out); clear hW)
    obtain ⟨hd5, -, hz5, hb5⟩ := HS.out
    obtain ⟨z0, z1, z2, z3, z4, z5, z6, z7, z8, z9, za, zb, zc⟩ := row13 hd5
    exact bodyPost_ret (v := .tuple #[.agg (vZ).toArray, .int .i64 2]) (by simp [results, Tryz.results15, go_sem, z0, z1, z2, z3, z4, z5, z6, z7, z8, z9, za, zb, zc]) rfl ⟨rfl, HB.out.trans (hb5 _ (Nat.le_refl _))⟩
theorem Rc_num (s : ByteArray) (w : World) (hs : s.size ≤ 100000) (hv : validL (L s) = true) (hc : ctlB (L s) = false) (hw : ¬ wordS (L s)) (hp : 0 < s.size) (hq : s[0].toNat ≠ 34 ∧ s[0].toNat ≠ 39) (hnb : ¬ (3 < s.size ∧ pre (L s) [33, 98, 32] = true)) (hn : numB (L s) = true) (r : DecR) (hr : decP numR (L s) = r) (h0 : r.err = 0) :
    Calls Tryz.prog 15 #[.string s] w fun e w' => e = .returned (.tuple #[.agg (vN r.neg ⟨r.ds.toArray⟩ r.e).toArray, .int .i64 0]) ∧ Below w.heap.size w w' := by
  have HC := Lib.hid (fun w' => clean_any s w' (by omega))
  rw [hv, hc] at HC
  obtain ⟨he1, n1, n2, n3, n4⟩ := no_word s hw
  have g1 := beqNB s[0] 39 (by omega)
  have g2 := beqNB s[0] 34 (by omega)
  have hm : s.size ≤ maxLen := by simp only [maxLen]; omega
  have HBF : Hid (((3 : Int) < (s.size : Int)) = False ∨ (((3 : Int) < (s.size : Int)) = True ∧ ((s.extract 0 3).toList == [33, 98, 32]) = false ∧ (3 : Int) ≤ (s.size : Int))) := by
    unfold Hid
    by_cases h3 : 3 < s.size
    · refine .inr ⟨eq_true (by omega), ?_, by omega⟩
      rw [toList_L, L_upto]
      exact beq_false (fun h => hnb ⟨h3, by unfold pre; exact beq_true h⟩)
    · exact .inl (eq_false (by omega))
  have HI := Lib.hid (fun w' => IsNumber3_any s w' (by omega))
  rw [isN_fst] at HI
  rw [hn] at HI
  have HD := Lib.hid (fun w' => Parse2_any s w' hs)
  rw [hr] at HD
  obtain ⟨d1, d2, d3, d4⟩ := r
  dsimp only at h0 ⊢
  subst h0
  clear hv hc hw hq hnb hn hr
  go_enter Tryz.func15, Tryz.ntmps15
  go_upto_region 1 with fail
  generalize hW1 : World.alloc w _ = w1
  obtain ⟨ha1, -, hz1, hb1⟩ := alloc_of hW1
  have HX : Hid (w1.heap[w.heap.size]? = some (.cells vZ.toArray 40 (0, 0))) := ha1
  have HB := Lib.hid hb1
  have HZ : Hid (w.heap.size < w1.heap.size) := by unfold Hid; omega
  clear hW1 ha1 hz1 hb1
  go_wp2_with fail
  refine (HC.out _).mono ?_
  rintro e w2 ⟨rfl, hb2⟩
  replace HX := Lib.hid ((hb2.block _ HZ.out).trans HX.out)
  replace HB := Lib.hid (HB.out.trans (hb2.mono HB.out.size))
  replace HZ : Hid (w.heap.size < w2.heap.size) := Nat.lt_of_lt_of_le HZ.out hb2.size
  clear hb2
  clear HC
  have hbf := HBF.out
  clear HBF
  rcases hbf with q3 | ⟨q3, q4, q6⟩
  all_goals
    go_wp2_with fail
    refine (HI.out _).mono ?_
    rintro e w' ⟨rfl, rfl⟩
    clear HI
    go_wp2_with fail
    refine (HD.out _).mono ?_
    rintro e w3 ⟨rfl, hb3⟩
    replace HX := Lib.hid ((hb3.block _ HZ.out).trans HX.out)
    replace HB := Lib.hid (HB.out.trans (hb3.mono HB.out.size))
    replace HZ : Hid (w.heap.size < w3.heap.size) := Nat.lt_of_lt_of_le HZ.out hb3.size
    clear hb3
    clear HD
    unfold decV
    dsimp only
    go_upto_region 23 with fail
    generalize hW4 : World.alloc w3 _ = w4
    obtain ⟨ha4, -, hz4, hb4⟩ := alloc_of hW4
    replace HX := Lib.hid ((hb4.block _ HZ.out).trans HX.out)
    replace HB := Lib.hid (HB.out.trans (hb4.mono HB.out.size))
    replace HZ : Hid (w.heap.size < w4.heap.size) := Nat.lt_of_lt_of_le HZ.out hb4.size
    clear hb4
    clear hW4 hz4
    obtain ⟨⟨y0, y1, y2⟩, -⟩ := box3 ha4
    clear ha4
    go_wp2_with (refine wpl_store rfl rfl stVl.2 rfl rfl (cs := vN d1 ⟨d2.toArray⟩ d3) rfl rfl (one13 rfl) HX.out (Nat.le_of_ble_eq_true rfl) (row := vN d1 ⟨d2.toArray⟩ d3) rfl ?_; generalize hW : World.setRow _ _ _ = ww; have HS := Lib.hid (setRow_of hW HX.out); clear hW)
    obtain ⟨hd5, -, hz5, hb5⟩ := HS.out
    obtain ⟨z0, z1, z2, z3, z4, z5, z6, z7, z8, z9, za, zb, zc⟩ := row13 hd5
    exact bodyPost_ret (v := .tuple #[.agg (vN d1 ⟨d2.toArray⟩ d3).toArray, .int .i64 0]) (by simp [results, Tryz.results15, go_sem, z0, z1, z2, z3, z4, z5, z6, z7, z8, z9, za, zb, zc]) rfl ⟨rfl, HB.out.trans (hb5 _ (Nat.le_refl _))⟩
theorem Rc_timE (s : ByteArray) (w : World) (hs : s.size ≤ 100000) (hv : validL (L s) = true) (hc : ctlB (L s) = false) (hw : ¬ wordS (L s)) (hp : 0 < s.size) (hq : s[0].toNat ≠ 34 ∧ s[0].toNat ≠ 39) (hnb : ¬ (3 < s.size ∧ pre (L s) [33, 98, 32] = true)) (hn : numB (L s) = false) (ht : timB s = true) (h0 : (rpR (L s)).2 ≠ 0) :
    Calls Tryz.prog 15 #[.string s] w fun e w' => e = .returned (.tuple #[.agg (vZ).toArray, .int .i64 2]) ∧ Below w.heap.size w w' := by
  have HC := Lib.hid (fun w' => clean_any s w' (by omega))
  rw [hv, hc] at HC
  obtain ⟨he1, n1, n2, n3, n4⟩ := no_word s hw
  have g1 := beqNB s[0] 39 (by omega)
  have g2 := beqNB s[0] 34 (by omega)
  have hm : s.size ≤ maxLen := by simp only [maxLen]; omega
  have HBF : Hid (((3 : Int) < (s.size : Int)) = False ∨ (((3 : Int) < (s.size : Int)) = True ∧ ((s.extract 0 3).toList == [33, 98, 32]) = false ∧ (3 : Int) ≤ (s.size : Int))) := by
    unfold Hid
    by_cases h3 : 3 < s.size
    · refine .inr ⟨eq_true (by omega), ?_, by omega⟩
      rw [toList_L, L_upto]
      exact beq_false (fun h => hnb ⟨h3, by unfold pre; exact beq_true h⟩)
    · exact .inl (eq_false (by omega))
  have HI := Lib.hid (fun w' => IsNumber3_any s w' (by omega))
  rw [isN_fst] at HI
  rw [hn] at HI
  have HT := Lib.hid (fun w' => timed_any s w' (by omega))
  rw [ht] at HT
  have HM := Lib.hid (fun w' => ParseR_any s w' (by omega))
  obtain ⟨ta, tb, tc, td, htm⟩ := rp_tm (L s)
  generalize rpR (L s) = r at *
  obtain ⟨r1, r2⟩ := r
  dsimp only at h0 HM htm ⊢
  subst htm
  unfold tmV at HM
  have q0 : ((r2 : Int) != 0) = true := by rw [bne_iff_ne]; omega
  clear hv hc hw hq hnb hn ht h0
  go_enter Tryz.func15, Tryz.ntmps15
  go_upto_region 1 with fail
  generalize hW1 : World.alloc w _ = w1
  obtain ⟨ha1, -, hz1, hb1⟩ := alloc_of hW1
  have HX : Hid (w1.heap[w.heap.size]? = some (.cells vZ.toArray 40 (0, 0))) := ha1
  have HB := Lib.hid hb1
  have HZ : Hid (w.heap.size < w1.heap.size) := by unfold Hid; omega
  clear hW1 ha1 hz1 hb1
  go_wp2_with fail
  refine (HC.out _).mono ?_
  rintro e w2 ⟨rfl, hb2⟩
  replace HX := Lib.hid ((hb2.block _ HZ.out).trans HX.out)
  replace HB := Lib.hid (HB.out.trans (hb2.mono HB.out.size))
  replace HZ : Hid (w.heap.size < w2.heap.size) := Nat.lt_of_lt_of_le HZ.out hb2.size
  clear hb2
  clear HC
  have hbf := HBF.out
  clear HBF
  rcases hbf with q3 | ⟨q3, q4, q6⟩
  all_goals
    go_wp2_with fail
    refine (HI.out _).mono ?_
    rintro e w' ⟨rfl, rfl⟩
    clear HI
    go_wp2_with fail
    refine (HT.out _).mono ?_
    rintro e w3 ⟨rfl, hb3⟩
    replace HX := Lib.hid ((hb3.block _ HZ.out).trans HX.out)
    replace HB := Lib.hid (HB.out.trans (hb3.mono HB.out.size))
    replace HZ : Hid (w.heap.size < w3.heap.size) := Nat.lt_of_lt_of_le HZ.out hb3.size
    clear hb3
    clear HT
    go_wp2_with fail
    refine (HM.out _).mono ?_
    rintro e w4 ⟨rfl, hb4⟩
    replace HX := Lib.hid ((hb4.block _ HZ.out).trans HX.out)
    replace HB := Lib.hid (HB.out.trans (hb4.mono HB.out.size))
    replace HZ : Hid (w.heap.size < w4.heap.size) := Nat.lt_of_lt_of_le HZ.out hb4.size
    clear hb4
    clear HM
    go_upto_region 27 with fail
    generalize hW5 : World.alloc w4 _ = w5
    obtain ⟨ha5, -, hz5, hb5⟩ := alloc_of hW5
    replace HX := Lib.hid ((hb5.block _ HZ.out).trans HX.out)
    replace HB := Lib.hid (HB.out.trans (hb5.mono HB.out.size))
    replace HZ : Hid (w.heap.size < w5.heap.size) := Nat.lt_of_lt_of_le HZ.out hb5.size
    clear hb5
    clear hW5 hz5
    clear ha5
    go_wp2_with (refine wpl_store rfl rfl stVl.2 rfl rfl (cs := vZ) rfl rfl (one13 rfl) HX.out (Nat.le_of_ble_eq_true rfl) (row := vZ) rfl ?_; generalize hW : World.setRow _ _ _ = ww; have HS := Lib.hid (setRow_of hW HX.out); clear hW)
    obtain ⟨hd5, -, hz5, hb5⟩ := HS.out
    obtain ⟨z0, z1, z2, z3, z4, z5, z6, z7, z8, z9, za, zb, zc⟩ := row13 hd5
    exact bodyPost_ret (v := .tuple #[.agg (vZ).toArray, .int .i64 2]) (by simp [results, Tryz.results15, go_sem, z0, z1, z2, z3, z4, z5, z6, z7, z8, z9, za, zb, zc]) rfl ⟨rfl, HB.out.trans (hb5 _ (Nat.le_refl _))⟩
theorem Rc_tim (s : ByteArray) (w : World) (hs : s.size ≤ 100000) (hv : validL (L s) = true) (hc : ctlB (L s) = false) (hw : ¬ wordS (L s)) (hp : 0 < s.size) (hq : s[0].toNat ≠ 34 ∧ s[0].toNat ≠ 39) (hnb : ¬ (3 < s.size ∧ pre (L s) [33, 98, 32] = true)) (hn : numB (L s) = false) (ht : timB s = true) (a b c d : Int) (hr : rpR (L s) = (tmV a b c d, 0)) :
    Calls Tryz.prog 15 #[.string s] w fun e w' => e = .returned (.tuple #[.agg (vM a b c d).toArray, .int .i64 0]) ∧ Below w.heap.size w w' := by
  have HC := Lib.hid (fun w' => clean_any s w' (by omega))
  rw [hv, hc] at HC
  obtain ⟨he1, n1, n2, n3, n4⟩ := no_word s hw
  have g1 := beqNB s[0] 39 (by omega)
  have g2 := beqNB s[0] 34 (by omega)
  have hm : s.size ≤ maxLen := by simp only [maxLen]; omega
  have HBF : Hid (((3 : Int) < (s.size : Int)) = False ∨ (((3 : Int) < (s.size : Int)) = True ∧ ((s.extract 0 3).toList == [33, 98, 32]) = false ∧ (3 : Int) ≤ (s.size : Int))) := by
    unfold Hid
    by_cases h3 : 3 < s.size
    · refine .inr ⟨eq_true (by omega), ?_, by omega⟩
      rw [toList_L, L_upto]
      exact beq_false (fun h => hnb ⟨h3, by unfold pre; exact beq_true h⟩)
    · exact .inl (eq_false (by omega))
  have HI := Lib.hid (fun w' => IsNumber3_any s w' (by omega))
  rw [isN_fst] at HI
  rw [hn] at HI
  have HT := Lib.hid (fun w' => timed_any s w' (by omega))
  rw [ht] at HT
  have HM := Lib.hid (fun w' => ParseR_any s w' (by omega))
  rw [hr] at HM
  unfold tmV at HM
  dsimp only at HM
  clear hv hc hw hq hnb hn ht hr
  go_enter Tryz.func15, Tryz.ntmps15
  go_upto_region 1 with fail
  generalize hW1 : World.alloc w _ = w1
  obtain ⟨ha1, -, hz1, hb1⟩ := alloc_of hW1
  have HX : Hid (w1.heap[w.heap.size]? = some (.cells vZ.toArray 40 (0, 0))) := ha1
  have HB := Lib.hid hb1
  have HZ : Hid (w.heap.size < w1.heap.size) := by unfold Hid; omega
  clear hW1 ha1 hz1 hb1
  go_wp2_with fail
  refine (HC.out _).mono ?_
  rintro e w2 ⟨rfl, hb2⟩
  replace HX := Lib.hid ((hb2.block _ HZ.out).trans HX.out)
  replace HB := Lib.hid (HB.out.trans (hb2.mono HB.out.size))
  replace HZ : Hid (w.heap.size < w2.heap.size) := Nat.lt_of_lt_of_le HZ.out hb2.size
  clear hb2
  clear HC
  have hbf := HBF.out
  clear HBF
  rcases hbf with q3 | ⟨q3, q4, q6⟩
  all_goals
    go_wp2_with fail
    refine (HI.out _).mono ?_
    rintro e w' ⟨rfl, rfl⟩
    clear HI
    go_wp2_with fail
    refine (HT.out _).mono ?_
    rintro e w3 ⟨rfl, hb3⟩
    replace HX := Lib.hid ((hb3.block _ HZ.out).trans HX.out)
    replace HB := Lib.hid (HB.out.trans (hb3.mono HB.out.size))
    replace HZ : Hid (w.heap.size < w3.heap.size) := Nat.lt_of_lt_of_le HZ.out hb3.size
    clear hb3
    clear HT
    go_wp2_with fail
    refine (HM.out _).mono ?_
    rintro e w4 ⟨rfl, hb4⟩
    replace HX := Lib.hid ((hb4.block _ HZ.out).trans HX.out)
    replace HB := Lib.hid (HB.out.trans (hb4.mono HB.out.size))
    replace HZ : Hid (w.heap.size < w4.heap.size) := Nat.lt_of_lt_of_le HZ.out hb4.size
    clear hb4
    clear HM
    go_upto_region 28 with fail
    generalize hW5 : World.alloc w4 _ = w5
    obtain ⟨ha5, -, hz5, hb5⟩ := alloc_of hW5
    replace HX := Lib.hid ((hb5.block _ HZ.out).trans HX.out)
    replace HB := Lib.hid (HB.out.trans (hb5.mono HB.out.size))
    replace HZ : Hid (w.heap.size < w5.heap.size) := Nat.lt_of_lt_of_le HZ.out hb5.size
    clear hb5
    clear hW5 hz5
    obtain ⟨y0, y1, y2, y3⟩ := row4 ha5
    clear ha5
    go_wp2_with (refine wpl_store rfl rfl stVl.2 rfl rfl (cs := vM a b c d) rfl rfl (one13 rfl) HX.out (Nat.le_of_ble_eq_true rfl) (row := vM a b c d) rfl ?_; generalize hW : World.setRow _ _ _ = ww; have HS := Lib.hid (setRow_of hW HX.out); clear hW)
    obtain ⟨hd5, -, hz5, hb5⟩ := HS.out
    obtain ⟨z0, z1, z2, z3, z4, z5, z6, z7, z8, z9, za, zb, zc⟩ := row13 hd5
    exact bodyPost_ret (v := .tuple #[.agg (vM a b c d).toArray, .int .i64 0]) (by simp [results, Tryz.results15, go_sem, z0, z1, z2, z3, z4, z5, z6, z7, z8, z9, za, zb, zc]) rfl ⟨rfl, HB.out.trans (hb5 _ (Nat.le_refl _))⟩
theorem Rc_plain (s : ByteArray) (w : World) (hs : s.size ≤ 100000) (hv : validL (L s) = true) (hc : ctlB (L s) = false) (hw : ¬ wordS (L s)) (hp : 0 < s.size) (hq : s[0].toNat ≠ 34 ∧ s[0].toNat ≠ 39) (hnb : ¬ (3 < s.size ∧ pre (L s) [33, 98, 32] = true)) (hn : numB (L s) = false) (ht : timB s = false) (hl : plainB (L s) = true) :
    Calls Tryz.prog 15 #[.string s] w fun e w' => e = .returned (.tuple #[.agg ((txtR s).1).toArray, .int .i64 ((txtR s).2 : Nat)]) ∧ Below w.heap.size w w' := by
  have HC := Lib.hid (fun w' => clean_any s w' (by omega))
  rw [hv, hc] at HC
  obtain ⟨he1, n1, n2, n3, n4⟩ := no_word s hw
  have g1 := beqNB s[0] 39 (by omega)
  have g2 := beqNB s[0] 34 (by omega)
  have hm : s.size ≤ maxLen := by simp only [maxLen]; omega
  have HBF : Hid (((3 : Int) < (s.size : Int)) = False ∨ (((3 : Int) < (s.size : Int)) = True ∧ ((s.extract 0 3).toList == [33, 98, 32]) = false ∧ (3 : Int) ≤ (s.size : Int))) := by
    unfold Hid
    by_cases h3 : 3 < s.size
    · refine .inr ⟨eq_true (by omega), ?_, by omega⟩
      rw [toList_L, L_upto]
      exact beq_false (fun h => hnb ⟨h3, by unfold pre; exact beq_true h⟩)
    · exact .inl (eq_false (by omega))
  have HI := Lib.hid (fun w' => IsNumber3_any s w' (by omega))
  rw [isN_fst] at HI
  rw [hn] at HI
  have HT := Lib.hid (fun w' => timed_any s w' (by omega))
  rw [ht] at HT
  have HP := Lib.hid (fun w' => IsPlain_any s w' (by omega))
  rw [hl] at HP
  have HTV := Lib.hid (fun w' => text21_any s w')
  obtain ⟨tq, tu, htq⟩ := txt_form s
  generalize txtR s = tr at *
  obtain ⟨tx, te⟩ := tr
  dsimp only at HTV htq ⊢
  subst htq
  clear hv hc hw hq hnb hn ht hl
  go_enter Tryz.func15, Tryz.ntmps15
  go_upto_region 1 with fail
  generalize hW1 : World.alloc w _ = w1
  obtain ⟨ha1, -, hz1, hb1⟩ := alloc_of hW1
  have HX : Hid (w1.heap[w.heap.size]? = some (.cells vZ.toArray 40 (0, 0))) := ha1
  have HB := Lib.hid hb1
  have HZ : Hid (w.heap.size < w1.heap.size) := by unfold Hid; omega
  clear hW1 ha1 hz1 hb1
  go_wp2_with fail
  refine (HC.out _).mono ?_
  rintro e w2 ⟨rfl, hb2⟩
  replace HX := Lib.hid ((hb2.block _ HZ.out).trans HX.out)
  replace HB := Lib.hid (HB.out.trans (hb2.mono HB.out.size))
  replace HZ : Hid (w.heap.size < w2.heap.size) := Nat.lt_of_lt_of_le HZ.out hb2.size
  clear hb2
  clear HC
  have hbf := HBF.out
  clear HBF
  rcases hbf with q3 | ⟨q3, q4, q6⟩
  all_goals
    go_wp2_with fail
    refine (HI.out _).mono ?_
    rintro e w' ⟨rfl, rfl⟩
    clear HI
    go_wp2_with fail
    refine (HT.out _).mono ?_
    rintro e w3 ⟨rfl, hb3⟩
    replace HX := Lib.hid ((hb3.block _ HZ.out).trans HX.out)
    replace HB := Lib.hid (HB.out.trans (hb3.mono HB.out.size))
    replace HZ : Hid (w.heap.size < w3.heap.size) := Nat.lt_of_lt_of_le HZ.out hb3.size
    clear hb3
    clear HT
    go_wp2_with fail
    refine (HP.out _).mono ?_
    rintro e w4 ⟨rfl, hb4⟩
    replace HX := Lib.hid ((hb4.block _ HZ.out).trans HX.out)
    replace HB := Lib.hid (HB.out.trans (hb4.mono HB.out.size))
    replace HZ : Hid (w.heap.size < w4.heap.size) := Nat.lt_of_lt_of_le HZ.out hb4.size
    clear hb4
    clear HP
    go_wp2_with fail
    refine (HTV.out _).mono ?_
    rintro e w5 ⟨rfl, hb5⟩
    replace HX := Lib.hid ((hb5.block _ HZ.out).trans HX.out)
    replace HB := Lib.hid (HB.out.trans (hb5.mono HB.out.size))
    replace HZ : Hid (w.heap.size < w5.heap.size) := Nat.lt_of_lt_of_le HZ.out hb5.size
    clear hb5
    clear HTV
    go_wp2_with (refine wpl_store rfl rfl stVl.2 rfl rfl (cs := vQ tq tu) rfl rfl (one13 rfl) HX.out (Nat.le_of_ble_eq_true rfl) (row := vQ tq tu) rfl ?_; generalize hW : World.setRow _ _ _ = ww; have HS := Lib.hid (setRow_of hW HX.out); clear hW)
    obtain ⟨hd5, -, hz5, hb5⟩ := HS.out
    obtain ⟨z0, z1, z2, z3, z4, z5, z6, z7, z8, z9, za, zb, zc⟩ := row13 hd5
    exact bodyPost_ret (v := .tuple #[.agg (vQ tq tu).toArray, .int .i64 te]) (by simp [results, Tryz.results15, go_sem, z0, z1, z2, z3, z4, z5, z6, z7, z8, z9, za, zb, zc]) rfl ⟨rfl, HB.out.trans (hb5 _ (Nat.le_refl _))⟩
theorem Rc_bad (s : ByteArray) (w : World) (hs : s.size ≤ 100000) (hv : validL (L s) = true) (hc : ctlB (L s) = false) (hw : ¬ wordS (L s)) (hp : 0 < s.size) (hq : s[0].toNat ≠ 34 ∧ s[0].toNat ≠ 39) (hnb : ¬ (3 < s.size ∧ pre (L s) [33, 98, 32] = true)) (hn : numB (L s) = false) (ht : timB s = false) (hl : plainB (L s) = false) :
    Calls Tryz.prog 15 #[.string s] w fun e w' => e = .returned (.tuple #[.agg (vZ).toArray, .int .i64 3]) ∧ Below w.heap.size w w' := by
  have HC := Lib.hid (fun w' => clean_any s w' (by omega))
  rw [hv, hc] at HC
  obtain ⟨he1, n1, n2, n3, n4⟩ := no_word s hw
  have g1 := beqNB s[0] 39 (by omega)
  have g2 := beqNB s[0] 34 (by omega)
  have hm : s.size ≤ maxLen := by simp only [maxLen]; omega
  have HBF : Hid (((3 : Int) < (s.size : Int)) = False ∨ (((3 : Int) < (s.size : Int)) = True ∧ ((s.extract 0 3).toList == [33, 98, 32]) = false ∧ (3 : Int) ≤ (s.size : Int))) := by
    unfold Hid
    by_cases h3 : 3 < s.size
    · refine .inr ⟨eq_true (by omega), ?_, by omega⟩
      rw [toList_L, L_upto]
      exact beq_false (fun h => hnb ⟨h3, by unfold pre; exact beq_true h⟩)
    · exact .inl (eq_false (by omega))
  have HI := Lib.hid (fun w' => IsNumber3_any s w' (by omega))
  rw [isN_fst] at HI
  rw [hn] at HI
  have HT := Lib.hid (fun w' => timed_any s w' (by omega))
  rw [ht] at HT
  have HP := Lib.hid (fun w' => IsPlain_any s w' (by omega))
  rw [hl] at HP
  clear hv hc hw hq hnb hn ht hl
  go_enter Tryz.func15, Tryz.ntmps15
  go_upto_region 1 with fail
  generalize hW1 : World.alloc w _ = w1
  obtain ⟨ha1, -, hz1, hb1⟩ := alloc_of hW1
  have HX : Hid (w1.heap[w.heap.size]? = some (.cells vZ.toArray 40 (0, 0))) := ha1
  have HB := Lib.hid hb1
  have HZ : Hid (w.heap.size < w1.heap.size) := by unfold Hid; omega
  clear hW1 ha1 hz1 hb1
  go_wp2_with fail
  refine (HC.out _).mono ?_
  rintro e w2 ⟨rfl, hb2⟩
  replace HX := Lib.hid ((hb2.block _ HZ.out).trans HX.out)
  replace HB := Lib.hid (HB.out.trans (hb2.mono HB.out.size))
  replace HZ : Hid (w.heap.size < w2.heap.size) := Nat.lt_of_lt_of_le HZ.out hb2.size
  clear hb2
  clear HC
  have hbf := HBF.out
  clear HBF
  rcases hbf with q3 | ⟨q3, q4, q6⟩
  all_goals
    go_wp2_with fail
    refine (HI.out _).mono ?_
    rintro e w' ⟨rfl, rfl⟩
    clear HI
    go_wp2_with fail
    refine (HT.out _).mono ?_
    rintro e w3 ⟨rfl, hb3⟩
    replace HX := Lib.hid ((hb3.block _ HZ.out).trans HX.out)
    replace HB := Lib.hid (HB.out.trans (hb3.mono HB.out.size))
    replace HZ : Hid (w.heap.size < w3.heap.size) := Nat.lt_of_lt_of_le HZ.out hb3.size
    clear hb3
    clear HT
    go_wp2_with fail
    refine (HP.out _).mono ?_
    rintro e w4 ⟨rfl, hb4⟩
    replace HX := Lib.hid ((hb4.block _ HZ.out).trans HX.out)
    replace HB := Lib.hid (HB.out.trans (hb4.mono HB.out.size))
    replace HZ : Hid (w.heap.size < w4.heap.size) := Nat.lt_of_lt_of_le HZ.out hb4.size
    clear hb4
    clear HP
    go_wp2_with (refine wpl_store rfl rfl stVl.2 rfl rfl (cs := vZ) rfl rfl (one13 rfl) HX.out (Nat.le_of_ble_eq_true rfl) (row := vZ) rfl ?_; generalize hW : World.setRow _ _ _ = ww; have HS := Lib.hid (setRow_of hW HX.out); clear hW)
    obtain ⟨hd5, -, hz5, hb5⟩ := HS.out
    obtain ⟨z0, z1, z2, z3, z4, z5, z6, z7, z8, z9, za, zb, zc⟩ := row13 hd5
    exact bodyPost_ret (v := .tuple #[.agg (vZ).toArray, .int .i64 3]) (by simp [results, Tryz.results15, go_sem, z0, z1, z2, z3, z4, z5, z6, z7, z8, z9, za, zb, zc]) rfl ⟨rfl, HB.out.trans (hb5 _ (Nat.le_refl _))⟩
end Go.Proofs.YtgddhkanfcpipaaGreatDoor
