/- The law IndentlexBack walked. Conditions: the tables of unicode/utf8 as they are, a value of internal/bytealg.MaxLen. -/
import Derived.Test.YtgddhkanfcpipaaGreatDoorZn5
import Derived.Test.YtgddhkanfcpipaaGreatDoorZk20
namespace Go.Proofs.YtgddhkanfcpipaaGreatDoor
open Go.RowKit
set_option maxHeartbeats 4000000
set_option maxRecDepth 100000

/-- None of the five words. -/
def wordS (l : List UInt8) : Prop := l = [] ∨ l = [110, 117, 108, 108] ∨ l = [116, 114, 117, 101] ∨ l = [102, 97, 108, 115, 101] ∨ l = [33, 98]
theorem no_word (s : ByteArray) (h : ¬ wordS (L s)) : s.toList.isEmpty = false ∧ (s.toList == [110, 117, 108, 108]) = false ∧ (s.toList == [116, 114, 117, 101]) = false ∧ (s.toList == [102, 97, 108, 115, 101]) = false ∧ (s.toList == [33, 98]) = false := by
  unfold wordS at h
  refine ⟨?_, ?_, ?_, ?_, ?_⟩
  · rw [empty_L]
    have h0 : L s ≠ [] := fun h' => h (.inl h')
    simpa using h0
  · rw [toList_L]; exact beq_false (fun h' => h (.inr (.inl h')))
  · rw [toList_L]; exact beq_false (fun h' => h (.inr (.inr (.inl h'))))
  · rw [toList_L]; exact beq_false (fun h' => h (.inr (.inr (.inr (.inl h')))))
  · rw [toList_L]; exact beq_false (fun h' => h (.inr (.inr (.inr (.inr h')))))
abbrev vQ (q : Int) (u : ByteArray) : List Value := [.int .i64 q, .bool false, .bool false, .string ⟨#[]⟩, .int .i64 0, .int .i64 0, .int .i64 0, .int .i64 0, .int .i64 0, .string u, .slice none 0 0, .slice none 0 0, .slice none 0 0]
theorem txt_form (t : ByteArray) : ∃ (q : Int) (u : ByteArray), (txtR t).1 = vQ q u := by
  by_cases h : 65536 < t.size
  · exact ⟨0, ⟨#[]⟩, by unfold txtR; rw [if_pos h]⟩
  · exact ⟨4, t, by unfold txtR; rw [if_neg h]⟩
abbrev vB (b : Bool) : List Value := [.int .i64 1, .bool b, .bool false, .string ⟨#[]⟩, .int .i64 0, .int .i64 0, .int .i64 0, .int .i64 0, .int .i64 0, .string ⟨#[]⟩, .slice none 0 0, .slice none 0 0, .slice none 0 0]
abbrev vE : List Value := [.int .i64 5, .bool false, .bool false, .string ⟨#[]⟩, .int .i64 0, .int .i64 0, .int .i64 0, .int .i64 0, .int .i64 0, .string ⟨#[]⟩, .slice none 0 0, .slice none 0 0, .slice none 0 0]
abbrev vN (n : Bool) (d : ByteArray) (e : Int) : List Value := [.int .i64 2, .bool false, .bool n, .string d, .int .i64 e, .int .i64 0, .int .i64 0, .int .i64 0, .int .i64 0, .string ⟨#[]⟩, .slice none 0 0, .slice none 0 0, .slice none 0 0]
abbrev vM (a b c d : Int) : List Value := [.int .i64 3, .bool false, .bool false, .string ⟨#[]⟩, .int .i64 0, .int .i64 a, .int .i64 b, .int .i64 c, .int .i64 d, .string ⟨#[]⟩, .slice none 0 0, .slice none 0 0, .slice none 0 0]
theorem Sc_inv (s : ByteArray) (w : World) (hs : s.size ≤ 100000) (hv : validL (L s) = false) :
    Calls Tryz.prog 14 #[.string s] w fun e w' => e = .returned (.tuple #[.agg (vZ).toArray, .int .i64 5]) ∧ Below w.heap.size w w' := by
  have HV := Lib.hid (fun w' => Valid_any s w' (by omega))
  rw [hv] at HV
  clear hv
  go_enter Tryz.func14, Tryz.ntmps14
  go_upto_region 1 with fail
  generalize hW1 : World.alloc w _ = w1
  obtain ⟨ha1, -, hz1, hb1⟩ := alloc_of hW1
  have HX : Hid (w1.heap[w.heap.size]? = some (.cells vZ.toArray 40 (0, 0))) := ha1
  have HB := Lib.hid hb1
  have HZ : Hid (w.heap.size < w1.heap.size) := by unfold Hid; omega
  clear hW1 ha1 hz1 hb1
  go_wp2_with fail
  refine (HV.out _).mono ?_
  rintro e w' ⟨rfl, rfl⟩
  clear HV
  go_wp2_with (refine wpl_store rfl rfl stVl.2 rfl rfl (cs := vZ) rfl rfl (one13 rfl) HX.out (Nat.le_of_ble_eq_true rfl) (row := vZ) rfl ?_; generalize hW : World.setRow _ _ _ = ww; have HS := Lib.hid (setRow_of hW HX.out); clear hW)
  obtain ⟨hd5, -, hz5, hb5⟩ := HS.out
  obtain ⟨z0, z1, z2, z3, z4, z5, z6, z7, z8, z9, za, zb, zc⟩ := row13 hd5
  exact bodyPost_ret (v := .tuple #[.agg (vZ).toArray, .int .i64 5]) (by simp [results, Tryz.results14, go_sem, z0, z1, z2, z3, z4, z5, z6, z7, z8, z9, za, zb, zc]) rfl ⟨rfl, HB.out.trans (hb5 _ (Nat.le_refl _))⟩
theorem Sc_ctl (s : ByteArray) (w : World) (hs : s.size ≤ 100000) (hv : validL (L s) = true) (hc : ctlB (L s) = true) :
    Calls Tryz.prog 14 #[.string s] w fun e w' => e = .returned (.tuple #[.agg (vZ).toArray, .int .i64 5]) ∧ Below w.heap.size w w' := by
  have HV := Lib.hid (fun w' => Valid_any s w' (by omega))
  rw [hv] at HV
  have HC := Lib.hid (fun w' => control_any s w')
  rw [hc] at HC
  clear hv hc
  go_enter Tryz.func14, Tryz.ntmps14
  go_upto_region 1 with fail
  generalize hW1 : World.alloc w _ = w1
  obtain ⟨ha1, -, hz1, hb1⟩ := alloc_of hW1
  have HX : Hid (w1.heap[w.heap.size]? = some (.cells vZ.toArray 40 (0, 0))) := ha1
  have HB := Lib.hid hb1
  have HZ : Hid (w.heap.size < w1.heap.size) := by unfold Hid; omega
  clear hW1 ha1 hz1 hb1
  go_wp2_with fail
  refine (HV.out _).mono ?_
  rintro e w' ⟨rfl, rfl⟩
  clear HV
  go_wp2_with fail
  refine (HC.out _).mono ?_
  rintro e w2 ⟨rfl, hb2⟩
  replace HX := Lib.hid ((hb2.block _ HZ.out).trans HX.out)
  replace HB := Lib.hid (HB.out.trans (hb2.mono HB.out.size))
  replace HZ : Hid (w.heap.size < w2.heap.size) := Nat.lt_of_lt_of_le HZ.out hb2.size
  clear hb2
  clear HC
  go_wp2_with (refine wpl_store rfl rfl stVl.2 rfl rfl (cs := vZ) rfl rfl (one13 rfl) HX.out (Nat.le_of_ble_eq_true rfl) (row := vZ) rfl ?_; generalize hW : World.setRow _ _ _ = ww; have HS := Lib.hid (setRow_of hW HX.out); clear hW)
  obtain ⟨hd5, -, hz5, hb5⟩ := HS.out
  obtain ⟨z0, z1, z2, z3, z4, z5, z6, z7, z8, z9, za, zb, zc⟩ := row13 hd5
  exact bodyPost_ret (v := .tuple #[.agg (vZ).toArray, .int .i64 5]) (by simp [results, Tryz.results14, go_sem, z0, z1, z2, z3, z4, z5, z6, z7, z8, z9, za, zb, zc]) rfl ⟨rfl, HB.out.trans (hb5 _ (Nat.le_refl _))⟩
theorem Sc_nil (w : World) :
    Calls Tryz.prog 14 #[.string ⟨#[]⟩] w fun e w' => e = .returned (.tuple #[.agg (vZ).toArray, .int .i64 0]) ∧ Below w.heap.size w w' := by
  have HV := Lib.hid (fun w' => Valid_any ⟨#[]⟩ w' (by decide))
  rw [show validL (L ⟨#[]⟩) = true from by decide +kernel] at HV
  have HC := Lib.hid (fun w' => control_any ⟨#[]⟩ w')
  rw [show ctlB (L ⟨#[]⟩) = false from by decide +kernel] at HC
  go_enter Tryz.func14, Tryz.ntmps14
  go_upto_region 1 with fail
  generalize hW1 : World.alloc w _ = w1
  obtain ⟨ha1, -, hz1, hb1⟩ := alloc_of hW1
  have HX : Hid (w1.heap[w.heap.size]? = some (.cells vZ.toArray 40 (0, 0))) := ha1
  have HB := Lib.hid hb1
  have HZ : Hid (w.heap.size < w1.heap.size) := by unfold Hid; omega
  clear hW1 ha1 hz1 hb1
  go_wp2_with fail
  refine (HV.out _).mono ?_
  rintro e w' ⟨rfl, rfl⟩
  clear HV
  go_wp2_with fail
  refine (HC.out _).mono ?_
  rintro e w2 ⟨rfl, hb2⟩
  replace HX := Lib.hid ((hb2.block _ HZ.out).trans HX.out)
  replace HB := Lib.hid (HB.out.trans (hb2.mono HB.out.size))
  replace HZ : Hid (w.heap.size < w2.heap.size) := Nat.lt_of_lt_of_le HZ.out hb2.size
  clear hb2
  clear HC
  go_wp2_with (refine wpl_store rfl rfl stVl.2 rfl rfl (cs := vZ) rfl rfl (one13 rfl) HX.out (Nat.le_of_ble_eq_true rfl) (row := vZ) rfl ?_; generalize hW : World.setRow _ _ _ = ww; have HS := Lib.hid (setRow_of hW HX.out); clear hW)
  obtain ⟨hd5, -, hz5, hb5⟩ := HS.out
  obtain ⟨z0, z1, z2, z3, z4, z5, z6, z7, z8, z9, za, zb, zc⟩ := row13 hd5
  exact bodyPost_ret (v := .tuple #[.agg (vZ).toArray, .int .i64 0]) (by simp [results, Tryz.results14, go_sem, z0, z1, z2, z3, z4, z5, z6, z7, z8, z9, za, zb, zc]) rfl ⟨rfl, HB.out.trans (hb5 _ (Nat.le_refl _))⟩
theorem Sc_null (w : World) :
    Calls Tryz.prog 14 #[.string ⟨#[110, 117, 108, 108]⟩] w fun e w' => e = .returned (.tuple #[.agg (vZ).toArray, .int .i64 0]) ∧ Below w.heap.size w w' := by
  have HV := Lib.hid (fun w' => Valid_any ⟨#[110, 117, 108, 108]⟩ w' (by decide))
  rw [show validL (L ⟨#[110, 117, 108, 108]⟩) = true from by decide +kernel] at HV
  have HC := Lib.hid (fun w' => control_any ⟨#[110, 117, 108, 108]⟩ w')
  rw [show ctlB (L ⟨#[110, 117, 108, 108]⟩) = false from by decide +kernel] at HC
  go_enter Tryz.func14, Tryz.ntmps14
  go_upto_region 1 with fail
  generalize hW1 : World.alloc w _ = w1
  obtain ⟨ha1, -, hz1, hb1⟩ := alloc_of hW1
  have HX : Hid (w1.heap[w.heap.size]? = some (.cells vZ.toArray 40 (0, 0))) := ha1
  have HB := Lib.hid hb1
  have HZ : Hid (w.heap.size < w1.heap.size) := by unfold Hid; omega
  clear hW1 ha1 hz1 hb1
  go_wp2_with fail
  refine (HV.out _).mono ?_
  rintro e w' ⟨rfl, rfl⟩
  clear HV
  go_wp2_with fail
  refine (HC.out _).mono ?_
  rintro e w2 ⟨rfl, hb2⟩
  replace HX := Lib.hid ((hb2.block _ HZ.out).trans HX.out)
  replace HB := Lib.hid (HB.out.trans (hb2.mono HB.out.size))
  replace HZ : Hid (w.heap.size < w2.heap.size) := Nat.lt_of_lt_of_le HZ.out hb2.size
  clear hb2
  clear HC
  go_wp2_with (refine wpl_store rfl rfl stVl.2 rfl rfl (cs := vZ) rfl rfl (one13 rfl) HX.out (Nat.le_of_ble_eq_true rfl) (row := vZ) rfl ?_; generalize hW : World.setRow _ _ _ = ww; have HS := Lib.hid (setRow_of hW HX.out); clear hW)
  obtain ⟨hd5, -, hz5, hb5⟩ := HS.out
  obtain ⟨z0, z1, z2, z3, z4, z5, z6, z7, z8, z9, za, zb, zc⟩ := row13 hd5
  exact bodyPost_ret (v := .tuple #[.agg (vZ).toArray, .int .i64 0]) (by simp [results, Tryz.results14, go_sem, z0, z1, z2, z3, z4, z5, z6, z7, z8, z9, za, zb, zc]) rfl ⟨rfl, HB.out.trans (hb5 _ (Nat.le_refl _))⟩
theorem Sc_true (w : World) :
    Calls Tryz.prog 14 #[.string ⟨#[116, 114, 117, 101]⟩] w fun e w' => e = .returned (.tuple #[.agg (vB true).toArray, .int .i64 0]) ∧ Below w.heap.size w w' := by
  have HV := Lib.hid (fun w' => Valid_any ⟨#[116, 114, 117, 101]⟩ w' (by decide))
  rw [show validL (L ⟨#[116, 114, 117, 101]⟩) = true from by decide +kernel] at HV
  have HC := Lib.hid (fun w' => control_any ⟨#[116, 114, 117, 101]⟩ w')
  rw [show ctlB (L ⟨#[116, 114, 117, 101]⟩) = false from by decide +kernel] at HC
  go_enter Tryz.func14, Tryz.ntmps14
  go_upto_region 1 with fail
  generalize hW1 : World.alloc w _ = w1
  obtain ⟨ha1, -, hz1, hb1⟩ := alloc_of hW1
  have HX : Hid (w1.heap[w.heap.size]? = some (.cells vZ.toArray 40 (0, 0))) := ha1
  have HB := Lib.hid hb1
  have HZ : Hid (w.heap.size < w1.heap.size) := by unfold Hid; omega
  clear hW1 ha1 hz1 hb1
  go_wp2_with fail
  refine (HV.out _).mono ?_
  rintro e w' ⟨rfl, rfl⟩
  clear HV
  go_wp2_with fail
  refine (HC.out _).mono ?_
  rintro e w2 ⟨rfl, hb2⟩
  replace HX := Lib.hid ((hb2.block _ HZ.out).trans HX.out)
  replace HB := Lib.hid (HB.out.trans (hb2.mono HB.out.size))
  replace HZ : Hid (w.heap.size < w2.heap.size) := Nat.lt_of_lt_of_le HZ.out hb2.size
  clear hb2
  clear HC
  go_wp2_with (refine wpl_store rfl rfl stVl.2 rfl rfl (cs := vB true) rfl rfl (one13 rfl) HX.out (Nat.le_of_ble_eq_true rfl) (row := vB true) rfl ?_; generalize hW : World.setRow _ _ _ = ww; have HS := Lib.hid (setRow_of hW HX.out); clear hW)
  obtain ⟨hd5, -, hz5, hb5⟩ := HS.out
  obtain ⟨z0, z1, z2, z3, z4, z5, z6, z7, z8, z9, za, zb, zc⟩ := row13 hd5
  exact bodyPost_ret (v := .tuple #[.agg (vB true).toArray, .int .i64 0]) (by simp [results, Tryz.results14, go_sem, z0, z1, z2, z3, z4, z5, z6, z7, z8, z9, za, zb, zc]) rfl ⟨rfl, HB.out.trans (hb5 _ (Nat.le_refl _))⟩
theorem Sc_false (w : World) :
    Calls Tryz.prog 14 #[.string ⟨#[102, 97, 108, 115, 101]⟩] w fun e w' => e = .returned (.tuple #[.agg (vB false).toArray, .int .i64 0]) ∧ Below w.heap.size w w' := by
  have HV := Lib.hid (fun w' => Valid_any ⟨#[102, 97, 108, 115, 101]⟩ w' (by decide))
  rw [show validL (L ⟨#[102, 97, 108, 115, 101]⟩) = true from by decide +kernel] at HV
  have HC := Lib.hid (fun w' => control_any ⟨#[102, 97, 108, 115, 101]⟩ w')
  rw [show ctlB (L ⟨#[102, 97, 108, 115, 101]⟩) = false from by decide +kernel] at HC
  go_enter Tryz.func14, Tryz.ntmps14
  go_upto_region 1 with fail
  generalize hW1 : World.alloc w _ = w1
  obtain ⟨ha1, -, hz1, hb1⟩ := alloc_of hW1
  have HX : Hid (w1.heap[w.heap.size]? = some (.cells vZ.toArray 40 (0, 0))) := ha1
  have HB := Lib.hid hb1
  have HZ : Hid (w.heap.size < w1.heap.size) := by unfold Hid; omega
  clear hW1 ha1 hz1 hb1
  go_wp2_with fail
  refine (HV.out _).mono ?_
  rintro e w' ⟨rfl, rfl⟩
  clear HV
  go_wp2_with fail
  refine (HC.out _).mono ?_
  rintro e w2 ⟨rfl, hb2⟩
  replace HX := Lib.hid ((hb2.block _ HZ.out).trans HX.out)
  replace HB := Lib.hid (HB.out.trans (hb2.mono HB.out.size))
  replace HZ : Hid (w.heap.size < w2.heap.size) := Nat.lt_of_lt_of_le HZ.out hb2.size
  clear hb2
  clear HC
  go_wp2_with (refine wpl_store rfl rfl stVl.2 rfl rfl (cs := vB false) rfl rfl (one13 rfl) HX.out (Nat.le_of_ble_eq_true rfl) (row := vB false) rfl ?_; generalize hW : World.setRow _ _ _ = ww; have HS := Lib.hid (setRow_of hW HX.out); clear hW)
  obtain ⟨hd5, -, hz5, hb5⟩ := HS.out
  obtain ⟨z0, z1, z2, z3, z4, z5, z6, z7, z8, z9, za, zb, zc⟩ := row13 hd5
  exact bodyPost_ret (v := .tuple #[.agg (vB false).toArray, .int .i64 0]) (by simp [results, Tryz.results14, go_sem, z0, z1, z2, z3, z4, z5, z6, z7, z8, z9, za, zb, zc]) rfl ⟨rfl, HB.out.trans (hb5 _ (Nat.le_refl _))⟩
theorem Sc_b (w : World) :
    Calls Tryz.prog 14 #[.string ⟨#[33, 98]⟩] w fun e w' => e = .returned (.tuple #[.agg (vE).toArray, .int .i64 0]) ∧ Below w.heap.size w w' := by
  have HV := Lib.hid (fun w' => Valid_any ⟨#[33, 98]⟩ w' (by decide))
  rw [show validL (L ⟨#[33, 98]⟩) = true from by decide +kernel] at HV
  have HC := Lib.hid (fun w' => control_any ⟨#[33, 98]⟩ w')
  rw [show ctlB (L ⟨#[33, 98]⟩) = false from by decide +kernel] at HC
  go_enter Tryz.func14, Tryz.ntmps14
  go_upto_region 1 with fail
  generalize hW1 : World.alloc w _ = w1
  obtain ⟨ha1, -, hz1, hb1⟩ := alloc_of hW1
  have HX : Hid (w1.heap[w.heap.size]? = some (.cells vZ.toArray 40 (0, 0))) := ha1
  have HB := Lib.hid hb1
  have HZ : Hid (w.heap.size < w1.heap.size) := by unfold Hid; omega
  clear hW1 ha1 hz1 hb1
  go_wp2_with fail
  refine (HV.out _).mono ?_
  rintro e w' ⟨rfl, rfl⟩
  clear HV
  go_wp2_with fail
  refine (HC.out _).mono ?_
  rintro e w2 ⟨rfl, hb2⟩
  replace HX := Lib.hid ((hb2.block _ HZ.out).trans HX.out)
  replace HB := Lib.hid (HB.out.trans (hb2.mono HB.out.size))
  replace HZ : Hid (w.heap.size < w2.heap.size) := Nat.lt_of_lt_of_le HZ.out hb2.size
  clear hb2
  clear HC
  go_wp2_with (refine wpl_store rfl rfl stVl.2 rfl rfl (cs := vE) rfl rfl (one13 rfl) HX.out (Nat.le_of_ble_eq_true rfl) (row := vE) rfl ?_; generalize hW : World.setRow _ _ _ = ww; have HS := Lib.hid (setRow_of hW HX.out); clear hW)
  obtain ⟨hd5, -, hz5, hb5⟩ := HS.out
  obtain ⟨z0, z1, z2, z3, z4, z5, z6, z7, z8, z9, za, zb, zc⟩ := row13 hd5
  exact bodyPost_ret (v := .tuple #[.agg (vE).toArray, .int .i64 0]) (by simp [results, Tryz.results14, go_sem, z0, z1, z2, z3, z4, z5, z6, z7, z8, z9, za, zb, zc]) rfl ⟨rfl, HB.out.trans (hb5 _ (Nat.le_refl _))⟩
theorem Sc_numE (s : ByteArray) (w : World) (hs : s.size ≤ 100000) (hv : validL (L s) = true) (hc : ctlB (L s) = false) (hw : ¬ wordS (L s)) (r : DecR) (hr : decP numP (L s) = r) (h3 : r.err ≠ 3) (h0 : r.err ≠ 0) :
    Calls Tryz.prog 14 #[.string s] w fun e w' => e = .returned (.tuple #[.agg (vZ).toArray, .int .i64 (r.err : Nat)]) ∧ Below w.heap.size w w' := by
  have HV := Lib.hid (fun w' => Valid_any s w' (by omega))
  rw [hv] at HV
  have HC := Lib.hid (fun w' => control_any s w')
  rw [hc] at HC
  obtain ⟨he1, n1, n2, n3, n4⟩ := no_word s hw
  have HD := Lib.hid (fun w' => Parse_any s w' hs)
  rw [hr] at HD
  obtain ⟨d1, d2, d3, d4⟩ := r
  dsimp only at h3 h0 ⊢
  have q3 : ((d4 : Int) != 3) = true := by rw [bne_iff_ne]; omega
  have q0 : ((d4 : Int) != 0) = true := by rw [bne_iff_ne]; omega
  clear hv hc hw hr h3 h0
  go_enter Tryz.func14, Tryz.ntmps14
  go_upto_region 1 with fail
  generalize hW1 : World.alloc w _ = w1
  obtain ⟨ha1, -, hz1, hb1⟩ := alloc_of hW1
  have HX : Hid (w1.heap[w.heap.size]? = some (.cells vZ.toArray 40 (0, 0))) := ha1
  have HB := Lib.hid hb1
  have HZ : Hid (w.heap.size < w1.heap.size) := by unfold Hid; omega
  clear hW1 ha1 hz1 hb1
  go_wp2_with fail
  refine (HV.out _).mono ?_
  rintro e w' ⟨rfl, rfl⟩
  clear HV
  go_wp2_with fail
  refine (HC.out _).mono ?_
  rintro e w2 ⟨rfl, hb2⟩
  replace HX := Lib.hid ((hb2.block _ HZ.out).trans HX.out)
  replace HB := Lib.hid (HB.out.trans (hb2.mono HB.out.size))
  replace HZ : Hid (w.heap.size < w2.heap.size) := Nat.lt_of_lt_of_le HZ.out hb2.size
  clear hb2
  clear HC
  go_wp2_with fail
  refine (HD.out _).mono ?_
  rintro e w3 ⟨rfl, hb3⟩
  replace HX := Lib.hid ((hb3.block _ HZ.out).trans HX.out)
  replace HB := Lib.hid (HB.out.trans (hb3.mono HB.out.size))
  replace HZ : Hid (w.heap.size < w3.heap.size) := Nat.lt_of_lt_of_le HZ.out hb3.size
  clear hb3
  clear HD
  unfold decV
  dsimp only
  go_upto_region 15 with fail
  generalize hW4 : World.alloc w3 _ = w4
  obtain ⟨ha4, -, hz4, hb4⟩ := alloc_of hW4
  replace HX := Lib.hid ((hb4.block _ HZ.out).trans HX.out)
  replace HB := Lib.hid (HB.out.trans (hb4.mono HB.out.size))
  replace HZ : Hid (w.heap.size < w4.heap.size) := Nat.lt_of_lt_of_le HZ.out hb4.size
  clear hb4
  clear hW4 hz4
  clear ha4
  go_wp2_with (refine wpl_store rfl rfl stVl.2 rfl rfl (cs := vZ) rfl rfl (one13 rfl) HX.out (Nat.le_of_ble_eq_true rfl) (row := vZ) rfl ?_; generalize hW : World.setRow _ _ _ = ww; have HS := Lib.hid (setRow_of hW HX.out); clear hW)
  obtain ⟨hd5, -, hz5, hb5⟩ := HS.out
  obtain ⟨z0, z1, z2, z3, z4, z5, z6, z7, z8, z9, za, zb, zc⟩ := row13 hd5
  exact bodyPost_ret (v := .tuple #[.agg (vZ).toArray, .int .i64 (d4 : Nat)]) (by simp [results, Tryz.results14, go_sem, z0, z1, z2, z3, z4, z5, z6, z7, z8, z9, za, zb, zc]) rfl ⟨rfl, HB.out.trans (hb5 _ (Nat.le_refl _))⟩
theorem Sc_num (s : ByteArray) (w : World) (hs : s.size ≤ 100000) (hv : validL (L s) = true) (hc : ctlB (L s) = false) (hw : ¬ wordS (L s)) (r : DecR) (hr : decP numP (L s) = r) (h0 : r.err = 0) :
    Calls Tryz.prog 14 #[.string s] w fun e w' => e = .returned (.tuple #[.agg (vN r.neg ⟨r.ds.toArray⟩ r.e).toArray, .int .i64 0]) ∧ Below w.heap.size w w' := by
  have HV := Lib.hid (fun w' => Valid_any s w' (by omega))
  rw [hv] at HV
  have HC := Lib.hid (fun w' => control_any s w')
  rw [hc] at HC
  obtain ⟨he1, n1, n2, n3, n4⟩ := no_word s hw
  have HD := Lib.hid (fun w' => Parse_any s w' hs)
  rw [hr] at HD
  obtain ⟨d1, d2, d3, d4⟩ := r
  dsimp only at h0 ⊢
  subst h0
  clear hv hc hw hr
  go_enter Tryz.func14, Tryz.ntmps14
  go_upto_region 1 with fail
  generalize hW1 : World.alloc w _ = w1
  obtain ⟨ha1, -, hz1, hb1⟩ := alloc_of hW1
  have HX : Hid (w1.heap[w.heap.size]? = some (.cells vZ.toArray 40 (0, 0))) := ha1
  have HB := Lib.hid hb1
  have HZ : Hid (w.heap.size < w1.heap.size) := by unfold Hid; omega
  clear hW1 ha1 hz1 hb1
  go_wp2_with fail
  refine (HV.out _).mono ?_
  rintro e w' ⟨rfl, rfl⟩
  clear HV
  go_wp2_with fail
  refine (HC.out _).mono ?_
  rintro e w2 ⟨rfl, hb2⟩
  replace HX := Lib.hid ((hb2.block _ HZ.out).trans HX.out)
  replace HB := Lib.hid (HB.out.trans (hb2.mono HB.out.size))
  replace HZ : Hid (w.heap.size < w2.heap.size) := Nat.lt_of_lt_of_le HZ.out hb2.size
  clear hb2
  clear HC
  go_wp2_with fail
  refine (HD.out _).mono ?_
  rintro e w3 ⟨rfl, hb3⟩
  replace HX := Lib.hid ((hb3.block _ HZ.out).trans HX.out)
  replace HB := Lib.hid (HB.out.trans (hb3.mono HB.out.size))
  replace HZ : Hid (w.heap.size < w3.heap.size) := Nat.lt_of_lt_of_le HZ.out hb3.size
  clear hb3
  clear HD
  unfold decV
  dsimp only
  go_upto_region 16 with fail
  generalize hW4 : World.alloc w3 _ = w4
  obtain ⟨ha4, -, hz4, hb4⟩ := alloc_of hW4
  replace HX := Lib.hid ((hb4.block _ HZ.out).trans HX.out)
  replace HB := Lib.hid (HB.out.trans (hb4.mono HB.out.size))
  replace HZ : Hid (w.heap.size < w4.heap.size) := Nat.lt_of_lt_of_le HZ.out hb4.size
  clear hb4
  clear hW4 hz4
  obtain ⟨⟨y0, y1, y2⟩, -⟩ := box3 ha4
  clear ha4
  go_wp2_with (refine wpl_store rfl rfl stVl.2 rfl rfl (cs := vN d1 ⟨d2.toArray⟩ d3) rfl rfl (one13 rfl) HX.out (Nat.le_of_ble_eq_true rfl) (row := vN d1 ⟨d2.toArray⟩ d3) rfl ?_; generalize hW : World.setRow _ _ _ = ww; have HS := Lib.hid (setRow_of hW HX.out); clear hW)
  obtain ⟨hd5, -, hz5, hb5⟩ := HS.out
  obtain ⟨z0, z1, z2, z3, z4, z5, z6, z7, z8, z9, za, zb, zc⟩ := row13 hd5
  exact bodyPost_ret (v := .tuple #[.agg (vN d1 ⟨d2.toArray⟩ d3).toArray, .int .i64 0]) (by simp [results, Tryz.results14, go_sem, z0, z1, z2, z3, z4, z5, z6, z7, z8, z9, za, zb, zc]) rfl ⟨rfl, HB.out.trans (hb5 _ (Nat.le_refl _))⟩
theorem Sc_timE (s : ByteArray) (w : World) (hs : s.size ≤ 100000) (hv : validL (L s) = true) (hc : ctlB (L s) = false) (hw : ¬ wordS (L s)) (hd : (decP numP (L s)).err = 3) (h3 : (rpR (L s)).2 ≠ 3) (h0 : (rpR (L s)).2 ≠ 0) :
    Calls Tryz.prog 14 #[.string s] w fun e w' => e = .returned (.tuple #[.agg (vZ).toArray, .int .i64 ((rpR (L s)).2 : Nat)]) ∧ Below w.heap.size w w' := by
  have HV := Lib.hid (fun w' => Valid_any s w' (by omega))
  rw [hv] at HV
  have HC := Lib.hid (fun w' => control_any s w')
  rw [hc] at HC
  obtain ⟨he1, n1, n2, n3, n4⟩ := no_word s hw
  have HD := Lib.hid (fun w' => Parse_any s w' hs)
  generalize decP numP (L s) = dr at *
  obtain ⟨d1, d2, d3, d4⟩ := dr
  have hd4 : d4 = 3 := hd
  subst hd4
  clear hd
  have HM := Lib.hid (fun w' => ParseM_all s w' (by omega))
  obtain ⟨ta, tb, tc, td, htm⟩ := rp_tm (L s)
  generalize rpR (L s) = r at *
  obtain ⟨r1, r2⟩ := r
  dsimp only at h3 h0 HM htm ⊢
  subst htm
  unfold tmV at HM
  have q3 : ((r2 : Int) != 3) = true := by rw [bne_iff_ne]; omega
  have q0 : ((r2 : Int) != 0) = true := by rw [bne_iff_ne]; omega
  clear hv hc hw h3 h0
  go_enter Tryz.func14, Tryz.ntmps14
  go_upto_region 1 with fail
  generalize hW1 : World.alloc w _ = w1
  obtain ⟨ha1, -, hz1, hb1⟩ := alloc_of hW1
  have HX : Hid (w1.heap[w.heap.size]? = some (.cells vZ.toArray 40 (0, 0))) := ha1
  have HB := Lib.hid hb1
  have HZ : Hid (w.heap.size < w1.heap.size) := by unfold Hid; omega
  clear hW1 ha1 hz1 hb1
  go_wp2_with fail
  refine (HV.out _).mono ?_
  rintro e w' ⟨rfl, rfl⟩
  clear HV
  go_wp2_with fail
  refine (HC.out _).mono ?_
  rintro e w2 ⟨rfl, hb2⟩
  replace HX := Lib.hid ((hb2.block _ HZ.out).trans HX.out)
  replace HB := Lib.hid (HB.out.trans (hb2.mono HB.out.size))
  replace HZ : Hid (w.heap.size < w2.heap.size) := Nat.lt_of_lt_of_le HZ.out hb2.size
  clear hb2
  clear HC
  go_wp2_with fail
  refine (HD.out _).mono ?_
  rintro e w3 ⟨rfl, hb3⟩
  replace HX := Lib.hid ((hb3.block _ HZ.out).trans HX.out)
  replace HB := Lib.hid (HB.out.trans (hb3.mono HB.out.size))
  replace HZ : Hid (w.heap.size < w3.heap.size) := Nat.lt_of_lt_of_le HZ.out hb3.size
  clear hb3
  clear HD
  unfold decV
  dsimp only
  go_wp2_with fail
  generalize hW4 : World.alloc w3 _ = w4
  obtain ⟨ha4, -, hz4, hb4⟩ := alloc_of hW4
  replace HX := Lib.hid ((hb4.block _ HZ.out).trans HX.out)
  replace HB := Lib.hid (HB.out.trans (hb4.mono HB.out.size))
  replace HZ : Hid (w.heap.size < w4.heap.size) := Nat.lt_of_lt_of_le HZ.out hb4.size
  clear hb4
  clear hW4 hz4
  clear ha4
  refine (HM.out _).mono ?_
  rintro e w5 ⟨rfl, hb5⟩
  replace HX := Lib.hid ((hb5.block _ HZ.out).trans HX.out)
  replace HB := Lib.hid (HB.out.trans (hb5.mono HB.out.size))
  replace HZ : Hid (w.heap.size < w5.heap.size) := Nat.lt_of_lt_of_le HZ.out hb5.size
  clear hb5
  clear HM
  go_upto_region 20 with fail
  generalize hW6 : World.alloc w5 _ = w6
  obtain ⟨ha6, -, hz6, hb6⟩ := alloc_of hW6
  replace HX := Lib.hid ((hb6.block _ HZ.out).trans HX.out)
  replace HB := Lib.hid (HB.out.trans (hb6.mono HB.out.size))
  replace HZ : Hid (w.heap.size < w6.heap.size) := Nat.lt_of_lt_of_le HZ.out hb6.size
  clear hb6
  clear hW6 hz6
  clear ha6
  go_wp2_with (refine wpl_store rfl rfl stVl.2 rfl rfl (cs := vZ) rfl rfl (one13 rfl) HX.out (Nat.le_of_ble_eq_true rfl) (row := vZ) rfl ?_; generalize hW : World.setRow _ _ _ = ww; have HS := Lib.hid (setRow_of hW HX.out); clear hW)
  obtain ⟨hd5, -, hz5, hb5⟩ := HS.out
  obtain ⟨z0, z1, z2, z3, z4, z5, z6, z7, z8, z9, za, zb, zc⟩ := row13 hd5
  exact bodyPost_ret (v := .tuple #[.agg (vZ).toArray, .int .i64 (r2 : Nat)]) (by simp [results, Tryz.results14, go_sem, z0, z1, z2, z3, z4, z5, z6, z7, z8, z9, za, zb, zc]) rfl ⟨rfl, HB.out.trans (hb5 _ (Nat.le_refl _))⟩
theorem Sc_tim (s : ByteArray) (w : World) (hs : s.size ≤ 100000) (hv : validL (L s) = true) (hc : ctlB (L s) = false) (hw : ¬ wordS (L s)) (hd : (decP numP (L s)).err = 3) (a b c d : Int) (hr : rpR (L s) = (tmV a b c d, 0)) :
    Calls Tryz.prog 14 #[.string s] w fun e w' => e = .returned (.tuple #[.agg (vM a b c d).toArray, .int .i64 0]) ∧ Below w.heap.size w w' := by
  have HV := Lib.hid (fun w' => Valid_any s w' (by omega))
  rw [hv] at HV
  have HC := Lib.hid (fun w' => control_any s w')
  rw [hc] at HC
  obtain ⟨he1, n1, n2, n3, n4⟩ := no_word s hw
  have HD := Lib.hid (fun w' => Parse_any s w' hs)
  generalize decP numP (L s) = dr at *
  obtain ⟨d1, d2, d3, d4⟩ := dr
  have hd4 : d4 = 3 := hd
  subst hd4
  clear hd
  have HM := Lib.hid (fun w' => ParseM_all s w' (by omega))
  rw [hr] at HM
  unfold tmV at HM
  dsimp only at HM
  clear hv hc hw hr
  go_enter Tryz.func14, Tryz.ntmps14
  go_upto_region 1 with fail
  generalize hW1 : World.alloc w _ = w1
  obtain ⟨ha1, -, hz1, hb1⟩ := alloc_of hW1
  have HX : Hid (w1.heap[w.heap.size]? = some (.cells vZ.toArray 40 (0, 0))) := ha1
  have HB := Lib.hid hb1
  have HZ : Hid (w.heap.size < w1.heap.size) := by unfold Hid; omega
  clear hW1 ha1 hz1 hb1
  go_wp2_with fail
  refine (HV.out _).mono ?_
  rintro e w' ⟨rfl, rfl⟩
  clear HV
  go_wp2_with fail
  refine (HC.out _).mono ?_
  rintro e w2 ⟨rfl, hb2⟩
  replace HX := Lib.hid ((hb2.block _ HZ.out).trans HX.out)
  replace HB := Lib.hid (HB.out.trans (hb2.mono HB.out.size))
  replace HZ : Hid (w.heap.size < w2.heap.size) := Nat.lt_of_lt_of_le HZ.out hb2.size
  clear hb2
  clear HC
  go_wp2_with fail
  refine (HD.out _).mono ?_
  rintro e w3 ⟨rfl, hb3⟩
  replace HX := Lib.hid ((hb3.block _ HZ.out).trans HX.out)
  replace HB := Lib.hid (HB.out.trans (hb3.mono HB.out.size))
  replace HZ : Hid (w.heap.size < w3.heap.size) := Nat.lt_of_lt_of_le HZ.out hb3.size
  clear hb3
  clear HD
  unfold decV
  dsimp only
  go_wp2_with fail
  generalize hW4 : World.alloc w3 _ = w4
  obtain ⟨ha4, -, hz4, hb4⟩ := alloc_of hW4
  replace HX := Lib.hid ((hb4.block _ HZ.out).trans HX.out)
  replace HB := Lib.hid (HB.out.trans (hb4.mono HB.out.size))
  replace HZ : Hid (w.heap.size < w4.heap.size) := Nat.lt_of_lt_of_le HZ.out hb4.size
  clear hb4
  clear hW4 hz4
  clear ha4
  refine (HM.out _).mono ?_
  rintro e w5 ⟨rfl, hb5⟩
  replace HX := Lib.hid ((hb5.block _ HZ.out).trans HX.out)
  replace HB := Lib.hid (HB.out.trans (hb5.mono HB.out.size))
  replace HZ : Hid (w.heap.size < w5.heap.size) := Nat.lt_of_lt_of_le HZ.out hb5.size
  clear hb5
  clear HM
  go_upto_region 21 with fail
  generalize hW6 : World.alloc w5 _ = w6
  obtain ⟨ha6, -, hz6, hb6⟩ := alloc_of hW6
  replace HX := Lib.hid ((hb6.block _ HZ.out).trans HX.out)
  replace HB := Lib.hid (HB.out.trans (hb6.mono HB.out.size))
  replace HZ : Hid (w.heap.size < w6.heap.size) := Nat.lt_of_lt_of_le HZ.out hb6.size
  clear hb6
  clear hW6 hz6
  obtain ⟨y0, y1, y2, y3⟩ := row4 ha6
  clear ha6
  go_wp2_with (refine wpl_store rfl rfl stVl.2 rfl rfl (cs := vM a b c d) rfl rfl (one13 rfl) HX.out (Nat.le_of_ble_eq_true rfl) (row := vM a b c d) rfl ?_; generalize hW : World.setRow _ _ _ = ww; have HS := Lib.hid (setRow_of hW HX.out); clear hW)
  obtain ⟨hd5, -, hz5, hb5⟩ := HS.out
  obtain ⟨z0, z1, z2, z3, z4, z5, z6, z7, z8, z9, za, zb, zc⟩ := row13 hd5
  exact bodyPost_ret (v := .tuple #[.agg (vM a b c d).toArray, .int .i64 0]) (by simp [results, Tryz.results14, go_sem, z0, z1, z2, z3, z4, z5, z6, z7, z8, z9, za, zb, zc]) rfl ⟨rfl, HB.out.trans (hb5 _ (Nat.le_refl _))⟩
theorem Sc_quo (s : ByteArray) (w : World) (hs : s.size ≤ 100000) (hv : validL (L s) = true) (hc : ctlB (L s) = false) (hw : ¬ wordS (L s)) (hd : (decP numP (L s)).err = 3) (ht : timB s = false) (hp : 0 < s.size) (hq : s[0].toNat = 34 ∨ s[0].toNat = 39) (t : List UInt8) (hu : unqR (L s) = (t, 0)) :
    Calls Tryz.prog 14 #[.string s] w fun e w' => e = .returned (.tuple #[.agg ((txtR ⟨t.toArray⟩).1).toArray, .int .i64 ((txtR ⟨t.toArray⟩).2 : Nat)]) ∧ Below w.heap.size w w' := by
  have HV := Lib.hid (fun w' => Valid_any s w' (by omega))
  rw [hv] at HV
  have HC := Lib.hid (fun w' => control_any s w')
  rw [hc] at HC
  obtain ⟨he1, n1, n2, n3, n4⟩ := no_word s hw
  have HD := Lib.hid (fun w' => Parse_any s w' hs)
  generalize decP numP (L s) = dr at *
  obtain ⟨d1, d2, d3, d4⟩ := dr
  have hd4 : d4 = 3 := hd
  subst hd4
  clear hd
  have HM := Lib.hid (fun w' => ParseM_no s w' (by omega) ht)
  have g34 : Hid (s[0].toNat = 34 ∨ s[0].toNat = 39) := hq
  have HU := Lib.hid (fun w' => UnquoteI_any s w' (by omega))
  rw [hu] at HU
  have HTV := Lib.hid (fun w' => textValue_any ⟨t.toArray⟩ w')
  obtain ⟨tq, tu, htq⟩ := txt_form ⟨t.toArray⟩
  generalize txtR ⟨t.toArray⟩ = tr at *
  obtain ⟨tx, te⟩ := tr
  dsimp only at HU HTV htq ⊢
  subst htq
  clear hv hc hw hu hq
  go_enter Tryz.func14, Tryz.ntmps14
  go_upto_region 1 with fail
  generalize hW1 : World.alloc w _ = w1
  obtain ⟨ha1, -, hz1, hb1⟩ := alloc_of hW1
  have HX : Hid (w1.heap[w.heap.size]? = some (.cells vZ.toArray 40 (0, 0))) := ha1
  have HB := Lib.hid hb1
  have HZ : Hid (w.heap.size < w1.heap.size) := by unfold Hid; omega
  clear hW1 ha1 hz1 hb1
  go_wp2_with fail
  refine (HV.out _).mono ?_
  rintro e w' ⟨rfl, rfl⟩
  clear HV
  go_wp2_with fail
  refine (HC.out _).mono ?_
  rintro e w2 ⟨rfl, hb2⟩
  replace HX := Lib.hid ((hb2.block _ HZ.out).trans HX.out)
  replace HB := Lib.hid (HB.out.trans (hb2.mono HB.out.size))
  replace HZ : Hid (w.heap.size < w2.heap.size) := Nat.lt_of_lt_of_le HZ.out hb2.size
  clear hb2
  clear HC
  go_wp2_with fail
  refine (HD.out _).mono ?_
  rintro e w3 ⟨rfl, hb3⟩
  replace HX := Lib.hid ((hb3.block _ HZ.out).trans HX.out)
  replace HB := Lib.hid (HB.out.trans (hb3.mono HB.out.size))
  replace HZ : Hid (w.heap.size < w3.heap.size) := Nat.lt_of_lt_of_le HZ.out hb3.size
  clear hb3
  clear HD
  unfold decV
  dsimp only
  go_wp2_with fail
  generalize hW4 : World.alloc w3 _ = w4
  obtain ⟨ha4, -, hz4, hb4⟩ := alloc_of hW4
  replace HX := Lib.hid ((hb4.block _ HZ.out).trans HX.out)
  replace HB := Lib.hid (HB.out.trans (hb4.mono HB.out.size))
  replace HZ : Hid (w.heap.size < w4.heap.size) := Nat.lt_of_lt_of_le HZ.out hb4.size
  clear hb4
  clear hW4 hz4
  clear ha4
  refine (HM.out _).mono ?_
  rintro e w5 ⟨rfl, hb5⟩
  replace HX := Lib.hid ((hb5.block _ HZ.out).trans HX.out)
  replace HB := Lib.hid (HB.out.trans (hb5.mono HB.out.size))
  replace HZ : Hid (w.heap.size < w5.heap.size) := Nat.lt_of_lt_of_le HZ.out hb5.size
  clear hb5
  clear HM
  have hq := g34.out
  clear g34
  by_cases h34 : s[0].toNat = 34
  all_goals
    first
      | have g1 := beqB s[0] 34 (by omega)
      | have g1 := beqNB s[0] 34 (by omega)
        have g2 := beqB s[0] 39 (by omega)
    clear h34 hq
    go_wp2_with fail
    generalize hW6 : World.alloc w5 _ = w6
    obtain ⟨ha6, -, hz6, hb6⟩ := alloc_of hW6
    replace HX := Lib.hid ((hb6.block _ HZ.out).trans HX.out)
    replace HB := Lib.hid (HB.out.trans (hb6.mono HB.out.size))
    replace HZ : Hid (w.heap.size < w6.heap.size) := Nat.lt_of_lt_of_le HZ.out hb6.size
    clear hb6
    clear hW6 hz6
    clear ha6
    refine (HU.out _).mono ?_
    rintro e w7 ⟨rfl, hb7⟩
    replace HX := Lib.hid ((hb7.block _ HZ.out).trans HX.out)
    replace HB := Lib.hid (HB.out.trans (hb7.mono HB.out.size))
    replace HZ : Hid (w.heap.size < w7.heap.size) := Nat.lt_of_lt_of_le HZ.out hb7.size
    clear hb7
    clear HU
    go_wp2_with fail
    refine (HTV.out _).mono ?_
    rintro e w8 ⟨rfl, hb8⟩
    replace HX := Lib.hid ((hb8.block _ HZ.out).trans HX.out)
    replace HB := Lib.hid (HB.out.trans (hb8.mono HB.out.size))
    replace HZ : Hid (w.heap.size < w8.heap.size) := Nat.lt_of_lt_of_le HZ.out hb8.size
    clear hb8
    clear HTV
    go_wp2_with (refine wpl_store rfl rfl stVl.2 rfl rfl (cs := vQ tq tu) rfl rfl (one13 rfl) HX.out (Nat.le_of_ble_eq_true rfl) (row := vQ tq tu) rfl ?_; generalize hW : World.setRow _ _ _ = ww; have HS := Lib.hid (setRow_of hW HX.out); clear hW)
    obtain ⟨hd5, -, hz5, hb5⟩ := HS.out
    obtain ⟨z0, z1, z2, z3, z4, z5, z6, z7, z8, z9, za, zb, zc⟩ := row13 hd5
    exact bodyPost_ret (v := .tuple #[.agg (vQ tq tu).toArray, .int .i64 te]) (by simp [results, Tryz.results14, go_sem, z0, z1, z2, z3, z4, z5, z6, z7, z8, z9, za, zb, zc]) rfl ⟨rfl, HB.out.trans (hb5 _ (Nat.le_refl _))⟩
theorem Sc_quoT (s : ByteArray) (w : World) (hs : s.size ≤ 100000) (hv : validL (L s) = true) (hc : ctlB (L s) = false) (hw : ¬ wordS (L s)) (hd : (decP numP (L s)).err = 3) (ht : timB s = false) (hp : 0 < s.size) (hq : s[0].toNat = 34 ∨ s[0].toNat = 39) (hu : (unqR (L s)).2 = 5) :
    Calls Tryz.prog 14 #[.string s] w fun e w' => e = .returned (.tuple #[.agg (vZ).toArray, .int .i64 5]) ∧ Below w.heap.size w w' := by
  have HV := Lib.hid (fun w' => Valid_any s w' (by omega))
  rw [hv] at HV
  have HC := Lib.hid (fun w' => control_any s w')
  rw [hc] at HC
  obtain ⟨he1, n1, n2, n3, n4⟩ := no_word s hw
  have HD := Lib.hid (fun w' => Parse_any s w' hs)
  generalize decP numP (L s) = dr at *
  obtain ⟨d1, d2, d3, d4⟩ := dr
  have hd4 : d4 = 3 := hd
  subst hd4
  clear hd
  have HM := Lib.hid (fun w' => ParseM_no s w' (by omega) ht)
  have g34 : Hid (s[0].toNat = 34 ∨ s[0].toNat = 39) := hq
  have HU := Lib.hid (fun w' => UnquoteI_any s w' (by omega))
  generalize unqR (L s) = ur at *
  obtain ⟨u1, u2⟩ := ur
  dsimp only at HU hu
  subst hu
  clear hv hc hw hq
  go_enter Tryz.func14, Tryz.ntmps14
  go_upto_region 1 with fail
  generalize hW1 : World.alloc w _ = w1
  obtain ⟨ha1, -, hz1, hb1⟩ := alloc_of hW1
  have HX : Hid (w1.heap[w.heap.size]? = some (.cells vZ.toArray 40 (0, 0))) := ha1
  have HB := Lib.hid hb1
  have HZ : Hid (w.heap.size < w1.heap.size) := by unfold Hid; omega
  clear hW1 ha1 hz1 hb1
  go_wp2_with fail
  refine (HV.out _).mono ?_
  rintro e w' ⟨rfl, rfl⟩
  clear HV
  go_wp2_with fail
  refine (HC.out _).mono ?_
  rintro e w2 ⟨rfl, hb2⟩
  replace HX := Lib.hid ((hb2.block _ HZ.out).trans HX.out)
  replace HB := Lib.hid (HB.out.trans (hb2.mono HB.out.size))
  replace HZ : Hid (w.heap.size < w2.heap.size) := Nat.lt_of_lt_of_le HZ.out hb2.size
  clear hb2
  clear HC
  go_wp2_with fail
  refine (HD.out _).mono ?_
  rintro e w3 ⟨rfl, hb3⟩
  replace HX := Lib.hid ((hb3.block _ HZ.out).trans HX.out)
  replace HB := Lib.hid (HB.out.trans (hb3.mono HB.out.size))
  replace HZ : Hid (w.heap.size < w3.heap.size) := Nat.lt_of_lt_of_le HZ.out hb3.size
  clear hb3
  clear HD
  unfold decV
  dsimp only
  go_wp2_with fail
  generalize hW4 : World.alloc w3 _ = w4
  obtain ⟨ha4, -, hz4, hb4⟩ := alloc_of hW4
  replace HX := Lib.hid ((hb4.block _ HZ.out).trans HX.out)
  replace HB := Lib.hid (HB.out.trans (hb4.mono HB.out.size))
  replace HZ : Hid (w.heap.size < w4.heap.size) := Nat.lt_of_lt_of_le HZ.out hb4.size
  clear hb4
  clear hW4 hz4
  clear ha4
  refine (HM.out _).mono ?_
  rintro e w5 ⟨rfl, hb5⟩
  replace HX := Lib.hid ((hb5.block _ HZ.out).trans HX.out)
  replace HB := Lib.hid (HB.out.trans (hb5.mono HB.out.size))
  replace HZ : Hid (w.heap.size < w5.heap.size) := Nat.lt_of_lt_of_le HZ.out hb5.size
  clear hb5
  clear HM
  have hq := g34.out
  clear g34
  by_cases h34 : s[0].toNat = 34
  all_goals
    first
      | have g1 := beqB s[0] 34 (by omega)
      | have g1 := beqNB s[0] 34 (by omega)
        have g2 := beqB s[0] 39 (by omega)
    clear h34 hq
    go_wp2_with fail
    generalize hW6 : World.alloc w5 _ = w6
    obtain ⟨ha6, -, hz6, hb6⟩ := alloc_of hW6
    replace HX := Lib.hid ((hb6.block _ HZ.out).trans HX.out)
    replace HB := Lib.hid (HB.out.trans (hb6.mono HB.out.size))
    replace HZ : Hid (w.heap.size < w6.heap.size) := Nat.lt_of_lt_of_le HZ.out hb6.size
    clear hb6
    clear hW6 hz6
    clear ha6
    refine (HU.out _).mono ?_
    rintro e w7 ⟨rfl, hb7⟩
    replace HX := Lib.hid ((hb7.block _ HZ.out).trans HX.out)
    replace HB := Lib.hid (HB.out.trans (hb7.mono HB.out.size))
    replace HZ : Hid (w.heap.size < w7.heap.size) := Nat.lt_of_lt_of_le HZ.out hb7.size
    clear hb7
    clear HU
    go_wp2_with (refine wpl_store rfl rfl stVl.2 rfl rfl (cs := vZ) rfl rfl (one13 rfl) HX.out (Nat.le_of_ble_eq_true rfl) (row := vZ) rfl ?_; generalize hW : World.setRow _ _ _ = ww; have HS := Lib.hid (setRow_of hW HX.out); clear hW)
    obtain ⟨hd5, -, hz5, hb5⟩ := HS.out
    obtain ⟨z0, z1, z2, z3, z4, z5, z6, z7, z8, z9, za, zb, zc⟩ := row13 hd5
    exact bodyPost_ret (v := .tuple #[.agg (vZ).toArray, .int .i64 5]) (by simp [results, Tryz.results14, go_sem, z0, z1, z2, z3, z4, z5, z6, z7, z8, z9, za, zb, zc]) rfl ⟨rfl, HB.out.trans (hb5 _ (Nat.le_refl _))⟩
theorem Sc_quoS (s : ByteArray) (w : World) (hs : s.size ≤ 100000) (hv : validL (L s) = true) (hc : ctlB (L s) = false) (hw : ¬ wordS (L s)) (hd : (decP numP (L s)).err = 3) (ht : timB s = false) (hp : 0 < s.size) (hq : s[0].toNat = 34 ∨ s[0].toNat = 39) (hu : (unqR (L s)).2 ≠ 5) (hu0 : (unqR (L s)).2 ≠ 0) :
    Calls Tryz.prog 14 #[.string s] w fun e w' => e = .returned (.tuple #[.agg (vZ).toArray, .int .i64 3]) ∧ Below w.heap.size w w' := by
  have HV := Lib.hid (fun w' => Valid_any s w' (by omega))
  rw [hv] at HV
  have HC := Lib.hid (fun w' => control_any s w')
  rw [hc] at HC
  obtain ⟨he1, n1, n2, n3, n4⟩ := no_word s hw
  have HD := Lib.hid (fun w' => Parse_any s w' hs)
  generalize decP numP (L s) = dr at *
  obtain ⟨d1, d2, d3, d4⟩ := dr
  have hd4 : d4 = 3 := hd
  subst hd4
  clear hd
  have HM := Lib.hid (fun w' => ParseM_no s w' (by omega) ht)
  have g34 : Hid (s[0].toNat = 34 ∨ s[0].toNat = 39) := hq
  have HU := Lib.hid (fun w' => UnquoteI_any s w' (by omega))
  generalize unqR (L s) = ur at *
  obtain ⟨u1, u2⟩ := ur
  dsimp only at HU hu hu0
  have q5 : ((u2 : Int) != 5) = true := by rw [bne_iff_ne]; omega
  have q0 : ((u2 : Int) == 0) = false := by rw [beq_eq_false_iff_ne]; omega
  clear hv hc hw hq hu hu0
  go_enter Tryz.func14, Tryz.ntmps14
  go_upto_region 1 with fail
  generalize hW1 : World.alloc w _ = w1
  obtain ⟨ha1, -, hz1, hb1⟩ := alloc_of hW1
  have HX : Hid (w1.heap[w.heap.size]? = some (.cells vZ.toArray 40 (0, 0))) := ha1
  have HB := Lib.hid hb1
  have HZ : Hid (w.heap.size < w1.heap.size) := by unfold Hid; omega
  clear hW1 ha1 hz1 hb1
  go_wp2_with fail
  refine (HV.out _).mono ?_
  rintro e w' ⟨rfl, rfl⟩
  clear HV
  go_wp2_with fail
  refine (HC.out _).mono ?_
  rintro e w2 ⟨rfl, hb2⟩
  replace HX := Lib.hid ((hb2.block _ HZ.out).trans HX.out)
  replace HB := Lib.hid (HB.out.trans (hb2.mono HB.out.size))
  replace HZ : Hid (w.heap.size < w2.heap.size) := Nat.lt_of_lt_of_le HZ.out hb2.size
  clear hb2
  clear HC
  go_wp2_with fail
  refine (HD.out _).mono ?_
  rintro e w3 ⟨rfl, hb3⟩
  replace HX := Lib.hid ((hb3.block _ HZ.out).trans HX.out)
  replace HB := Lib.hid (HB.out.trans (hb3.mono HB.out.size))
  replace HZ : Hid (w.heap.size < w3.heap.size) := Nat.lt_of_lt_of_le HZ.out hb3.size
  clear hb3
  clear HD
  unfold decV
  dsimp only
  go_wp2_with fail
  generalize hW4 : World.alloc w3 _ = w4
  obtain ⟨ha4, -, hz4, hb4⟩ := alloc_of hW4
  replace HX := Lib.hid ((hb4.block _ HZ.out).trans HX.out)
  replace HB := Lib.hid (HB.out.trans (hb4.mono HB.out.size))
  replace HZ : Hid (w.heap.size < w4.heap.size) := Nat.lt_of_lt_of_le HZ.out hb4.size
  clear hb4
  clear hW4 hz4
  clear ha4
  refine (HM.out _).mono ?_
  rintro e w5 ⟨rfl, hb5⟩
  replace HX := Lib.hid ((hb5.block _ HZ.out).trans HX.out)
  replace HB := Lib.hid (HB.out.trans (hb5.mono HB.out.size))
  replace HZ : Hid (w.heap.size < w5.heap.size) := Nat.lt_of_lt_of_le HZ.out hb5.size
  clear hb5
  clear HM
  have hq := g34.out
  clear g34
  by_cases h34 : s[0].toNat = 34
  all_goals
    first
      | have g1 := beqB s[0] 34 (by omega)
      | have g1 := beqNB s[0] 34 (by omega)
        have g2 := beqB s[0] 39 (by omega)
    clear h34 hq
    go_wp2_with fail
    generalize hW6 : World.alloc w5 _ = w6
    obtain ⟨ha6, -, hz6, hb6⟩ := alloc_of hW6
    replace HX := Lib.hid ((hb6.block _ HZ.out).trans HX.out)
    replace HB := Lib.hid (HB.out.trans (hb6.mono HB.out.size))
    replace HZ : Hid (w.heap.size < w6.heap.size) := Nat.lt_of_lt_of_le HZ.out hb6.size
    clear hb6
    clear hW6 hz6
    clear ha6
    refine (HU.out _).mono ?_
    rintro e w7 ⟨rfl, hb7⟩
    replace HX := Lib.hid ((hb7.block _ HZ.out).trans HX.out)
    replace HB := Lib.hid (HB.out.trans (hb7.mono HB.out.size))
    replace HZ : Hid (w.heap.size < w7.heap.size) := Nat.lt_of_lt_of_le HZ.out hb7.size
    clear hb7
    clear HU
    go_wp2_with (refine wpl_store rfl rfl stVl.2 rfl rfl (cs := vZ) rfl rfl (one13 rfl) HX.out (Nat.le_of_ble_eq_true rfl) (row := vZ) rfl ?_; generalize hW : World.setRow _ _ _ = ww; have HS := Lib.hid (setRow_of hW HX.out); clear hW)
    obtain ⟨hd5, -, hz5, hb5⟩ := HS.out
    obtain ⟨z0, z1, z2, z3, z4, z5, z6, z7, z8, z9, za, zb, zc⟩ := row13 hd5
    exact bodyPost_ret (v := .tuple #[.agg (vZ).toArray, .int .i64 3]) (by simp [results, Tryz.results14, go_sem, z0, z1, z2, z3, z4, z5, z6, z7, z8, z9, za, zb, zc]) rfl ⟨rfl, HB.out.trans (hb5 _ (Nat.le_refl _))⟩
theorem Sc_plain (s : ByteArray) (w : World) (hs : s.size ≤ 100000) (hv : validL (L s) = true) (hc : ctlB (L s) = false) (hw : ¬ wordS (L s)) (hd : (decP numP (L s)).err = 3) (ht : timB s = false) (hp : 0 < s.size) (hq : s[0].toNat ≠ 34 ∧ s[0].toNat ≠ 39) (hpb : pre (L s) [33, 98, 32] = false) (hE : EnvI w) (hl : plainB (L s) = true) :
    Calls Tryz.prog 14 #[.string s] w fun e w' => e = .returned (.tuple #[.agg ((txtR s).1).toArray, .int .i64 ((txtR s).2 : Nat)]) ∧ Below w.heap.size w w' := by
  have HV := Lib.hid (fun w' => Valid_any s w' (by omega))
  rw [hv] at HV
  have HC := Lib.hid (fun w' => control_any s w')
  rw [hc] at HC
  obtain ⟨he1, n1, n2, n3, n4⟩ := no_word s hw
  have HD := Lib.hid (fun w' => Parse_any s w' hs)
  generalize decP numP (L s) = dr at *
  obtain ⟨d1, d2, d3, d4⟩ := dr
  have hd4 : d4 = 3 := hd
  subst hd4
  clear hd
  have HM := Lib.hid (fun w' => ParseM_no s w' (by omega) ht)
  have g1 := beqNB s[0] 34 (by omega)
  have g2 := beqNB s[0] 39 (by omega)
  have HP := Lib.hid (fun w' => (Tryz.strings_HasPrefix s ⟨#[33, 98, 32]⟩ w').mono fun e w2 h => (⟨h.1, h.2.symm⟩ : _ ∧ w' = w2))
  have e1 : Lib.hasPrefix s.data.toList (⟨#[33, 98, 32]⟩ : ByteArray).data.toList = pre (L s) [33, 98, 32] := hasP_pre _ _
  rw [e1, hpb] at HP
  have HE := Lib.hid hE
  have HL := Lib.hid (fun w' hE => loose_any s w' (by omega) hE)
  rw [hl] at HL
  have HTV := Lib.hid (fun w' => textValue_any s w')
  obtain ⟨tq, tu, htq⟩ := txt_form s
  generalize txtR s = tr at *
  obtain ⟨tx, te⟩ := tr
  dsimp only at HTV htq ⊢
  subst htq
  clear hv hc hw hq hE hpb e1 hl ht
  go_enter Tryz.func14, Tryz.ntmps14
  go_upto_region 1 with fail
  generalize hW1 : World.alloc w _ = w1
  obtain ⟨ha1, -, hz1, hb1⟩ := alloc_of hW1
  have HX : Hid (w1.heap[w.heap.size]? = some (.cells vZ.toArray 40 (0, 0))) := ha1
  have HB := Lib.hid hb1
  have HZ : Hid (w.heap.size < w1.heap.size) := by unfold Hid; omega
  clear hW1 ha1 hz1 hb1
  go_wp2_with fail
  refine (HV.out _).mono ?_
  rintro e w' ⟨rfl, rfl⟩
  clear HV
  go_wp2_with fail
  refine (HC.out _).mono ?_
  rintro e w2 ⟨rfl, hb2⟩
  replace HX := Lib.hid ((hb2.block _ HZ.out).trans HX.out)
  replace HB := Lib.hid (HB.out.trans (hb2.mono HB.out.size))
  replace HZ : Hid (w.heap.size < w2.heap.size) := Nat.lt_of_lt_of_le HZ.out hb2.size
  clear hb2
  clear HC
  go_wp2_with fail
  refine (HD.out _).mono ?_
  rintro e w3 ⟨rfl, hb3⟩
  replace HX := Lib.hid ((hb3.block _ HZ.out).trans HX.out)
  replace HB := Lib.hid (HB.out.trans (hb3.mono HB.out.size))
  replace HZ : Hid (w.heap.size < w3.heap.size) := Nat.lt_of_lt_of_le HZ.out hb3.size
  clear hb3
  clear HD
  unfold decV
  dsimp only
  go_wp2_with fail
  generalize hW4 : World.alloc w3 _ = w4
  obtain ⟨ha4, -, hz4, hb4⟩ := alloc_of hW4
  replace HX := Lib.hid ((hb4.block _ HZ.out).trans HX.out)
  replace HB := Lib.hid (HB.out.trans (hb4.mono HB.out.size))
  replace HZ : Hid (w.heap.size < w4.heap.size) := Nat.lt_of_lt_of_le HZ.out hb4.size
  clear hb4
  clear hW4 hz4
  clear ha4
  refine (HM.out _).mono ?_
  rintro e w5 ⟨rfl, hb5⟩
  replace HX := Lib.hid ((hb5.block _ HZ.out).trans HX.out)
  replace HB := Lib.hid (HB.out.trans (hb5.mono HB.out.size))
  replace HZ : Hid (w.heap.size < w5.heap.size) := Nat.lt_of_lt_of_le HZ.out hb5.size
  clear hb5
  clear HM
  go_wp2_with fail
  generalize hW6 : World.alloc w5 _ = w6
  obtain ⟨ha6, -, hz6, hb6⟩ := alloc_of hW6
  replace HX := Lib.hid ((hb6.block _ HZ.out).trans HX.out)
  replace HB := Lib.hid (HB.out.trans (hb6.mono HB.out.size))
  replace HZ : Hid (w.heap.size < w6.heap.size) := Nat.lt_of_lt_of_le HZ.out hb6.size
  clear hb6
  clear hW6 hz6
  clear ha6
  refine (HP.out _).mono ?_
  rintro e w' ⟨rfl, rfl⟩
  clear HP
  go_wp2_with fail
  refine (HL.out _ (HE.out.below HB.out)).mono ?_
  rintro e w7 ⟨rfl, hb7⟩
  replace HX := Lib.hid ((hb7.block _ HZ.out).trans HX.out)
  replace HB := Lib.hid (HB.out.trans (hb7.mono HB.out.size))
  replace HZ : Hid (w.heap.size < w7.heap.size) := Nat.lt_of_lt_of_le HZ.out hb7.size
  clear hb7
  clear HL
  go_wp2_with fail
  refine (HTV.out _).mono ?_
  rintro e w8 ⟨rfl, hb8⟩
  replace HX := Lib.hid ((hb8.block _ HZ.out).trans HX.out)
  replace HB := Lib.hid (HB.out.trans (hb8.mono HB.out.size))
  replace HZ : Hid (w.heap.size < w8.heap.size) := Nat.lt_of_lt_of_le HZ.out hb8.size
  clear hb8
  clear HTV
  go_wp2_with (refine wpl_store rfl rfl stVl.2 rfl rfl (cs := vQ tq tu) rfl rfl (one13 rfl) HX.out (Nat.le_of_ble_eq_true rfl) (row := vQ tq tu) rfl ?_; generalize hW : World.setRow _ _ _ = ww; have HS := Lib.hid (setRow_of hW HX.out); clear hW)
  obtain ⟨hd5, -, hz5, hb5⟩ := HS.out
  obtain ⟨z0, z1, z2, z3, z4, z5, z6, z7, z8, z9, za, zb, zc⟩ := row13 hd5
  exact bodyPost_ret (v := .tuple #[.agg (vQ tq tu).toArray, .int .i64 te]) (by simp [results, Tryz.results14, go_sem, z0, z1, z2, z3, z4, z5, z6, z7, z8, z9, za, zb, zc]) rfl ⟨rfl, HB.out.trans (hb5 _ (Nat.le_refl _))⟩
theorem Sc_bad (s : ByteArray) (w : World) (hs : s.size ≤ 100000) (hv : validL (L s) = true) (hc : ctlB (L s) = false) (hw : ¬ wordS (L s)) (hd : (decP numP (L s)).err = 3) (ht : timB s = false) (hp : 0 < s.size) (hq : s[0].toNat ≠ 34 ∧ s[0].toNat ≠ 39) (hpb : pre (L s) [33, 98, 32] = false) (hE : EnvI w) (hl : plainB (L s) = false) :
    Calls Tryz.prog 14 #[.string s] w fun e w' => e = .returned (.tuple #[.agg (vZ).toArray, .int .i64 3]) ∧ Below w.heap.size w w' := by
  have HV := Lib.hid (fun w' => Valid_any s w' (by omega))
  rw [hv] at HV
  have HC := Lib.hid (fun w' => control_any s w')
  rw [hc] at HC
  obtain ⟨he1, n1, n2, n3, n4⟩ := no_word s hw
  have HD := Lib.hid (fun w' => Parse_any s w' hs)
  generalize decP numP (L s) = dr at *
  obtain ⟨d1, d2, d3, d4⟩ := dr
  have hd4 : d4 = 3 := hd
  subst hd4
  clear hd
  have HM := Lib.hid (fun w' => ParseM_no s w' (by omega) ht)
  have g1 := beqNB s[0] 34 (by omega)
  have g2 := beqNB s[0] 39 (by omega)
  have HP := Lib.hid (fun w' => (Tryz.strings_HasPrefix s ⟨#[33, 98, 32]⟩ w').mono fun e w2 h => (⟨h.1, h.2.symm⟩ : _ ∧ w' = w2))
  have e1 : Lib.hasPrefix s.data.toList (⟨#[33, 98, 32]⟩ : ByteArray).data.toList = pre (L s) [33, 98, 32] := hasP_pre _ _
  rw [e1, hpb] at HP
  have HE := Lib.hid hE
  have HL := Lib.hid (fun w' hE => loose_any s w' (by omega) hE)
  rw [hl] at HL
  clear hv hc hw hq hE hpb e1 hl ht
  go_enter Tryz.func14, Tryz.ntmps14
  go_upto_region 1 with fail
  generalize hW1 : World.alloc w _ = w1
  obtain ⟨ha1, -, hz1, hb1⟩ := alloc_of hW1
  have HX : Hid (w1.heap[w.heap.size]? = some (.cells vZ.toArray 40 (0, 0))) := ha1
  have HB := Lib.hid hb1
  have HZ : Hid (w.heap.size < w1.heap.size) := by unfold Hid; omega
  clear hW1 ha1 hz1 hb1
  go_wp2_with fail
  refine (HV.out _).mono ?_
  rintro e w' ⟨rfl, rfl⟩
  clear HV
  go_wp2_with fail
  refine (HC.out _).mono ?_
  rintro e w2 ⟨rfl, hb2⟩
  replace HX := Lib.hid ((hb2.block _ HZ.out).trans HX.out)
  replace HB := Lib.hid (HB.out.trans (hb2.mono HB.out.size))
  replace HZ : Hid (w.heap.size < w2.heap.size) := Nat.lt_of_lt_of_le HZ.out hb2.size
  clear hb2
  clear HC
  go_wp2_with fail
  refine (HD.out _).mono ?_
  rintro e w3 ⟨rfl, hb3⟩
  replace HX := Lib.hid ((hb3.block _ HZ.out).trans HX.out)
  replace HB := Lib.hid (HB.out.trans (hb3.mono HB.out.size))
  replace HZ : Hid (w.heap.size < w3.heap.size) := Nat.lt_of_lt_of_le HZ.out hb3.size
  clear hb3
  clear HD
  unfold decV
  dsimp only
  go_wp2_with fail
  generalize hW4 : World.alloc w3 _ = w4
  obtain ⟨ha4, -, hz4, hb4⟩ := alloc_of hW4
  replace HX := Lib.hid ((hb4.block _ HZ.out).trans HX.out)
  replace HB := Lib.hid (HB.out.trans (hb4.mono HB.out.size))
  replace HZ : Hid (w.heap.size < w4.heap.size) := Nat.lt_of_lt_of_le HZ.out hb4.size
  clear hb4
  clear hW4 hz4
  clear ha4
  refine (HM.out _).mono ?_
  rintro e w5 ⟨rfl, hb5⟩
  replace HX := Lib.hid ((hb5.block _ HZ.out).trans HX.out)
  replace HB := Lib.hid (HB.out.trans (hb5.mono HB.out.size))
  replace HZ : Hid (w.heap.size < w5.heap.size) := Nat.lt_of_lt_of_le HZ.out hb5.size
  clear hb5
  clear HM
  go_wp2_with fail
  generalize hW6 : World.alloc w5 _ = w6
  obtain ⟨ha6, -, hz6, hb6⟩ := alloc_of hW6
  replace HX := Lib.hid ((hb6.block _ HZ.out).trans HX.out)
  replace HB := Lib.hid (HB.out.trans (hb6.mono HB.out.size))
  replace HZ : Hid (w.heap.size < w6.heap.size) := Nat.lt_of_lt_of_le HZ.out hb6.size
  clear hb6
  clear hW6 hz6
  clear ha6
  refine (HP.out _).mono ?_
  rintro e w' ⟨rfl, rfl⟩
  clear HP
  go_wp2_with fail
  refine (HL.out _ (HE.out.below HB.out)).mono ?_
  rintro e w7 ⟨rfl, hb7⟩
  replace HX := Lib.hid ((hb7.block _ HZ.out).trans HX.out)
  replace HB := Lib.hid (HB.out.trans (hb7.mono HB.out.size))
  replace HZ : Hid (w.heap.size < w7.heap.size) := Nat.lt_of_lt_of_le HZ.out hb7.size
  clear hb7
  clear HL
  go_wp2_with (refine wpl_store rfl rfl stVl.2 rfl rfl (cs := vZ) rfl rfl (one13 rfl) HX.out (Nat.le_of_ble_eq_true rfl) (row := vZ) rfl ?_; generalize hW : World.setRow _ _ _ = ww; have HS := Lib.hid (setRow_of hW HX.out); clear hW)
  obtain ⟨hd5, -, hz5, hb5⟩ := HS.out
  obtain ⟨z0, z1, z2, z3, z4, z5, z6, z7, z8, z9, za, zb, zc⟩ := row13 hd5
  exact bodyPost_ret (v := .tuple #[.agg (vZ).toArray, .int .i64 3]) (by simp [results, Tryz.results14, go_sem, z0, z1, z2, z3, z4, z5, z6, z7, z8, z9, za, zb, zc]) rfl ⟨rfl, HB.out.trans (hb5 _ (Nat.le_refl _))⟩
end Go.Proofs.YtgddhkanfcpipaaGreatDoor

namespace Go.Proofs.YtgddhkanfcpipaaGreatDoor
open Go.RowKit
set_option maxHeartbeats 4000000
set_option maxRecDepth 100000

theorem simp_first (s : ByteArray) (h : simpB (L s) = true) : ∃ hp : 0 < s.size, s[0].toNat ≠ 34 ∧ s[0].toNat ≠ 39 ∧ pre (L s) [33, 98, 32] = false ∧ L s ≠ [33, 98] := by
  obtain ⟨h1, -, -, -, -, h6⟩ := simp_parts _ h
  have hp := size_pos h1
  have hm : s[0] ∈ L s := by
    have := L_drop s 0 hp
    rw [List.drop_zero] at this
    rw [this]
    exact List.mem_cons_self ..
  have hb := ok_byte _ (h6 _ hm)
  have hd := L_drop s 0 hp
  rw [List.drop_zero] at hd
  refine ⟨hp, hb.2.2.1, hb.2.2.2.1, ?_, ?_⟩
  · cases hx : pre (L s) [33, 98, 32]
    · rfl
    · unfold pre at hx
      rw [beq_iff_eq, hd] at hx
      injection hx with hy _
      exact absurd (by rw [hy]; rfl) hb.2.2.2.2.2.2
  · intro hx
    rw [hd] at hx
    injection hx with hy _
    exact absurd (by rw [hy]; rfl) hb.2.2.2.2.2.2
theorem pl_parts (s : ByteArray) (h : plS s = true) : simpB (L s) = true ∧ ¬ wordS (L s) ∧ numB (L s) = false ∧ timB s = false := by
  unfold plS wordI at h
  simp only [Bool.and_eq_true, Bool.not_eq_true', Bool.or_eq_false_iff, decide_eq_false_iff_not] at h
  obtain ⟨⟨⟨h1, ⟨h2, h3⟩, h4⟩, h5⟩, h6⟩ := h
  refine ⟨h1, ?_, h5, h6⟩
  rintro (hx | hx | hx | hx | hx)
  · exact (simp_parts _ h1).1 hx
  · exact h2 hx
  · exact h3 hx
  · exact h4 hx
  · exact (simp_first s h1).2.2.2.2 hx
theorem BackI_any (s : ByteArray) (w : World) (hE : EnvI w) :
    Calls Tryz.prog 7 #[.string s] w fun e w' => e = .returned (.bool true) ∧ Below w.heap.size w w' := by
  have HE := Lib.hid hE
  clear hE
  by_cases hs : 2000 < s.size
  · have h1 : (2000 : Int) < s.size := by omega
    go_enter Tryz.func7, Tryz.ntmps7
    go_wp2_with (go_at_call 11; refine (awake21_any _ HE.out).mono ?_; rintro e w1 ⟨rfl, hb1⟩)
    go_ret
    exact ⟨rfl, hb1⟩
  have h1 : ¬ (2000 : Int) < s.size := by omega
  have HQ := Lib.hid (fun w' => QuoteI_any s w' (by omega))
  have HP := Lib.hid (fun w' => Plain_any s w' (by omega))
  by_cases hbad : badL (L s) = (L s).length
  case neg =>
    have hq : quoR (L s) = ([], 5) := if_neg hbad
    have hpl : plS s = false := by
      cases hx : plS s
      · rfl
      · exact absurd (simp_parts _ (pl_parts s hx).1).2.1 hbad
    rw [hq] at HQ
    rw [hpl] at HP
    clear hq hpl hbad hs
    go_enter Tryz.func7, Tryz.ntmps7
    go_wp2_with fail
    refine (HQ.out _).mono ?_
    rintro e1 w1 ⟨rfl, hb1⟩
    have HB1 := Lib.hid hb1
    clear hb1 HQ
    go_wp2_with fail
    refine (HP.out _).mono ?_
    rintro e1 w2 ⟨rfl, hb2⟩
    have HB2 := Lib.hid (HB1.out.trans (hb2.mono HB1.out.size))
    clear hb2 HP HB1
    go_wp2_with (go_at_call 11; refine (awake21_any _ (HE.out.below HB2.out)).mono ?_; rintro e w3 ⟨rfl, hb3⟩)
    go_ret
    exact ⟨rfl, HB2.out.trans (hb3.mono HB2.out.size)⟩
  obtain ⟨hq1, hq2⟩ := quo_cons _ hbad
  obtain ⟨qb, hqb⟩ : ∃ qb : ByteArray, (⟨(quoR (L s)).1.toArray⟩ : ByteArray) = qb := ⟨_, rfl⟩
  have hLq : L qb = (quoR (L s)).1 := by rw [← hqb]; rfl
  have hlen := quo_len (L s)
  have hqs : qb.size ≤ 12002 := by
    have := L_len qb
    rw [hLq] at this
    rw [L_len] at hlen
    omega
  have hqp : 0 < qb.size := by
    have := L_len qb
    rw [hLq, hq1] at this
    simp only [List.length_cons] at this
    omega
  have hq0 : qb[0].toNat = 34 := by
    have hd := L_drop qb 0 hqp
    rw [List.drop_zero, hLq, hq1] at hd
    injection hd with hd _
    rw [← hd]
    rfl
  have hqv : validL (L qb) = true := by rw [hLq]; exact decide_eq_true (bad_back _ hbad)
  have hqc : ctlB (L qb) = false := by rw [hLq]; exact ctl_quo _
  have hqn : (decP numP (L qb)).err = 3 := by
    rw [dec_err, hLq, hq1]
    exact num_head 34 _ (by decide) (by decide)
  have hqt : timB qb = false := by
    rw [← tim_form, hLq, hq1]
    exact rp_head 34 _ (by decide)
  have hqu : unqR (L qb) = (L s, 0) := by
    have h2 := unq_back _ hbad
    rw [hLq]
    rw [hq1] at h2 ⊢
    rw [unqR, if_pos (by decide)]
    exact h2
  have HU := Lib.hid (fun w' => UnquoteI_any qb w' (by omega))
  rw [hqu] at HU
  have HS := Lib.hid (fun w' hE => ScalarQ_any qb s w' (by omega) hE hqv hqc hqp (.inl hq0) hqn hqt hqu (by omega))
  rw [hqb, hq2] at HQ
  dsimp only at HU
  rw [mk_L] at HU
  clear hq1 hq2 hqb hLq hlen hqs hqp hq0 hqv hqc hqn hqt hqu hbad
  have q1 : (s.toList != s.toList) = false := by rw [bne_eq_false_iff_eq]
  cases hpl : plS s
  case false =>
    rw [hpl] at HP
    clear hpl hs
    go_enter Tryz.func7, Tryz.ntmps7
    go_wp2_with fail
    refine (HQ.out _).mono ?_
    rintro e1 w1 ⟨rfl, hb1⟩
    have HB1 := Lib.hid hb1
    clear hb1 HQ
    go_wp2_with fail
    refine (HU.out _).mono ?_
    rintro e1 w2 ⟨rfl, hb2⟩
    have HB2 := Lib.hid (HB1.out.trans (hb2.mono HB1.out.size))
    clear hb2 HU HB1
    go_wp2_with fail
    refine (HS.out _ (HE.out.below HB2.out)).mono ?_
    rintro e1 w3 ⟨rfl, hb3⟩
    have HB3 := Lib.hid (HB2.out.trans (hb3.mono HB2.out.size))
    clear hb3 HS HB2
    go_upto_region 8 with fail
    generalize hW4 : World.alloc w3 _ = w4
    obtain ⟨ha4, -, hz4, hb4⟩ := alloc_of hW4
    have HB4 := Lib.hid (HB3.out.trans (hb4.mono HB3.out.size))
    have c0 : w4.cell? ⟨w3.heap.size, 0, none⟩ = some (.int .i64 4) := (cell_of_row w4 _ _ _ _ (0, 0) ha4).trans rfl
    have c9 : w4.cell? ⟨w3.heap.size, 9, none⟩ = some (.string s) := (cell_of_row w4 _ _ _ _ (0, 0) ha4).trans rfl
    clear hW4 ha4 hz4 hb4 HB3
    go_wp2_with fail
    refine (HP.out _).mono ?_
    rintro e1 w5 ⟨rfl, hb5⟩
    have HB5 := Lib.hid (HB4.out.trans (hb5.mono HB4.out.size))
    clear hb5 HP HB4 c0 c9
    go_wp2_with (go_at_call 11; refine (awake21_any _ (HE.out.below HB5.out)).mono ?_; rintro e w6 ⟨rfl, hb6⟩)
    go_ret
    exact ⟨rfl, HB5.out.trans (hb6.mono HB5.out.size)⟩
  case true =>
    rw [hpl] at HP
    obtain ⟨p1, p2, p3, p4⟩ := pl_parts s hpl
    obtain ⟨pp, p5, p6, p7, -⟩ := simp_first s p1
    have p8 := simp_plain _ p1
    have hv : validL (L s) = true := decide_eq_true (simp_parts _ p1).2.1
    have HSP := Lib.hid (fun w' hE => Sc_plain s w' (by omega) hv (simp_ctl _ p1) p2 ((dec_err _ _).2 p3) p4 pp ⟨p5, p6⟩ p7 hE p8)
    have ht0 : txtR s = (vT s, 0) := if_neg (by omega)
    rw [ht0] at HSP
    have hu2 : L (⟨#[39]⟩ ++ s ++ ⟨#[39]⟩) = 39 :: (L s ++ [39]) := by
      rw [L_append, L_append]
      rfl
    have hsz2 : (⟨#[39]⟩ ++ s ++ ⟨#[39]⟩ : ByteArray).size ≤ 1000000000 := by
      have := L_len (⟨#[39]⟩ ++ s ++ ⟨#[39]⟩)
      rw [hu2, List.length_cons, List.length_append, L_len, List.length_cons, List.length_nil] at this
      omega
    have HU2 := Lib.hid (fun w' => UnquoteI_any (⟨#[39]⟩ ++ s ++ ⟨#[39]⟩) w' hsz2)
    rw [hu2, unq_simple _ p1] at HU2
    dsimp only at HU2 HSP
    rw [mk_L] at HU2
    have q2 : (s.toList == s.toList) = true := beq_true rfl
    clear hpl p1 p2 p3 p4 p5 p6 p7 p8 pp hv ht0 hu2 hsz2 hs
    go_enter Tryz.func7, Tryz.ntmps7
    go_wp2_with fail
    refine (HQ.out _).mono ?_
    rintro e1 w1 ⟨rfl, hb1⟩
    have HB1 := Lib.hid hb1
    clear hb1 HQ
    go_wp2_with fail
    refine (HU.out _).mono ?_
    rintro e1 w2 ⟨rfl, hb2⟩
    have HB2 := Lib.hid (HB1.out.trans (hb2.mono HB1.out.size))
    clear hb2 HU HB1
    go_wp2_with fail
    refine (HS.out _ (HE.out.below HB2.out)).mono ?_
    rintro e1 w3 ⟨rfl, hb3⟩
    have HB3 := Lib.hid (HB2.out.trans (hb3.mono HB2.out.size))
    clear hb3 HS HB2
    go_upto_region 8 with fail
    generalize hW4 : World.alloc w3 _ = w4
    obtain ⟨ha4, -, hz4, hb4⟩ := alloc_of hW4
    have HB4 := Lib.hid (HB3.out.trans (hb4.mono HB3.out.size))
    have c0 : w4.cell? ⟨w3.heap.size, 0, none⟩ = some (.int .i64 4) := (cell_of_row w4 _ _ _ _ (0, 0) ha4).trans rfl
    have c9 : w4.cell? ⟨w3.heap.size, 9, none⟩ = some (.string s) := (cell_of_row w4 _ _ _ _ (0, 0) ha4).trans rfl
    clear hW4 ha4 hz4 hb4 HB3
    go_wp2_with fail
    refine (HP.out _).mono ?_
    rintro e1 w5 ⟨rfl, hb5⟩
    have HB5 := Lib.hid (HB4.out.trans (hb5.mono HB4.out.size))
    clear hb5 HP HB4 c0 c9
    go_wp2_with fail
    refine (HU2.out _).mono ?_
    rintro e1 w6 ⟨rfl, hb6⟩
    have HB6 := Lib.hid (HB5.out.trans (hb6.mono HB5.out.size))
    clear hb6 HU2 HB5
    go_wp2_with fail
    refine (HSP.out _ (HE.out.below HB6.out)).mono ?_
    rintro e1 w7 ⟨rfl, hb7⟩
    have HB7 := Lib.hid (HB6.out.trans (hb7.mono HB6.out.size))
    clear hb7 HSP HB6
    go_upto_region 13 with fail
    generalize hW8 : World.alloc w7 _ = w8
    obtain ⟨ha8, -, hz8, hb8⟩ := alloc_of hW8
    have HB8 := Lib.hid (HB7.out.trans (hb8.mono HB7.out.size))
    have c0 : w8.cell? ⟨w7.heap.size, 0, none⟩ = some (.int .i64 4) := (cell_of_row w8 _ _ _ _ (0, 0) ha8).trans rfl
    have c9 : w8.cell? ⟨w7.heap.size, 9, none⟩ = some (.string s) := (cell_of_row w8 _ _ _ _ (0, 0) ha8).trans rfl
    clear hW8 ha8 hz8 hb8 HB7
    go_wp2_with (go_at_call 11; refine (awake21_any _ (HE.out.below HB8.out)).mono ?_; rintro e w9 ⟨rfl, hb9⟩)
    go_ret
    exact ⟨rfl, HB8.out.trans (hb9.mono HB8.out.size)⟩
end Go.Proofs.YtgddhkanfcpipaaGreatDoor
