/- The law IndentlexScalars walked. Conditions: the tables of unicode/utf8 as they are, a value of internal/bytealg.MaxLen. -/
import Derived.Test.YtgddhkanfcpipaaGreatDoorZo1
import Derived.Test.YtgddhkanfcpipaaGreatDoorZp7
import Derived.Test.YtgddhkanfcpipaaGreatDoorZp5
import Derived.Test.YtgddhkanfcpipaaGreatDoorZp8
import Derived.Test.YtgddhkanfcpipaaGreatDoorZp9
import Derived.Test.YtgddhkanfcpipaaGreatDoorZp6
import Derived.Test.YtgddhkanfcpipaaGreatDoorZk20
namespace Go.Proofs.YtgddhkanfcpipaaGreatDoor
open Go.RowKit
set_option maxHeartbeats 4000000
set_option maxRecDepth 100000

abbrev vY (v : Value) : List Value := [.int .i64 5, .bool false, .bool false, .string ⟨#[]⟩, .int .i64 0, .int .i64 0, .int .i64 0, .int .i64 0, .int .i64 0, .string ⟨#[]⟩, v, .slice none 0 0, .slice none 0 0]
theorem Sc_b64no (s : ByteArray) (w : World) (hs : s.size ≤ 100000) (hv : validL (L s) = true) (hc : ctlB (L s) = false) (hw : ¬ wordS (L s)) (hd : (decP numP (L s)).err = 3) (ht : timB s = false) (hp : 0 < s.size) (hq : s[0].toNat ≠ 34 ∧ s[0].toNat ≠ 39) (hpb : pre (L s) [33, 98, 32] = true) (hno : ¬ okB ((L s).drop 3)) :
    Calls Tryz.prog 14 #[.string s] w fun e w' => e = .returned (.tuple #[.agg (vZ).toArray, .int .i64 3]) ∧ Below w.heap.size w w' := by
  have HV := Lib.hid (fun w' => Valid_any s w' (by omega))
  rw [hv] at HV
  have HC := Lib.hid (fun w' => control_any s w')
  rw [hc] at HC
  obtain ⟨he1, n1, n2, n3, n4⟩ := no_word s hw
  have HD := Lib.hid (fun w' => Parse_any s w' hs)
  generalize decP numP (L s) = dr at *
  obtain ⟨d1, d2, d3, d4⟩ := dr
  have hd4 : d4 = 3 := hd
  subst hd4
  clear hd
  have HM := Lib.hid (fun w' => ParseM_no s w' (by omega) ht)
  have g1 := beqNB s[0] 34 (by omega)
  have g2 := beqNB s[0] 39 (by omega)
  have HP := Lib.hid (fun w' => (Tryz.strings_HasPrefix s ⟨#[33, 98, 32]⟩ w').mono fun e w2 h => (⟨h.1, h.2.symm⟩ : _ ∧ w' = w2))
  have e1 : Lib.hasPrefix s.data.toList (⟨#[33, 98, 32]⟩ : ByteArray).data.toList = pre (L s) [33, 98, 32] := hasP_pre _ _
  rw [e1, hpb] at HP
  have h3 : 3 ≤ s.size := by
    have hx := hpb
    unfold pre at hx
    have hy := congrArg List.length (eq_of_beq hx)
    rw [List.length_take, L_len] at hy
    simp only [List.length_cons, List.length_nil] at hy
    omega
  have h3i : (3 : Int) ≤ (s.size : Int) := by omega
  have HT := Lib.hid (fun w' => BDecode_any (s.extract 3 s.size) w' (by have := L_len (s.extract 3 s.size); rw [L_from, List.length_drop, L_len] at this; omega))
  rw [L_from] at HT
  clear hv hc hw hq hpb e1 ht h3
  go_enter Tryz.func14, Tryz.ntmps14
  go_upto_region 1 with fail
  generalize hW1 : World.alloc w _ = w1
  obtain ⟨ha1, -, hz1, hb1⟩ := alloc_of hW1
  have HX : Hid (w1.heap[w.heap.size]? = some (.cells vZ.toArray 40 (0, 0))) := ha1
  have HB := Lib.hid hb1
  have HZ : Hid (w.heap.size < w1.heap.size) := by unfold Hid; omega
  clear hW1 ha1 hz1 hb1
  go_wp2_with fail
  refine (HV.out _).mono ?_
  rintro e w' ⟨rfl, rfl⟩
  clear HV
  go_wp2_with fail
  refine (HC.out _).mono ?_
  rintro e w2 ⟨rfl, hb2⟩
  replace HX := Lib.hid ((hb2.block _ HZ.out).trans HX.out)
  replace HB := Lib.hid (HB.out.trans (hb2.mono HB.out.size))
  replace HZ : Hid (w.heap.size < w2.heap.size) := Nat.lt_of_lt_of_le HZ.out hb2.size
  clear hb2
  clear HC
  go_wp2_with fail
  refine (HD.out _).mono ?_
  rintro e w3 ⟨rfl, hb3⟩
  replace HX := Lib.hid ((hb3.block _ HZ.out).trans HX.out)
  replace HB := Lib.hid (HB.out.trans (hb3.mono HB.out.size))
  replace HZ : Hid (w.heap.size < w3.heap.size) := Nat.lt_of_lt_of_le HZ.out hb3.size
  clear hb3
  clear HD
  unfold decV
  dsimp only
  go_wp2_with fail
  generalize hW4 : World.alloc w3 _ = w4
  obtain ⟨ha4, -, hz4, hb4⟩ := alloc_of hW4
  replace HX := Lib.hid ((hb4.block _ HZ.out).trans HX.out)
  replace HB := Lib.hid (HB.out.trans (hb4.mono HB.out.size))
  replace HZ : Hid (w.heap.size < w4.heap.size) := Nat.lt_of_lt_of_le HZ.out hb4.size
  clear hb4
  clear hW4 hz4
  clear ha4
  refine (HM.out _).mono ?_
  rintro e w5 ⟨rfl, hb5⟩
  replace HX := Lib.hid ((hb5.block _ HZ.out).trans HX.out)
  replace HB := Lib.hid (HB.out.trans (hb5.mono HB.out.size))
  replace HZ : Hid (w.heap.size < w5.heap.size) := Nat.lt_of_lt_of_le HZ.out hb5.size
  clear hb5
  clear HM
  go_wp2_with fail
  generalize hW6 : World.alloc w5 _ = w6
  obtain ⟨ha6, -, hz6, hb6⟩ := alloc_of hW6
  replace HX := Lib.hid ((hb6.block _ HZ.out).trans HX.out)
  replace HB := Lib.hid (HB.out.trans (hb6.mono HB.out.size))
  replace HZ : Hid (w.heap.size < w6.heap.size) := Nat.lt_of_lt_of_le HZ.out hb6.size
  clear hb6
  clear hW6 hz6
  clear ha6
  refine (HP.out _).mono ?_
  rintro e w' ⟨rfl, rfl⟩
  clear HP
  go_wp2_with fail
  refine (HT.out _).mono ?_
  rintro e w7 ⟨⟨v, n, rfl, hy, hn⟩, hb7⟩
  have HZP : Hid (w.heap.size < w6.heap.size) := HZ.out
  replace HX := Lib.hid ((hb7.block _ HZ.out).trans HX.out)
  replace HB := Lib.hid (HB.out.trans (hb7.mono HB.out.size))
  replace HZ : Hid (w.heap.size < w7.heap.size) := Nat.lt_of_lt_of_le HZ.out hb7.size
  clear hb7
  clear HT
  obtain ⟨hn0, rfl⟩ := hn hno
  have q0 : ((n : Int) != 0) = true := by rw [bne_iff_ne]; omega
  clear hy hn hno hn0 HZP
  go_wp2_with (refine wpl_store rfl rfl stVl.2 rfl rfl (cs := vZ) rfl rfl (one13 rfl) HX.out (Nat.le_of_ble_eq_true rfl) (row := vZ) rfl ?_; generalize hW : World.setRow _ _ _ = ww; have HS := Lib.hid (setRow_of hW HX.out); clear hW)
  obtain ⟨hd5, -, hz5, hb5⟩ := HS.out
  obtain ⟨z0, z1, z2, z3, z4, z5, z6, z7, z8, z9, za, zb, zc⟩ := row13 hd5
  exact bodyPost_ret (v := .tuple #[.agg (vZ).toArray, .int .i64 3]) (by simp [results, Tryz.results14, go_sem, z0, z1, z2, z3, z4, z5, z6, z7, z8, z9, za, zb, zc]) rfl ⟨rfl, HB.out.trans (hb5 _ (Nat.le_refl _))⟩
theorem Sc_b64nil (s : ByteArray) (w : World) (hs : s.size ≤ 100000) (hv : validL (L s) = true) (hc : ctlB (L s) = false) (hw : ¬ wordS (L s)) (hd : (decP numP (L s)).err = 3) (ht : timB s = false) (hp : 0 < s.size) (hq : s[0].toNat ≠ 34 ∧ s[0].toNat ≠ 39) (hpb : pre (L s) [33, 98, 32] = true) (hok : okB ((L s).drop 3)) (hnil : bytB ((L s).drop 3) = []) :
    Calls Tryz.prog 14 #[.string s] w fun e w' => e = .returned (.tuple #[.agg (vZ).toArray, .int .i64 3]) ∧ Below w.heap.size w w' := by
  have HV := Lib.hid (fun w' => Valid_any s w' (by omega))
  rw [hv] at HV
  have HC := Lib.hid (fun w' => control_any s w')
  rw [hc] at HC
  obtain ⟨he1, n1, n2, n3, n4⟩ := no_word s hw
  have HD := Lib.hid (fun w' => Parse_any s w' hs)
  generalize decP numP (L s) = dr at *
  obtain ⟨d1, d2, d3, d4⟩ := dr
  have hd4 : d4 = 3 := hd
  subst hd4
  clear hd
  have HM := Lib.hid (fun w' => ParseM_no s w' (by omega) ht)
  have g1 := beqNB s[0] 34 (by omega)
  have g2 := beqNB s[0] 39 (by omega)
  have HP := Lib.hid (fun w' => (Tryz.strings_HasPrefix s ⟨#[33, 98, 32]⟩ w').mono fun e w2 h => (⟨h.1, h.2.symm⟩ : _ ∧ w' = w2))
  have e1 : Lib.hasPrefix s.data.toList (⟨#[33, 98, 32]⟩ : ByteArray).data.toList = pre (L s) [33, 98, 32] := hasP_pre _ _
  rw [e1, hpb] at HP
  have h3 : 3 ≤ s.size := by
    have hx := hpb
    unfold pre at hx
    have hy := congrArg List.length (eq_of_beq hx)
    rw [List.length_take, L_len] at hy
    simp only [List.length_cons, List.length_nil] at hy
    omega
  have h3i : (3 : Int) ≤ (s.size : Int) := by omega
  have HT := Lib.hid (fun w' => BDecode_any (s.extract 3 s.size) w' (by have := L_len (s.extract 3 s.size); rw [L_from, List.length_drop, L_len] at this; omega))
  rw [L_from] at HT
  clear hv hc hw hq hpb e1 ht h3
  go_enter Tryz.func14, Tryz.ntmps14
  go_upto_region 1 with fail
  generalize hW1 : World.alloc w _ = w1
  obtain ⟨ha1, -, hz1, hb1⟩ := alloc_of hW1
  have HX : Hid (w1.heap[w.heap.size]? = some (.cells vZ.toArray 40 (0, 0))) := ha1
  have HB := Lib.hid hb1
  have HZ : Hid (w.heap.size < w1.heap.size) := by unfold Hid; omega
  clear hW1 ha1 hz1 hb1
  go_wp2_with fail
  refine (HV.out _).mono ?_
  rintro e w' ⟨rfl, rfl⟩
  clear HV
  go_wp2_with fail
  refine (HC.out _).mono ?_
  rintro e w2 ⟨rfl, hb2⟩
  replace HX := Lib.hid ((hb2.block _ HZ.out).trans HX.out)
  replace HB := Lib.hid (HB.out.trans (hb2.mono HB.out.size))
  replace HZ : Hid (w.heap.size < w2.heap.size) := Nat.lt_of_lt_of_le HZ.out hb2.size
  clear hb2
  clear HC
  go_wp2_with fail
  refine (HD.out _).mono ?_
  rintro e w3 ⟨rfl, hb3⟩
  replace HX := Lib.hid ((hb3.block _ HZ.out).trans HX.out)
  replace HB := Lib.hid (HB.out.trans (hb3.mono HB.out.size))
  replace HZ : Hid (w.heap.size < w3.heap.size) := Nat.lt_of_lt_of_le HZ.out hb3.size
  clear hb3
  clear HD
  unfold decV
  dsimp only
  go_wp2_with fail
  generalize hW4 : World.alloc w3 _ = w4
  obtain ⟨ha4, -, hz4, hb4⟩ := alloc_of hW4
  replace HX := Lib.hid ((hb4.block _ HZ.out).trans HX.out)
  replace HB := Lib.hid (HB.out.trans (hb4.mono HB.out.size))
  replace HZ : Hid (w.heap.size < w4.heap.size) := Nat.lt_of_lt_of_le HZ.out hb4.size
  clear hb4
  clear hW4 hz4
  clear ha4
  refine (HM.out _).mono ?_
  rintro e w5 ⟨rfl, hb5⟩
  replace HX := Lib.hid ((hb5.block _ HZ.out).trans HX.out)
  replace HB := Lib.hid (HB.out.trans (hb5.mono HB.out.size))
  replace HZ : Hid (w.heap.size < w5.heap.size) := Nat.lt_of_lt_of_le HZ.out hb5.size
  clear hb5
  clear HM
  go_wp2_with fail
  generalize hW6 : World.alloc w5 _ = w6
  obtain ⟨ha6, -, hz6, hb6⟩ := alloc_of hW6
  replace HX := Lib.hid ((hb6.block _ HZ.out).trans HX.out)
  replace HB := Lib.hid (HB.out.trans (hb6.mono HB.out.size))
  replace HZ : Hid (w.heap.size < w6.heap.size) := Nat.lt_of_lt_of_le HZ.out hb6.size
  clear hb6
  clear hW6 hz6
  clear ha6
  refine (HP.out _).mono ?_
  rintro e w' ⟨rfl, rfl⟩
  clear HP
  go_wp2_with fail
  refine (HT.out _).mono ?_
  rintro e w7 ⟨⟨v, n, rfl, hy, hn⟩, hb7⟩
  have HZP : Hid (w.heap.size < w6.heap.size) := HZ.out
  replace HX := Lib.hid ((hb7.block _ HZ.out).trans HX.out)
  replace HB := Lib.hid (HB.out.trans (hb7.mono HB.out.size))
  replace HZ : Hid (w.heap.size < w7.heap.size) := Nat.lt_of_lt_of_le HZ.out hb7.size
  clear hb7
  clear HT
  obtain ⟨rfl, hown⟩ := hy hok
  rw [hnil] at hown
  have hvv : v = .slice none 0 0 ∨ ∃ g cap, v = .slice (some ⟨g, 0, none⟩) 0 cap := by
    rcases hown.2 with ⟨rfl, -⟩ | ⟨g, cap, cur, rfl, -⟩
    · exact .inl rfl
    · exact .inr ⟨g, cap, rfl⟩
  clear hy hn hown HZP
  rcases hvv with rfl | ⟨g, cap, rfl⟩
  all_goals
    go_wp2_with (refine wpl_store rfl rfl stVl.2 rfl rfl (cs := vZ) rfl rfl (one13 rfl) HX.out (Nat.le_of_ble_eq_true rfl) (row := vZ) rfl ?_; generalize hW : World.setRow _ _ _ = ww; have HS := Lib.hid (setRow_of hW HX.out); clear hW)
    obtain ⟨hd5, -, hz5, hb5⟩ := HS.out
    obtain ⟨z0, z1, z2, z3, z4, z5, z6, z7, z8, z9, za, zb, zc⟩ := row13 hd5
    exact bodyPost_ret (v := .tuple #[.agg (vZ).toArray, .int .i64 3]) (by simp [results, Tryz.results14, go_sem, z0, z1, z2, z3, z4, z5, z6, z7, z8, z9, za, zb, zc]) rfl ⟨rfl, HB.out.trans (hb5 _ (Nat.le_refl _))⟩
theorem Sc_b64big (s : ByteArray) (w : World) (hs : s.size ≤ 100000) (hv : validL (L s) = true) (hc : ctlB (L s) = false) (hw : ¬ wordS (L s)) (hd : (decP numP (L s)).err = 3) (ht : timB s = false) (hp : 0 < s.size) (hq : s[0].toNat ≠ 34 ∧ s[0].toNat ≠ 39) (hpb : pre (L s) [33, 98, 32] = true) (hok : okB ((L s).drop 3)) (hne : bytB ((L s).drop 3) ≠ []) (hbig : 65536 < (bytB ((L s).drop 3)).length) :
    Calls Tryz.prog 14 #[.string s] w fun e w' => e = .returned (.tuple #[.agg (vZ).toArray, .int .i64 10]) ∧ Below w.heap.size w w' := by
  have HV := Lib.hid (fun w' => Valid_any s w' (by omega))
  rw [hv] at HV
  have HC := Lib.hid (fun w' => control_any s w')
  rw [hc] at HC
  obtain ⟨he1, n1, n2, n3, n4⟩ := no_word s hw
  have HD := Lib.hid (fun w' => Parse_any s w' hs)
  generalize decP numP (L s) = dr at *
  obtain ⟨d1, d2, d3, d4⟩ := dr
  have hd4 : d4 = 3 := hd
  subst hd4
  clear hd
  have HM := Lib.hid (fun w' => ParseM_no s w' (by omega) ht)
  have g1 := beqNB s[0] 34 (by omega)
  have g2 := beqNB s[0] 39 (by omega)
  have HP := Lib.hid (fun w' => (Tryz.strings_HasPrefix s ⟨#[33, 98, 32]⟩ w').mono fun e w2 h => (⟨h.1, h.2.symm⟩ : _ ∧ w' = w2))
  have e1 : Lib.hasPrefix s.data.toList (⟨#[33, 98, 32]⟩ : ByteArray).data.toList = pre (L s) [33, 98, 32] := hasP_pre _ _
  rw [e1, hpb] at HP
  have h3 : 3 ≤ s.size := by
    have hx := hpb
    unfold pre at hx
    have hy := congrArg List.length (eq_of_beq hx)
    rw [List.length_take, L_len] at hy
    simp only [List.length_cons, List.length_nil] at hy
    omega
  have h3i : (3 : Int) ≤ (s.size : Int) := by omega
  have HT := Lib.hid (fun w' => BDecode_any (s.extract 3 s.size) w' (by have := L_len (s.extract 3 s.size); rw [L_from, List.length_drop, L_len] at this; omega))
  rw [L_from] at HT
  obtain ⟨bs, hbs⟩ : ∃ bs, bytB ((L s).drop 3) = bs := ⟨_, rfl⟩
  rw [hbs] at hne hbig
  have HBE := Lib.hid hbs
  clear hv hc hw hq hpb e1 ht h3 hbs
  go_enter Tryz.func14, Tryz.ntmps14
  go_upto_region 1 with fail
  generalize hW1 : World.alloc w _ = w1
  obtain ⟨ha1, -, hz1, hb1⟩ := alloc_of hW1
  have HX : Hid (w1.heap[w.heap.size]? = some (.cells vZ.toArray 40 (0, 0))) := ha1
  have HB := Lib.hid hb1
  have HZ : Hid (w.heap.size < w1.heap.size) := by unfold Hid; omega
  clear hW1 ha1 hz1 hb1
  go_wp2_with fail
  refine (HV.out _).mono ?_
  rintro e w' ⟨rfl, rfl⟩
  clear HV
  go_wp2_with fail
  refine (HC.out _).mono ?_
  rintro e w2 ⟨rfl, hb2⟩
  replace HX := Lib.hid ((hb2.block _ HZ.out).trans HX.out)
  replace HB := Lib.hid (HB.out.trans (hb2.mono HB.out.size))
  replace HZ : Hid (w.heap.size < w2.heap.size) := Nat.lt_of_lt_of_le HZ.out hb2.size
  clear hb2
  clear HC
  go_wp2_with fail
  refine (HD.out _).mono ?_
  rintro e w3 ⟨rfl, hb3⟩
  replace HX := Lib.hid ((hb3.block _ HZ.out).trans HX.out)
  replace HB := Lib.hid (HB.out.trans (hb3.mono HB.out.size))
  replace HZ : Hid (w.heap.size < w3.heap.size) := Nat.lt_of_lt_of_le HZ.out hb3.size
  clear hb3
  clear HD
  unfold decV
  dsimp only
  go_wp2_with fail
  generalize hW4 : World.alloc w3 _ = w4
  obtain ⟨ha4, -, hz4, hb4⟩ := alloc_of hW4
  replace HX := Lib.hid ((hb4.block _ HZ.out).trans HX.out)
  replace HB := Lib.hid (HB.out.trans (hb4.mono HB.out.size))
  replace HZ : Hid (w.heap.size < w4.heap.size) := Nat.lt_of_lt_of_le HZ.out hb4.size
  clear hb4
  clear hW4 hz4
  clear ha4
  refine (HM.out _).mono ?_
  rintro e w5 ⟨rfl, hb5⟩
  replace HX := Lib.hid ((hb5.block _ HZ.out).trans HX.out)
  replace HB := Lib.hid (HB.out.trans (hb5.mono HB.out.size))
  replace HZ : Hid (w.heap.size < w5.heap.size) := Nat.lt_of_lt_of_le HZ.out hb5.size
  clear hb5
  clear HM
  go_wp2_with fail
  generalize hW6 : World.alloc w5 _ = w6
  obtain ⟨ha6, -, hz6, hb6⟩ := alloc_of hW6
  replace HX := Lib.hid ((hb6.block _ HZ.out).trans HX.out)
  replace HB := Lib.hid (HB.out.trans (hb6.mono HB.out.size))
  replace HZ : Hid (w.heap.size < w6.heap.size) := Nat.lt_of_lt_of_le HZ.out hb6.size
  clear hb6
  clear hW6 hz6
  clear ha6
  refine (HP.out _).mono ?_
  rintro e w' ⟨rfl, rfl⟩
  clear HP
  go_wp2_with fail
  refine (HT.out _).mono ?_
  rintro e w7 ⟨⟨v, n, rfl, hy, hn⟩, hb7⟩
  have HZP : Hid (w.heap.size < w6.heap.size) := HZ.out
  replace HX := Lib.hid ((hb7.block _ HZ.out).trans HX.out)
  replace HB := Lib.hid (HB.out.trans (hb7.mono HB.out.size))
  replace HZ : Hid (w.heap.size < w7.heap.size) := Nat.lt_of_lt_of_le HZ.out hb7.size
  clear hb7
  clear HT
  obtain ⟨rfl, hown⟩ := hy hok
  rw [HBE.out] at hown
  have hvv : ∃ g cap, v = .slice (some ⟨g, 0, none⟩) bs.length cap := by
    rcases hown.2 with ⟨rfl, h0⟩ | ⟨g, cap, cur, rfl, -⟩
    · exact absurd (List.eq_nil_of_length_eq_zero h0) hne
    · exact ⟨g, cap, rfl⟩
  obtain ⟨g, cap, rfl⟩ := hvv
  have q1 : ((bs.length : Int) == 0) = false := by
    have : bs.length ≠ 0 := fun h => hne (List.eq_nil_of_length_eq_zero h)
    rw [beq_eq_false_iff_ne]; omega
  have q2 : ((65536 : Int) < (bs.length : Int)) = True := eq_true (by omega)
  clear hy hn hown HZP hne hbig
  go_wp2_with (refine wpl_store rfl rfl stVl.2 rfl rfl (cs := vZ) rfl rfl (one13 rfl) HX.out (Nat.le_of_ble_eq_true rfl) (row := vZ) rfl ?_; generalize hW : World.setRow _ _ _ = ww; have HS := Lib.hid (setRow_of hW HX.out); clear hW)
  obtain ⟨hd5, -, hz5, hb5⟩ := HS.out
  obtain ⟨z0, z1, z2, z3, z4, z5, z6, z7, z8, z9, za, zb, zc⟩ := row13 hd5
  exact bodyPost_ret (v := .tuple #[.agg (vZ).toArray, .int .i64 10]) (by simp [results, Tryz.results14, go_sem, z0, z1, z2, z3, z4, z5, z6, z7, z8, z9, za, zb, zc]) rfl ⟨rfl, HB.out.trans (hb5 _ (Nat.le_refl _))⟩
/-- Bytes of one's own, read where another block has been written. -/
theorem own_other {w w' : World} {base g b cap : Nat} {bs : List UInt8} (h : w.ownsRow base 5 1 (.slice (some ⟨g, 0, none⟩) bs.length cap) bs.length (bs.map bv)) (hg : g ≠ b) (ho : ∀ j, j ≠ b → w'.heap[j]? = w.heap[j]?) (hz : w'.heap.size = w.heap.size) (hl : bs.length ≤ 140737488351232) : RdB w' (.slice (some ⟨g, 0, none⟩) bs.length cap) bs := by
  refine Sl.kept (S := fun j => j = g) (RdB.of_own h rfl hl) ?_ (fun j hj _ => ho j (by rw [hj]; exact hg)) (by omega)
  intro g' o p m cap' hv _
  cases hv
  rfl
theorem Sc_b64 (s : ByteArray) (w : World) (hs : s.size ≤ 100000) (hv : validL (L s) = true) (hc : ctlB (L s) = false) (hw : ¬ wordS (L s)) (hd : (decP numP (L s)).err = 3) (ht : timB s = false) (hp : 0 < s.size) (hq : s[0].toNat ≠ 34 ∧ s[0].toNat ≠ 39) (hpb : pre (L s) [33, 98, 32] = true) (hok : okB ((L s).drop 3)) (hne : bytB ((L s).drop 3) ≠ []) (hbig : ¬ 65536 < (bytB ((L s).drop 3)).length) :
    Calls Tryz.prog 14 #[.string s] w fun e w' => (∃ v, e = .returned (.tuple #[.agg (vY v).toArray, .int .i64 0]) ∧ RdB w' v (bytB ((L s).drop 3))) ∧ Below w.heap.size w w' := by
  have HV := Lib.hid (fun w' => Valid_any s w' (by omega))
  rw [hv] at HV
  have HC := Lib.hid (fun w' => control_any s w')
  rw [hc] at HC
  obtain ⟨he1, n1, n2, n3, n4⟩ := no_word s hw
  have HD := Lib.hid (fun w' => Parse_any s w' hs)
  generalize decP numP (L s) = dr at *
  obtain ⟨d1, d2, d3, d4⟩ := dr
  have hd4 : d4 = 3 := hd
  subst hd4
  clear hd
  have HM := Lib.hid (fun w' => ParseM_no s w' (by omega) ht)
  have g1 := beqNB s[0] 34 (by omega)
  have g2 := beqNB s[0] 39 (by omega)
  have HP := Lib.hid (fun w' => (Tryz.strings_HasPrefix s ⟨#[33, 98, 32]⟩ w').mono fun e w2 h => (⟨h.1, h.2.symm⟩ : _ ∧ w' = w2))
  have e1 : Lib.hasPrefix s.data.toList (⟨#[33, 98, 32]⟩ : ByteArray).data.toList = pre (L s) [33, 98, 32] := hasP_pre _ _
  rw [e1, hpb] at HP
  have h3 : 3 ≤ s.size := by
    have hx := hpb
    unfold pre at hx
    have hy := congrArg List.length (eq_of_beq hx)
    rw [List.length_take, L_len] at hy
    simp only [List.length_cons, List.length_nil] at hy
    omega
  have h3i : (3 : Int) ≤ (s.size : Int) := by omega
  have HT := Lib.hid (fun w' => BDecode_any (s.extract 3 s.size) w' (by have := L_len (s.extract 3 s.size); rw [L_from, List.length_drop, L_len] at this; omega))
  rw [L_from] at HT
  obtain ⟨bs, hbs⟩ : ∃ bs, bytB ((L s).drop 3) = bs := ⟨_, rfl⟩
  rw [hbs] at hne hbig ⊢
  have HBE := Lib.hid hbs
  clear hv hc hw hq hpb e1 ht h3 hbs
  go_enter Tryz.func14, Tryz.ntmps14
  go_upto_region 1 with fail
  generalize hW1 : World.alloc w _ = w1
  obtain ⟨ha1, -, hz1, hb1⟩ := alloc_of hW1
  have HX : Hid (w1.heap[w.heap.size]? = some (.cells vZ.toArray 40 (0, 0))) := ha1
  have HB := Lib.hid hb1
  have HZ : Hid (w.heap.size < w1.heap.size) := by unfold Hid; omega
  clear hW1 ha1 hz1 hb1
  go_wp2_with fail
  refine (HV.out _).mono ?_
  rintro e w' ⟨rfl, rfl⟩
  clear HV
  go_wp2_with fail
  refine (HC.out _).mono ?_
  rintro e w2 ⟨rfl, hb2⟩
  replace HX := Lib.hid ((hb2.block _ HZ.out).trans HX.out)
  replace HB := Lib.hid (HB.out.trans (hb2.mono HB.out.size))
  replace HZ : Hid (w.heap.size < w2.heap.size) := Nat.lt_of_lt_of_le HZ.out hb2.size
  clear hb2
  clear HC
  go_wp2_with fail
  refine (HD.out _).mono ?_
  rintro e w3 ⟨rfl, hb3⟩
  replace HX := Lib.hid ((hb3.block _ HZ.out).trans HX.out)
  replace HB := Lib.hid (HB.out.trans (hb3.mono HB.out.size))
  replace HZ : Hid (w.heap.size < w3.heap.size) := Nat.lt_of_lt_of_le HZ.out hb3.size
  clear hb3
  clear HD
  unfold decV
  dsimp only
  go_wp2_with fail
  generalize hW4 : World.alloc w3 _ = w4
  obtain ⟨ha4, -, hz4, hb4⟩ := alloc_of hW4
  replace HX := Lib.hid ((hb4.block _ HZ.out).trans HX.out)
  replace HB := Lib.hid (HB.out.trans (hb4.mono HB.out.size))
  replace HZ : Hid (w.heap.size < w4.heap.size) := Nat.lt_of_lt_of_le HZ.out hb4.size
  clear hb4
  clear hW4 hz4
  clear ha4
  refine (HM.out _).mono ?_
  rintro e w5 ⟨rfl, hb5⟩
  replace HX := Lib.hid ((hb5.block _ HZ.out).trans HX.out)
  replace HB := Lib.hid (HB.out.trans (hb5.mono HB.out.size))
  replace HZ : Hid (w.heap.size < w5.heap.size) := Nat.lt_of_lt_of_le HZ.out hb5.size
  clear hb5
  clear HM
  go_wp2_with fail
  generalize hW6 : World.alloc w5 _ = w6
  obtain ⟨ha6, -, hz6, hb6⟩ := alloc_of hW6
  replace HX := Lib.hid ((hb6.block _ HZ.out).trans HX.out)
  replace HB := Lib.hid (HB.out.trans (hb6.mono HB.out.size))
  replace HZ : Hid (w.heap.size < w6.heap.size) := Nat.lt_of_lt_of_le HZ.out hb6.size
  clear hb6
  clear hW6 hz6
  clear ha6
  refine (HP.out _).mono ?_
  rintro e w' ⟨rfl, rfl⟩
  clear HP
  go_wp2_with fail
  refine (HT.out _).mono ?_
  rintro e w7 ⟨⟨v, n, rfl, hy, hn⟩, hb7⟩
  have HZP : Hid (w.heap.size < w6.heap.size) := HZ.out
  replace HX := Lib.hid ((hb7.block _ HZ.out).trans HX.out)
  replace HB := Lib.hid (HB.out.trans (hb7.mono HB.out.size))
  replace HZ : Hid (w.heap.size < w7.heap.size) := Nat.lt_of_lt_of_le HZ.out hb7.size
  clear hb7
  clear HT
  obtain ⟨rfl, hown⟩ := hy hok
  rw [HBE.out] at hown
  have hvv : ∃ g cap, v = .slice (some ⟨g, 0, none⟩) bs.length cap := by
    rcases hown.2 with ⟨rfl, h0⟩ | ⟨g, cap, cur, rfl, -⟩
    · exact absurd (List.eq_nil_of_length_eq_zero h0) hne
    · exact ⟨g, cap, rfl⟩
  obtain ⟨g, cap, rfl⟩ := hvv
  have q1 : ((bs.length : Int) == 0) = false := by
    have : bs.length ≠ 0 := fun h => hne (List.eq_nil_of_length_eq_zero h)
    rw [beq_eq_false_iff_ne]; omega
  have q2 : ((65536 : Int) < (bs.length : Int)) = False := eq_false (by omega)
  have hgz := (hown.lt g rfl).1
  have HG : Hid (g ≠ w.heap.size) := by unfold Hid; have := HZP.out; omega
  have HOWN := Lib.hid hown
  have HBL : Hid (bs.length ≤ 140737488351232) := by unfold Hid; omega
  clear hy hn hown HZP hne hbig hgz
  go_wp2_with (refine wpl_store rfl rfl stVl.2 rfl rfl (cs := vY (.slice (some ⟨g, 0, none⟩) bs.length cap)) rfl rfl (one13 rfl) HX.out (Nat.le_of_ble_eq_true rfl) (row := vY (.slice (some ⟨g, 0, none⟩) bs.length cap)) rfl ?_; generalize hW : World.setRow _ _ _ = ww; have HS := Lib.hid (setRow_of hW HX.out); clear hW)
  obtain ⟨hd5, ho5, hz5, hb5⟩ := HS.out
  obtain ⟨z0, z1, z2, z3, z4, z5, z6, z7, z8, z9, za, zb, zc⟩ := row13 hd5
  exact bodyPost_ret (v := .tuple #[.agg (vY (.slice (some ⟨g, 0, none⟩) bs.length cap)).toArray, .int .i64 0]) (by simp [results, Tryz.results14, go_sem, z0, z1, z2, z3, z4, z5, z6, z7, z8, z9, za, zb, zc]) rfl ⟨⟨_, rfl, own_other HOWN.out HG.out ho5 hz5 HBL.out⟩, HB.out.trans (hb5 _ (Nat.le_refl _))⟩
end Go.Proofs.YtgddhkanfcpipaaGreatDoor

namespace Go.Proofs.YtgddhkanfcpipaaGreatDoor
open Go.RowKit
set_option maxHeartbeats 4000000
set_option maxRecDepth 100000

theorem rdb_other {w w' : World} {v : Value} {bs : List UInt8} {S : Nat → Prop} {b : Nat} (h : RdB w v bs) (hs : BlkIn S v) (hb : ¬ S b) (ho : ∀ j, j ≠ b → w'.heap[j]? = w.heap[j]?) (hz : w'.heap.size = w.heap.size) : RdB w' v bs :=
  Sl.kept h hs (fun j hj _ => ho j (fun h => hb (by rw [← h]; exact hj))) (by omega)
theorem bin_no (s : ByteArray) (w : World) (hs : s.size ≤ 100000000) (hno : ¬ okB (L s)) :
    Calls Tryz.prog 46 #[.string s] w fun e w' => e = .returned (.tuple #[.agg vZ.toArray, .int .i64 3]) ∧ Below w.heap.size w w' := by
  have HT := Lib.hid (fun w' => RDecode_any s w' hs)
  go_enter Tryz.func46, Tryz.ntmps46
  go_upto_region 1 with fail
  generalize hW1 : World.alloc w _ = w1
  obtain ⟨ha1, -, hz1, hb1⟩ := alloc_of hW1
  have HX : Hid (w1.heap[w.heap.size]? = some (.cells vZ.toArray 40 (0, 0))) := ha1
  have HB := Lib.hid hb1
  have HZ : Hid (w.heap.size < w1.heap.size) := by unfold Hid; omega
  clear hW1 ha1 hz1 hb1
  go_wp2_with fail
  refine (HT.out _).mono ?_
  rintro e w2 ⟨⟨v, n, rfl, hy, hn⟩, hb2⟩
  replace HX := Lib.hid ((hb2.block _ HZ.out).trans HX.out)
  replace HB := Lib.hid (HB.out.trans (hb2.mono HB.out.size))
  obtain ⟨hn0, rfl⟩ := hn hno
  have q0 : ((n : Int) != 0) = true := by rw [bne_iff_ne]; omega
  clear hb2 hy hn hno hn0 HT HZ
  go_wp2_with (refine wpl_store rfl rfl stVl.2 rfl rfl (cs := vZ) rfl rfl (one13 rfl) HX.out (Nat.le_of_ble_eq_true rfl) (row := vZ) rfl ?_; generalize hW : World.setRow _ _ _ = ww; have HS := Lib.hid (setRow_of hW HX.out); clear hW)
  obtain ⟨hd5, -, hz5, hb5⟩ := HS.out
  obtain ⟨z0, z1, z2, z3, z4, z5, z6, z7, z8, z9, za, zb, zc⟩ := row13 hd5
  exact bodyPost_ret (v := .tuple #[.agg (vZ).toArray, .int .i64 3]) (by simp [results, Tryz.results46, go_sem, z0, z1, z2, z3, z4, z5, z6, z7, z8, z9, za, zb, zc]) rfl ⟨rfl, HB.out.trans (hb5 _ (Nat.le_refl _))⟩
theorem bin_big (s : ByteArray) (w : World) (hs : s.size ≤ 100000000) (hok : okB (L s)) (hbig : 65536 < (bytB (L s)).length) :
    Calls Tryz.prog 46 #[.string s] w fun e w' => e = .returned (.tuple #[.agg vZ.toArray, .int .i64 10]) ∧ Below w.heap.size w w' := by
  have HT := Lib.hid (fun w' => RDecode_any s w' hs)
  have HBG := Lib.hid hbig
  go_enter Tryz.func46, Tryz.ntmps46
  go_upto_region 1 with fail
  generalize hW1 : World.alloc w _ = w1
  obtain ⟨ha1, -, hz1, hb1⟩ := alloc_of hW1
  have HX : Hid (w1.heap[w.heap.size]? = some (.cells vZ.toArray 40 (0, 0))) := ha1
  have HB := Lib.hid hb1
  have HZ : Hid (w.heap.size < w1.heap.size) := by unfold Hid; omega
  clear hW1 ha1 hz1 hb1
  go_wp2_with fail
  refine (HT.out _).mono ?_
  rintro e w2 ⟨⟨v, n, rfl, hy, hn⟩, hb2⟩
  replace HX := Lib.hid ((hb2.block _ HZ.out).trans HX.out)
  replace HB := Lib.hid (HB.out.trans (hb2.mono HB.out.size))
  obtain ⟨rfl, ⟨a, cap, rfl, -⟩, -⟩ := hy hok
  have q0 : ((65536 : Int) < ((bytB (L s)).length : Int)) = True := eq_true (by omega)
  clear hb2 hn hok hbig HT HZ
  generalize (bytB (L s)).length = bl at *
  go_wp2_with (refine wpl_store rfl rfl stVl.2 rfl rfl (cs := vZ) rfl rfl (one13 rfl) HX.out (Nat.le_of_ble_eq_true rfl) (row := vZ) rfl ?_; generalize hW : World.setRow _ _ _ = ww; have HS := Lib.hid (setRow_of hW HX.out); clear hW)
  obtain ⟨hd5, -, hz5, hb5⟩ := HS.out
  obtain ⟨z0, z1, z2, z3, z4, z5, z6, z7, z8, z9, za, zb, zc⟩ := row13 hd5
  exact bodyPost_ret (v := .tuple #[.agg (vZ).toArray, .int .i64 10]) (by simp [results, Tryz.results46, go_sem, z0, z1, z2, z3, z4, z5, z6, z7, z8, z9, za, zb, zc]) rfl ⟨rfl, HB.out.trans (hb5 _ (Nat.le_refl _))⟩
theorem bin_ok (s : ByteArray) (w : World) (hs : s.size ≤ 100000000) (hok : okB (L s)) (hbig : ¬ 65536 < (bytB (L s)).length) :
    Calls Tryz.prog 46 #[.string s] w fun e w' => (∃ a cap, e = .returned (.tuple #[.agg (vY (.slice a (bytB (L s)).length cap)).toArray, .int .i64 0]) ∧ RdB w' (.slice a (bytB (L s)).length cap) (bytB (L s)) ∧ BlkIn (fun b => w.heap.size < b) (.slice a (bytB (L s)).length cap)) ∧ Below w.heap.size w w' := by
  have HT := Lib.hid (fun w' => RDecode_any s w' hs)
  obtain ⟨bs, hbs⟩ : ∃ bs, bytB (L s) = bs := ⟨_, rfl⟩
  rw [hbs] at hbig ⊢
  have HBE := Lib.hid hbs
  clear hbs
  go_enter Tryz.func46, Tryz.ntmps46
  go_upto_region 1 with fail
  generalize hW1 : World.alloc w _ = w1
  obtain ⟨ha1, -, hz1, hb1⟩ := alloc_of hW1
  have HX : Hid (w1.heap[w.heap.size]? = some (.cells vZ.toArray 40 (0, 0))) := ha1
  have HB := Lib.hid hb1
  have HZ : Hid (w.heap.size < w1.heap.size) := by unfold Hid; omega
  clear hW1 ha1 hz1 hb1
  go_wp2_with fail
  refine (HT.out _).mono ?_
  rintro e w2 ⟨⟨v, n, rfl, hy, hn⟩, hb2⟩
  replace HX := Lib.hid ((hb2.block _ HZ.out).trans HX.out)
  replace HB := Lib.hid (HB.out.trans (hb2.mono HB.out.size))
  obtain ⟨rfl, hrd, hbk⟩ := hy hok
  rw [HBE.out] at hrd
  have HRD := Lib.hid hrd
  obtain ⟨a, cap, rfl, -⟩ := hrd
  have HBK : Hid (BlkIn (fun b => w.heap.size < b) (.slice a bs.length cap)) := hbk.mono (fun b hb => Nat.lt_of_lt_of_le HZ.out hb)
  have q0 : ((65536 : Int) < (bs.length : Int)) = False := eq_false (by omega)
  clear hb2 hy hn hok hbig HT HZ hbk
  go_wp2_with (refine wpl_store rfl rfl stVl.2 rfl rfl (cs := vY (.slice a bs.length cap)) rfl rfl (one13 rfl) HX.out (Nat.le_of_ble_eq_true rfl) (row := vY (.slice a bs.length cap)) rfl ?_; generalize hW : World.setRow _ _ _ = ww; have HS := Lib.hid (setRow_of hW HX.out); clear hW)
  obtain ⟨hd5, ho5, hz5, hb5⟩ := HS.out
  obtain ⟨z0, z1, z2, z3, z4, z5, z6, z7, z8, z9, za, zb, zc⟩ := row13 hd5
  exact bodyPost_ret (v := .tuple #[.agg (vY (.slice a bs.length cap)).toArray, .int .i64 0]) (by simp [results, Tryz.results46, go_sem, z0, z1, z2, z3, z4, z5, z6, z7, z8, z9, za, zb, zc]) rfl ⟨⟨a, cap, rfl, rdb_other HRD.out HBK.out (Nat.lt_irrefl _) ho5 hz5, HBK.out⟩, HB.out.trans (hb5 _ (Nat.le_refl _))⟩
end Go.Proofs.YtgddhkanfcpipaaGreatDoor

namespace Go.Proofs.YtgddhkanfcpipaaGreatDoor
open Go.RowKit
set_option maxHeartbeats 4000000
set_option maxRecDepth 100000
theorem Rc_b64no (s : ByteArray) (w : World) (hs : s.size ≤ 100000) (hv : validL (L s) = true) (hc : ctlB (L s) = false) (hw : ¬ wordS (L s)) (hp : 0 < s.size) (hq : s[0].toNat ≠ 34 ∧ s[0].toNat ≠ 39) (h3 : 3 < s.size) (hpb : pre (L s) [33, 98, 32] = true) (hno : ¬ okB ((L s).drop 3)) :
    Calls Tryz.prog 15 #[.string s] w fun e w' => e = .returned (.tuple #[.agg (vZ).toArray, .int .i64 3]) ∧ Below w.heap.size w w' := by
  have HC := Lib.hid (fun w' => clean_any s w' (by omega))
  rw [hv, hc] at HC
  obtain ⟨he1, n1, n2, n3, n4⟩ := no_word s hw
  have g1 := beqNB s[0] 39 (by omega)
  have g2 := beqNB s[0] 34 (by omega)
  have hm : s.size ≤ maxLen := by simp only [maxLen]; omega
  have q3 : ((3 : Int) < (s.size : Int)) = True := eq_true (by omega)
  have q6 : (3 : Int) ≤ (s.size : Int) := by omega
  have q4 : ((s.extract 0 3).toList == [33, 98, 32]) = true := by
    rw [toList_L, L_upto]
    exact hpb
  have hL3 : L (s.extract 3 s.size) = (L s).drop 3 := L_from s 3
  have hz3 : (s.extract 3 s.size).size ≤ 100000000 := by
    have := L_len (s.extract 3 s.size)
    rw [hL3, List.length_drop, L_len] at this
    omega
  have HBN := Lib.hid (fun w' => bin_no (s.extract 3 s.size) w' hz3 (by rw [hL3]; exact hno))
  clear hv hc hw hq h3 hpb hL3 hz3 hno
  go_enter Tryz.func15, Tryz.ntmps15
  go_upto_region 1 with fail
  generalize hW1 : World.alloc w _ = w1
  obtain ⟨ha1, -, hz1, hb1⟩ := alloc_of hW1
  have HX : Hid (w1.heap[w.heap.size]? = some (.cells vZ.toArray 40 (0, 0))) := ha1
  have HB := Lib.hid hb1
  have HZ : Hid (w.heap.size < w1.heap.size) := by unfold Hid; omega
  clear hW1 ha1 hz1 hb1
  go_wp2_with fail
  refine (HC.out _).mono ?_
  rintro e w2 ⟨rfl, hb2⟩
  replace HX := Lib.hid ((hb2.block _ HZ.out).trans HX.out)
  replace HB := Lib.hid (HB.out.trans (hb2.mono HB.out.size))
  replace HZ : Hid (w.heap.size < w2.heap.size) := Nat.lt_of_lt_of_le HZ.out hb2.size
  clear hb2
  clear HC
  go_wp2_with fail
  refine (HBN.out _).mono ?_
  rintro e w3 ⟨rfl, hb3⟩
  replace HX := Lib.hid ((hb3.block _ HZ.out).trans HX.out)
  replace HB := Lib.hid (HB.out.trans (hb3.mono HB.out.size))
  replace HZ : Hid (w.heap.size < w3.heap.size) := Nat.lt_of_lt_of_le HZ.out hb3.size
  clear hb3
  clear HBN
  go_wp2_with (refine wpl_store rfl rfl stVl.2 rfl rfl (cs := vZ) rfl rfl (one13 rfl) HX.out (Nat.le_of_ble_eq_true rfl) (row := vZ) rfl ?_; generalize hW : World.setRow _ _ _ = ww; have HS := Lib.hid (setRow_of hW HX.out); clear hW)
  obtain ⟨hd5, -, hz5, hb5⟩ := HS.out
  obtain ⟨z0, z1, z2, z3, z4, z5, z6, z7, z8, z9, za, zb, zc⟩ := row13 hd5
  exact bodyPost_ret (v := .tuple #[.agg (vZ).toArray, .int .i64 3]) (by simp [results, Tryz.results15, go_sem, z0, z1, z2, z3, z4, z5, z6, z7, z8, z9, za, zb, zc]) rfl ⟨rfl, HB.out.trans (hb5 _ (Nat.le_refl _))⟩
theorem Rc_b64big (s : ByteArray) (w : World) (hs : s.size ≤ 100000) (hv : validL (L s) = true) (hc : ctlB (L s) = false) (hw : ¬ wordS (L s)) (hp : 0 < s.size) (hq : s[0].toNat ≠ 34 ∧ s[0].toNat ≠ 39) (h3 : 3 < s.size) (hpb : pre (L s) [33, 98, 32] = true) (hok : okB ((L s).drop 3)) (hbig : 65536 < (bytB ((L s).drop 3)).length) :
    Calls Tryz.prog 15 #[.string s] w fun e w' => e = .returned (.tuple #[.agg (vZ).toArray, .int .i64 10]) ∧ Below w.heap.size w w' := by
  have HC := Lib.hid (fun w' => clean_any s w' (by omega))
  rw [hv, hc] at HC
  obtain ⟨he1, n1, n2, n3, n4⟩ := no_word s hw
  have g1 := beqNB s[0] 39 (by omega)
  have g2 := beqNB s[0] 34 (by omega)
  have hm : s.size ≤ maxLen := by simp only [maxLen]; omega
  have q3 : ((3 : Int) < (s.size : Int)) = True := eq_true (by omega)
  have q6 : (3 : Int) ≤ (s.size : Int) := by omega
  have q4 : ((s.extract 0 3).toList == [33, 98, 32]) = true := by
    rw [toList_L, L_upto]
    exact hpb
  have hL3 : L (s.extract 3 s.size) = (L s).drop 3 := L_from s 3
  have hz3 : (s.extract 3 s.size).size ≤ 100000000 := by
    have := L_len (s.extract 3 s.size)
    rw [hL3, List.length_drop, L_len] at this
    omega
  have HBN := Lib.hid (fun w' => bin_big (s.extract 3 s.size) w' hz3 (by rw [hL3]; exact hok) (by rw [hL3]; exact hbig))
  clear hv hc hw hq h3 hpb hL3 hz3 hok hbig
  go_enter Tryz.func15, Tryz.ntmps15
  go_upto_region 1 with fail
  generalize hW1 : World.alloc w _ = w1
  obtain ⟨ha1, -, hz1, hb1⟩ := alloc_of hW1
  have HX : Hid (w1.heap[w.heap.size]? = some (.cells vZ.toArray 40 (0, 0))) := ha1
  have HB := Lib.hid hb1
  have HZ : Hid (w.heap.size < w1.heap.size) := by unfold Hid; omega
  clear hW1 ha1 hz1 hb1
  go_wp2_with fail
  refine (HC.out _).mono ?_
  rintro e w2 ⟨rfl, hb2⟩
  replace HX := Lib.hid ((hb2.block _ HZ.out).trans HX.out)
  replace HB := Lib.hid (HB.out.trans (hb2.mono HB.out.size))
  replace HZ : Hid (w.heap.size < w2.heap.size) := Nat.lt_of_lt_of_le HZ.out hb2.size
  clear hb2
  clear HC
  go_wp2_with fail
  refine (HBN.out _).mono ?_
  rintro e w3 ⟨rfl, hb3⟩
  replace HX := Lib.hid ((hb3.block _ HZ.out).trans HX.out)
  replace HB := Lib.hid (HB.out.trans (hb3.mono HB.out.size))
  replace HZ : Hid (w.heap.size < w3.heap.size) := Nat.lt_of_lt_of_le HZ.out hb3.size
  clear hb3
  clear HBN
  go_wp2_with (refine wpl_store rfl rfl stVl.2 rfl rfl (cs := vZ) rfl rfl (one13 rfl) HX.out (Nat.le_of_ble_eq_true rfl) (row := vZ) rfl ?_; generalize hW : World.setRow _ _ _ = ww; have HS := Lib.hid (setRow_of hW HX.out); clear hW)
  obtain ⟨hd5, -, hz5, hb5⟩ := HS.out
  obtain ⟨z0, z1, z2, z3, z4, z5, z6, z7, z8, z9, za, zb, zc⟩ := row13 hd5
  exact bodyPost_ret (v := .tuple #[.agg (vZ).toArray, .int .i64 10]) (by simp [results, Tryz.results15, go_sem, z0, z1, z2, z3, z4, z5, z6, z7, z8, z9, za, zb, zc]) rfl ⟨rfl, HB.out.trans (hb5 _ (Nat.le_refl _))⟩
theorem Rc_b64 (s : ByteArray) (w : World) (hs : s.size ≤ 100000) (hv : validL (L s) = true) (hc : ctlB (L s) = false) (hw : ¬ wordS (L s)) (hp : 0 < s.size) (hq : s[0].toNat ≠ 34 ∧ s[0].toNat ≠ 39) (h3 : 3 < s.size) (hpb : pre (L s) [33, 98, 32] = true) (hok : okB ((L s).drop 3)) (hbig : ¬ 65536 < (bytB ((L s).drop 3)).length) :
    Calls Tryz.prog 15 #[.string s] w fun e w' => (∃ v, e = .returned (.tuple #[.agg (vY v).toArray, .int .i64 0]) ∧ RdB w' v (bytB ((L s).drop 3))) ∧ Below w.heap.size w w' := by
  have HC := Lib.hid (fun w' => clean_any s w' (by omega))
  rw [hv, hc] at HC
  obtain ⟨he1, n1, n2, n3, n4⟩ := no_word s hw
  have g1 := beqNB s[0] 39 (by omega)
  have g2 := beqNB s[0] 34 (by omega)
  have hm : s.size ≤ maxLen := by simp only [maxLen]; omega
  have q3 : ((3 : Int) < (s.size : Int)) = True := eq_true (by omega)
  have q6 : (3 : Int) ≤ (s.size : Int) := by omega
  have q4 : ((s.extract 0 3).toList == [33, 98, 32]) = true := by
    rw [toList_L, L_upto]
    exact hpb
  have hL3 : L (s.extract 3 s.size) = (L s).drop 3 := L_from s 3
  have hz3 : (s.extract 3 s.size).size ≤ 100000000 := by
    have := L_len (s.extract 3 s.size)
    rw [hL3, List.length_drop, L_len] at this
    omega
  have HBN := Lib.hid (fun w' => bin_ok (s.extract 3 s.size) w' hz3 (by rw [hL3]; exact hok) (by rw [hL3]; exact hbig))
  rw [hL3] at HBN
  obtain ⟨bs, hbs⟩ : ∃ bs, bytB ((L s).drop 3) = bs := ⟨_, rfl⟩
  rw [hbs] at HBN ⊢
  clear hv hc hw hq h3 hpb hL3 hz3 hok hbig hbs
  go_enter Tryz.func15, Tryz.ntmps15
  go_upto_region 1 with fail
  generalize hW1 : World.alloc w _ = w1
  obtain ⟨ha1, -, hz1, hb1⟩ := alloc_of hW1
  have HX : Hid (w1.heap[w.heap.size]? = some (.cells vZ.toArray 40 (0, 0))) := ha1
  have HB := Lib.hid hb1
  have HZ : Hid (w.heap.size < w1.heap.size) := by unfold Hid; omega
  clear hW1 ha1 hz1 hb1
  go_wp2_with fail
  refine (HC.out _).mono ?_
  rintro e w2 ⟨rfl, hb2⟩
  replace HX := Lib.hid ((hb2.block _ HZ.out).trans HX.out)
  replace HB := Lib.hid (HB.out.trans (hb2.mono HB.out.size))
  replace HZ : Hid (w.heap.size < w2.heap.size) := Nat.lt_of_lt_of_le HZ.out hb2.size
  clear hb2
  clear HC
  go_wp2_with fail
  refine (HBN.out _).mono ?_
  rintro e w3 ⟨⟨a, cap, rfl, hrd, hbk⟩, hb3⟩
  have HRD := Lib.hid hrd
  have HBK : Hid (BlkIn (fun b => w.heap.size < b) (.slice a bs.length cap)) := hbk.mono (fun b hb => Nat.lt_trans HZ.out hb)
  replace HX := Lib.hid ((hb3.block _ HZ.out).trans HX.out)
  replace HB := Lib.hid (HB.out.trans (hb3.mono HB.out.size))
  replace HZ : Hid (w.heap.size < w3.heap.size) := Nat.lt_of_lt_of_le HZ.out hb3.size
  clear hb3
  clear HBN hrd hbk
  go_wp2_with (refine wpl_store rfl rfl stVl.2 rfl rfl (cs := vY (.slice a bs.length cap)) rfl rfl (one13 rfl) HX.out (Nat.le_of_ble_eq_true rfl) (row := vY (.slice a bs.length cap)) rfl ?_; generalize hW : World.setRow _ _ _ = ww; have HS := Lib.hid (setRow_of hW HX.out); clear hW)
  obtain ⟨hd5, ho5, hz5, hb5⟩ := HS.out
  obtain ⟨z0, z1, z2, z3, z4, z5, z6, z7, z8, z9, za, zb, zc⟩ := row13 hd5
  exact bodyPost_ret (v := .tuple #[.agg (vY (.slice a bs.length cap)).toArray, .int .i64 0]) (by simp [results, Tryz.results15, go_sem, z0, z1, z2, z3, z4, z5, z6, z7, z8, z9, za, zb, zc]) rfl ⟨⟨_, rfl, rdb_other HRD.out HBK.out (Nat.lt_irrefl _) ho5 hz5⟩, HB.out.trans (hb5 _ (Nat.le_refl _))⟩
end Go.Proofs.YtgddhkanfcpipaaGreatDoor

namespace Go.Proofs.YtgddhkanfcpipaaGreatDoor
open Go.RowKit
set_option maxHeartbeats 1000000
set_option maxRecDepth 100000

/-! Bounds. -/
def DecOk (r : DecR) : Prop := (r.err = 0 ∨ r.err = 2 ∨ r.err = 3) ∧ (r.err = 0 → r.ds.length ≤ 120 ∧ -400 ≤ r.e ∧ r.e ≤ 400)
theorem decOk_bad (n : Nat) (h : n = 2 ∨ n = 3) : DecOk (badR n) := ⟨.inr h, fun h0 => by unfold badR at h0; dsimp only at h0; omega⟩
theorem decOk_norm (ng : Bool) (l : List UInt8) (e : Int) : DecOk (normL ng l e) := by
  unfold normL normS
  by_cases h : zl l = []
  · rw [if_pos h]
    exact ⟨.inl rfl, fun _ => ⟨Nat.zero_le _, by unfold badR; dsimp only; omega, by unfold badR; dsimp only; omega⟩⟩
  rw [if_neg h]
  by_cases h2 : 400 < e + tz (zl l) ∨ e + tz (zl l) < -400 ∨ 120 < (zl l).length - tz (zl l)
  · rw [if_pos h2]
    exact decOk_bad 2 (.inl rfl)
  · rw [if_neg h2]
    refine ⟨.inl rfl, fun _ => ⟨?_, ?_, ?_⟩⟩
    · dsimp only
      rw [List.length_take]
      omega
    · dsimp only
      omega
    · dsimp only
      omega
theorem decOk_exp (num : List UInt8 → Int) (ng : Bool) (all : List UInt8) (e : Int) (l : List UInt8) : DecOk (expoP num ng all e l) := by
  cases l with
  | nil => exact decOk_norm _ _ _
  | cons c t =>
    show DecOk (if c.toNat = 101 ∨ c.toNat = 69 then expT num ng all e t else badR 3)
    by_cases hc : c.toNat = 101 ∨ c.toNat = 69
    · rw [if_pos hc]
      unfold expT
      by_cases h : exsS t = [] ∨ runL (exsS t) ≠ (exsS t).length
      · rw [if_pos h]
        exact decOk_bad 3 (.inr rfl)
      · rw [if_neg h]
        exact decOk_norm _ _ _
    · rw [if_neg hc]
      exact decOk_bad 3 (.inr rfl)
theorem decOk_all (num : List UInt8 → Int) (l : List UInt8) : DecOk (decP num l) := by
  unfold decP intP
  generalize (if pre l [45] then l.drop 1 else l) = m
  by_cases h : runL m = 0 ∨ (1 < runL m ∧ zero0 m)
  · rw [if_pos h]
    exact decOk_bad 3 (.inr rfl)
  · rw [if_neg h]
    unfold fracP
    by_cases hp : pre (m.drop (runL m)) [46] = true
    · rw [if_pos hp]
      by_cases h2 : runL ((m.drop (runL m)).drop 1) = 0
      · rw [if_pos h2]
        exact decOk_bad 3 (.inr rfl)
      · rw [if_neg h2]
        exact decOk_exp _ _ _ _ _
    · rw [if_neg hp]
      exact decOk_exp _ _ _ _ _
theorem valL_top : ∀ (l : List UInt8) (a : Nat), valL a l + 23 ≤ (a + 23) * 10 ^ l.length
  | [], a => by
    show a + 23 ≤ (a + 23) * 10 ^ 0
    rw [Nat.pow_zero, Nat.mul_one]
    exact Nat.le_refl _
  | b :: t, a => by
    have h := valL_top t (10 * a + (b.toNat - 48))
    have hb := b.toNat_lt
    show valL (10 * a + (b.toNat - 48)) t + 23 ≤ _
    rw [List.length_cons, Nat.pow_succ]
    refine Nat.le_trans h ?_
    rw [Nat.mul_comm (10 ^ t.length) 10, ← Nat.mul_assoc]
    exact Nat.mul_le_mul_right _ (by omega)
theorem valL_two (l : List UInt8) : valL 0 (l.take 2) ≤ 2300 := by
  have h := valL_top (l.take 2) 0
  have h2 : (l.take 2).length ≤ 2 := by rw [List.length_take]; omega
  have h3 : 10 ^ (l.take 2).length ≤ 10 ^ 2 := Nat.pow_le_pow_right (by decide) h2
  have h4 : (0 + 23) * 10 ^ (l.take 2).length ≤ 23 * 100 := by rw [Nat.zero_add]; exact Nat.mul_le_mul_left 23 h3
  omega
theorem valL_four (l : List UInt8) : valL 0 (l.take 4) ≤ 230000 := by
  have h := valL_top (l.take 4) 0
  have h2 : (l.take 4).length ≤ 4 := by rw [List.length_take]; omega
  have h3 : 10 ^ (l.take 4).length ≤ 10 ^ 4 := Nat.pow_le_pow_right (by decide) h2
  have h4 : (0 + 23) * 10 ^ (l.take 4).length ≤ 23 * 10000 := by rw [Nat.zero_add]; exact Nat.mul_le_mul_left 23 h3
  omega
theorem valL_nine (l : List UInt8) : valL 0 (l.take 9) ≤ 23000000000 := by
  have h := valL_top (l.take 9) 0
  have h2 : (l.take 9).length ≤ 9 := by rw [List.length_take]; omega
  have h3 : 10 ^ (l.take 9).length ≤ 10 ^ 9 := Nat.pow_le_pow_right (by decide) h2
  have h4 : (0 + 23) * 10 ^ (l.take 9).length ≤ 23 * 1000000000 := by rw [Nat.zero_add]; exact Nat.mul_le_mul_left 23 h3
  omega
theorem hmsN_top (l : List UInt8) : hmsN l ≤ 8500000000000000 := by
  have h1 := valL_two l
  have h2 := valL_two (l.drop 3)
  have h3 := valL_two (l.drop 6)
  unfold hmsN
  generalize valL 0 (l.take 2) = a at *
  generalize valL 0 ((l.drop 3).take 2) = b at *
  generalize valL 0 ((l.drop 6).take 2) = c at *
  omega
theorem tcR_top (l : List UInt8) : (tcR l).1 ≤ 9000000000000000 := by
  have h1 := hmsN_top l
  unfold tcR
  by_cases h2 : likeB l (L hmsF) = false
  · rw [if_pos h2]
    exact Nat.zero_le _
  rw [if_neg h2]
  by_cases h3 : (l.drop 8).head? = some 46
  · rw [if_pos h3]
    by_cases h4 : runL (l.drop 9) < 1 ∨ 9 < runL (l.drop 9)
    · rw [if_pos h4]
      exact Nat.zero_le _
    · rw [if_neg h4]
      have h5 := valL_nine ((l.drop 9).take (runL (l.drop 9)) ++ zer9)
      dsimp only
      omega
  · rw [if_neg h3]
    dsimp only
    omega
theorem toR_top (l : List UInt8) : -200000 ≤ (toR l).1 ∧ (toR l).1 ≤ 200000 := by
  have h1 := valL_two (l.drop 1)
  have h2 := valL_two (l.drop 4)
  unfold toR
  generalize valL 0 ((l.drop 1).take 2) = a at *
  generalize valL 0 ((l.drop 4).take 2) = b at *
  repeat' split
  all_goals (dsimp only; omega)
theorem monC_top (y m : Nat) : monC y m ≤ 31 := by
  unfold monC
  repeat' split
  all_goals omega
theorem sumM_top (y : Nat) : ∀ n, sumM y n ≤ 31 * n
  | 0 => Nat.le_refl _
  | n + 1 => by
    have h := sumM_top y n
    have h2 := monC_top y (n + 1)
    rw [sumM]
    omega
theorem dayC_top (y m d : Nat) (hy : y ≤ 230000) (hm : m ≤ 2300) : (dayC y m d).1 ≤ 1000000000 ∧ ((dayC y m d).2 = 0 ∨ (dayC y m d).2 = 2) := by
  have h1 := sumM_top y (m - 1)
  have h2 := monC_top y m
  unfold dayC
  by_cases h : d < 1 ∨ monC y m < d
  · rw [if_pos h]
    exact ⟨Nat.zero_le _, .inr rfl⟩
  · rw [if_neg h]
    refine ⟨?_, .inl rfl⟩
    dsimp only
    unfold startC
    omega
/-- What a time reads as. -/
def TmOk (x : List Value × Nat) : Prop := (∃ a b c d : Int, x.1 = tmV a b c d ∧ I64 a ∧ I64 b ∧ I64 c ∧ I64 d) ∧ (x.2 = 0 ∨ x.2 = 2 ∨ x.2 = 3)
theorem tmOk_bad (n : Nat) (h : n = 2 ∨ n = 3) : TmOk (tmZ, n) := ⟨⟨0, 0, 0, 0, rfl, by unfold I64; omega, by unfold I64; omega, by unfold I64; omega, by unfold I64; omega⟩, .inr h⟩
theorem tmOk_of (k b c d : Int) (hk : 0 ≤ k ∧ k ≤ 4) (hb : 0 ≤ b ∧ b ≤ 1000000000) (hc : 0 ≤ c ∧ c ≤ 9000000000000000) (hd : -200000 ≤ d ∧ d ≤ 200000) : TmOk (tmV k b c d, 0) :=
  ⟨⟨k, b, c, d, rfl, by unfold I64; omega, by unfold I64; omega, by unfold I64; omega, by unfold I64; omega⟩, .inl rfl⟩
theorem after_ok (d : Nat × Nat) (c : Nat × List UInt8 × Bool × Bool) (hd : d.1 ≤ 1000000000) (hc : c.1 ≤ 9000000000000000) : TmOk (afterR d c) := by
  unfold afterR
  by_cases h1 : c.2.2.1 = false
  · rw [if_pos h1]
    exact tmOk_bad 3 (.inr rfl)
  rw [if_neg h1]
  by_cases h2 : c.2.1 = []
  · rw [if_pos h2]
    by_cases h3 : d.2 ≠ 0 ∨ c.2.2.2 = false
    · rw [if_pos h3]
      exact tmOk_bad 2 (.inl rfl)
    · rw [if_neg h3]
      exact tmOk_of 3 _ _ 0 (by omega) (by omega) (by omega) (by omega)
  rw [if_neg h2]
  by_cases h3 : (toR c.2.1).2.1 = false
  · rw [if_pos h3]
    exact tmOk_bad 3 (.inr rfl)
  rw [if_neg h3]
  by_cases h4 : d.2 ≠ 0 ∨ (c.2.2.2 && (toR c.2.1).2.2) = false
  · rw [if_pos h4]
    exact tmOk_bad 2 (.inl rfl)
  · rw [if_neg h4]
    exact tmOk_of 4 _ _ _ (by omega) (by omega) (by omega) (toR_top _)
theorem rp_ok (l : List UInt8) : TmOk (rpR l) := by
  unfold rpR
  by_cases h1 : likeB l (L datF) = false
  · rw [if_pos h1]
    have hc := tcR_top l
    generalize tcR l = c at *
    unfold clockR
    by_cases h2 : c.2.2.1 = false ∨ c.2.1 ≠ []
    · rw [if_pos h2]
      exact tmOk_bad 3 (.inr rfl)
    rw [if_neg h2]
    by_cases h3 : c.2.2.2 = false
    · rw [if_pos h3]
      exact tmOk_bad 2 (.inl rfl)
    · rw [if_neg h3]
      exact tmOk_of 2 0 _ 0 (by omega) (by omega) (by omega) (by omega)
  · rw [if_neg h1]
    have hd := dayC_top _ _ (valL 0 ((l.drop 8).take 2)) (valL_four l) (valL_two (l.drop 5))
    generalize dayC (valL 0 (l.take 4)) (valL 0 ((l.drop 5).take 2)) (valL 0 ((l.drop 8).take 2)) = d at *
    obtain ⟨hd1, hd2⟩ := hd
    cases hx : l.drop 10 with
    | nil =>
      unfold datedR
      dsimp only
      by_cases h2 : d.2 ≠ 0
      · rw [if_pos h2]
        exact tmOk_bad _ (.inl (by omega))
      · rw [if_neg h2]
        exact tmOk_of 1 _ 0 0 (by omega) (by omega) (by omega) (by omega)
    | cons b t =>
      unfold datedR
      dsimp only
      by_cases h2 : b.toNat = 84 ∨ b.toNat = 116 ∨ b.toNat = 32
      · rw [if_pos h2]
        exact after_ok _ _ hd1 (tcR_top t)
      · rw [if_neg h2]
        exact tmOk_bad 3 (.inr rfl)
end Go.Proofs.YtgddhkanfcpipaaGreatDoor

namespace Go.Proofs.YtgddhkanfcpipaaGreatDoor
open Go.RowKit
set_option maxHeartbeats 1000000
set_option maxRecDepth 100000

def ScPost (w : World) (h : Hd) (n : Nat) (e : Ending) (w' : World) : Prop := (∃ b, e = .returned (.tuple #[aggV ⟨h, b, .slice none 0 0, .slice none 0 0⟩, .int .i64 (n : Int)]) ∧ RdB w' b h.bytes) ∧ Below w.heap.size w w'
def hZ : Hd := ⟨0, false, false, ⟨#[]⟩, 0, 0, 0, 0, 0, ⟨#[]⟩, []⟩
theorem hok {k e a b c d : Int} {bl n : Bool} {ds t : ByteArray} {bs : List UInt8} (h0 : I64 k) (h1 : I64 e) (h2 : I64 a) (h3 : I64 b) (h4 : I64 c) (h5 : I64 d) (h6 : ds.size ≤ 1000000000) (h7 : t.size ≤ 1000000000) (h8 : bs.length ≤ 1000000000) : HdOk ⟨k, bl, n, ds, e, a, b, c, d, t, bs⟩ :=
  ⟨h0, h1, h2, h3, h4, h5, h6, h7, h8⟩
theorem i64z : I64 0 := by unfold I64; omega
theorem i64k (n : Nat) (h : n ≤ 1000000) : I64 (n : Int) := by unfold I64; omega
theorem hZok : HdOk hZ := hok i64z i64z i64z i64z i64z i64z (by decide) (by decide) (by decide)
theorem sc_of {P : Program} {f : FuncId} {av : Array Value} {w : World} {h : Hd} {n : Nat} {cs : List Value} (hc : Calls P f av w fun e w' => e = .returned (.tuple #[.agg cs.toArray, .int .i64 (n : Int)]) ∧ Below w.heap.size w w') (hb : h.bytes = []) (hcs : cs = VC.cells ⟨h, .slice none 0 0, .slice none 0 0, .slice none 0 0⟩) : Calls P f av w (ScPost w h n) := by
  refine hc.mono ?_
  rintro e w' ⟨rfl, hbw⟩
  subst hcs
  refine ⟨⟨.slice none 0 0, rfl, ?_⟩, hbw⟩
  rw [hb]
  exact Sl.nil
theorem head_of (s : ByteArray) (hp : 0 < s.size) : L s = s[0] :: (L s).drop 1 := by
  have := L_drop s 0 hp
  rwa [List.drop_zero] at this
theorem SBoth (s : ByteArray) (hs : s.size ≤ 100000) : ∃ (h : Hd) (n : Nat), HdOk h ∧ (∀ w, EnvI w → Calls Tryz.prog 14 #[.string s] w (ScPost w h n)) ∧ (∀ w, Calls Tryz.prog 15 #[.string s] w (ScPost w h n)) := by
  by_cases hv : validL (L s) = true
  case neg =>
    have hv' : validL (L s) = false := by simpa using hv
    exact ⟨hZ, 5, hZok, fun w _ => sc_of (Sc_inv s w hs hv') rfl rfl, fun w => sc_of (Rc_inv s w hs (by rw [hv', Bool.and_false])) rfl rfl⟩
  by_cases hc : ctlB (L s) = true
  · exact ⟨hZ, 5, hZok, fun w _ => sc_of (Sc_ctl s w hs hv hc) rfl rfl, fun w => sc_of (Rc_inv s w hs (by rw [hc]; rfl)) rfl rfl⟩
  replace hc : ctlB (L s) = false := by simpa using hc
  by_cases hw : wordS (L s)
  · rcases hw with h | h | h | h | h
    · obtain rfl : s = ⟨#[]⟩ := L_inj h
      exact ⟨hZ, 0, hZok, fun w _ => sc_of (Sc_nil w) rfl rfl, fun w => sc_of (Rc_nil w) rfl rfl⟩
    · obtain rfl : s = ⟨#[110, 117, 108, 108]⟩ := L_inj h
      exact ⟨hZ, 0, hZok, fun w _ => sc_of (Sc_null w) rfl rfl, fun w => sc_of (Rc_null w) rfl rfl⟩
    · obtain rfl : s = ⟨#[116, 114, 117, 101]⟩ := L_inj h
      exact ⟨{ hZ with kind := 1, bool := true }, 0, hok (i64k 1 (by decide)) i64z i64z i64z i64z i64z (by decide) (by decide) (by decide), fun w _ => sc_of (Sc_true w) rfl rfl, fun w => sc_of (Rc_true w) rfl rfl⟩
    · obtain rfl : s = ⟨#[102, 97, 108, 115, 101]⟩ := L_inj h
      exact ⟨{ hZ with kind := 1, bool := false }, 0, hok (i64k 1 (by decide)) i64z i64z i64z i64z i64z (by decide) (by decide) (by decide), fun w _ => sc_of (Sc_false w) rfl rfl, fun w => sc_of (Rc_false w) rfl rfl⟩
    · obtain rfl : s = ⟨#[33, 98]⟩ := L_inj h
      exact ⟨{ hZ with kind := 5 }, 0, hok (i64k 5 (by decide)) i64z i64z i64z i64z i64z (by decide) (by decide) (by decide), fun w _ => sc_of (Sc_b w) rfl rfl, fun w => sc_of (Rc_b w) rfl rfl⟩
  have hp : 0 < s.size := size_pos (fun h => hw (.inl h))
  have hd0 := head_of s hp
  have htx : ∀ t : ByteArray, t.size ≤ 1000000000 → ∃ (h : Hd) (n : Nat), HdOk h ∧ h.bytes = [] ∧ (txtR t).1 = VC.cells ⟨h, .slice none 0 0, .slice none 0 0, .slice none 0 0⟩ ∧ (txtR t).2 = n := by
    intro t ht
    by_cases hb : 65536 < t.size
    · exact ⟨hZ, 10, hZok, rfl, by unfold txtR; rw [if_pos hb]; rfl, by unfold txtR; rw [if_pos hb]⟩
    · exact ⟨{ hZ with kind := 4, text := t }, 0, hok (i64k 4 (by decide)) i64z i64z i64z i64z i64z (by decide) ht (by decide), rfl, by unfold txtR; rw [if_neg hb]; rfl, by unfold txtR; rw [if_neg hb]⟩
  by_cases hq : s[0].toNat = 34 ∨ s[0].toNat = 39
  · have hn : (decP numP (L s)).err = 3 := by
      rw [dec_err, hd0]
      refine num_head _ _ ?_ (by omega)
      unfold dig
      exact decide_eq_false (by omega)
    have ht : timB s = false := by
      rw [← tim_form, hd0]
      refine rp_head _ _ ?_
      unfold dig
      exact decide_eq_false (by omega)
    by_cases h0 : (unqR (L s)).2 = 0
    · have hu : unqR (L s) = ((unqR (L s)).1, 0) := by rw [← h0]
      have hlen := unqR_len (L s)
      rw [L_len] at hlen
      obtain ⟨h, n, h1, h2, h3, h4⟩ := htx ⟨(unqR (L s)).1.toArray⟩ (by have := L_len ⟨(unqR (L s)).1.toArray⟩; rw [L_mk] at this; omega)
      refine ⟨h, n, h1, fun w _ => ?_, fun w => ?_⟩
      · have := Sc_quo s w hs hv hc hw hn ht hp hq _ hu
        rw [h4] at this
        exact sc_of this h2 h3
      · have := Rc_quo s w hs hv hc hw hp hq _ hu
        rw [h4] at this
        exact sc_of this h2 h3
    by_cases h5 : (unqR (L s)).2 = 5
    · exact ⟨hZ, 5, hZok, fun w _ => sc_of (Sc_quoT s w hs hv hc hw hn ht hp hq h5) rfl rfl, fun w => sc_of (Rc_quoT s w hs hv hc hw hp hq h5) rfl rfl⟩
    · exact ⟨hZ, 3, hZok, fun w _ => sc_of (Sc_quoS s w hs hv hc hw hn ht hp hq h5 h0) rfl rfl, fun w => sc_of (Rc_quoS s w hs hv hc hw hp hq h5 h0) rfl rfl⟩
  have hq' : s[0].toNat ≠ 34 ∧ s[0].toNat ≠ 39 := ⟨fun h => hq (.inl h), fun h => hq (.inr h)⟩
  by_cases hpb : pre (L s) [33, 98, 32] = true
  · have h33 : s[0].toNat = 33 := by
      unfold pre at hpb
      have h := eq_of_beq hpb
      rw [hd0] at h
      injection h with h _
      rw [h]
      rfl
    have hn : (decP numP (L s)).err = 3 := by
      rw [dec_err, hd0]
      refine num_head _ _ ?_ (by omega)
      unfold dig
      exact decide_eq_false (by omega)
    have ht : timB s = false := by
      rw [← tim_form, hd0]
      refine rp_head _ _ ?_
      unfold dig
      exact decide_eq_false (by omega)
    by_cases h3 : 3 < s.size
    · by_cases hok' : okB ((L s).drop 3)
      · have hne : bytB ((L s).drop 3) ≠ [] := by
          intro h
          have he := (enc_iff _).2 hok'
          rw [h] at he
          have hz := congrArg List.length he
          rw [List.length_drop, L_len] at hz
          have h00 : (encP []).length = 0 := rfl
          omega
        by_cases hbig : 65536 < (bytB ((L s).drop 3)).length
        · exact ⟨hZ, 10, hZok, fun w _ => sc_of (Sc_b64big s w hs hv hc hw hn ht hp hq' hpb hok' hne hbig) rfl rfl, fun w => sc_of (Rc_b64big s w hs hv hc hw hp hq' h3 hpb hok' hbig) rfl rfl⟩
        · refine ⟨{ hZ with kind := 5, bytes := bytB ((L s).drop 3) }, 0, hok (i64k 5 (by decide)) i64z i64z i64z i64z i64z (by decide) (by decide) (by omega), fun w _ => ?_, fun w => ?_⟩
          · refine (Sc_b64 s w hs hv hc hw hn ht hp hq' hpb hok' hne hbig).mono ?_
            rintro e w' ⟨⟨v, rfl, hrd⟩, hb⟩
            exact ⟨⟨v, rfl, hrd⟩, hb⟩
          · refine (Rc_b64 s w hs hv hc hw hp hq' h3 hpb hok' hbig).mono ?_
            rintro e w' ⟨⟨v, rfl, hrd⟩, hb⟩
            exact ⟨⟨v, rfl, hrd⟩, hb⟩
      · exact ⟨hZ, 3, hZok, fun w _ => sc_of (Sc_b64no s w hs hv hc hw hn ht hp hq' hpb hok') rfl rfl, fun w => sc_of (Rc_b64no s w hs hv hc hw hp hq' h3 hpb hok') rfl rfl⟩
    · have hd3 : (L s).drop 3 = [] := L_drop_nil s 3 (by omega)
      have hb0 : bytB ((L s).drop 3) = [] := by rw [hd3]; rfl
      have hk0 : okB ((L s).drop 3) := by rw [hd3]; exact ⟨by decide, rfl, rfl⟩
      have hpl : plainB (L s) = false := by
        rw [plainB_eq s hp (by omega)]
        have : firstX.contains s[0] = true := by
          rw [UInt8.toNat_inj.1 (show s[0].toNat = (33 : UInt8).toNat from h33)]
          rfl
        rw [this]
        simp
      have hnum : numB (L s) = false := (dec_err _ _).1 hn
      exact ⟨hZ, 3, hZok, fun w _ => sc_of (Sc_b64nil s w hs hv hc hw hn ht hp hq' hpb hk0 hb0) rfl rfl, fun w => sc_of (Rc_bad s w hs hv hc hw hp hq' (fun h => h3 h.1) hnum ht hpl) rfl rfl⟩
  have hpb' : pre (L s) [33, 98, 32] = false := by simpa using hpb
  have hnb : ¬ (3 < s.size ∧ pre (L s) [33, 98, 32] = true) := fun h => hpb h.2
  have hsame := dec_same (L s) (by rw [L_len]; exact hs)
  by_cases hn : numB (L s) = true
  · have hok' := decOk_all numP (L s)
    have h3 : (decP numP (L s)).err ≠ 3 := by
      intro h
      rw [dec_err] at h
      rw [h] at hn
      cases hn
    by_cases h0 : (decP numP (L s)).err = 0
    · obtain ⟨h4, h5, h6⟩ := hok'.2 h0
      have hdl : (⟨(decP numP (L s)).ds.toArray⟩ : ByteArray).size ≤ 1000000000 := by
        have := L_len ⟨(decP numP (L s)).ds.toArray⟩
        rw [L_mk] at this
        omega
      exact ⟨{ hZ with kind := 2, neg := (decP numP (L s)).neg, ds := ⟨(decP numP (L s)).ds.toArray⟩, exp := (decP numP (L s)).e }, 0, hok (i64k 2 (by decide)) (by unfold I64; omega) i64z i64z i64z i64z hdl (by decide) (by decide), fun w _ => sc_of (Sc_num s w hs hv hc hw _ rfl h0) rfl rfl, fun w => sc_of (Rc_num s w hs hv hc hw hp hq' hnb hn _ hsame.symm h0) rfl rfl⟩
    · have h2 : (decP numP (L s)).err = 2 := by rcases hok'.1 with h | h | h <;> omega
      refine ⟨hZ, 2, hZok, fun w _ => ?_, fun w => sc_of (Rc_numE s w hs hv hc hw hp hq' hnb hn (by rw [← hsame]; exact h0)) rfl rfl⟩
      have := Sc_numE s w hs hv hc hw _ rfl h3 h0
      rw [h2] at this
      exact sc_of this rfl rfl
  have hn' : numB (L s) = false := by simpa using hn
  have hd3 := (dec_err numP _).2 hn'
  by_cases ht : timB s = true
  · have h3 : (rpR (L s)).2 ≠ 3 := by
      intro h
      rw [tim_form] at h
      rw [h] at ht
      cases ht
    obtain ⟨⟨a, b, c, d, hr, ha, hb, hcc, hdd⟩, he⟩ := rp_ok (L s)
    by_cases h0 : (rpR (L s)).2 = 0
    · have hr' : rpR (L s) = (tmV a b c d, 0) := by rw [← hr, ← h0]
      exact ⟨{ hZ with kind := 3, tk := a, day := b, nano := c, off := d }, 0, hok (i64k 3 (by decide)) i64z ha hb hcc hdd (by decide) (by decide) (by decide), fun w _ => sc_of (Sc_tim s w hs hv hc hw hd3 a b c d hr') rfl rfl, fun w => sc_of (Rc_tim s w hs hv hc hw hp hq' hnb hn' ht a b c d hr') rfl rfl⟩
    · have h2 : (rpR (L s)).2 = 2 := by rcases he with h | h | h <;> omega
      refine ⟨hZ, 2, hZok, fun w _ => ?_, fun w => sc_of (Rc_timE s w hs hv hc hw hp hq' hnb hn' ht h0) rfl rfl⟩
      have := Sc_timE s w hs hv hc hw hd3 h3 h0
      rw [h2] at this
      exact sc_of this rfl rfl
  have ht' : timB s = false := by simpa using ht
  by_cases hl : plainB (L s) = true
  · obtain ⟨h, n, h1, h2, h3, h4⟩ := htx s (by omega)
    refine ⟨h, n, h1, fun w hE => ?_, fun w => ?_⟩
    · have := Sc_plain s w hs hv hc hw hd3 ht' hp hq' hpb' hE hl
      rw [h4] at this
      exact sc_of this h2 h3
    · have := Rc_plain s w hs hv hc hw hp hq' hnb hn' ht' hl
      rw [h4] at this
      exact sc_of this h2 h3
  · have hl' : plainB (L s) = false := by simpa using hl
    exact ⟨hZ, 3, hZok, fun w hE => sc_of (Sc_bad s w hs hv hc hw hd3 ht' hp hq' hpb' hE hl') rfl rfl, fun w => sc_of (Rc_bad s w hs hv hc hw hp hq' hnb hn' ht' hl') rfl rfl⟩
end Go.Proofs.YtgddhkanfcpipaaGreatDoor

namespace Go.Proofs.YtgddhkanfcpipaaGreatDoor
open Go.RowKit
set_option maxHeartbeats 4000000
set_option maxRecDepth 100000

theorem flat_rd {w : World} {h : Hd} {b : Value} (ok : HdOk h) (hb : RdB w b h.bytes) : RdV w ⟨h, b, .slice none 0 0, .slice none 0 0⟩ (.mk h [] []) :=
  .mk h [] [] b (.slice none 0 0) (.slice none 0 0) (fun _ => ⟨h, b, b, b⟩) (fun _ => ⟨h, b, b, b⟩) ok hb Sl.nil (fun _ hi => absurd hi (Nat.not_lt_zero _)) Sl.nil (fun _ hi => absurd hi (Nat.not_lt_zero _)) (fun _ hi => absurd hi (Nat.not_lt_zero _)) (fun _ _ _ _ _ _ _ => trivial) (fun _ _ _ _ _ _ _ => trivial) (fun _ _ _ _ _ _ _ => trivial)
theorem ScalarsI_any (s : ByteArray) (w : World) (hE : EnvI w) :
    Calls Tryz.prog 4 #[.string s] w fun e w' => e = .returned (.bool true) ∧ Below w.heap.size w w' := by
  have HE := Lib.hid hE
  clear hE
  by_cases hs : 2000 < s.size
  · have h1 : (2000 : Int) < s.size := by omega
    go_enter Tryz.func4, Tryz.ntmps4
    go_wp2_with (go_at_call 11; refine (awake21_any _ HE.out).mono ?_; rintro e w1 ⟨rfl, hb1⟩)
    go_ret
    exact ⟨rfl, hb1⟩
  have h1 : ¬ (2000 : Int) < s.size := by omega
  obtain ⟨h, n, hok, hp, hr⟩ := SBoth s (by omega)
  obtain ⟨k, bl, ng, ds, ex, tk, dy, na, ofs, tx, bs⟩ := h
  have HOK := Lib.hid hok
  have HP : Hid (∀ w', EnvI w' → Calls Tryz.prog 14 #[.string s] w' fun e w2 => (∃ b, e = .returned (.tuple #[.agg #[.int .i64 k, .bool bl, .bool ng, .string ds, .int .i64 ex, .int .i64 tk, .int .i64 dy, .int .i64 na, .int .i64 ofs, .string tx, b, .slice none 0 0, .slice none 0 0], .int .i64 (n : Int)]) ∧ RdB w2 b bs) ∧ Below w'.heap.size w' w2) := hp
  have HR : Hid (∀ w', Calls Tryz.prog 15 #[.string s] w' fun e w2 => (∃ b, e = .returned (.tuple #[.agg #[.int .i64 k, .bool bl, .bool ng, .string ds, .int .i64 ex, .int .i64 tk, .int .i64 dy, .int .i64 na, .int .i64 ofs, .string tx, b, .slice none 0 0, .slice none 0 0], .int .i64 (n : Int)]) ∧ RdB w2 b bs) ∧ Below w'.heap.size w' w2) := hr
  have HSM : Hid (∀ b1 b2 w', RdB w' b1 bs → RdB w' b2 bs → Calls Tryz.prog 16 #[.agg #[.int .i64 k, .bool bl, .bool ng, .string ds, .int .i64 ex, .int .i64 tk, .int .i64 dy, .int .i64 na, .int .i64 ofs, .string tx, b1, .slice none 0 0, .slice none 0 0], .agg #[.int .i64 k, .bool bl, .bool ng, .string ds, .int .i64 ex, .int .i64 tk, .int .i64 dy, .int .i64 na, .int .i64 ofs, .string tx, b2, .slice none 0 0, .slice none 0 0]] w' fun e w2 => e = .returned (.bool true) ∧ Below w'.heap.size w' w2) := by
    intro b1 b2 w' hb1 hb2
    have := RSame_any _ _ _ _ _ w' (Nat.le_refl _) (flat_rd hok hb1) (flat_rd hok hb2)
    rw [(eqV_iff _ _).2 rfl] at this
    exact this
  have q2 : ((n : Int) == (n : Int)) = true := beq_iff_eq.2 rfl
  clear hp hr hok hs HOK
  go_enter Tryz.func4, Tryz.ntmps4
  go_wp2_with fail
  refine (HP.out _ HE.out).mono ?_
  rintro e w1 ⟨⟨b1, rfl, hr1⟩, hb1⟩
  have HB1 := Lib.hid hb1
  have HR1 := Lib.hid hr1
  obtain ⟨a1, cap1, rfl, -⟩ := hr1
  clear hb1 HP
  go_wp2_with fail
  generalize hW2 : World.alloc w1 _ = w2
  obtain ⟨ha2, -, hz2, hb2⟩ := alloc_of hW2
  have HB2 := Lib.hid (HB1.out.trans (hb2.mono HB1.out.size))
  have HR2 := Lib.hid (HR1.out.below hb2)
  have HX1 : Hid (w2.heap[w1.heap.size]? = _) := ha2
  have HZ1 : Hid (w1.heap.size < w2.heap.size) := by unfold Hid; omega
  clear hW2 ha2 hz2 hb2 HR1 HB1
  refine (HR.out _).mono ?_
  rintro e w3 ⟨⟨b3, rfl, hr3⟩, hb3⟩
  have HB3 := Lib.hid (HB2.out.trans (hb3.mono HB2.out.size))
  have HRA3 := Lib.hid (HR2.out.below hb3)
  have HRB3 := Lib.hid hr3
  obtain ⟨a3, cap3, rfl, -⟩ := hr3
  have HX3 := Lib.hid ((hb3.block _ HZ1.out).trans HX1.out)
  have HZ3 : Hid (w1.heap.size < w3.heap.size) := Nat.lt_of_lt_of_le HZ1.out hb3.size
  clear hb3 HR HX1 HZ1 HR2 HB2
  go_upto_region 5 with fail
  generalize hW4 : World.alloc w3 _ = w4
  obtain ⟨ha4, -, hz4, hb4⟩ := alloc_of hW4
  have HB4 := Lib.hid (HB3.out.trans (hb4.mono HB3.out.size))
  have HRA4 := Lib.hid (HRA3.out.below hb4)
  have HRB4 := Lib.hid (HRB3.out.below hb4)
  have hx4 := (hb4.block _ HZ3.out).trans HX3.out
  obtain ⟨x0, x1, x2, x3, x4, x5, x6, x7, x8, x9, xa, xb, xc⟩ := row13 hx4
  obtain ⟨y0, y1, y2, y3, y4, y5, y6, y7, y8, y9, ya, yb, yc⟩ := row13 ha4
  clear hW4 ha4 hz4 hb4 hx4 HB3 HRA3 HRB3 HX3 HZ3
  go_wp2_with fail
  refine (HSM.out _ _ _ HRA4.out HRB4.out).mono ?_
  rintro e w5 ⟨rfl, hb5⟩
  have HB5 := Lib.hid (HB4.out.trans (hb5.mono HB4.out.size))
  clear hb5 HSM HRA4 HRB4 HB4 x0 x1 x2 x3 x4 x5 x6 x7 x8 x9 xa xb xc y0 y1 y2 y3 y4 y5 y6 y7 y8 y9 ya yb yc
  go_wp2_with (go_at_call 11; refine (awake21_any _ (HE.out.below HB5.out)).mono ?_; rintro e w6 ⟨rfl, hb6⟩)
  go_ret
  exact ⟨rfl, HB5.out.trans (hb6.mono HB5.out.size)⟩
end Go.Proofs.YtgddhkanfcpipaaGreatDoor
