/- indentlex.Show, datakitref21.Show walked by kinds (printed by gen_sh.py). Conditions: valid scalars. -/
import Derived.Test.YtlnpfpjncnkekaaGreatDoorZs32
import Derived.Test.YtlnpfpjncnkekaaGreatDoorZs24
import Derived.Test.YtlnpfpjncnkekaaGreatDoorShelf
import Derived.Test.YtlnpfpjncnkekaaGreatDoorZs30
import Derived.Test.YtlnpfpjncnkekaaGreatDoorZs31
import Derived.Test.YtlnpfpjncnkekaaGreatDoorZs17
namespace Go.Proofs.YtlnpfpjncnkekaaGreatDoor
open Go.RowKit
set_option maxHeartbeats 4000000
set_option maxRecDepth 100000

theorem repeat_nil : ∀ k : Nat, Lib.repeatL [48] k = List.replicate k 48
  | 0 => rfl
  | k + 1 => by rw [Lib.repeatL, repeat_nil k, List.replicate_succ]; rfl
theorem rep_any (k : Nat) (w : World) (hk : k ≤ 1000) :
    Calls Tryz.prog 45 #[.string ⟨#[48]⟩, .int .i64 (k : Int)] w (StrP (List.replicate k 48) w) := by
  match k, hk with
  | 0, _ =>
    refine (Tryz.strings_Repeat_zero ⟨#[48]⟩ w).mono ?_
    rintro e w' ⟨rfl, rfl⟩
    exact ⟨⟨_, rfl, rfl⟩, Below.refl _ _⟩
  | 1, _ =>
    refine (Tryz.strings_Repeat_one ⟨#[48]⟩ w).mono ?_
    rintro e w' ⟨rfl, rfl⟩
    exact ⟨⟨_, rfl, rfl⟩, Below.refl _ _⟩
  | k + 2, hk =>
    refine (Tryz.strings_Repeat_main ⟨#[48]⟩ (k + 2) w (by omega) (by omega) (by show 1 * (k + 2) ≤ _; omega) (by decide)).mono ?_
    rintro e w' ⟨rfl, hb⟩
    exact ⟨⟨_, rfl, repeat_nil (k + 2)⟩, hb⟩
theorem noughts_any (n : Nat) (w : World) (hn : n ≤ 1000) :
    Calls Tryz.prog 54 #[.int .i64 (n : Int)] w (StrP (List.replicate n 48) w) := by
  have hmk := make_u8 n (by omega)
  have HST := Lib.hid (fun w w1 hW => BlkAt.start (w := w) (w1 := w1) n hW)
  go_enter Tryz.func54, Tryz.ntmps54
  go_wp2_with fail
  generalize hW : World.alloc w _ = w1
  have CUR0 := Lib.hid (HST.out _ _ hW)
  have CUR1 : Hid (BlkAt w w1 w.heap.size n (fun j => if j < 0 then 48 else 0)) := by
    obtain ⟨h1, h2, cur, h3, h4, h5⟩ := CUR0.out
    refine ⟨h1, h2, cur, h3, h4, fun j hj => ?_⟩
    rw [h5 j hj, if_neg (by omega)]
  clear hW hmk HST CUR0
  go_loopw [4] (fun iv wr => ∃ c : Nat, c ≤ n ∧ iv = .int .i64 (c : Int) ∧ Hid (BlkAt w wr w.heap.size n (fun j => if j < c then 48 else 0))) (fun iv _ => n - (intOf iv).toNat)
  case atStart => exact ⟨0, Nat.zero_le _, rfl, CUR1.out⟩
  case round =>
    clear CUR1
    obtain ⟨c, hc, rfl, CUR⟩ := hrel
    by_cases hlt : c < n
    case neg =>
      obtain rfl : c = n := by omega
      have hcv := conv_rdb (CUR.out.rdb (cap := c) (List.replicate c 48) List.length_replicate (fun j hj => by rw [List.getElem?_replicate, if_pos hj, if_pos hj]) (Nat.le_refl _) (by simp only [maxLen]; omega) (by omega))
      have HB := Lib.hid CUR.out.below
      have hge : ¬ (c : Int) < (c : Int) := by omega
      clear CUR
      go_wp2_with fail
      go_ret
      exact ⟨⟨_, rfl, rfl⟩, HB.out⟩
    have c1 := CUR.out.cell c hlt
    have f1 := CUR.out.frozen c
    rw [if_neg (by omega)] at c1
    have HG := Lib.hid CUR.out.lt
    have hltI : (c : Int) < (n : Int) := by omega
    go_wp2_with fail
    refine ⟨⟨c + 1, by omega, rfl, CUR.out.set c (fun i hi hne => ?_) ?_ ?_ ?_⟩, by first | (simp [intOf]; done) | (simp [intOf]; omega)⟩
    · by_cases h1 : i < c
      · rw [if_pos h1, if_pos (by omega)]
      · rw [if_neg h1, if_neg (by omega)]
    · exact ((Below.refl _ wr).setCell (p := ⟨w.heap.size, c, none⟩) (Nat.le_refl _) _)
    · have := HG.out; simpa using this
    · intro cur hx
      rw [if_pos (by omega)]
      exact heap_setCell_same wr w.heap.size c _ _ (Value.int .u8 48) hx

/-- The digits of a number, 0 too. -/
def wholeL (n : Nat) : List UInt8 := if n = 0 then [48] else numL n
def numbL (n : Int) : List UInt8 := if n < 0 then 45 :: numL (-n).toNat else wholeL n.toNat
theorem whole_any (n : Nat) (w : World) (hn : n < 1000000000000000) :
    Calls Tryz.prog 46 #[.int .i64 (n : Int)] w (StrP (wholeL n) w) := by
  have HF := Lib.hid (fun w' => dFromInt_any n w' hn)
  go_enter Tryz.func46, Tryz.ntmps46
  by_cases h0 : n = 0
  · subst h0
    go_wp2_with fail
    go_ret
    exact ⟨⟨_, rfl, rfl⟩, Below.refl _ _⟩
  · have hni : ((n : Int) == 0) = false := beq_false_of_ne (by omega)
    have HZ : Hid (wholeL n = numL n) := by unfold Hid wholeL; rw [if_neg h0]
    clear h0
    go_wp2_with fail
    refine (HF.out _).mono ?_
    rintro e w1 ⟨rfl, hb1⟩
    have HB := Lib.hid hb1
    clear hb1 HF
    go_wp2_with fail
    go_ret
    exact ⟨⟨_, rfl, HZ.out.symm⟩, HB.out⟩
theorem numR_any (n : Int) (w : World) (h1 : -100000 ≤ n) (h2 : n ≤ 100000) :
    Calls Tryz.prog 55 #[.int .i64 n] w (StrP (numbL n) w) := by
  have HF := Lib.hid (fun (m : Nat) w' (hm : m < 1000000000000000) => FromInt1_any m w' hm)
  go_enter Tryz.func55, Tryz.ntmps55
  by_cases hl : n < 0
  · obtain ⟨m, rfl⟩ : ∃ m : Nat, n = -(m : Int) := ⟨(-n).toNat, by omega⟩
    have hpos : (0 < m) = True := eq_true (by omega)
    have HZ : Hid (numbL (-(m : Int)) = 45 :: numL m) := by
      unfold Hid numbL
      rw [if_pos hl, show (-(-(m : Int))).toNat = m by omega]
    have hmm : -(-(m : Int)) = (m : Int) := by omega
    have hml : (numL m).length ≤ 15 := by unfold numL; rw [List.length_reverse]; exact digQ_len 15 m (by omega)
    have HMB := Lib.hid (show m < 1000000000000000 by omega)
    clear hl
    go_wp2_with fail
    try rw [hmm]
    refine (HF.out _ _ HMB.out).mono ?_
    rintro e w1 ⟨rfl, hb1⟩
    have HB := Lib.hid hb1
    clear hb1 HF
    go_wp2_with fail
    go_ret
    exact ⟨⟨_, rfl, by rw [HZ.out]; rfl⟩, HB.out⟩
  · obtain ⟨m, rfl⟩ : ∃ m : Nat, n = (m : Int) := ⟨n.toNat, by omega⟩
    have hneg : ((m : Int) < 0) = False := eq_false hl
    have HZ : Hid (numbL (m : Int) = wholeL m) := by
      unfold Hid numbL
      rw [if_neg hl, Int.toNat_natCast]
    have HMB := Lib.hid (show m < 1000000000000000 by omega)
    clear hl
    by_cases h0 : m = 0
    · subst h0
      clear hneg
      go_wp2_with fail
      go_ret
      exact ⟨⟨_, rfl, rfl⟩, Below.refl _ _⟩
    · have hni : ((m : Int) == 0) = false := beq_false_of_ne (by omega)
      have HY : Hid (wholeL m = numL m) := by unfold Hid wholeL; rw [if_neg h0]
      clear h0
      go_wp2_with fail
      refine (HF.out _ _ HMB.out).mono ?_
      rintro e w1 ⟨rfl, hb1⟩
      have HB := Lib.hid hb1
      clear hb1 HF
      go_wp2_with fail
      go_ret
      exact ⟨⟨_, rfl, by rw [HZ.out, HY.out]; rfl⟩, HB.out⟩
end Go.Proofs.YtlnpfpjncnkekaaGreatDoor

namespace Go.Proofs.YtlnpfpjncnkekaaGreatDoor
open Go.RowKit
set_option maxHeartbeats 4000000
set_option maxRecDepth 100000

theorem row3 {w : World} {g : Nat} {t : TypeId} {a b c : Value} (h : w.heap[g]? = some (.cells [a, b, c].toArray t (0, 0))) :
    w.cell? ⟨g, 0, none⟩ = some a ∧ w.cell? ⟨g, 1, none⟩ = some b ∧ w.cell? ⟨g, 2, none⟩ = some c :=
  ⟨(cell_of_row w g _ _ t (0, 0) h).trans rfl, (cell_of_row w g _ _ t (0, 0) h).trans rfl, (cell_of_row w g _ _ t (0, 0) h).trans rfl⟩
/-- The text of a decimal: the sign, then the digits in the form that the exponent asks for. -/
def sgB (neg : Bool) : ByteArray := if neg then ⟨#[45]⟩ else ⟨#[]⟩
def bodL (l : List UInt8) (e : Int) : List UInt8 :=
  let p := (l.length : Int) + e
  if 0 ≤ e ∧ p ≤ 21 then l ++ List.replicate e.toNat 48
  else if e < 0 ∧ 1 ≤ p ∧ p ≤ 21 then l.take p.toNat ++ (46 :: l.drop p.toNat)
  else if -5 ≤ p ∧ p ≤ 0 then 48 :: 46 :: (List.replicate (-p).toNat 48 ++ l)
  else l.take 1 ++ ((if 1 < l.length then 46 :: l.drop 1 else []) ++ (if p < 1 then 101 :: 45 :: wholeL (1 - p).toNat else 101 :: wholeL (p - 1).toNat))
def decL (neg : Bool) (l : List UInt8) (e : Int) : List UInt8 := if l = [] then [48] else L (sgB neg) ++ bodL l e
theorem drewNBm (w : World) (n : Nat) : Below w.heap.size w (w.drewN n) := ⟨rfl, rfl, rfl, Nat.le_refl _, fun _ _ => rfl⟩
theorem sgB_size (neg : Bool) : (sgB neg).size ≤ 1 := by cases neg <;> decide
theorem dec_yes {neg : Bool} {l : List UInt8} {e : Int} (h : decB neg l e = true) (hn : l ≠ []) : l.length ≤ 120 ∧ -400 ≤ e ∧ e ≤ 400 := by
  unfold decB at h
  rw [if_neg hn] at h
  simp only [Bool.and_eq_true, decide_eq_true_eq] at h
  exact ⟨h.1, h.2.2.2⟩
def StrAt (l : List UInt8) (v : Value) : Prop := ∃ u, v = .string u ∧ L u = l
theorem numb_neg {n : Int} (h : n < 0) : numbL n = 45 :: wholeL (-n).toNat := by
  unfold numbL wholeL
  rw [if_pos h, if_neg (by omega)]
theorem numb_pos {n : Int} (h : 0 ≤ n) : numbL n = wholeL n.toNat := by
  unfold numbL
  rw [if_neg (by omega)]
theorem wholeL_len (n : Nat) (h : n < 1000) : (wholeL n).length ≤ 3 := by
  unfold wholeL
  split
  · simp
  · unfold numL
    rw [List.length_reverse]
    exact digQ_len 3 n h
theorem numbL_len (n : Int) (h1 : -1000 < n) (h2 : n < 1000) : (numbL n).length ≤ 4 := by
  by_cases h : n < 0
  · rw [numb_neg h, List.length_cons]
    have := wholeL_len (-n).toNat (by omega)
    omega
  · rw [numb_pos (by omega)]
    have := wholeL_len n.toNat (by omega)
    omega

theorem DDec1_any (neg : Bool) (s : ByteArray) (e : Int) (w : World) (hv : decB neg (L s) e = true) (hne : L s ≠ []) (h1 : 0 ≤ e) (h2 : (s.size : Int) + e ≤ 21) :
    Calls Tryz.prog 16 #[.agg #[.bool neg, .string s, .int .i64 e]] w (StrP (decL neg (L s) e) w) := by
  obtain ⟨hs, he1, he2⟩ := dec_yes hv hne
  rw [L_len] at hs
  have hne' : s.toList.isEmpty = false := by rw [Bool.eq_false_iff]; exact fun h => hne (isEh.1 h)
  have hs1 : 1 ≤ s.size := by
    rcases Nat.eq_zero_or_pos s.size with h | h
    · exact absurd (List.length_eq_zero_iff.1 ((L_len s).trans h)) hne
    · exact h
  have HV := Lib.hid (fun w' => decValid_any neg s e w' (by omega))
  rw [hv] at HV
  have HDC : Hid (decL neg (L s) e = L (sgB neg) ++ bodL (L s) e) := by unfold Hid decL; rw [if_neg hne]
  obtain ⟨sg, hsg⟩ : ∃ sg, sg = sgB neg := ⟨_, rfl⟩
  have hsgs : sg.size ≤ 1 := by rw [hsg]; exact sgB_size neg
  rw [← hsg] at HDC
  obtain ⟨P, hP⟩ : ∃ P, (s.size : Int) + e = P := ⟨_, rfl⟩
  have HPP := Lib.hid hP
  have HBD : Hid (bodL (L s) e = L s ++ List.replicate e.toNat 48) := by
    unfold Hid bodL
    rw [L_len]
    exact if_pos ⟨h1, h2⟩
  obtain ⟨k, rfl⟩ : ∃ k : Nat, e = (k : Int) := ⟨e.toNat, by omega⟩
  have HREP := Lib.hid (fun w' => rep_any k w' (by omega))
  have t1 : (P ≤ 21) = True := eq_true (by omega)
  clear h1 h2
  have HSG := Lib.hid hsg
  clear hv hne hP hsg
  go_enter Tryz.func16, Tryz.ntmps16
  go_upto_region 1 with fail
  generalize hW : World.alloc w _ = w1
  obtain ⟨ha1, -, hz1, hb1⟩ := alloc_of hW
  have HB1 := Lib.hid hb1
  obtain ⟨c0, c1, c2⟩ := row3 ha1
  have hz0 : w.heap.size < w1.heap.size := by omega
  have HSX : Hid (∀ w', Below w1.heap.size w1 w' → w'.cell? ⟨w.heap.size, 0, none⟩ = some (.bool neg) ∧ w'.cell? ⟨w.heap.size, 1, none⟩ = some (.string s) ∧ w'.cell? ⟨w.heap.size, 2, none⟩ = some (.int .i64 (k : Int))) := fun w' hb => ⟨(hb.cell (p := ⟨w.heap.size, 0, none⟩) hz0).trans c0, (hb.cell (p := ⟨w.heap.size, 1, none⟩) hz0).trans c1, (hb.cell (p := ⟨w.heap.size, 2, none⟩) hz0).trans c2⟩
  clear hW hb1
  go_wp2_with fail
  refine (HV.out _).mono ?_
  rintro e w2 ⟨rfl, hb2⟩
  have HX2 := Lib.hid hb2
  have HB2 := Lib.hid (HB1.out.trans (hb2.mono HB1.out.size))
  clear c0 c1 c2 HV
  obtain ⟨c0, c1, c2⟩ := HSX.out w2 hb2
  clear hb2 ha1 hz1 hz0
  go_upto_if 15 with fail
  go_cut [3] (fun v wx => v = .string sg ∧ w2 = wx)
  case first =>
    have hsg := HSG.out
    cases neg
    all_goals
      clear HSG
      go_wp2_with fail
      go_meet
      exact ⟨by rw [hsg]; rfl, rfl⟩
  case rest =>
  obtain ⟨rfl, rfl⟩ := hcut
  clear HSG
  go_upto_region 8 with fail
  rw [HPP.out]
  go_upto_region 9 with fail
  have HSZ : Hid (∀ w', Below w2.heap.size w2 w' → w'.cell? ⟨w.heap.size, 0, none⟩ = some (.bool neg) ∧ w'.cell? ⟨w.heap.size, 1, none⟩ = some (.string s) ∧ w'.cell? ⟨w.heap.size, 2, none⟩ = some (.int .i64 (k : Int))) := fun w' hb => HSX.out w' (HX2.out.trans (hb.mono HX2.out.size))
  clear c0 c1 c2
  refine wp_region_held_drew (S := fun w' => w'.cell? ⟨w.heap.size, 0, none⟩ = some (.bool neg) ∧ w'.cell? ⟨w.heap.size, 1, none⟩ = some (.string s) ∧ w'.cell? ⟨w.heap.size, 2, none⟩ = some (.int .i64 (k : Int))) (by kernel_rfl) (HSZ.out _ (drewBm w2)) (fun hHeld => ?_)
  have HBX := Lib.hid (drewBm w2)
  replace HB2 := Lib.hid (HB2.out.trans ((drewBm w2).mono HB2.out.size))
  generalize w2.drew = wd at *
  refine take_at 0 (some 31) rfl rfl (by kernel_rfl) (by kernel_rfl) (by kernel_rfl) (fun _ _ _ h => h) (Or.inl ⟨by rfl, fun w hSw => by (obtain ⟨q1, q2, q3⟩ := hSw; go_simp; with_reducible rfl)⟩) hHeld ?_
  simp only [Act.put, List.setIfInBounds_toArray, List.set_cons_zero, List.set_cons_succ]
  refine take_at 1 (some 32) rfl rfl (by kernel_rfl) (by kernel_rfl) (by kernel_rfl) (fun _ _ _ h => h) (Or.inl ⟨by rfl, fun w hSw => by (obtain ⟨q1, q2, q3⟩ := hSw; go_simp; with_reducible rfl)⟩) hHeld ?_
  simp only [Act.put, List.setIfInBounds_toArray, List.set_cons_zero, List.set_cons_succ]
  refine take_at 2 (some 33) rfl rfl (by kernel_rfl) (by kernel_rfl) (by kernel_rfl) (fun _ _ _ h => h) (Or.inl ⟨by rfl, fun w hSw => by (obtain ⟨q1, q2, q3⟩ := hSw; go_simp; with_reducible rfl)⟩) hHeld ?_
  simp only [Act.put, List.setIfInBounds_toArray, List.set_cons_zero, List.set_cons_succ]
  refine take_at 4 (some 35) rfl rfl (by kernel_rfl) (by kernel_rfl) (by kernel_rfl) (fun _ _ _ h => h) (Or.inl ⟨by rfl, fun w hSw => by (obtain ⟨q1, q2, q3⟩ := hSw; go_simp; with_reducible rfl)⟩) hHeld ?_
  simp only [Act.put, List.setIfInBounds_toArray, List.set_cons_zero, List.set_cons_succ]
  refine take_at 5 (some 36) rfl rfl (by kernel_rfl) (by kernel_rfl) (by kernel_rfl) (fun _ _ _ h => h) (Or.inl ⟨by rfl, fun w hSw => by (obtain ⟨q1, q2, q3⟩ := hSw; go_simp; with_reducible rfl)⟩) hHeld ?_
  simp only [Act.put, List.setIfInBounds_toArray, List.set_cons_zero, List.set_cons_succ]
  refine take_at 3 (some 34) rfl rfl (by kernel_rfl) (by kernel_rfl) (by kernel_rfl) (fun _ _ _ h => h) (Or.inl ⟨by rfl, fun w hSw => by (go_simp; first | (rw [if_neg (by omega)]) | with_reducible rfl)⟩) hHeld ?_
  simp only [Act.put, List.setIfInBounds_toArray, List.set_cons_zero, List.set_cons_succ]
  refine wpAnyH_ready (rs := [6]) (by kernel_rfl) (by simp) ?_
  refine AllReadyH.cons rfl (fun K hK => ?_) AllReadyH.nil
  go_simp
  refine (HREP.out _).mono ?_
  rintro e u2 ⟨⟨t2, rfl, ht2⟩, hb2⟩
  have HT2 := Lib.hid ht2
  replace HBX := Lib.hid (HBX.out.trans (hb2.mono HBX.out.size))
  replace HB2 := Lib.hid (HB2.out.trans (hb2.mono HB2.out.size))
  have hs22 : t2.size ≤ 400 := by
    have := L_len t2
    rw [ht2, List.length_replicate] at this
    omega
  clear ht2 hb2 HREP hHeld
  refine hK.out _ _ (HSZ.out _ HBX.out) (fun hHeld => ?_)
  clear hK K
  refine take_at 7 (some 38) rfl rfl (by kernel_rfl) (by kernel_rfl) (by kernel_rfl) (fun _ _ _ h => h) (Or.inl ⟨by rfl, fun w hSw => by (go_simp; first | (rw [if_neg (by omega)]) | with_reducible rfl)⟩) hHeld ?_
  simp only [Act.put, List.setIfInBounds_toArray, List.set_cons_zero, List.set_cons_succ]
  refine take_at 8 (some 2) rfl rfl (by kernel_rfl) (by kernel_rfl) (by kernel_rfl) (fun _ _ _ h => h) (Or.inl ⟨by rfl, fun w hSw => by (obtain ⟨q1, q2, q3⟩ := hSw; go_simp; with_reducible rfl)⟩) hHeld ?_
  simp only [Act.put, List.setIfInBounds_toArray, List.set_cons_zero, List.set_cons_succ]
  refine wpAnyH_done (by kernel_rfl) ?_ _
  clear hHeld
  go_wp2_with fail
  go_ret
  refine ⟨⟨_, rfl, ?_⟩, HB2.out⟩
  rw [HDC.out, HBD.out, Int.toNat_natCast]
  simp only [L_append, HT2.out, List.append_assoc]
theorem DDec2_any (neg : Bool) (s : ByteArray) (e : Int) (w : World) (hv : decB neg (L s) e = true) (hne : L s ≠ []) (h1 : e < 0) (h2 : 1 ≤ (s.size : Int) + e) (h3 : (s.size : Int) + e ≤ 21) :
    Calls Tryz.prog 16 #[.agg #[.bool neg, .string s, .int .i64 e]] w (StrP (decL neg (L s) e) w) := by
  obtain ⟨hs, he1, he2⟩ := dec_yes hv hne
  rw [L_len] at hs
  have hne' : s.toList.isEmpty = false := by rw [Bool.eq_false_iff]; exact fun h => hne (isEh.1 h)
  have hs1 : 1 ≤ s.size := by
    rcases Nat.eq_zero_or_pos s.size with h | h
    · exact absurd (List.length_eq_zero_iff.1 ((L_len s).trans h)) hne
    · exact h
  have HV := Lib.hid (fun w' => decValid_any neg s e w' (by omega))
  rw [hv] at HV
  have HDC : Hid (decL neg (L s) e = L (sgB neg) ++ bodL (L s) e) := by unfold Hid decL; rw [if_neg hne]
  obtain ⟨sg, hsg⟩ : ∃ sg, sg = sgB neg := ⟨_, rfl⟩
  have hsgs : sg.size ≤ 1 := by rw [hsg]; exact sgB_size neg
  rw [← hsg] at HDC
  obtain ⟨P, hP⟩ : ∃ P, (s.size : Int) + e = P := ⟨_, rfl⟩
  have HPP := Lib.hid hP
  have HBD : Hid (bodL (L s) e = (L s).take P.toNat ++ (46 :: (L s).drop P.toNat)) := by
    unfold Hid bodL
    rw [L_len]
    simp only [hP] at *
    exact (if_neg (by omega)).trans (if_pos ⟨h1, h2, h3⟩)
  have a1 : (0 ≤ e) = False := eq_false (by omega)
  have a2 : (e < 0) = True := eq_true h1
  obtain ⟨p, rfl⟩ : ∃ p : Nat, P = (p : Int) := ⟨P.toNat, by omega⟩
  have a3 : (1 ≤ (p : Int)) = True := eq_true (by omega)
  have a4 : ((p : Int) ≤ 21) = True := eq_true (by omega)
  have a5 : (p = 0) = False := eq_false (by omega)
  have hpl : p ≤ s.size := by omega
  rw [Int.toNat_natCast] at HBD
  clear h1 h2 h3
  have HSG := Lib.hid hsg
  clear hv hne hP hsg
  go_enter Tryz.func16, Tryz.ntmps16
  go_upto_region 1 with fail
  generalize hW : World.alloc w _ = w1
  obtain ⟨ha1, -, hz1, hb1⟩ := alloc_of hW
  have HB1 := Lib.hid hb1
  obtain ⟨c0, c1, c2⟩ := row3 ha1
  have hz0 : w.heap.size < w1.heap.size := by omega
  have HSX : Hid (∀ w', Below w1.heap.size w1 w' → w'.cell? ⟨w.heap.size, 0, none⟩ = some (.bool neg) ∧ w'.cell? ⟨w.heap.size, 1, none⟩ = some (.string s) ∧ w'.cell? ⟨w.heap.size, 2, none⟩ = some (.int .i64 e)) := fun w' hb => ⟨(hb.cell (p := ⟨w.heap.size, 0, none⟩) hz0).trans c0, (hb.cell (p := ⟨w.heap.size, 1, none⟩) hz0).trans c1, (hb.cell (p := ⟨w.heap.size, 2, none⟩) hz0).trans c2⟩
  clear hW hb1
  go_wp2_with fail
  refine (HV.out _).mono ?_
  rintro e w2 ⟨rfl, hb2⟩
  have HX2 := Lib.hid hb2
  have HB2 := Lib.hid (HB1.out.trans (hb2.mono HB1.out.size))
  clear c0 c1 c2 HV
  obtain ⟨c0, c1, c2⟩ := HSX.out w2 hb2
  clear hb2 ha1 hz1 hz0
  go_upto_if 15 with fail
  go_cut [3] (fun v wx => v = .string sg ∧ w2 = wx)
  case first =>
    have hsg := HSG.out
    cases neg
    all_goals
      clear HSG
      go_wp2_with fail
      go_meet
      exact ⟨by rw [hsg]; rfl, rfl⟩
  case rest =>
  obtain ⟨rfl, rfl⟩ := hcut
  clear HSG
  go_upto_region 8 with fail
  rw [HPP.out]
  go_upto_region 11 with fail
  go_quiet (fail)
  go_wp2_with fail
  go_ret
  refine ⟨⟨_, rfl, ?_⟩, HB2.out.trans ((drewNBm _ _).mono HB2.out.size)⟩
  rw [HDC.out, HBD.out]
  simp only [L_append, L_from, L_upto, List.append_assoc]
  rfl
theorem DDec3_any (neg : Bool) (s : ByteArray) (e : Int) (w : World) (hv : decB neg (L s) e = true) (hne : L s ≠ []) (h1 : e < 0) (h2 : -5 ≤ (s.size : Int) + e) (h3 : (s.size : Int) + e ≤ 0) :
    Calls Tryz.prog 16 #[.agg #[.bool neg, .string s, .int .i64 e]] w (StrP (decL neg (L s) e) w) := by
  obtain ⟨hs, he1, he2⟩ := dec_yes hv hne
  rw [L_len] at hs
  have hne' : s.toList.isEmpty = false := by rw [Bool.eq_false_iff]; exact fun h => hne (isEh.1 h)
  have hs1 : 1 ≤ s.size := by
    rcases Nat.eq_zero_or_pos s.size with h | h
    · exact absurd (List.length_eq_zero_iff.1 ((L_len s).trans h)) hne
    · exact h
  have HV := Lib.hid (fun w' => decValid_any neg s e w' (by omega))
  rw [hv] at HV
  have HDC : Hid (decL neg (L s) e = L (sgB neg) ++ bodL (L s) e) := by unfold Hid decL; rw [if_neg hne]
  obtain ⟨sg, hsg⟩ : ∃ sg, sg = sgB neg := ⟨_, rfl⟩
  have hsgs : sg.size ≤ 1 := by rw [hsg]; exact sgB_size neg
  rw [← hsg] at HDC
  obtain ⟨P, hP⟩ : ∃ P, (s.size : Int) + e = P := ⟨_, rfl⟩
  have HPP := Lib.hid hP
  have HBD : Hid (bodL (L s) e = 48 :: 46 :: (List.replicate (-P).toNat 48 ++ L s)) := by
    unfold Hid bodL
    rw [L_len]
    simp only [hP] at *
    exact (if_neg (by omega)).trans ((if_neg (by omega)).trans (if_pos ⟨h2, h3⟩))
  have a1 : (0 ≤ e) = False := eq_false (by omega)
  have a2 : (e < 0) = True := eq_true h1
  have a3 : (1 ≤ P) = False := eq_false (by omega)
  have a4 : (P ≤ 0) = True := eq_true (by omega)
  have a5 : (-5 ≤ P) = True := eq_true (by omega)
  have HPB : Hid (-5 ≤ P) := by unfold Hid; omega
  have HWR : Hid (IntKind.i64.wrap (-P) = -P) := by
    obtain ⟨z, hz⟩ : ∃ z : Nat, -P = (z : Int) := ⟨(-P).toNat, by omega⟩
    unfold Hid
    rw [hz]
    have e1 : (z : Int) % 2 ^ 64 = z := Int.emod_eq_of_lt (by omega) (by omega)
    simp only [IntKind.wrap, IntKind.bits, IntKind.signed, e1]
    rw [if_neg]
    simp
    omega
  have HREP := Lib.hid (fun w' => by have := rep_any (-P).toNat w' (by omega); rw [Int.toNat_of_nonneg (show 0 ≤ -P by omega)] at this; exact this)
  clear h1 h2 h3
  have HSG := Lib.hid hsg
  clear hv hne hP hsg
  go_enter Tryz.func16, Tryz.ntmps16
  go_upto_region 1 with fail
  generalize hW : World.alloc w _ = w1
  obtain ⟨ha1, -, hz1, hb1⟩ := alloc_of hW
  have HB1 := Lib.hid hb1
  obtain ⟨c0, c1, c2⟩ := row3 ha1
  have hz0 : w.heap.size < w1.heap.size := by omega
  have HSX : Hid (∀ w', Below w1.heap.size w1 w' → w'.cell? ⟨w.heap.size, 0, none⟩ = some (.bool neg) ∧ w'.cell? ⟨w.heap.size, 1, none⟩ = some (.string s) ∧ w'.cell? ⟨w.heap.size, 2, none⟩ = some (.int .i64 e)) := fun w' hb => ⟨(hb.cell (p := ⟨w.heap.size, 0, none⟩) hz0).trans c0, (hb.cell (p := ⟨w.heap.size, 1, none⟩) hz0).trans c1, (hb.cell (p := ⟨w.heap.size, 2, none⟩) hz0).trans c2⟩
  clear hW hb1
  go_wp2_with fail
  refine (HV.out _).mono ?_
  rintro e w2 ⟨rfl, hb2⟩
  have HX2 := Lib.hid hb2
  have HB2 := Lib.hid (HB1.out.trans (hb2.mono HB1.out.size))
  clear c0 c1 c2 HV
  obtain ⟨c0, c1, c2⟩ := HSX.out w2 hb2
  clear hb2 ha1 hz1 hz0
  go_upto_if 15 with fail
  go_cut [3] (fun v wx => v = .string sg ∧ w2 = wx)
  case first =>
    have hsg := HSG.out
    cases neg
    all_goals
      clear HSG
      go_wp2_with fail
      go_meet
      exact ⟨by rw [hsg]; rfl, rfl⟩
  case rest =>
  obtain ⟨rfl, rfl⟩ := hcut
  clear HSG
  go_upto_region 8 with fail
  rw [HPP.out]
  go_upto_region 13 with fail
  clear a1 a2 a3 a4 a5
  have HSZ : Hid (∀ w', Below w2.heap.size w2 w' → w'.cell? ⟨w.heap.size, 0, none⟩ = some (.bool neg) ∧ w'.cell? ⟨w.heap.size, 1, none⟩ = some (.string s) ∧ w'.cell? ⟨w.heap.size, 2, none⟩ = some (.int .i64 e)) := fun w' hb => HSX.out w' (HX2.out.trans (hb.mono HX2.out.size))
  clear c0 c1 c2
  refine wp_region_held_drew (S := fun w' => w'.cell? ⟨w.heap.size, 0, none⟩ = some (.bool neg) ∧ w'.cell? ⟨w.heap.size, 1, none⟩ = some (.string s) ∧ w'.cell? ⟨w.heap.size, 2, none⟩ = some (.int .i64 e)) (by kernel_rfl) (HSZ.out _ (drewBm w2)) (fun hHeld => ?_)
  have HBX := Lib.hid (drewBm w2)
  replace HB2 := Lib.hid (HB2.out.trans ((drewBm w2).mono HB2.out.size))
  generalize w2.drew = wd at *
  refine take_at 0 (some 70) rfl rfl (by kernel_rfl) (by kernel_rfl) (by kernel_rfl) (fun _ _ _ h => h) (Or.inl ⟨by rfl, fun w hSw => by (obtain ⟨q1, q2, q3⟩ := hSw; go_simp; with_reducible rfl)⟩) hHeld ?_
  simp only [Act.put, List.setIfInBounds_toArray, List.set_cons_zero, List.set_cons_succ]
  refine take_at 2 (some 72) rfl rfl (by kernel_rfl) (by kernel_rfl) (by kernel_rfl) (fun _ _ _ h => h) (Or.inl ⟨by rfl, fun w hSw => by (obtain ⟨q1, q2, q3⟩ := hSw; go_simp; with_reducible rfl)⟩) hHeld ?_
  simp only [Act.put, List.setIfInBounds_toArray, List.set_cons_zero, List.set_cons_succ]
  refine take_at 3 (some 73) rfl rfl (by kernel_rfl) (by kernel_rfl) (by kernel_rfl) (fun _ _ _ h => h) (Or.inl ⟨by rfl, fun w hSw => by (obtain ⟨q1, q2, q3⟩ := hSw; go_simp; with_reducible rfl)⟩) hHeld ?_
  simp only [Act.put, List.setIfInBounds_toArray, List.set_cons_zero, List.set_cons_succ]
  refine take_at 6 (some 76) rfl rfl (by kernel_rfl) (by kernel_rfl) (by kernel_rfl) (fun _ _ _ h => h) (Or.inl ⟨by rfl, fun w hSw => by (obtain ⟨q1, q2, q3⟩ := hSw; go_simp; with_reducible rfl)⟩) hHeld ?_
  simp only [Act.put, List.setIfInBounds_toArray, List.set_cons_zero, List.set_cons_succ]
  refine take_at 7 (some 77) rfl rfl (by kernel_rfl) (by kernel_rfl) (by kernel_rfl) (fun _ _ _ h => h) (Or.inl ⟨by rfl, fun w hSw => by (obtain ⟨q1, q2, q3⟩ := hSw; go_simp; with_reducible rfl)⟩) hHeld ?_
  simp only [Act.put, List.setIfInBounds_toArray, List.set_cons_zero, List.set_cons_succ]
  refine take_at (v := .string (sg ++ ⟨#[48, 46]⟩)) 1 (some 71) rfl rfl (by kernel_rfl) (by kernel_rfl) (by kernel_rfl) (fun _ _ _ h => h) (Or.inl ⟨by rfl, fun w hSw => by (go_simp; omega)⟩) hHeld ?_
  obtain ⟨sg2, hsg2⟩ : ∃ x : ByteArray, sg ++ ⟨#[48, 46]⟩ = x := ⟨_, rfl⟩
  rw [hsg2]
  have HS2 : Hid (L sg2 = L sg ++ [48, 46]) := by unfold Hid; rw [← hsg2, L_append]; rfl
  have hs2z : sg2.size ≤ 3 := by
    have := L_len sg2
    rw [HS2.out, List.length_append, L_len] at this
    simp only [List.length_cons, List.length_nil] at this
    omega
  clear hsg2
  simp only [Act.put, List.setIfInBounds_toArray, List.set_cons_zero, List.set_cons_succ]
  refine wpAnyH_ready (rs := [4]) (by kernel_rfl) (by simp) ?_
  refine AllReadyH.cons rfl (fun K hK => ?_) AllReadyH.nil
  go_simp
  rw [HWR.out]
  refine (HREP.out _).mono ?_
  rintro e u2 ⟨⟨t2, rfl, ht2⟩, hb2⟩
  have HT2 := Lib.hid ht2
  replace HBX := Lib.hid (HBX.out.trans (hb2.mono HBX.out.size))
  replace HB2 := Lib.hid (HB2.out.trans (hb2.mono HB2.out.size))
  have hs22 : t2.size ≤ 400 := by
    have := L_len t2
    rw [ht2, List.length_replicate] at this
    have := HPB.out
    omega
  clear ht2 hb2 HREP hHeld
  refine hK.out _ _ (HSZ.out _ HBX.out) (fun hHeld => ?_)
  clear hK K
  refine take_at 5 (some 75) rfl rfl (by kernel_rfl) (by kernel_rfl) (by kernel_rfl) (fun _ _ _ h => h) (Or.inl ⟨by rfl, fun w hSw => by (go_simp; first | (rw [if_neg (by omega)]) | with_reducible rfl)⟩) hHeld ?_
  simp only [Act.put, List.setIfInBounds_toArray, List.set_cons_zero, List.set_cons_succ]
  refine take_at 8 (some 78) rfl rfl (by kernel_rfl) (by kernel_rfl) (by kernel_rfl) (fun _ _ _ h => h) (Or.inl ⟨by rfl, fun w hSw => by (go_simp; first | (rw [if_neg (by omega)]) | with_reducible rfl)⟩) hHeld ?_
  simp only [Act.put, List.setIfInBounds_toArray, List.set_cons_zero, List.set_cons_succ]
  refine take_at 9 (some 2) rfl rfl (by kernel_rfl) (by kernel_rfl) (by kernel_rfl) (fun _ _ _ h => h) (Or.inl ⟨by rfl, fun w hSw => by (obtain ⟨q1, q2, q3⟩ := hSw; go_simp; with_reducible rfl)⟩) hHeld ?_
  simp only [Act.put, List.setIfInBounds_toArray, List.set_cons_zero, List.set_cons_succ]
  refine wpAnyH_done (by kernel_rfl) ?_ _
  clear hHeld
  go_wp2_with fail
  go_ret
  refine ⟨⟨_, rfl, ?_⟩, HB2.out⟩
  rw [HDC.out, HBD.out]
  simp only [L_append, HS2.out, HT2.out, List.append_assoc]
  rfl
theorem DDec4_any (neg : Bool) (s : ByteArray) (e : Int) (w : World) (hv : decB neg (L s) e = true) (hne : L s ≠ []) (h1 : 0 ≤ e) (h2 : 22 ≤ (s.size : Int) + e) :
    Calls Tryz.prog 16 #[.agg #[.bool neg, .string s, .int .i64 e]] w (StrP (decL neg (L s) e) w) := by
  obtain ⟨hs, he1, he2⟩ := dec_yes hv hne
  rw [L_len] at hs
  have hne' : s.toList.isEmpty = false := by rw [Bool.eq_false_iff]; exact fun h => hne (isEh.1 h)
  have hs1 : 1 ≤ s.size := by
    rcases Nat.eq_zero_or_pos s.size with h | h
    · exact absurd (List.length_eq_zero_iff.1 ((L_len s).trans h)) hne
    · exact h
  have HV := Lib.hid (fun w' => decValid_any neg s e w' (by omega))
  rw [hv] at HV
  have HDC : Hid (decL neg (L s) e = L (sgB neg) ++ bodL (L s) e) := by unfold Hid decL; rw [if_neg hne]
  obtain ⟨sg, hsg⟩ : ∃ sg, sg = sgB neg := ⟨_, rfl⟩
  have hsgs : sg.size ≤ 1 := by rw [hsg]; exact sgB_size neg
  rw [← hsg] at HDC
  obtain ⟨P, hP⟩ : ∃ P, (s.size : Int) + e = P := ⟨_, rfl⟩
  have HPP := Lib.hid hP
  have h3 : e ≥ 0 := by omega
  have HBD : Hid (bodL (L s) e = (L s).take 1 ++ ((if 1 < s.size then 46 :: (L s).drop 1 else []) ++ (101 :: wholeL (P - 1).toNat))) := by
    unfold Hid bodL
    rw [L_len]
    simp only [hP] at *
    refine (if_neg (by omega)).trans ((if_neg (by omega)).trans ((if_neg (by omega)).trans ?_))
    rw [if_neg (show ¬ P < 1 by omega)]
  have a1 : (0 ≤ e) = True := eq_true (by omega)
  have a2 : (e < 0) = False := eq_false (by omega)
  have a3 : (P ≤ 21) = False := eq_false (by omega)
  have a4 : (1 ≤ P) = True := eq_true (by omega)
  have a5 : (-5 ≤ P) = True := eq_true (by omega)
  have a6 : (P ≤ 0) = False := eq_false (by omega)
  have a7 : (P < 1) = False := eq_false (by omega)
  have HPB : Hid (22 ≤ P ∧ P ≤ 600) := by unfold Hid; omega
  have HWP : Hid (wrap64 (P - 1) = P - 1) := by unfold Hid wrap64; omega
  have HWH := Lib.hid (fun w' => by have := whole_any (P - 1).toNat w' (by omega); rw [Int.toNat_of_nonneg (show 0 ≤ P - 1 by omega)] at this; exact this)
  clear h1 h2 h3
  have HSG := Lib.hid hsg
  clear hv hne hP hsg
  go_enter Tryz.func16, Tryz.ntmps16
  go_upto_region 1 with fail
  generalize hW : World.alloc w _ = w1
  obtain ⟨ha1, -, hz1, hb1⟩ := alloc_of hW
  have HB1 := Lib.hid hb1
  obtain ⟨c0, c1, c2⟩ := row3 ha1
  have hz0 : w.heap.size < w1.heap.size := by omega
  have HSX : Hid (∀ w', Below w1.heap.size w1 w' → w'.cell? ⟨w.heap.size, 0, none⟩ = some (.bool neg) ∧ w'.cell? ⟨w.heap.size, 1, none⟩ = some (.string s) ∧ w'.cell? ⟨w.heap.size, 2, none⟩ = some (.int .i64 e)) := fun w' hb => ⟨(hb.cell (p := ⟨w.heap.size, 0, none⟩) hz0).trans c0, (hb.cell (p := ⟨w.heap.size, 1, none⟩) hz0).trans c1, (hb.cell (p := ⟨w.heap.size, 2, none⟩) hz0).trans c2⟩
  clear hW hb1
  go_wp2_with fail
  refine (HV.out _).mono ?_
  rintro e w2 ⟨rfl, hb2⟩
  have HX2 := Lib.hid hb2
  have HB2 := Lib.hid (HB1.out.trans (hb2.mono HB1.out.size))
  clear c0 c1 c2 HV
  obtain ⟨c0, c1, c2⟩ := HSX.out w2 hb2
  clear hb2 ha1 hz1 hz0
  go_upto_if 15 with fail
  go_cut [3] (fun v wx => v = .string sg ∧ w2 = wx)
  case first =>
    have hsg := HSG.out
    cases neg
    all_goals
      clear HSG
      go_wp2_with fail
      go_meet
      exact ⟨by rw [hsg]; rfl, rfl⟩
  case rest =>
  obtain ⟨rfl, rfl⟩ := hcut
  clear HSG
  go_upto_region 8 with fail
  rw [HPP.out]
  go_upto_if 85 with fail
  go_cut [3] (fun v wx => StrAt (L sg ++ ((L s).take 1 ++ (if 1 < s.size then 46 :: (L s).drop 1 else []))) v ∧ w2 = wx)
  case first =>
    by_cases hn : 1 < s.size
    · have hni : (1 < (s.size : Int)) = True := eq_true (by omega)
      go_wp2_with fail
      go_meet
      refine ⟨⟨_, rfl, ?_⟩, rfl⟩
      rw [if_pos hn]
      simp only [L_append, L_from, L_upto, List.append_assoc]
      rfl
    · have hni : (1 < (s.size : Int)) = False := eq_false (by omega)
      go_wp2_with fail
      go_meet
      refine ⟨⟨_, rfl, ?_⟩, rfl⟩
      rw [if_neg hn]
      simp only [L_append, L_upto, List.append_nil]
  case rest =>
  obtain ⟨⟨sm, rfl, hsm⟩, rfl⟩ := hcut
  have HSM := Lib.hid hsm
  have hsz : sm.size ≤ 200 := by
    have := L_len sm
    rw [hsm] at this
    have h1 : ((L s).take 1).length ≤ 1 := by simp only [List.length_take]; omega
    have h2 : (if 1 < s.size then 46 :: (L s).drop 1 else []).length ≤ 121 := by
      split
      · simp only [List.length_cons, List.length_drop, L_len]; omega
      · simp
    simp only [List.length_append, L_len] at this
    omega
  clear hsm
  go_wp2_with fail
  rw [HWP.out]
  refine (HWH.out _).mono ?_
  rintro e w4 ⟨⟨t2, rfl, ht2⟩, hb2⟩
  have HT2 := Lib.hid ht2
  have HB4 := Lib.hid (HB2.out.trans (hb2.mono HB2.out.size))
  have hs22 : t2.size ≤ 100 := by
    have h0 := L_len t2
    rw [ht2] at h0
    have h1 := HPB.out
    have h2 := wholeL_len (P - 1).toNat (by omega)
    omega
  clear ht2 hb2 HWH
  go_wp2_with fail
  go_ret
  refine ⟨⟨_, rfl, ?_⟩, HB4.out⟩
  rw [HDC.out, HBD.out]
  simp only [L_append, HSM.out, HT2.out, List.append_assoc]
  rfl
theorem DDec5_any (neg : Bool) (s : ByteArray) (e : Int) (w : World) (hv : decB neg (L s) e = true) (hne : L s ≠ []) (h2 : (s.size : Int) + e ≤ -6) :
    Calls Tryz.prog 16 #[.agg #[.bool neg, .string s, .int .i64 e]] w (StrP (decL neg (L s) e) w) := by
  obtain ⟨hs, he1, he2⟩ := dec_yes hv hne
  rw [L_len] at hs
  have hne' : s.toList.isEmpty = false := by rw [Bool.eq_false_iff]; exact fun h => hne (isEh.1 h)
  have hs1 : 1 ≤ s.size := by
    rcases Nat.eq_zero_or_pos s.size with h | h
    · exact absurd (List.length_eq_zero_iff.1 ((L_len s).trans h)) hne
    · exact h
  have HV := Lib.hid (fun w' => decValid_any neg s e w' (by omega))
  rw [hv] at HV
  have HDC : Hid (decL neg (L s) e = L (sgB neg) ++ bodL (L s) e) := by unfold Hid decL; rw [if_neg hne]
  obtain ⟨sg, hsg⟩ : ∃ sg, sg = sgB neg := ⟨_, rfl⟩
  have hsgs : sg.size ≤ 1 := by rw [hsg]; exact sgB_size neg
  rw [← hsg] at HDC
  obtain ⟨P, hP⟩ : ∃ P, (s.size : Int) + e = P := ⟨_, rfl⟩
  have HPP := Lib.hid hP
  have h3 : e < 0 := by omega
  have HBD : Hid (bodL (L s) e = (L s).take 1 ++ ((if 1 < s.size then 46 :: (L s).drop 1 else []) ++ (101 :: 45 :: wholeL (1 - P).toNat))) := by
    unfold Hid bodL
    rw [L_len]
    simp only [hP] at *
    refine (if_neg (by omega)).trans ((if_neg (by omega)).trans ((if_neg (by omega)).trans ?_))
    rw [if_pos (show P < 1 by omega)]
  have a1 : (0 ≤ e) = False := eq_false (by omega)
  have a2 : (e < 0) = True := eq_true (by omega)
  have a3 : (P ≤ 21) = True := eq_true (by omega)
  have a4 : (1 ≤ P) = False := eq_false (by omega)
  have a5 : (-5 ≤ P) = False := eq_false (by omega)
  have a6 : (P ≤ 0) = True := eq_true (by omega)
  have a7 : (P < 1) = True := eq_true (by omega)
  have HPB : Hid (-600 ≤ P ∧ P ≤ -6) := by unfold Hid; omega
  have HWP : Hid (wrap64 (1 - P) = 1 - P) := by unfold Hid wrap64; omega
  have HWH := Lib.hid (fun w' => by have := whole_any (1 - P).toNat w' (by omega); rw [Int.toNat_of_nonneg (show 0 ≤ 1 - P by omega)] at this; exact this)
  clear h2 h3
  have HSG := Lib.hid hsg
  clear hv hne hP hsg
  go_enter Tryz.func16, Tryz.ntmps16
  go_upto_region 1 with fail
  generalize hW : World.alloc w _ = w1
  obtain ⟨ha1, -, hz1, hb1⟩ := alloc_of hW
  have HB1 := Lib.hid hb1
  obtain ⟨c0, c1, c2⟩ := row3 ha1
  have hz0 : w.heap.size < w1.heap.size := by omega
  have HSX : Hid (∀ w', Below w1.heap.size w1 w' → w'.cell? ⟨w.heap.size, 0, none⟩ = some (.bool neg) ∧ w'.cell? ⟨w.heap.size, 1, none⟩ = some (.string s) ∧ w'.cell? ⟨w.heap.size, 2, none⟩ = some (.int .i64 e)) := fun w' hb => ⟨(hb.cell (p := ⟨w.heap.size, 0, none⟩) hz0).trans c0, (hb.cell (p := ⟨w.heap.size, 1, none⟩) hz0).trans c1, (hb.cell (p := ⟨w.heap.size, 2, none⟩) hz0).trans c2⟩
  clear hW hb1
  go_wp2_with fail
  refine (HV.out _).mono ?_
  rintro e w2 ⟨rfl, hb2⟩
  have HX2 := Lib.hid hb2
  have HB2 := Lib.hid (HB1.out.trans (hb2.mono HB1.out.size))
  clear c0 c1 c2 HV
  obtain ⟨c0, c1, c2⟩ := HSX.out w2 hb2
  clear hb2 ha1 hz1 hz0
  go_upto_if 15 with fail
  go_cut [3] (fun v wx => v = .string sg ∧ w2 = wx)
  case first =>
    have hsg := HSG.out
    cases neg
    all_goals
      clear HSG
      go_wp2_with fail
      go_meet
      exact ⟨by rw [hsg]; rfl, rfl⟩
  case rest =>
  obtain ⟨rfl, rfl⟩ := hcut
  clear HSG
  go_upto_region 8 with fail
  rw [HPP.out]
  go_upto_if 85 with fail
  go_cut [3] (fun v wx => StrAt (L sg ++ ((L s).take 1 ++ (if 1 < s.size then 46 :: (L s).drop 1 else []))) v ∧ w2 = wx)
  case first =>
    by_cases hn : 1 < s.size
    · have hni : (1 < (s.size : Int)) = True := eq_true (by omega)
      go_wp2_with fail
      go_meet
      refine ⟨⟨_, rfl, ?_⟩, rfl⟩
      rw [if_pos hn]
      simp only [L_append, L_from, L_upto, List.append_assoc]
      rfl
    · have hni : (1 < (s.size : Int)) = False := eq_false (by omega)
      go_wp2_with fail
      go_meet
      refine ⟨⟨_, rfl, ?_⟩, rfl⟩
      rw [if_neg hn]
      simp only [L_append, L_upto, List.append_nil]
  case rest =>
  obtain ⟨⟨sm, rfl, hsm⟩, rfl⟩ := hcut
  have HSM := Lib.hid hsm
  have hsz : sm.size ≤ 200 := by
    have := L_len sm
    rw [hsm] at this
    have h1 : ((L s).take 1).length ≤ 1 := by simp only [List.length_take]; omega
    have h2 : (if 1 < s.size then 46 :: (L s).drop 1 else []).length ≤ 121 := by
      split
      · simp only [List.length_cons, List.length_drop, L_len]; omega
      · simp
    simp only [List.length_append, L_len] at this
    omega
  clear hsm
  go_wp2_with fail
  rw [HWP.out]
  refine (HWH.out _).mono ?_
  rintro e w4 ⟨⟨t2, rfl, ht2⟩, hb2⟩
  have HT2 := Lib.hid ht2
  have HB4 := Lib.hid (HB2.out.trans (hb2.mono HB2.out.size))
  have hs22 : t2.size ≤ 100 := by
    have h0 := L_len t2
    rw [ht2] at h0
    have h1 := HPB.out
    have h2 := wholeL_len (1 - P).toNat (by omega)
    omega
  clear ht2 hb2 HWH
  go_wp2_with fail
  go_ret
  refine ⟨⟨_, rfl, ?_⟩, HB4.out⟩
  rw [HDC.out, HBD.out]
  simp only [L_append, HSM.out, HT2.out, List.append_assoc]
  rfl
theorem DDec6_any (neg : Bool) (s : ByteArray) (e : Int) (w : World) (hv : decB neg (L s) e = true) (hne : L s ≠ []) (h1 : e < 0) (h2 : 22 ≤ (s.size : Int) + e) :
    Calls Tryz.prog 16 #[.agg #[.bool neg, .string s, .int .i64 e]] w (StrP (decL neg (L s) e) w) := by
  obtain ⟨hs, he1, he2⟩ := dec_yes hv hne
  rw [L_len] at hs
  have hne' : s.toList.isEmpty = false := by rw [Bool.eq_false_iff]; exact fun h => hne (isEh.1 h)
  have hs1 : 1 ≤ s.size := by
    rcases Nat.eq_zero_or_pos s.size with h | h
    · exact absurd (List.length_eq_zero_iff.1 ((L_len s).trans h)) hne
    · exact h
  have HV := Lib.hid (fun w' => decValid_any neg s e w' (by omega))
  rw [hv] at HV
  have HDC : Hid (decL neg (L s) e = L (sgB neg) ++ bodL (L s) e) := by unfold Hid decL; rw [if_neg hne]
  obtain ⟨sg, hsg⟩ : ∃ sg, sg = sgB neg := ⟨_, rfl⟩
  have hsgs : sg.size ≤ 1 := by rw [hsg]; exact sgB_size neg
  rw [← hsg] at HDC
  obtain ⟨P, hP⟩ : ∃ P, (s.size : Int) + e = P := ⟨_, rfl⟩
  have HPP := Lib.hid hP
  have h3 : e < 0 := by omega
  have HBD : Hid (bodL (L s) e = (L s).take 1 ++ ((if 1 < s.size then 46 :: (L s).drop 1 else []) ++ (101 :: wholeL (P - 1).toNat))) := by
    unfold Hid bodL
    rw [L_len]
    simp only [hP] at *
    refine (if_neg (by omega)).trans ((if_neg (by omega)).trans ((if_neg (by omega)).trans ?_))
    rw [if_neg (show ¬ P < 1 by omega)]
  have a1 : (0 ≤ e) = False := eq_false (by omega)
  have a2 : (e < 0) = True := eq_true (by omega)
  have a3 : (P ≤ 21) = False := eq_false (by omega)
  have a4 : (1 ≤ P) = True := eq_true (by omega)
  have a5 : (-5 ≤ P) = True := eq_true (by omega)
  have a6 : (P ≤ 0) = False := eq_false (by omega)
  have a7 : (P < 1) = False := eq_false (by omega)
  have HPB : Hid (22 ≤ P ∧ P ≤ 600) := by unfold Hid; omega
  have HWP : Hid (wrap64 (P - 1) = P - 1) := by unfold Hid wrap64; omega
  have HWH := Lib.hid (fun w' => by have := whole_any (P - 1).toNat w' (by omega); rw [Int.toNat_of_nonneg (show 0 ≤ P - 1 by omega)] at this; exact this)
  clear h1 h2 h3
  have HSG := Lib.hid hsg
  clear hv hne hP hsg
  go_enter Tryz.func16, Tryz.ntmps16
  go_upto_region 1 with fail
  generalize hW : World.alloc w _ = w1
  obtain ⟨ha1, -, hz1, hb1⟩ := alloc_of hW
  have HB1 := Lib.hid hb1
  obtain ⟨c0, c1, c2⟩ := row3 ha1
  have hz0 : w.heap.size < w1.heap.size := by omega
  have HSX : Hid (∀ w', Below w1.heap.size w1 w' → w'.cell? ⟨w.heap.size, 0, none⟩ = some (.bool neg) ∧ w'.cell? ⟨w.heap.size, 1, none⟩ = some (.string s) ∧ w'.cell? ⟨w.heap.size, 2, none⟩ = some (.int .i64 e)) := fun w' hb => ⟨(hb.cell (p := ⟨w.heap.size, 0, none⟩) hz0).trans c0, (hb.cell (p := ⟨w.heap.size, 1, none⟩) hz0).trans c1, (hb.cell (p := ⟨w.heap.size, 2, none⟩) hz0).trans c2⟩
  clear hW hb1
  go_wp2_with fail
  refine (HV.out _).mono ?_
  rintro e w2 ⟨rfl, hb2⟩
  have HX2 := Lib.hid hb2
  have HB2 := Lib.hid (HB1.out.trans (hb2.mono HB1.out.size))
  clear c0 c1 c2 HV
  obtain ⟨c0, c1, c2⟩ := HSX.out w2 hb2
  clear hb2 ha1 hz1 hz0
  go_upto_if 15 with fail
  go_cut [3] (fun v wx => v = .string sg ∧ w2 = wx)
  case first =>
    have hsg := HSG.out
    cases neg
    all_goals
      clear HSG
      go_wp2_with fail
      go_meet
      exact ⟨by rw [hsg]; rfl, rfl⟩
  case rest =>
  obtain ⟨rfl, rfl⟩ := hcut
  clear HSG
  go_upto_region 8 with fail
  rw [HPP.out]
  go_upto_if 85 with fail
  go_cut [3] (fun v wx => StrAt (L sg ++ ((L s).take 1 ++ (if 1 < s.size then 46 :: (L s).drop 1 else []))) v ∧ w2 = wx)
  case first =>
    by_cases hn : 1 < s.size
    · have hni : (1 < (s.size : Int)) = True := eq_true (by omega)
      go_wp2_with fail
      go_meet
      refine ⟨⟨_, rfl, ?_⟩, rfl⟩
      rw [if_pos hn]
      simp only [L_append, L_from, L_upto, List.append_assoc]
      rfl
    · have hni : (1 < (s.size : Int)) = False := eq_false (by omega)
      go_wp2_with fail
      go_meet
      refine ⟨⟨_, rfl, ?_⟩, rfl⟩
      rw [if_neg hn]
      simp only [L_append, L_upto, List.append_nil]
  case rest =>
  obtain ⟨⟨sm, rfl, hsm⟩, rfl⟩ := hcut
  have HSM := Lib.hid hsm
  have hsz : sm.size ≤ 200 := by
    have := L_len sm
    rw [hsm] at this
    have h1 : ((L s).take 1).length ≤ 1 := by simp only [List.length_take]; omega
    have h2 : (if 1 < s.size then 46 :: (L s).drop 1 else []).length ≤ 121 := by
      split
      · simp only [List.length_cons, List.length_drop, L_len]; omega
      · simp
    simp only [List.length_append, L_len] at this
    omega
  clear hsm
  go_wp2_with fail
  rw [HWP.out]
  refine (HWH.out _).mono ?_
  rintro e w4 ⟨⟨t2, rfl, ht2⟩, hb2⟩
  have HT2 := Lib.hid ht2
  have HB4 := Lib.hid (HB2.out.trans (hb2.mono HB2.out.size))
  have hs22 : t2.size ≤ 100 := by
    have h0 := L_len t2
    rw [ht2] at h0
    have h1 := HPB.out
    have h2 := wholeL_len (P - 1).toNat (by omega)
    omega
  clear ht2 hb2 HWH
  go_wp2_with fail
  go_ret
  refine ⟨⟨_, rfl, ?_⟩, HB4.out⟩
  rw [HDC.out, HBD.out]
  simp only [L_append, HSM.out, HT2.out, List.append_assoc]
  rfl
theorem RDec1_any (neg : Bool) (s : ByteArray) (e : Int) (w : World) (hv : decB neg (L s) e = true) (hne : L s ≠ []) (h1 : 0 ≤ e) (h2 : (s.size : Int) + e ≤ 21) :
    Calls Tryz.prog 21 #[.agg #[.bool neg, .string s, .int .i64 e]] w (StrP (decL neg (L s) e) w) := by
  obtain ⟨hs, he1, he2⟩ := dec_yes hv hne
  rw [L_len] at hs
  have hne' : s.toList.isEmpty = false := by rw [Bool.eq_false_iff]; exact fun h => hne (isEh.1 h)
  have hs1 : 1 ≤ s.size := by
    rcases Nat.eq_zero_or_pos s.size with h | h
    · exact absurd (List.length_eq_zero_iff.1 ((L_len s).trans h)) hne
    · exact h
  have HV := Lib.hid (fun w' => decValid_any neg s e w' (by omega))
  rw [hv] at HV
  have HDC : Hid (decL neg (L s) e = L (sgB neg) ++ bodL (L s) e) := by unfold Hid decL; rw [if_neg hne]
  obtain ⟨sg, hsg⟩ : ∃ sg, sg = sgB neg := ⟨_, rfl⟩
  have hsgs : sg.size ≤ 1 := by rw [hsg]; exact sgB_size neg
  rw [← hsg] at HDC
  obtain ⟨P, hP⟩ : ∃ P, (s.size : Int) + e = P := ⟨_, rfl⟩
  have HPP := Lib.hid hP
  have HBD : Hid (bodL (L s) e = L s ++ List.replicate e.toNat 48) := by
    unfold Hid bodL
    rw [L_len]
    exact if_pos ⟨h1, h2⟩
  obtain ⟨k, rfl⟩ : ∃ k : Nat, e = (k : Int) := ⟨e.toNat, by omega⟩
  have HREP := Lib.hid (fun w' => noughts_any k w' (by omega))
  have t1 : (P ≤ 21) = True := eq_true (by omega)
  clear h1 h2
  have HSG := Lib.hid hsg
  clear hv hne hP hsg
  go_enter Tryz.func21, Tryz.ntmps21
  go_upto_region 1 with fail
  generalize hW : World.alloc w _ = w1
  obtain ⟨ha1, -, hz1, hb1⟩ := alloc_of hW
  have HB1 := Lib.hid hb1
  obtain ⟨c0, c1, c2⟩ := row3 ha1
  have hz0 : w.heap.size < w1.heap.size := by omega
  have HSX : Hid (∀ w', Below w1.heap.size w1 w' → w'.cell? ⟨w.heap.size, 0, none⟩ = some (.bool neg) ∧ w'.cell? ⟨w.heap.size, 1, none⟩ = some (.string s) ∧ w'.cell? ⟨w.heap.size, 2, none⟩ = some (.int .i64 (k : Int))) := fun w' hb => ⟨(hb.cell (p := ⟨w.heap.size, 0, none⟩) hz0).trans c0, (hb.cell (p := ⟨w.heap.size, 1, none⟩) hz0).trans c1, (hb.cell (p := ⟨w.heap.size, 2, none⟩) hz0).trans c2⟩
  clear hW hb1
  have HX2 := Lib.hid (Below.refl w1.heap.size w1)
  have HB2 := HB1
  clear ha1 hz1 hz0 HV
  go_upto_if 9 with fail
  go_cut [3] (fun v wx => v = .string sg ∧ w1 = wx)
  case first =>
    have hsg := HSG.out
    cases neg
    all_goals
      clear HSG
      go_wp2_with fail
      go_meet
      exact ⟨by rw [hsg]; rfl, rfl⟩
  case rest =>
  obtain ⟨rfl, rfl⟩ := hcut
  clear HSG
  go_upto_region 7 with fail
  rw [HPP.out]
  go_upto_region 8 with fail
  have HSZ : Hid (∀ w', Below w1.heap.size w1 w' → w'.cell? ⟨w.heap.size, 0, none⟩ = some (.bool neg) ∧ w'.cell? ⟨w.heap.size, 1, none⟩ = some (.string s) ∧ w'.cell? ⟨w.heap.size, 2, none⟩ = some (.int .i64 (k : Int))) := fun w' hb => HSX.out w' (HX2.out.trans (hb.mono HX2.out.size))
  clear c0 c1 c2
  refine wp_region_held_drew (S := fun w' => w'.cell? ⟨w.heap.size, 0, none⟩ = some (.bool neg) ∧ w'.cell? ⟨w.heap.size, 1, none⟩ = some (.string s) ∧ w'.cell? ⟨w.heap.size, 2, none⟩ = some (.int .i64 (k : Int))) (by kernel_rfl) (HSZ.out _ (drewBm w1)) (fun hHeld => ?_)
  have HBX := Lib.hid (drewBm w1)
  replace HB2 := Lib.hid (HB2.out.trans ((drewBm w1).mono HB2.out.size))
  generalize w1.drew = wd at *
  refine take_at 0 (some 23) rfl rfl (by kernel_rfl) (by kernel_rfl) (by kernel_rfl) (fun _ _ _ h => h) (Or.inl ⟨by rfl, fun w hSw => by (obtain ⟨q1, q2, q3⟩ := hSw; go_simp; with_reducible rfl)⟩) hHeld ?_
  simp only [Act.put, List.setIfInBounds_toArray, List.set_cons_zero, List.set_cons_succ]
  refine take_at 1 (some 24) rfl rfl (by kernel_rfl) (by kernel_rfl) (by kernel_rfl) (fun _ _ _ h => h) (Or.inl ⟨by rfl, fun w hSw => by (obtain ⟨q1, q2, q3⟩ := hSw; go_simp; with_reducible rfl)⟩) hHeld ?_
  simp only [Act.put, List.setIfInBounds_toArray, List.set_cons_zero, List.set_cons_succ]
  refine take_at 2 (some 25) rfl rfl (by kernel_rfl) (by kernel_rfl) (by kernel_rfl) (fun _ _ _ h => h) (Or.inl ⟨by rfl, fun w hSw => by (obtain ⟨q1, q2, q3⟩ := hSw; go_simp; with_reducible rfl)⟩) hHeld ?_
  simp only [Act.put, List.setIfInBounds_toArray, List.set_cons_zero, List.set_cons_succ]
  refine take_at 4 (some 27) rfl rfl (by kernel_rfl) (by kernel_rfl) (by kernel_rfl) (fun _ _ _ h => h) (Or.inl ⟨by rfl, fun w hSw => by (obtain ⟨q1, q2, q3⟩ := hSw; go_simp; with_reducible rfl)⟩) hHeld ?_
  simp only [Act.put, List.setIfInBounds_toArray, List.set_cons_zero, List.set_cons_succ]
  refine take_at 5 (some 28) rfl rfl (by kernel_rfl) (by kernel_rfl) (by kernel_rfl) (fun _ _ _ h => h) (Or.inl ⟨by rfl, fun w hSw => by (obtain ⟨q1, q2, q3⟩ := hSw; go_simp; with_reducible rfl)⟩) hHeld ?_
  simp only [Act.put, List.setIfInBounds_toArray, List.set_cons_zero, List.set_cons_succ]
  refine take_at 3 (some 26) rfl rfl (by kernel_rfl) (by kernel_rfl) (by kernel_rfl) (fun _ _ _ h => h) (Or.inl ⟨by rfl, fun w hSw => by (go_simp; first | (rw [if_neg (by omega)]) | with_reducible rfl)⟩) hHeld ?_
  simp only [Act.put, List.setIfInBounds_toArray, List.set_cons_zero, List.set_cons_succ]
  refine wpAnyH_ready (rs := [6]) (by kernel_rfl) (by simp) ?_
  refine AllReadyH.cons rfl (fun K hK => ?_) AllReadyH.nil
  go_simp
  refine (HREP.out _).mono ?_
  rintro e u2 ⟨⟨t2, rfl, ht2⟩, hb2⟩
  have HT2 := Lib.hid ht2
  replace HBX := Lib.hid (HBX.out.trans (hb2.mono HBX.out.size))
  replace HB2 := Lib.hid (HB2.out.trans (hb2.mono HB2.out.size))
  have hs22 : t2.size ≤ 400 := by
    have := L_len t2
    rw [ht2, List.length_replicate] at this
    omega
  clear ht2 hb2 HREP hHeld
  refine hK.out _ _ (HSZ.out _ HBX.out) (fun hHeld => ?_)
  clear hK K
  refine take_at 7 (some 30) rfl rfl (by kernel_rfl) (by kernel_rfl) (by kernel_rfl) (fun _ _ _ h => h) (Or.inl ⟨by rfl, fun w hSw => by (go_simp; first | (rw [if_neg (by omega)]) | with_reducible rfl)⟩) hHeld ?_
  simp only [Act.put, List.setIfInBounds_toArray, List.set_cons_zero, List.set_cons_succ]
  refine take_at 8 (some 2) rfl rfl (by kernel_rfl) (by kernel_rfl) (by kernel_rfl) (fun _ _ _ h => h) (Or.inl ⟨by rfl, fun w hSw => by (obtain ⟨q1, q2, q3⟩ := hSw; go_simp; with_reducible rfl)⟩) hHeld ?_
  simp only [Act.put, List.setIfInBounds_toArray, List.set_cons_zero, List.set_cons_succ]
  refine wpAnyH_done (by kernel_rfl) ?_ _
  clear hHeld
  go_wp2_with fail
  go_ret
  refine ⟨⟨_, rfl, ?_⟩, HB2.out⟩
  rw [HDC.out, HBD.out, Int.toNat_natCast]
  simp only [L_append, HT2.out, List.append_assoc]
theorem RDec2_any (neg : Bool) (s : ByteArray) (e : Int) (w : World) (hv : decB neg (L s) e = true) (hne : L s ≠ []) (h1 : e < 0) (h2 : 1 ≤ (s.size : Int) + e) (h3 : (s.size : Int) + e ≤ 21) :
    Calls Tryz.prog 21 #[.agg #[.bool neg, .string s, .int .i64 e]] w (StrP (decL neg (L s) e) w) := by
  obtain ⟨hs, he1, he2⟩ := dec_yes hv hne
  rw [L_len] at hs
  have hne' : s.toList.isEmpty = false := by rw [Bool.eq_false_iff]; exact fun h => hne (isEh.1 h)
  have hs1 : 1 ≤ s.size := by
    rcases Nat.eq_zero_or_pos s.size with h | h
    · exact absurd (List.length_eq_zero_iff.1 ((L_len s).trans h)) hne
    · exact h
  have HV := Lib.hid (fun w' => decValid_any neg s e w' (by omega))
  rw [hv] at HV
  have HDC : Hid (decL neg (L s) e = L (sgB neg) ++ bodL (L s) e) := by unfold Hid decL; rw [if_neg hne]
  obtain ⟨sg, hsg⟩ : ∃ sg, sg = sgB neg := ⟨_, rfl⟩
  have hsgs : sg.size ≤ 1 := by rw [hsg]; exact sgB_size neg
  rw [← hsg] at HDC
  obtain ⟨P, hP⟩ : ∃ P, (s.size : Int) + e = P := ⟨_, rfl⟩
  have HPP := Lib.hid hP
  have HBD : Hid (bodL (L s) e = (L s).take P.toNat ++ (46 :: (L s).drop P.toNat)) := by
    unfold Hid bodL
    rw [L_len]
    simp only [hP] at *
    exact (if_neg (by omega)).trans (if_pos ⟨h1, h2, h3⟩)
  have a1 : (0 ≤ e) = False := eq_false (by omega)
  have a2 : (e < 0) = True := eq_true h1
  obtain ⟨p, rfl⟩ : ∃ p : Nat, P = (p : Int) := ⟨P.toNat, by omega⟩
  have a3 : (1 ≤ (p : Int)) = True := eq_true (by omega)
  have a4 : ((p : Int) ≤ 21) = True := eq_true (by omega)
  have a5 : (p = 0) = False := eq_false (by omega)
  have hpl : p ≤ s.size := by omega
  rw [Int.toNat_natCast] at HBD
  clear h1 h2 h3
  have HSG := Lib.hid hsg
  clear hv hne hP hsg
  go_enter Tryz.func21, Tryz.ntmps21
  go_upto_region 1 with fail
  generalize hW : World.alloc w _ = w1
  obtain ⟨ha1, -, hz1, hb1⟩ := alloc_of hW
  have HB1 := Lib.hid hb1
  obtain ⟨c0, c1, c2⟩ := row3 ha1
  have hz0 : w.heap.size < w1.heap.size := by omega
  have HSX : Hid (∀ w', Below w1.heap.size w1 w' → w'.cell? ⟨w.heap.size, 0, none⟩ = some (.bool neg) ∧ w'.cell? ⟨w.heap.size, 1, none⟩ = some (.string s) ∧ w'.cell? ⟨w.heap.size, 2, none⟩ = some (.int .i64 e)) := fun w' hb => ⟨(hb.cell (p := ⟨w.heap.size, 0, none⟩) hz0).trans c0, (hb.cell (p := ⟨w.heap.size, 1, none⟩) hz0).trans c1, (hb.cell (p := ⟨w.heap.size, 2, none⟩) hz0).trans c2⟩
  clear hW hb1
  have HX2 := Lib.hid (Below.refl w1.heap.size w1)
  have HB2 := HB1
  clear ha1 hz1 hz0 HV
  go_upto_if 9 with fail
  go_cut [3] (fun v wx => v = .string sg ∧ w1 = wx)
  case first =>
    have hsg := HSG.out
    cases neg
    all_goals
      clear HSG
      go_wp2_with fail
      go_meet
      exact ⟨by rw [hsg]; rfl, rfl⟩
  case rest =>
  obtain ⟨rfl, rfl⟩ := hcut
  clear HSG
  go_upto_region 7 with fail
  rw [HPP.out]
  go_upto_region 10 with fail
  go_quiet (fail)
  go_wp2_with fail
  go_ret
  refine ⟨⟨_, rfl, ?_⟩, HB2.out.trans ((drewNBm _ _).mono HB2.out.size)⟩
  rw [HDC.out, HBD.out]
  simp only [L_append, L_from, L_upto, List.append_assoc]
  rfl
theorem RDec3_any (neg : Bool) (s : ByteArray) (e : Int) (w : World) (hv : decB neg (L s) e = true) (hne : L s ≠ []) (h1 : e < 0) (h2 : -5 ≤ (s.size : Int) + e) (h3 : (s.size : Int) + e ≤ 0) :
    Calls Tryz.prog 21 #[.agg #[.bool neg, .string s, .int .i64 e]] w (StrP (decL neg (L s) e) w) := by
  obtain ⟨hs, he1, he2⟩ := dec_yes hv hne
  rw [L_len] at hs
  have hne' : s.toList.isEmpty = false := by rw [Bool.eq_false_iff]; exact fun h => hne (isEh.1 h)
  have hs1 : 1 ≤ s.size := by
    rcases Nat.eq_zero_or_pos s.size with h | h
    · exact absurd (List.length_eq_zero_iff.1 ((L_len s).trans h)) hne
    · exact h
  have HV := Lib.hid (fun w' => decValid_any neg s e w' (by omega))
  rw [hv] at HV
  have HDC : Hid (decL neg (L s) e = L (sgB neg) ++ bodL (L s) e) := by unfold Hid decL; rw [if_neg hne]
  obtain ⟨sg, hsg⟩ : ∃ sg, sg = sgB neg := ⟨_, rfl⟩
  have hsgs : sg.size ≤ 1 := by rw [hsg]; exact sgB_size neg
  rw [← hsg] at HDC
  obtain ⟨P, hP⟩ : ∃ P, (s.size : Int) + e = P := ⟨_, rfl⟩
  have HPP := Lib.hid hP
  have HBD : Hid (bodL (L s) e = 48 :: 46 :: (List.replicate (-P).toNat 48 ++ L s)) := by
    unfold Hid bodL
    rw [L_len]
    simp only [hP] at *
    exact (if_neg (by omega)).trans ((if_neg (by omega)).trans (if_pos ⟨h2, h3⟩))
  have a1 : (0 ≤ e) = False := eq_false (by omega)
  have a2 : (e < 0) = True := eq_true h1
  have a3 : (1 ≤ P) = False := eq_false (by omega)
  have a4 : (P ≤ 0) = True := eq_true (by omega)
  have a5 : (-5 ≤ P) = True := eq_true (by omega)
  have HPB : Hid (-5 ≤ P) := by unfold Hid; omega
  have HWR : Hid (IntKind.i64.wrap (-P) = -P) := by
    obtain ⟨z, hz⟩ : ∃ z : Nat, -P = (z : Int) := ⟨(-P).toNat, by omega⟩
    unfold Hid
    rw [hz]
    have e1 : (z : Int) % 2 ^ 64 = z := Int.emod_eq_of_lt (by omega) (by omega)
    simp only [IntKind.wrap, IntKind.bits, IntKind.signed, e1]
    rw [if_neg]
    simp
    omega
  have HREP := Lib.hid (fun w' => by have := noughts_any (-P).toNat w' (by omega); rw [Int.toNat_of_nonneg (show 0 ≤ -P by omega)] at this; exact this)
  clear h1 h2 h3
  have HSG := Lib.hid hsg
  clear hv hne hP hsg
  go_enter Tryz.func21, Tryz.ntmps21
  go_upto_region 1 with fail
  generalize hW : World.alloc w _ = w1
  obtain ⟨ha1, -, hz1, hb1⟩ := alloc_of hW
  have HB1 := Lib.hid hb1
  obtain ⟨c0, c1, c2⟩ := row3 ha1
  have hz0 : w.heap.size < w1.heap.size := by omega
  have HSX : Hid (∀ w', Below w1.heap.size w1 w' → w'.cell? ⟨w.heap.size, 0, none⟩ = some (.bool neg) ∧ w'.cell? ⟨w.heap.size, 1, none⟩ = some (.string s) ∧ w'.cell? ⟨w.heap.size, 2, none⟩ = some (.int .i64 e)) := fun w' hb => ⟨(hb.cell (p := ⟨w.heap.size, 0, none⟩) hz0).trans c0, (hb.cell (p := ⟨w.heap.size, 1, none⟩) hz0).trans c1, (hb.cell (p := ⟨w.heap.size, 2, none⟩) hz0).trans c2⟩
  clear hW hb1
  have HX2 := Lib.hid (Below.refl w1.heap.size w1)
  have HB2 := HB1
  clear ha1 hz1 hz0 HV
  go_upto_if 9 with fail
  go_cut [3] (fun v wx => v = .string sg ∧ w1 = wx)
  case first =>
    have hsg := HSG.out
    cases neg
    all_goals
      clear HSG
      go_wp2_with fail
      go_meet
      exact ⟨by rw [hsg]; rfl, rfl⟩
  case rest =>
  obtain ⟨rfl, rfl⟩ := hcut
  clear HSG
  go_upto_region 7 with fail
  rw [HPP.out]
  go_upto_region 12 with fail
  clear a1 a2 a3 a4 a5
  have HSZ : Hid (∀ w', Below w1.heap.size w1 w' → w'.cell? ⟨w.heap.size, 0, none⟩ = some (.bool neg) ∧ w'.cell? ⟨w.heap.size, 1, none⟩ = some (.string s) ∧ w'.cell? ⟨w.heap.size, 2, none⟩ = some (.int .i64 e)) := fun w' hb => HSX.out w' (HX2.out.trans (hb.mono HX2.out.size))
  clear c0 c1 c2
  refine wp_region_held_drew (S := fun w' => w'.cell? ⟨w.heap.size, 0, none⟩ = some (.bool neg) ∧ w'.cell? ⟨w.heap.size, 1, none⟩ = some (.string s) ∧ w'.cell? ⟨w.heap.size, 2, none⟩ = some (.int .i64 e)) (by kernel_rfl) (HSZ.out _ (drewBm w1)) (fun hHeld => ?_)
  have HBX := Lib.hid (drewBm w1)
  replace HB2 := Lib.hid (HB2.out.trans ((drewBm w1).mono HB2.out.size))
  generalize w1.drew = wd at *
  refine take_at 0 (some 60) rfl rfl (by kernel_rfl) (by kernel_rfl) (by kernel_rfl) (fun _ _ _ h => h) (Or.inl ⟨by rfl, fun w hSw => by (obtain ⟨q1, q2, q3⟩ := hSw; go_simp; with_reducible rfl)⟩) hHeld ?_
  simp only [Act.put, List.setIfInBounds_toArray, List.set_cons_zero, List.set_cons_succ]
  refine take_at 2 (some 62) rfl rfl (by kernel_rfl) (by kernel_rfl) (by kernel_rfl) (fun _ _ _ h => h) (Or.inl ⟨by rfl, fun w hSw => by (obtain ⟨q1, q2, q3⟩ := hSw; go_simp; with_reducible rfl)⟩) hHeld ?_
  simp only [Act.put, List.setIfInBounds_toArray, List.set_cons_zero, List.set_cons_succ]
  refine take_at 3 (some 63) rfl rfl (by kernel_rfl) (by kernel_rfl) (by kernel_rfl) (fun _ _ _ h => h) (Or.inl ⟨by rfl, fun w hSw => by (obtain ⟨q1, q2, q3⟩ := hSw; go_simp; with_reducible rfl)⟩) hHeld ?_
  simp only [Act.put, List.setIfInBounds_toArray, List.set_cons_zero, List.set_cons_succ]
  refine take_at 6 (some 66) rfl rfl (by kernel_rfl) (by kernel_rfl) (by kernel_rfl) (fun _ _ _ h => h) (Or.inl ⟨by rfl, fun w hSw => by (obtain ⟨q1, q2, q3⟩ := hSw; go_simp; with_reducible rfl)⟩) hHeld ?_
  simp only [Act.put, List.setIfInBounds_toArray, List.set_cons_zero, List.set_cons_succ]
  refine take_at 7 (some 67) rfl rfl (by kernel_rfl) (by kernel_rfl) (by kernel_rfl) (fun _ _ _ h => h) (Or.inl ⟨by rfl, fun w hSw => by (obtain ⟨q1, q2, q3⟩ := hSw; go_simp; with_reducible rfl)⟩) hHeld ?_
  simp only [Act.put, List.setIfInBounds_toArray, List.set_cons_zero, List.set_cons_succ]
  refine take_at (v := .string (sg ++ ⟨#[48, 46]⟩)) 1 (some 61) rfl rfl (by kernel_rfl) (by kernel_rfl) (by kernel_rfl) (fun _ _ _ h => h) (Or.inl ⟨by rfl, fun w hSw => by (go_simp; omega)⟩) hHeld ?_
  obtain ⟨sg2, hsg2⟩ : ∃ x : ByteArray, sg ++ ⟨#[48, 46]⟩ = x := ⟨_, rfl⟩
  rw [hsg2]
  have HS2 : Hid (L sg2 = L sg ++ [48, 46]) := by unfold Hid; rw [← hsg2, L_append]; rfl
  have hs2z : sg2.size ≤ 3 := by
    have := L_len sg2
    rw [HS2.out, List.length_append, L_len] at this
    simp only [List.length_cons, List.length_nil] at this
    omega
  clear hsg2
  simp only [Act.put, List.setIfInBounds_toArray, List.set_cons_zero, List.set_cons_succ]
  refine wpAnyH_ready (rs := [4]) (by kernel_rfl) (by simp) ?_
  refine AllReadyH.cons rfl (fun K hK => ?_) AllReadyH.nil
  go_simp
  rw [HWR.out]
  refine (HREP.out _).mono ?_
  rintro e u2 ⟨⟨t2, rfl, ht2⟩, hb2⟩
  have HT2 := Lib.hid ht2
  replace HBX := Lib.hid (HBX.out.trans (hb2.mono HBX.out.size))
  replace HB2 := Lib.hid (HB2.out.trans (hb2.mono HB2.out.size))
  have hs22 : t2.size ≤ 400 := by
    have := L_len t2
    rw [ht2, List.length_replicate] at this
    have := HPB.out
    omega
  clear ht2 hb2 HREP hHeld
  refine hK.out _ _ (HSZ.out _ HBX.out) (fun hHeld => ?_)
  clear hK K
  refine take_at 5 (some 65) rfl rfl (by kernel_rfl) (by kernel_rfl) (by kernel_rfl) (fun _ _ _ h => h) (Or.inl ⟨by rfl, fun w hSw => by (go_simp; first | (rw [if_neg (by omega)]) | with_reducible rfl)⟩) hHeld ?_
  simp only [Act.put, List.setIfInBounds_toArray, List.set_cons_zero, List.set_cons_succ]
  refine take_at 8 (some 68) rfl rfl (by kernel_rfl) (by kernel_rfl) (by kernel_rfl) (fun _ _ _ h => h) (Or.inl ⟨by rfl, fun w hSw => by (go_simp; first | (rw [if_neg (by omega)]) | with_reducible rfl)⟩) hHeld ?_
  simp only [Act.put, List.setIfInBounds_toArray, List.set_cons_zero, List.set_cons_succ]
  refine take_at 9 (some 2) rfl rfl (by kernel_rfl) (by kernel_rfl) (by kernel_rfl) (fun _ _ _ h => h) (Or.inl ⟨by rfl, fun w hSw => by (obtain ⟨q1, q2, q3⟩ := hSw; go_simp; with_reducible rfl)⟩) hHeld ?_
  simp only [Act.put, List.setIfInBounds_toArray, List.set_cons_zero, List.set_cons_succ]
  refine wpAnyH_done (by kernel_rfl) ?_ _
  clear hHeld
  go_wp2_with fail
  go_ret
  refine ⟨⟨_, rfl, ?_⟩, HB2.out⟩
  rw [HDC.out, HBD.out]
  simp only [L_append, HS2.out, HT2.out, List.append_assoc]
  rfl
theorem RDec4_any (neg : Bool) (s : ByteArray) (e : Int) (w : World) (hv : decB neg (L s) e = true) (hne : L s ≠ []) (h1 : 0 ≤ e) (h2 : 22 ≤ (s.size : Int) + e) :
    Calls Tryz.prog 21 #[.agg #[.bool neg, .string s, .int .i64 e]] w (StrP (decL neg (L s) e) w) := by
  obtain ⟨hs, he1, he2⟩ := dec_yes hv hne
  rw [L_len] at hs
  have hne' : s.toList.isEmpty = false := by rw [Bool.eq_false_iff]; exact fun h => hne (isEh.1 h)
  have hs1 : 1 ≤ s.size := by
    rcases Nat.eq_zero_or_pos s.size with h | h
    · exact absurd (List.length_eq_zero_iff.1 ((L_len s).trans h)) hne
    · exact h
  have HV := Lib.hid (fun w' => decValid_any neg s e w' (by omega))
  rw [hv] at HV
  have HDC : Hid (decL neg (L s) e = L (sgB neg) ++ bodL (L s) e) := by unfold Hid decL; rw [if_neg hne]
  obtain ⟨sg, hsg⟩ : ∃ sg, sg = sgB neg := ⟨_, rfl⟩
  have hsgs : sg.size ≤ 1 := by rw [hsg]; exact sgB_size neg
  rw [← hsg] at HDC
  obtain ⟨P, hP⟩ : ∃ P, (s.size : Int) + e = P := ⟨_, rfl⟩
  have HPP := Lib.hid hP
  have h3 : e ≥ 0 := by omega
  have HBD : Hid (bodL (L s) e = (L s).take 1 ++ ((if 1 < s.size then 46 :: (L s).drop 1 else []) ++ (101 :: wholeL (P - 1).toNat))) := by
    unfold Hid bodL
    rw [L_len]
    simp only [hP] at *
    refine (if_neg (by omega)).trans ((if_neg (by omega)).trans ((if_neg (by omega)).trans ?_))
    rw [if_neg (show ¬ P < 1 by omega)]
  have a1 : (0 ≤ e) = True := eq_true (by omega)
  have a2 : (e < 0) = False := eq_false (by omega)
  have a3 : (P ≤ 21) = False := eq_false (by omega)
  have a4 : (1 ≤ P) = True := eq_true (by omega)
  have a5 : (-5 ≤ P) = True := eq_true (by omega)
  have a6 : (P ≤ 0) = False := eq_false (by omega)
  have a7 : (P < 1) = False := eq_false (by omega)
  have HPB : Hid (22 ≤ P ∧ P ≤ 600) := by unfold Hid; omega
  have HWP : Hid (wrap64 (P - 1) = P - 1) := by unfold Hid wrap64; omega
  have HWH := Lib.hid (fun w' => numR_any (P - 1) w' (by omega) (by omega))
  clear h1 h2 h3
  have HSG := Lib.hid hsg
  clear hv hne hP hsg
  go_enter Tryz.func21, Tryz.ntmps21
  go_upto_region 1 with fail
  generalize hW : World.alloc w _ = w1
  obtain ⟨ha1, -, hz1, hb1⟩ := alloc_of hW
  have HB1 := Lib.hid hb1
  obtain ⟨c0, c1, c2⟩ := row3 ha1
  have hz0 : w.heap.size < w1.heap.size := by omega
  have HSX : Hid (∀ w', Below w1.heap.size w1 w' → w'.cell? ⟨w.heap.size, 0, none⟩ = some (.bool neg) ∧ w'.cell? ⟨w.heap.size, 1, none⟩ = some (.string s) ∧ w'.cell? ⟨w.heap.size, 2, none⟩ = some (.int .i64 e)) := fun w' hb => ⟨(hb.cell (p := ⟨w.heap.size, 0, none⟩) hz0).trans c0, (hb.cell (p := ⟨w.heap.size, 1, none⟩) hz0).trans c1, (hb.cell (p := ⟨w.heap.size, 2, none⟩) hz0).trans c2⟩
  clear hW hb1
  have HX2 := Lib.hid (Below.refl w1.heap.size w1)
  have HB2 := HB1
  clear ha1 hz1 hz0 HV
  go_upto_if 9 with fail
  go_cut [3] (fun v wx => v = .string sg ∧ w1 = wx)
  case first =>
    have hsg := HSG.out
    cases neg
    all_goals
      clear HSG
      go_wp2_with fail
      go_meet
      exact ⟨by rw [hsg]; rfl, rfl⟩
  case rest =>
  obtain ⟨rfl, rfl⟩ := hcut
  clear HSG
  go_upto_region 7 with fail
  rw [HPP.out]
  go_upto_if 77 with fail
  go_cut [3] (fun v wx => StrAt (L sg ++ ((L s).take 1 ++ (if 1 < s.size then 46 :: (L s).drop 1 else []))) v ∧ w1 = wx)
  case first =>
    by_cases hn : 1 < s.size
    · have hni : (1 < (s.size : Int)) = True := eq_true (by omega)
      go_wp2_with fail
      go_meet
      refine ⟨⟨_, rfl, ?_⟩, rfl⟩
      rw [if_pos hn]
      simp only [L_append, L_from, L_upto, List.append_assoc]
      rfl
    · have hni : (1 < (s.size : Int)) = False := eq_false (by omega)
      go_wp2_with fail
      go_meet
      refine ⟨⟨_, rfl, ?_⟩, rfl⟩
      rw [if_neg hn]
      simp only [L_append, L_upto, List.append_nil]
  case rest =>
  obtain ⟨⟨sm, rfl, hsm⟩, rfl⟩ := hcut
  have HSM := Lib.hid hsm
  have hsz : sm.size ≤ 200 := by
    have := L_len sm
    rw [hsm] at this
    have h1 : ((L s).take 1).length ≤ 1 := by simp only [List.length_take]; omega
    have h2 : (if 1 < s.size then 46 :: (L s).drop 1 else []).length ≤ 121 := by
      split
      · simp only [List.length_cons, List.length_drop, L_len]; omega
      · simp
    simp only [List.length_append, L_len] at this
    omega
  clear hsm
  go_wp2_with fail
  rw [HWP.out]
  refine (HWH.out _).mono ?_
  rintro e w4 ⟨⟨t2, rfl, ht2⟩, hb2⟩
  have HT2 := Lib.hid ht2
  have HB4 := Lib.hid (HB2.out.trans (hb2.mono HB2.out.size))
  have hs22 : t2.size ≤ 100 := by
    have h0 := L_len t2
    rw [ht2] at h0
    have h1 := HPB.out
    have h2 := numbL_len (P - 1) (by omega) (by omega)
    omega
  clear ht2 hb2 HWH
  go_wp2_with fail
  go_ret
  refine ⟨⟨_, rfl, ?_⟩, HB4.out⟩
  rw [HDC.out, HBD.out]
  simp only [L_append, HSM.out, HT2.out, List.append_assoc]
  rw [numb_pos (by have := HPB.out; omega)]
  rfl
theorem RDec5_any (neg : Bool) (s : ByteArray) (e : Int) (w : World) (hv : decB neg (L s) e = true) (hne : L s ≠ []) (h2 : (s.size : Int) + e ≤ -6) :
    Calls Tryz.prog 21 #[.agg #[.bool neg, .string s, .int .i64 e]] w (StrP (decL neg (L s) e) w) := by
  obtain ⟨hs, he1, he2⟩ := dec_yes hv hne
  rw [L_len] at hs
  have hne' : s.toList.isEmpty = false := by rw [Bool.eq_false_iff]; exact fun h => hne (isEh.1 h)
  have hs1 : 1 ≤ s.size := by
    rcases Nat.eq_zero_or_pos s.size with h | h
    · exact absurd (List.length_eq_zero_iff.1 ((L_len s).trans h)) hne
    · exact h
  have HV := Lib.hid (fun w' => decValid_any neg s e w' (by omega))
  rw [hv] at HV
  have HDC : Hid (decL neg (L s) e = L (sgB neg) ++ bodL (L s) e) := by unfold Hid decL; rw [if_neg hne]
  obtain ⟨sg, hsg⟩ : ∃ sg, sg = sgB neg := ⟨_, rfl⟩
  have hsgs : sg.size ≤ 1 := by rw [hsg]; exact sgB_size neg
  rw [← hsg] at HDC
  obtain ⟨P, hP⟩ : ∃ P, (s.size : Int) + e = P := ⟨_, rfl⟩
  have HPP := Lib.hid hP
  have h3 : e < 0 := by omega
  have HBD : Hid (bodL (L s) e = (L s).take 1 ++ ((if 1 < s.size then 46 :: (L s).drop 1 else []) ++ (101 :: 45 :: wholeL (1 - P).toNat))) := by
    unfold Hid bodL
    rw [L_len]
    simp only [hP] at *
    refine (if_neg (by omega)).trans ((if_neg (by omega)).trans ((if_neg (by omega)).trans ?_))
    rw [if_pos (show P < 1 by omega)]
  have a1 : (0 ≤ e) = False := eq_false (by omega)
  have a2 : (e < 0) = True := eq_true (by omega)
  have a3 : (P ≤ 21) = True := eq_true (by omega)
  have a4 : (1 ≤ P) = False := eq_false (by omega)
  have a5 : (-5 ≤ P) = False := eq_false (by omega)
  have a6 : (P ≤ 0) = True := eq_true (by omega)
  have a7 : (P < 1) = True := eq_true (by omega)
  have HPB : Hid (-600 ≤ P ∧ P ≤ -6) := by unfold Hid; omega
  have HWP : Hid (wrap64 (P - 1) = P - 1) := by unfold Hid wrap64; omega
  have HWH := Lib.hid (fun w' => numR_any (P - 1) w' (by omega) (by omega))
  clear h2 h3
  have HSG := Lib.hid hsg
  clear hv hne hP hsg
  go_enter Tryz.func21, Tryz.ntmps21
  go_upto_region 1 with fail
  generalize hW : World.alloc w _ = w1
  obtain ⟨ha1, -, hz1, hb1⟩ := alloc_of hW
  have HB1 := Lib.hid hb1
  obtain ⟨c0, c1, c2⟩ := row3 ha1
  have hz0 : w.heap.size < w1.heap.size := by omega
  have HSX : Hid (∀ w', Below w1.heap.size w1 w' → w'.cell? ⟨w.heap.size, 0, none⟩ = some (.bool neg) ∧ w'.cell? ⟨w.heap.size, 1, none⟩ = some (.string s) ∧ w'.cell? ⟨w.heap.size, 2, none⟩ = some (.int .i64 e)) := fun w' hb => ⟨(hb.cell (p := ⟨w.heap.size, 0, none⟩) hz0).trans c0, (hb.cell (p := ⟨w.heap.size, 1, none⟩) hz0).trans c1, (hb.cell (p := ⟨w.heap.size, 2, none⟩) hz0).trans c2⟩
  clear hW hb1
  have HX2 := Lib.hid (Below.refl w1.heap.size w1)
  have HB2 := HB1
  clear ha1 hz1 hz0 HV
  go_upto_if 9 with fail
  go_cut [3] (fun v wx => v = .string sg ∧ w1 = wx)
  case first =>
    have hsg := HSG.out
    cases neg
    all_goals
      clear HSG
      go_wp2_with fail
      go_meet
      exact ⟨by rw [hsg]; rfl, rfl⟩
  case rest =>
  obtain ⟨rfl, rfl⟩ := hcut
  clear HSG
  go_upto_region 7 with fail
  rw [HPP.out]
  go_upto_if 77 with fail
  go_cut [3] (fun v wx => StrAt (L sg ++ ((L s).take 1 ++ (if 1 < s.size then 46 :: (L s).drop 1 else []))) v ∧ w1 = wx)
  case first =>
    by_cases hn : 1 < s.size
    · have hni : (1 < (s.size : Int)) = True := eq_true (by omega)
      go_wp2_with fail
      go_meet
      refine ⟨⟨_, rfl, ?_⟩, rfl⟩
      rw [if_pos hn]
      simp only [L_append, L_from, L_upto, List.append_assoc]
      rfl
    · have hni : (1 < (s.size : Int)) = False := eq_false (by omega)
      go_wp2_with fail
      go_meet
      refine ⟨⟨_, rfl, ?_⟩, rfl⟩
      rw [if_neg hn]
      simp only [L_append, L_upto, List.append_nil]
  case rest =>
  obtain ⟨⟨sm, rfl, hsm⟩, rfl⟩ := hcut
  have HSM := Lib.hid hsm
  have hsz : sm.size ≤ 200 := by
    have := L_len sm
    rw [hsm] at this
    have h1 : ((L s).take 1).length ≤ 1 := by simp only [List.length_take]; omega
    have h2 : (if 1 < s.size then 46 :: (L s).drop 1 else []).length ≤ 121 := by
      split
      · simp only [List.length_cons, List.length_drop, L_len]; omega
      · simp
    simp only [List.length_append, L_len] at this
    omega
  clear hsm
  go_wp2_with fail
  rw [HWP.out]
  refine (HWH.out _).mono ?_
  rintro e w4 ⟨⟨t2, rfl, ht2⟩, hb2⟩
  have HT2 := Lib.hid ht2
  have HB4 := Lib.hid (HB2.out.trans (hb2.mono HB2.out.size))
  have hs22 : t2.size ≤ 100 := by
    have h0 := L_len t2
    rw [ht2] at h0
    have h1 := HPB.out
    have h2 := numbL_len (P - 1) (by omega) (by omega)
    omega
  clear ht2 hb2 HWH
  go_wp2_with fail
  go_ret
  refine ⟨⟨_, rfl, ?_⟩, HB4.out⟩
  rw [HDC.out, HBD.out]
  simp only [L_append, HSM.out, HT2.out, List.append_assoc]
  rw [numb_neg (by have := HPB.out; omega), show -(P - 1) = 1 - P by omega]
  rfl
theorem RDec6_any (neg : Bool) (s : ByteArray) (e : Int) (w : World) (hv : decB neg (L s) e = true) (hne : L s ≠ []) (h1 : e < 0) (h2 : 22 ≤ (s.size : Int) + e) :
    Calls Tryz.prog 21 #[.agg #[.bool neg, .string s, .int .i64 e]] w (StrP (decL neg (L s) e) w) := by
  obtain ⟨hs, he1, he2⟩ := dec_yes hv hne
  rw [L_len] at hs
  have hne' : s.toList.isEmpty = false := by rw [Bool.eq_false_iff]; exact fun h => hne (isEh.1 h)
  have hs1 : 1 ≤ s.size := by
    rcases Nat.eq_zero_or_pos s.size with h | h
    · exact absurd (List.length_eq_zero_iff.1 ((L_len s).trans h)) hne
    · exact h
  have HV := Lib.hid (fun w' => decValid_any neg s e w' (by omega))
  rw [hv] at HV
  have HDC : Hid (decL neg (L s) e = L (sgB neg) ++ bodL (L s) e) := by unfold Hid decL; rw [if_neg hne]
  obtain ⟨sg, hsg⟩ : ∃ sg, sg = sgB neg := ⟨_, rfl⟩
  have hsgs : sg.size ≤ 1 := by rw [hsg]; exact sgB_size neg
  rw [← hsg] at HDC
  obtain ⟨P, hP⟩ : ∃ P, (s.size : Int) + e = P := ⟨_, rfl⟩
  have HPP := Lib.hid hP
  have h3 : e < 0 := by omega
  have HBD : Hid (bodL (L s) e = (L s).take 1 ++ ((if 1 < s.size then 46 :: (L s).drop 1 else []) ++ (101 :: wholeL (P - 1).toNat))) := by
    unfold Hid bodL
    rw [L_len]
    simp only [hP] at *
    refine (if_neg (by omega)).trans ((if_neg (by omega)).trans ((if_neg (by omega)).trans ?_))
    rw [if_neg (show ¬ P < 1 by omega)]
  have a1 : (0 ≤ e) = False := eq_false (by omega)
  have a2 : (e < 0) = True := eq_true (by omega)
  have a3 : (P ≤ 21) = False := eq_false (by omega)
  have a4 : (1 ≤ P) = True := eq_true (by omega)
  have a5 : (-5 ≤ P) = True := eq_true (by omega)
  have a6 : (P ≤ 0) = False := eq_false (by omega)
  have a7 : (P < 1) = False := eq_false (by omega)
  have HPB : Hid (22 ≤ P ∧ P ≤ 600) := by unfold Hid; omega
  have HWP : Hid (wrap64 (P - 1) = P - 1) := by unfold Hid wrap64; omega
  have HWH := Lib.hid (fun w' => numR_any (P - 1) w' (by omega) (by omega))
  clear h1 h2 h3
  have HSG := Lib.hid hsg
  clear hv hne hP hsg
  go_enter Tryz.func21, Tryz.ntmps21
  go_upto_region 1 with fail
  generalize hW : World.alloc w _ = w1
  obtain ⟨ha1, -, hz1, hb1⟩ := alloc_of hW
  have HB1 := Lib.hid hb1
  obtain ⟨c0, c1, c2⟩ := row3 ha1
  have hz0 : w.heap.size < w1.heap.size := by omega
  have HSX : Hid (∀ w', Below w1.heap.size w1 w' → w'.cell? ⟨w.heap.size, 0, none⟩ = some (.bool neg) ∧ w'.cell? ⟨w.heap.size, 1, none⟩ = some (.string s) ∧ w'.cell? ⟨w.heap.size, 2, none⟩ = some (.int .i64 e)) := fun w' hb => ⟨(hb.cell (p := ⟨w.heap.size, 0, none⟩) hz0).trans c0, (hb.cell (p := ⟨w.heap.size, 1, none⟩) hz0).trans c1, (hb.cell (p := ⟨w.heap.size, 2, none⟩) hz0).trans c2⟩
  clear hW hb1
  have HX2 := Lib.hid (Below.refl w1.heap.size w1)
  have HB2 := HB1
  clear ha1 hz1 hz0 HV
  go_upto_if 9 with fail
  go_cut [3] (fun v wx => v = .string sg ∧ w1 = wx)
  case first =>
    have hsg := HSG.out
    cases neg
    all_goals
      clear HSG
      go_wp2_with fail
      go_meet
      exact ⟨by rw [hsg]; rfl, rfl⟩
  case rest =>
  obtain ⟨rfl, rfl⟩ := hcut
  clear HSG
  go_upto_region 7 with fail
  rw [HPP.out]
  go_upto_if 77 with fail
  go_cut [3] (fun v wx => StrAt (L sg ++ ((L s).take 1 ++ (if 1 < s.size then 46 :: (L s).drop 1 else []))) v ∧ w1 = wx)
  case first =>
    by_cases hn : 1 < s.size
    · have hni : (1 < (s.size : Int)) = True := eq_true (by omega)
      go_wp2_with fail
      go_meet
      refine ⟨⟨_, rfl, ?_⟩, rfl⟩
      rw [if_pos hn]
      simp only [L_append, L_from, L_upto, List.append_assoc]
      rfl
    · have hni : (1 < (s.size : Int)) = False := eq_false (by omega)
      go_wp2_with fail
      go_meet
      refine ⟨⟨_, rfl, ?_⟩, rfl⟩
      rw [if_neg hn]
      simp only [L_append, L_upto, List.append_nil]
  case rest =>
  obtain ⟨⟨sm, rfl, hsm⟩, rfl⟩ := hcut
  have HSM := Lib.hid hsm
  have hsz : sm.size ≤ 200 := by
    have := L_len sm
    rw [hsm] at this
    have h1 : ((L s).take 1).length ≤ 1 := by simp only [List.length_take]; omega
    have h2 : (if 1 < s.size then 46 :: (L s).drop 1 else []).length ≤ 121 := by
      split
      · simp only [List.length_cons, List.length_drop, L_len]; omega
      · simp
    simp only [List.length_append, L_len] at this
    omega
  clear hsm
  go_wp2_with fail
  rw [HWP.out]
  refine (HWH.out _).mono ?_
  rintro e w4 ⟨⟨t2, rfl, ht2⟩, hb2⟩
  have HT2 := Lib.hid ht2
  have HB4 := Lib.hid (HB2.out.trans (hb2.mono HB2.out.size))
  have hs22 : t2.size ≤ 100 := by
    have h0 := L_len t2
    rw [ht2] at h0
    have h1 := HPB.out
    have h2 := numbL_len (P - 1) (by omega) (by omega)
    omega
  clear ht2 hb2 HWH
  go_wp2_with fail
  go_ret
  refine ⟨⟨_, rfl, ?_⟩, HB4.out⟩
  rw [HDC.out, HBD.out]
  simp only [L_append, HSM.out, HT2.out, List.append_assoc]
  rw [numb_pos (by have := HPB.out; omega)]
  rfl
theorem DDec0_any (neg : Bool) (e : Int) (w : World) :
    Calls Tryz.prog 16 #[.agg #[.bool neg, .string ⟨#[]⟩, .int .i64 e]] w (StrP (decL neg (L ⟨#[]⟩) e) w) := by
  go_enter Tryz.func16, Tryz.ntmps16
  go_wp2_with fail
  go_ret
  exact ⟨⟨_, rfl, rfl⟩, (Below.refl _ _).alloc (Nat.le_refl _) _⟩
theorem DDec_any (neg : Bool) (s : ByteArray) (e : Int) (w : World) (hv : decB neg (L s) e = true) :
    Calls Tryz.prog 16 #[.agg #[.bool neg, .string s, .int .i64 e]] w (StrP (decL neg (L s) e) w) := by
  by_cases hne : L s = []
  · obtain rfl : s = ⟨#[]⟩ := L_inj hne
    exact DDec0_any neg e w
  have hp : 1 ≤ s.size := by
    rcases Nat.eq_zero_or_pos s.size with h | h
    · exact absurd (List.length_eq_zero_iff.1 ((L_len s).trans h)) hne
    · exact h
  by_cases h0 : 0 ≤ e
  · by_cases h1 : (s.size : Int) + e ≤ 21
    · exact DDec1_any neg s e w hv hne h0 h1
    · exact DDec4_any neg s e w hv hne h0 (by omega)
  by_cases h1 : (s.size : Int) + e ≤ -6
  · exact DDec5_any neg s e w hv hne h1
  by_cases h2 : (s.size : Int) + e ≤ 0
  · exact DDec3_any neg s e w hv hne (by omega) (by omega) h2
  by_cases h3 : (s.size : Int) + e ≤ 21
  · exact DDec2_any neg s e w hv hne (by omega) (by omega) h3
  · exact DDec6_any neg s e w hv hne (by omega) (by omega)
theorem RDec0_any (neg : Bool) (e : Int) (w : World) :
    Calls Tryz.prog 21 #[.agg #[.bool neg, .string ⟨#[]⟩, .int .i64 e]] w (StrP (decL neg (L ⟨#[]⟩) e) w) := by
  go_enter Tryz.func21, Tryz.ntmps21
  go_wp2_with fail
  go_ret
  exact ⟨⟨_, rfl, rfl⟩, (Below.refl _ _).alloc (Nat.le_refl _) _⟩
theorem RDec_any (neg : Bool) (s : ByteArray) (e : Int) (w : World) (hv : decB neg (L s) e = true) :
    Calls Tryz.prog 21 #[.agg #[.bool neg, .string s, .int .i64 e]] w (StrP (decL neg (L s) e) w) := by
  by_cases hne : L s = []
  · obtain rfl : s = ⟨#[]⟩ := L_inj hne
    exact RDec0_any neg e w
  have hp : 1 ≤ s.size := by
    rcases Nat.eq_zero_or_pos s.size with h | h
    · exact absurd (List.length_eq_zero_iff.1 ((L_len s).trans h)) hne
    · exact h
  by_cases h0 : 0 ≤ e
  · by_cases h1 : (s.size : Int) + e ≤ 21
    · exact RDec1_any neg s e w hv hne h0 h1
    · exact RDec4_any neg s e w hv hne h0 (by omega)
  by_cases h1 : (s.size : Int) + e ≤ -6
  · exact RDec5_any neg s e w hv hne h1
  by_cases h2 : (s.size : Int) + e ≤ 0
  · exact RDec3_any neg s e w hv hne (by omega) (by omega) h2
  by_cases h3 : (s.size : Int) + e ≤ 21
  · exact RDec2_any neg s e w hv hne (by omega) (by omega) h3
  · exact RDec6_any neg s e w hv hne (by omega) (by omega)
end Go.Proofs.YtlnpfpjncnkekaaGreatDoor

namespace Go.Proofs.YtlnpfpjncnkekaaGreatDoor
open Go.RowKit
set_option maxHeartbeats 4000000
set_option maxRecDepth 100000

/-- The text and the error that a call hands back. -/
def ShP (t : List UInt8) (n : Int) (w : World) (e : Ending) (w' : World) : Prop := (∃ u, e = .returned (.tuple #[.string u, .int .i64 n]) ∧ L u = t) ∧ Below w.heap.size w w'
theorem encP_len (l : List UInt8) : (encP l).length ≤ 2 * l.length + 8 := by
  unfold encP
  rw [List.length_append, List.length_map, encD_len, List.length_replicate]
  have : padN l.length ≤ 3 := by unfold padN; omega
  omega
theorem MText_any (k d n o : Int) (w : World) (hv : timeB k d n o = true) :
    Calls Tryz.prog 17 #[.agg #[.int .i64 k, .int .i64 d, .int .i64 n, .int .i64 o]] w fun e w' => ∃ y m dd, DateIs d.toNat y m dd ∧ StrP (tmL k y m dd n.toNat o) w e w' := by
  obtain ⟨h1, h2, h3, -, h5, -, -⟩ := timeB_yes _ _ _ _ hv
  obtain ⟨d, rfl⟩ : ∃ a : Nat, d = (a : Int) := ⟨d.toNat, by omega⟩
  obtain ⟨n, rfl⟩ : ∃ a : Nat, n = (a : Int) := ⟨n.toNat, by omega⟩
  rw [Int.toNat_natCast, Int.toNat_natCast]
  rcases (by omega : k = 1 ∨ k = 2 ∨ k = 3 ∨ k = 4) with rfl | rfl | rfl | rfl
  · exact MText1_any d n o w hv
  · exact MText2_any d n o w hv
  · exact MText3_any d n o w hv
  · exact MText4_any d n o w hv
theorem RText_any (k d n o : Int) (w : World) (hv : timeB k d n o = true) :
    Calls Tryz.prog 22 #[.agg #[.int .i64 k, .int .i64 d, .int .i64 n, .int .i64 o]] w fun e w' => ∃ y m dd, DateIs d.toNat y m dd ∧ StrP (tmL k y m dd n.toNat o) w e w' := by
  obtain ⟨h1, h2, h3, -, h5, -, -⟩ := timeB_yes _ _ _ _ hv
  obtain ⟨d, rfl⟩ : ∃ a : Nat, d = (a : Int) := ⟨d.toNat, by omega⟩
  obtain ⟨n, rfl⟩ : ∃ a : Nat, n = (a : Int) := ⟨n.toNat, by omega⟩
  rw [Int.toNat_natCast, Int.toNat_natCast]
  rcases (by omega : k = 1 ∨ k = 2 ∨ k = 3 ∨ k = 4) with rfl | rfl | rfl | rfl
  · exact RText1_any d n o w hv
  · exact RText2_any d n o w hv
  · exact RText3_any d n o w hv
  · exact RText4_any d n o w hv

theorem IShow0 (bl ng : Bool) (ds : ByteArray) (ex tk dy na ofs : Int) (tx : ByteArray) (a1 a2 a3 : Option Addr) (n1 m1 n2 m2 n3 m3 : Nat) (w : World) :
    Calls Tryz.prog 8 #[.agg #[.int .i64 0, .bool bl, .bool ng, .string ds, .int .i64 ex, .int .i64 tk, .int .i64 dy, .int .i64 na, .int .i64 ofs, .string tx, .slice a1 n1 m1, .slice a2 n2 m2, .slice a3 n3 m3]] w (ShP [110, 117, 108, 108] 0 w) := by
  go_enter Tryz.func8, Tryz.ntmps8
  go_upto_region 1 with fail
  generalize hW : World.alloc w _ = w1
  obtain ⟨ha1, -, hz1, hb1⟩ := alloc_of hW
  have HB1 := Lib.hid hb1
  obtain ⟨c0, c1, c2, c3, c4, c5, c6, c7, c8, c9, ca, cb, cc⟩ := row13 ha1
  have HX := Lib.hid ha1
  have HZ : Hid (w.heap.size < w1.heap.size) := by unfold Hid; omega
  clear hW hb1 ha1 hz1
  go_wp2_with fail
  go_ret2
  exact ⟨⟨_, rfl, rfl⟩, HB1.out⟩
theorem IShow1 (bl ng : Bool) (ds : ByteArray) (ex tk dy na ofs : Int) (tx : ByteArray) (a1 a2 a3 : Option Addr) (n1 m1 n2 m2 n3 m3 : Nat) (w : World) :
    Calls Tryz.prog 8 #[.agg #[.int .i64 1, .bool bl, .bool ng, .string ds, .int .i64 ex, .int .i64 tk, .int .i64 dy, .int .i64 na, .int .i64 ofs, .string tx, .slice a1 n1 m1, .slice a2 n2 m2, .slice a3 n3 m3]] w (ShP (if bl then [116, 114, 117, 101] else [102, 97, 108, 115, 101]) 0 w) := by
  cases bl
  all_goals
    go_enter Tryz.func8, Tryz.ntmps8
    go_upto_region 1 with fail
    generalize hW : World.alloc w _ = w1
    obtain ⟨ha1, -, hz1, hb1⟩ := alloc_of hW
    have HB1 := Lib.hid hb1
    obtain ⟨c0, c1, c2, c3, c4, c5, c6, c7, c8, c9, ca, cb, cc⟩ := row13 ha1
    have HX := Lib.hid ha1
    have HZ : Hid (w.heap.size < w1.heap.size) := by unfold Hid; omega
    clear hW hb1 ha1 hz1
    go_wp2_with fail
    go_ret2
    exact ⟨⟨_, rfl, rfl⟩, HB1.out⟩
theorem IShow2 (bl ng : Bool) (ds : ByteArray) (ex tk dy na ofs : Int) (tx : ByteArray) (a1 a2 a3 : Option Addr) (n1 m1 n2 m2 n3 m3 : Nat) (w : World) (hv : decB ng (L ds) ex = true) :
    Calls Tryz.prog 8 #[.agg #[.int .i64 2, .bool bl, .bool ng, .string ds, .int .i64 ex, .int .i64 tk, .int .i64 dy, .int .i64 na, .int .i64 ofs, .string tx, .slice a1 n1 m1, .slice a2 n2 m2, .slice a3 n3 m3]] w (ShP (decL ng (L ds) ex) 0 w) := by
  have HC := Lib.hid (fun w' => DDec_any ng ds ex w' hv)
  clear hv
  generalize decL ng (L ds) ex = t at *
  go_enter Tryz.func8, Tryz.ntmps8
  go_upto_region 1 with fail
  generalize hW : World.alloc w _ = w1
  obtain ⟨ha1, -, hz1, hb1⟩ := alloc_of hW
  have HB1 := Lib.hid hb1
  obtain ⟨c0, c1, c2, c3, c4, c5, c6, c7, c8, c9, ca, cb, cc⟩ := row13 ha1
  have HX := Lib.hid ha1
  have HZ : Hid (w.heap.size < w1.heap.size) := by unfold Hid; omega
  clear hW hb1 ha1 hz1
  go_wp2_with fail
  refine (HC.out _).mono ?_
  rintro e w2 ⟨⟨u, rfl, hu⟩, hb⟩
  have HU := Lib.hid hu
  have HB2 := Lib.hid (HB1.out.trans (hb.mono HB1.out.size))
  clear hu hb HC
  go_wp2_with fail
  go_ret2
  exact ⟨⟨_, rfl, HU.out⟩, HB2.out⟩
theorem IShow3 (bl ng : Bool) (ds : ByteArray) (ex tk dy na ofs : Int) (tx : ByteArray) (a1 a2 a3 : Option Addr) (n1 m1 n2 m2 n3 m3 : Nat) (w : World) (hv : timeB tk dy na ofs = true) :
    Calls Tryz.prog 8 #[.agg #[.int .i64 3, .bool bl, .bool ng, .string ds, .int .i64 ex, .int .i64 tk, .int .i64 dy, .int .i64 na, .int .i64 ofs, .string tx, .slice a1 n1 m1, .slice a2 n2 m2, .slice a3 n3 m3]] w fun e w' => ∃ y m dd, DateIs dy.toNat y m dd ∧ ShP (tmL tk y m dd na.toNat ofs) 0 w e w' := by
  have HC := Lib.hid (fun w' => MText_any tk dy na ofs w' hv)
  clear hv
  go_enter Tryz.func8, Tryz.ntmps8
  go_upto_region 1 with fail
  generalize hW : World.alloc w _ = w1
  obtain ⟨ha1, -, hz1, hb1⟩ := alloc_of hW
  have HB1 := Lib.hid hb1
  obtain ⟨c0, c1, c2, c3, c4, c5, c6, c7, c8, c9, ca, cb, cc⟩ := row13 ha1
  have HX := Lib.hid ha1
  have HZ : Hid (w.heap.size < w1.heap.size) := by unfold Hid; omega
  clear hW hb1 ha1 hz1
  go_wp2_with fail
  refine (HC.out _).mono ?_
  rintro e w2 ⟨y, m, dd, hd, ⟨u, rfl, hu⟩, hb⟩
  have HD := Lib.hid hd
  have HU := Lib.hid hu
  have HB2 := Lib.hid (HB1.out.trans (hb.mono HB1.out.size))
  clear hu hb hd HC
  go_wp2_with fail
  go_ret2
  exact ⟨y, m, dd, HD.out, ⟨_, rfl, HU.out⟩, HB2.out⟩
theorem IShow4 (bl ng : Bool) (ds : ByteArray) (ex tk dy na ofs : Int) (tx : ByteArray) (a1 a2 a3 : Option Addr) (n1 m1 n2 m2 n3 m3 : Nat) (w : World) (hs : tx.size ≤ 2000) :
    Calls Tryz.prog 8 #[.agg #[.int .i64 4, .bool bl, .bool ng, .string ds, .int .i64 ex, .int .i64 tk, .int .i64 dy, .int .i64 na, .int .i64 ofs, .string tx, .slice a1 n1 m1, .slice a2 n2 m2, .slice a3 n3 m3]] w (ShP (if plS tx then L tx else (quoR (L tx)).1) (if plS tx then 0 else (quoR (L tx)).2) w) := by
  have HP := Lib.hid (fun w' => Plain_any tx w' (by omega))
  have HQ := Lib.hid (fun w' => QuoteI_any tx w' (by omega))
  generalize plS tx = p at *
  generalize quoR (L tx) = q at *
  obtain ⟨x, n⟩ := q
  dsimp only at HQ
  cases p
  · go_enter Tryz.func8, Tryz.ntmps8
    go_upto_region 1 with fail
    generalize hW : World.alloc w _ = w1
    obtain ⟨ha1, -, hz1, hb1⟩ := alloc_of hW
    have HB1 := Lib.hid hb1
    obtain ⟨c0, c1, c2, c3, c4, c5, c6, c7, c8, c9, ca, cb, cc⟩ := row13 ha1
    have HX := Lib.hid ha1
    have HZ : Hid (w.heap.size < w1.heap.size) := by unfold Hid; omega
    clear hW hb1 ha1 hz1
    go_wp2_with fail
    refine (HP.out _).mono ?_
    rintro e w2 ⟨rfl, hb⟩
    have HB2 := Lib.hid (HB1.out.trans (hb.mono HB1.out.size))
    clear c0 c1 c2 c3 c4 c5 c6 c7 c8 c9 ca cb cc HP
    obtain ⟨c0, c1, c2, c3, c4, c5, c6, c7, c8, c9, ca, cb, cc⟩ := row13 ((hb.block _ HZ.out).trans HX.out)
    clear hb
    go_wp2_with fail
    refine (HQ.out _).mono ?_
    rintro e w3 ⟨rfl, hb⟩
    have HB3 := Lib.hid (HB2.out.trans (hb.mono HB2.out.size))
    clear hb HQ
    go_wp2_with fail
    go_ret2
    exact ⟨⟨_, rfl, by rw [L_mk]⟩, HB3.out⟩
  · go_enter Tryz.func8, Tryz.ntmps8
    go_upto_region 1 with fail
    generalize hW : World.alloc w _ = w1
    obtain ⟨ha1, -, hz1, hb1⟩ := alloc_of hW
    have HB1 := Lib.hid hb1
    obtain ⟨c0, c1, c2, c3, c4, c5, c6, c7, c8, c9, ca, cb, cc⟩ := row13 ha1
    have HX := Lib.hid ha1
    have HZ : Hid (w.heap.size < w1.heap.size) := by unfold Hid; omega
    clear hW hb1 ha1 hz1
    go_wp2_with fail
    refine (HP.out _).mono ?_
    rintro e w2 ⟨rfl, hb⟩
    have HB2 := Lib.hid (HB1.out.trans (hb.mono HB1.out.size))
    clear c0 c1 c2 c3 c4 c5 c6 c7 c8 c9 ca cb cc HP
    obtain ⟨c0, c1, c2, c3, c4, c5, c6, c7, c8, c9, ca, cb, cc⟩ := row13 ((hb.block _ HZ.out).trans HX.out)
    clear hb
    go_wp2_with fail
    go_ret2
    exact ⟨⟨_, rfl, rfl⟩, HB2.out⟩
theorem IShow5 (bl ng : Bool) (ds : ByteArray) (ex tk dy na ofs : Int) (tx : ByteArray) (a1 a2 a3 : Option Addr) (n1 m1 n2 m2 n3 m3 : Nat) (w : World) (l : List UInt8) (hl : l.length ≤ 2000) (hn : n1 = l.length) (hr : RdB w (.slice a1 n1 m1) l) :
    Calls Tryz.prog 8 #[.agg #[.int .i64 5, .bool bl, .bool ng, .string ds, .int .i64 ex, .int .i64 tk, .int .i64 dy, .int .i64 na, .int .i64 ofs, .string tx, .slice a1 n1 m1, .slice a2 n2 m2, .slice a3 n3 m3]] w (ShP (if l = [] then [33, 98] else [33, 98, 32] ++ encP l) 0 w) := by
  have HR := Lib.hid hr
  clear hr
  by_cases h0 : l = []
  · rw [if_pos h0]
    obtain rfl : n1 = 0 := by rw [hn, h0]; rfl
    clear h0 hn HR hl
    go_enter Tryz.func8, Tryz.ntmps8
    go_upto_region 1 with fail
    generalize hW : World.alloc w _ = w1
    obtain ⟨ha1, -, hz1, hb1⟩ := alloc_of hW
    have HB1 := Lib.hid hb1
    obtain ⟨c0, c1, c2, c3, c4, c5, c6, c7, c8, c9, ca, cb, cc⟩ := row13 ha1
    have HX := Lib.hid ha1
    have HZ : Hid (w.heap.size < w1.heap.size) := by unfold Hid; omega
    clear hW hb1 ha1 hz1
    go_wp2_with fail
    go_ret2
    exact ⟨⟨_, rfl, rfl⟩, HB1.out⟩
  · rw [if_neg h0]
    have hn0 : ((n1 : Int) == 0) = false := beq_false_of_ne (by have := List.length_pos_iff.2 h0; omega)
    have HE : Hid (∀ w', Below w.heap.size w w' → Calls Tryz.prog 20 #[.slice a1 n1 m1, .bool true] w' fun e w2 => e = .returned (.string ⟨(encP l).toArray⟩) ∧ Below w'.heap.size w' w2) := fun w' hb => BEncode_any l _ w' (HR.out.below hb) (by omega)
    have HLN : Hid ((encP l).length ≤ 100000) := by
      have := encP_len l
      unfold Hid
      omega
    generalize encP l = t at *
    clear h0 hn hl HR
    go_enter Tryz.func8, Tryz.ntmps8
    go_upto_region 1 with fail
    generalize hW : World.alloc w _ = w1
    obtain ⟨ha1, -, hz1, hb1⟩ := alloc_of hW
    have HB1 := Lib.hid hb1
    obtain ⟨c0, c1, c2, c3, c4, c5, c6, c7, c8, c9, ca, cb, cc⟩ := row13 ha1
    have HX := Lib.hid ha1
    have HZ : Hid (w.heap.size < w1.heap.size) := by unfold Hid; omega
    clear hW hb1 ha1 hz1
    go_wp2_with fail
    refine (HE.out _ HB1.out).mono ?_
    rintro e w2 ⟨rfl, hb⟩
    have HB2 := Lib.hid (HB1.out.trans (hb.mono HB1.out.size))
    clear hb HE c0 c1 c2 c3 c4 c5 c6 c7 c8 c9 ca cb cc
    have htz : (⟨t.toArray⟩ : ByteArray).size ≤ 100000 := by
      have := L_len ⟨t.toArray⟩
      rw [L_mk] at this
      have := HLN.out
      omega
    obtain ⟨tb, htb⟩ : ∃ tb : ByteArray, (⟨t.toArray⟩ : ByteArray) = tb := ⟨_, rfl⟩
    rw [htb] at htz ⊢
    have HTB : Hid (L tb = t) := by unfold Hid; rw [← htb, L_mk]
    clear htb
    go_wp2_with fail
    go_ret2
    exact ⟨⟨_, rfl, by rw [L_append, HTB.out]; rfl⟩, HB2.out⟩
theorem IShow6 (k : Int) (bl ng : Bool) (ds : ByteArray) (ex tk dy na ofs : Int) (tx : ByteArray) (a1 a2 a3 : Option Addr) (n1 m1 n2 m2 n3 m3 : Nat) (w : World) (hk : k < 0 ∨ 6 ≤ k) :
    Calls Tryz.prog 8 #[.agg #[.int .i64 k, .bool bl, .bool ng, .string ds, .int .i64 ex, .int .i64 tk, .int .i64 dy, .int .i64 na, .int .i64 ofs, .string tx, .slice a1 n1 m1, .slice a2 n2 m2, .slice a3 n3 m3]] w (ShP [] 6 w) := by
  have k0 : (k == 0) = false := beq_false_of_ne (by omega)
  have k1 : (k == 1) = false := beq_false_of_ne (by omega)
  have k2 : (k == 2) = false := beq_false_of_ne (by omega)
  have k3 : (k == 3) = false := beq_false_of_ne (by omega)
  have k4 : (k == 4) = false := beq_false_of_ne (by omega)
  have k5 : (k == 5) = false := beq_false_of_ne (by omega)
  clear hk
  go_enter Tryz.func8, Tryz.ntmps8
  go_upto_region 1 with fail
  generalize hW : World.alloc w _ = w1
  obtain ⟨ha1, -, hz1, hb1⟩ := alloc_of hW
  have HB1 := Lib.hid hb1
  obtain ⟨c0, c1, c2, c3, c4, c5, c6, c7, c8, c9, ca, cb, cc⟩ := row13 ha1
  have HX := Lib.hid ha1
  have HZ : Hid (w.heap.size < w1.heap.size) := by unfold Hid; omega
  clear hW hb1 ha1 hz1
  go_wp2_with fail
  go_ret2
  exact ⟨⟨_, rfl, rfl⟩, HB1.out⟩
theorem RShow0 (bl ng : Bool) (ds : ByteArray) (ex tk dy na ofs : Int) (tx : ByteArray) (a1 a2 a3 : Option Addr) (n1 m1 n2 m2 n3 m3 : Nat) (w : World) :
    Calls Tryz.prog 9 #[.agg #[.int .i64 0, .bool bl, .bool ng, .string ds, .int .i64 ex, .int .i64 tk, .int .i64 dy, .int .i64 na, .int .i64 ofs, .string tx, .slice a1 n1 m1, .slice a2 n2 m2, .slice a3 n3 m3]] w (ShP [110, 117, 108, 108] 0 w) := by
  go_enter Tryz.func9, Tryz.ntmps9
  go_upto_region 1 with fail
  generalize hW : World.alloc w _ = w1
  obtain ⟨ha1, -, hz1, hb1⟩ := alloc_of hW
  have HB1 := Lib.hid hb1
  obtain ⟨c0, c1, c2, c3, c4, c5, c6, c7, c8, c9, ca, cb, cc⟩ := row13 ha1
  have HX := Lib.hid ha1
  have HZ : Hid (w.heap.size < w1.heap.size) := by unfold Hid; omega
  clear hW hb1 ha1 hz1
  go_wp2_with fail
  go_ret2
  exact ⟨⟨_, rfl, rfl⟩, HB1.out⟩
theorem RShow1 (bl ng : Bool) (ds : ByteArray) (ex tk dy na ofs : Int) (tx : ByteArray) (a1 a2 a3 : Option Addr) (n1 m1 n2 m2 n3 m3 : Nat) (w : World) :
    Calls Tryz.prog 9 #[.agg #[.int .i64 1, .bool bl, .bool ng, .string ds, .int .i64 ex, .int .i64 tk, .int .i64 dy, .int .i64 na, .int .i64 ofs, .string tx, .slice a1 n1 m1, .slice a2 n2 m2, .slice a3 n3 m3]] w (ShP (if bl then [116, 114, 117, 101] else [102, 97, 108, 115, 101]) 0 w) := by
  cases bl
  all_goals
    go_enter Tryz.func9, Tryz.ntmps9
    go_upto_region 1 with fail
    generalize hW : World.alloc w _ = w1
    obtain ⟨ha1, -, hz1, hb1⟩ := alloc_of hW
    have HB1 := Lib.hid hb1
    obtain ⟨c0, c1, c2, c3, c4, c5, c6, c7, c8, c9, ca, cb, cc⟩ := row13 ha1
    have HX := Lib.hid ha1
    have HZ : Hid (w.heap.size < w1.heap.size) := by unfold Hid; omega
    clear hW hb1 ha1 hz1
    go_wp2_with fail
    go_ret2
    exact ⟨⟨_, rfl, rfl⟩, HB1.out⟩
theorem RShow2 (bl ng : Bool) (ds : ByteArray) (ex tk dy na ofs : Int) (tx : ByteArray) (a1 a2 a3 : Option Addr) (n1 m1 n2 m2 n3 m3 : Nat) (w : World) (hv : decB ng (L ds) ex = true) :
    Calls Tryz.prog 9 #[.agg #[.int .i64 2, .bool bl, .bool ng, .string ds, .int .i64 ex, .int .i64 tk, .int .i64 dy, .int .i64 na, .int .i64 ofs, .string tx, .slice a1 n1 m1, .slice a2 n2 m2, .slice a3 n3 m3]] w (ShP (decL ng (L ds) ex) 0 w) := by
  have HC := Lib.hid (fun w' => RDec_any ng ds ex w' hv)
  clear hv
  generalize decL ng (L ds) ex = t at *
  go_enter Tryz.func9, Tryz.ntmps9
  go_upto_region 1 with fail
  generalize hW : World.alloc w _ = w1
  obtain ⟨ha1, -, hz1, hb1⟩ := alloc_of hW
  have HB1 := Lib.hid hb1
  obtain ⟨c0, c1, c2, c3, c4, c5, c6, c7, c8, c9, ca, cb, cc⟩ := row13 ha1
  have HX := Lib.hid ha1
  have HZ : Hid (w.heap.size < w1.heap.size) := by unfold Hid; omega
  clear hW hb1 ha1 hz1
  go_wp2_with fail
  refine (HC.out _).mono ?_
  rintro e w2 ⟨⟨u, rfl, hu⟩, hb⟩
  have HU := Lib.hid hu
  have HB2 := Lib.hid (HB1.out.trans (hb.mono HB1.out.size))
  clear hu hb HC
  go_wp2_with fail
  go_ret2
  exact ⟨⟨_, rfl, HU.out⟩, HB2.out⟩
theorem RShow3 (bl ng : Bool) (ds : ByteArray) (ex tk dy na ofs : Int) (tx : ByteArray) (a1 a2 a3 : Option Addr) (n1 m1 n2 m2 n3 m3 : Nat) (w : World) (hv : timeB tk dy na ofs = true) :
    Calls Tryz.prog 9 #[.agg #[.int .i64 3, .bool bl, .bool ng, .string ds, .int .i64 ex, .int .i64 tk, .int .i64 dy, .int .i64 na, .int .i64 ofs, .string tx, .slice a1 n1 m1, .slice a2 n2 m2, .slice a3 n3 m3]] w fun e w' => ∃ y m dd, DateIs dy.toNat y m dd ∧ ShP (tmL tk y m dd na.toNat ofs) 0 w e w' := by
  have HC := Lib.hid (fun w' => RText_any tk dy na ofs w' hv)
  clear hv
  go_enter Tryz.func9, Tryz.ntmps9
  go_upto_region 1 with fail
  generalize hW : World.alloc w _ = w1
  obtain ⟨ha1, -, hz1, hb1⟩ := alloc_of hW
  have HB1 := Lib.hid hb1
  obtain ⟨c0, c1, c2, c3, c4, c5, c6, c7, c8, c9, ca, cb, cc⟩ := row13 ha1
  have HX := Lib.hid ha1
  have HZ : Hid (w.heap.size < w1.heap.size) := by unfold Hid; omega
  clear hW hb1 ha1 hz1
  go_wp2_with fail
  refine (HC.out _).mono ?_
  rintro e w2 ⟨y, m, dd, hd, ⟨u, rfl, hu⟩, hb⟩
  have HD := Lib.hid hd
  have HU := Lib.hid hu
  have HB2 := Lib.hid (HB1.out.trans (hb.mono HB1.out.size))
  clear hu hb hd HC
  go_wp2_with fail
  go_ret2
  exact ⟨y, m, dd, HD.out, ⟨_, rfl, HU.out⟩, HB2.out⟩
theorem RShow4 (bl ng : Bool) (ds : ByteArray) (ex tk dy na ofs : Int) (tx : ByteArray) (a1 a2 a3 : Option Addr) (n1 m1 n2 m2 n3 m3 : Nat) (w : World) (hs : tx.size ≤ 2000) :
    Calls Tryz.prog 9 #[.agg #[.int .i64 4, .bool bl, .bool ng, .string ds, .int .i64 ex, .int .i64 tk, .int .i64 dy, .int .i64 na, .int .i64 ofs, .string tx, .slice a1 n1 m1, .slice a2 n2 m2, .slice a3 n3 m3]] w (ShP (if plS tx then L tx else (quoR (L tx)).1) (if plS tx then 0 else (quoR (L tx)).2) w) := by
  have HP := Lib.hid (fun w' => Plain21_any tx w' (by omega))
  have HQ := Lib.hid (fun w' => QuoteR_any tx w' (by omega))
  generalize plS tx = p at *
  generalize quoR (L tx) = q at *
  obtain ⟨x, n⟩ := q
  dsimp only at HQ
  cases p
  · go_enter Tryz.func9, Tryz.ntmps9
    go_upto_region 1 with fail
    generalize hW : World.alloc w _ = w1
    obtain ⟨ha1, -, hz1, hb1⟩ := alloc_of hW
    have HB1 := Lib.hid hb1
    obtain ⟨c0, c1, c2, c3, c4, c5, c6, c7, c8, c9, ca, cb, cc⟩ := row13 ha1
    have HX := Lib.hid ha1
    have HZ : Hid (w.heap.size < w1.heap.size) := by unfold Hid; omega
    clear hW hb1 ha1 hz1
    go_wp2_with fail
    refine (HP.out _).mono ?_
    rintro e w2 ⟨rfl, hb⟩
    have HB2 := Lib.hid (HB1.out.trans (hb.mono HB1.out.size))
    clear c0 c1 c2 c3 c4 c5 c6 c7 c8 c9 ca cb cc HP
    obtain ⟨c0, c1, c2, c3, c4, c5, c6, c7, c8, c9, ca, cb, cc⟩ := row13 ((hb.block _ HZ.out).trans HX.out)
    clear hb
    go_wp2_with fail
    refine (HQ.out _).mono ?_
    rintro e w3 ⟨rfl, hb⟩
    have HB3 := Lib.hid (HB2.out.trans (hb.mono HB2.out.size))
    clear hb HQ
    go_wp2_with fail
    go_ret2
    exact ⟨⟨_, rfl, by rw [L_mk]⟩, HB3.out⟩
  · go_enter Tryz.func9, Tryz.ntmps9
    go_upto_region 1 with fail
    generalize hW : World.alloc w _ = w1
    obtain ⟨ha1, -, hz1, hb1⟩ := alloc_of hW
    have HB1 := Lib.hid hb1
    obtain ⟨c0, c1, c2, c3, c4, c5, c6, c7, c8, c9, ca, cb, cc⟩ := row13 ha1
    have HX := Lib.hid ha1
    have HZ : Hid (w.heap.size < w1.heap.size) := by unfold Hid; omega
    clear hW hb1 ha1 hz1
    go_wp2_with fail
    refine (HP.out _).mono ?_
    rintro e w2 ⟨rfl, hb⟩
    have HB2 := Lib.hid (HB1.out.trans (hb.mono HB1.out.size))
    clear c0 c1 c2 c3 c4 c5 c6 c7 c8 c9 ca cb cc HP
    obtain ⟨c0, c1, c2, c3, c4, c5, c6, c7, c8, c9, ca, cb, cc⟩ := row13 ((hb.block _ HZ.out).trans HX.out)
    clear hb
    go_wp2_with fail
    go_ret2
    exact ⟨⟨_, rfl, rfl⟩, HB2.out⟩
theorem RShow5 (bl ng : Bool) (ds : ByteArray) (ex tk dy na ofs : Int) (tx : ByteArray) (a1 a2 a3 : Option Addr) (n1 m1 n2 m2 n3 m3 : Nat) (w : World) (l : List UInt8) (hl : l.length ≤ 2000) (hn : n1 = l.length) (hr : RdB w (.slice a1 n1 m1) l) :
    Calls Tryz.prog 9 #[.agg #[.int .i64 5, .bool bl, .bool ng, .string ds, .int .i64 ex, .int .i64 tk, .int .i64 dy, .int .i64 na, .int .i64 ofs, .string tx, .slice a1 n1 m1, .slice a2 n2 m2, .slice a3 n3 m3]] w (ShP (if l = [] then [33, 98] else [33, 98, 32] ++ encP l) 0 w) := by
  have HR := Lib.hid hr
  clear hr
  by_cases h0 : l = []
  · rw [if_pos h0]
    obtain rfl : n1 = 0 := by rw [hn, h0]; rfl
    clear h0 hn HR hl
    go_enter Tryz.func9, Tryz.ntmps9
    go_upto_region 1 with fail
    generalize hW : World.alloc w _ = w1
    obtain ⟨ha1, -, hz1, hb1⟩ := alloc_of hW
    have HB1 := Lib.hid hb1
    obtain ⟨c0, c1, c2, c3, c4, c5, c6, c7, c8, c9, ca, cb, cc⟩ := row13 ha1
    have HX := Lib.hid ha1
    have HZ : Hid (w.heap.size < w1.heap.size) := by unfold Hid; omega
    clear hW hb1 ha1 hz1
    go_wp2_with fail
    go_ret2
    exact ⟨⟨_, rfl, rfl⟩, HB1.out⟩
  · rw [if_neg h0]
    have hn0 : ((n1 : Int) == 0) = false := beq_false_of_ne (by have := List.length_pos_iff.2 h0; omega)
    have HE : Hid (∀ w', Below w.heap.size w w' → Calls Tryz.prog 25 #[.slice a1 n1 m1, .bool true] w' fun e w2 => e = .returned (.string ⟨(encP l).toArray⟩) ∧ Below w'.heap.size w' w2) := fun w' hb => REncode_any l _ w' (HR.out.below hb) (by omega)
    have HLN : Hid ((encP l).length ≤ 100000) := by
      have := encP_len l
      unfold Hid
      omega
    generalize encP l = t at *
    clear h0 hn hl HR
    go_enter Tryz.func9, Tryz.ntmps9
    go_upto_region 1 with fail
    generalize hW : World.alloc w _ = w1
    obtain ⟨ha1, -, hz1, hb1⟩ := alloc_of hW
    have HB1 := Lib.hid hb1
    obtain ⟨c0, c1, c2, c3, c4, c5, c6, c7, c8, c9, ca, cb, cc⟩ := row13 ha1
    have HX := Lib.hid ha1
    have HZ : Hid (w.heap.size < w1.heap.size) := by unfold Hid; omega
    clear hW hb1 ha1 hz1
    go_wp2_with fail
    refine (HE.out _ HB1.out).mono ?_
    rintro e w2 ⟨rfl, hb⟩
    have HB2 := Lib.hid (HB1.out.trans (hb.mono HB1.out.size))
    clear hb HE c0 c1 c2 c3 c4 c5 c6 c7 c8 c9 ca cb cc
    have htz : (⟨t.toArray⟩ : ByteArray).size ≤ 100000 := by
      have := L_len ⟨t.toArray⟩
      rw [L_mk] at this
      have := HLN.out
      omega
    obtain ⟨tb, htb⟩ : ∃ tb : ByteArray, (⟨t.toArray⟩ : ByteArray) = tb := ⟨_, rfl⟩
    rw [htb] at htz ⊢
    have HTB : Hid (L tb = t) := by unfold Hid; rw [← htb, L_mk]
    clear htb
    go_wp2_with fail
    go_ret2
    exact ⟨⟨_, rfl, by rw [L_append, HTB.out]; rfl⟩, HB2.out⟩
theorem RShow6 (k : Int) (bl ng : Bool) (ds : ByteArray) (ex tk dy na ofs : Int) (tx : ByteArray) (a1 a2 a3 : Option Addr) (n1 m1 n2 m2 n3 m3 : Nat) (w : World) (hk : k < 0 ∨ 6 ≤ k) :
    Calls Tryz.prog 9 #[.agg #[.int .i64 k, .bool bl, .bool ng, .string ds, .int .i64 ex, .int .i64 tk, .int .i64 dy, .int .i64 na, .int .i64 ofs, .string tx, .slice a1 n1 m1, .slice a2 n2 m2, .slice a3 n3 m3]] w (ShP [] 6 w) := by
  have k0 : (k == 0) = false := beq_false_of_ne (by omega)
  have k1 : (k == 1) = false := beq_false_of_ne (by omega)
  have k2 : (k == 2) = false := beq_false_of_ne (by omega)
  have k3 : (k == 3) = false := beq_false_of_ne (by omega)
  have k4 : (k == 4) = false := beq_false_of_ne (by omega)
  have k5 : (k == 5) = false := beq_false_of_ne (by omega)
  clear hk
  go_enter Tryz.func9, Tryz.ntmps9
  go_upto_region 1 with fail
  generalize hW : World.alloc w _ = w1
  obtain ⟨ha1, -, hz1, hb1⟩ := alloc_of hW
  have HB1 := Lib.hid hb1
  obtain ⟨c0, c1, c2, c3, c4, c5, c6, c7, c8, c9, ca, cb, cc⟩ := row13 ha1
  have HX := Lib.hid ha1
  have HZ : Hid (w.heap.size < w1.heap.size) := by unfold Hid; omega
  clear hW hb1 ha1 hz1
  go_wp2_with fail
  go_ret2
  exact ⟨⟨_, rfl, rfl⟩, HB1.out⟩
end Go.Proofs.YtlnpfpjncnkekaaGreatDoor
