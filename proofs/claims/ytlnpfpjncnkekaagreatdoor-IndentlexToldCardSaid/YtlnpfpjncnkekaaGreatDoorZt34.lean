/- datakitref21.binary; datakitref21.Scalar at base64 texts. Conditions: strings of at most 100000 bytes. -/
import Derived.Test.YtlnpfpjncnkekaaGreatDoorZt33
import Derived.Test.YtlnpfpjncnkekaaGreatDoorZt24
import Derived.Test.YtlnpfpjncnkekaaGreatDoorShelf
import Derived.Test.YtlnpfpjncnkekaaGreatDoorZt6
import Derived.Test.YtlnpfpjncnkekaaGreatDoorZt20
import Derived.Test.YtlnpfpjncnkekaaGreatDoorZt30
import Derived.Test.YtlnpfpjncnkekaaGreatDoorZt28
import Derived.Test.YtlnpfpjncnkekaaGreatDoorZt17
import Derived.Test.YtlnpfpjncnkekaaGreatDoorZt32
namespace Go.Proofs.YtlnpfpjncnkekaaGreatDoor
open Go.RowKit
set_option maxHeartbeats 4000000
set_option maxRecDepth 100000

theorem repeat_nil : ∀ k : Nat, Lib.repeatL [48] k = List.replicate k 48
  | 0 => rfl
  | k + 1 => by rw [Lib.repeatL, repeat_nil k, List.replicate_succ]; rfl
theorem rep_any (k : Nat) (w : World) (hk : k ≤ 1000) :
    Calls Tryz.prog 45 #[.string ⟨#[48]⟩, .int .i64 (k : Int)] w (StrP (List.replicate k 48) w) := by
  match k, hk with
  | 0, _ =>
    refine (Tryz.strings_Repeat_zero ⟨#[48]⟩ w).mono ?_
    rintro e w' ⟨rfl, rfl⟩
    exact ⟨⟨_, rfl, rfl⟩, Below.refl _ _⟩
  | 1, _ =>
    refine (Tryz.strings_Repeat_one ⟨#[48]⟩ w).mono ?_
    rintro e w' ⟨rfl, rfl⟩
    exact ⟨⟨_, rfl, rfl⟩, Below.refl _ _⟩
  | k + 2, hk =>
    refine (Tryz.strings_Repeat_main ⟨#[48]⟩ (k + 2) w (by omega) (by omega) (by show 1 * (k + 2) ≤ _; omega) (by decide)).mono ?_
    rintro e w' ⟨rfl, hb⟩
    exact ⟨⟨_, rfl, repeat_nil (k + 2)⟩, hb⟩
/-- The digits of a number, 0 too. -/
def wholeL (n : Nat) : List UInt8 := if n = 0 then [48] else numL n
theorem whole_any (n : Nat) (w : World) (hn : n < 1000000000000000) :
    Calls Tryz.prog 46 #[.int .i64 (n : Int)] w (StrP (wholeL n) w) := by
  have HF := Lib.hid (fun w' => dFromInt_any n w' hn)
  go_enter Tryz.func46, Tryz.ntmps46
  by_cases h0 : n = 0
  · subst h0
    go_wp2_with fail
    go_ret
    exact ⟨⟨_, rfl, rfl⟩, Below.refl _ _⟩
  · have hni : ((n : Int) == 0) = false := beq_false_of_ne (by omega)
    have HZ : Hid (wholeL n = numL n) := by unfold Hid wholeL; rw [if_neg h0]
    clear h0
    go_wp2_with fail
    refine (HF.out _).mono ?_
    rintro e w1 ⟨rfl, hb1⟩
    have HB := Lib.hid hb1
    clear hb1 HF
    go_wp2_with fail
    go_ret
    exact ⟨⟨_, rfl, HZ.out.symm⟩, HB.out⟩
end Go.Proofs.YtlnpfpjncnkekaaGreatDoor

namespace Go.Proofs.YtlnpfpjncnkekaaGreatDoor
open Go.RowKit
set_option maxHeartbeats 4000000
set_option maxRecDepth 100000

theorem row3 {w : World} {g : Nat} {t : TypeId} {a b c : Value} (h : w.heap[g]? = some (.cells [a, b, c].toArray t (0, 0))) :
    w.cell? ⟨g, 0, none⟩ = some a ∧ w.cell? ⟨g, 1, none⟩ = some b ∧ w.cell? ⟨g, 2, none⟩ = some c :=
  ⟨(cell_of_row w g _ _ t (0, 0) h).trans rfl, (cell_of_row w g _ _ t (0, 0) h).trans rfl, (cell_of_row w g _ _ t (0, 0) h).trans rfl⟩
/-- The text of a decimal: the sign, then the digits in the form that the exponent asks for. -/
def sgB (neg : Bool) : ByteArray := if neg then ⟨#[45]⟩ else ⟨#[]⟩
def bodL (l : List UInt8) (e : Int) : List UInt8 :=
  let p := (l.length : Int) + e
  if 0 ≤ e ∧ p ≤ 21 then l ++ List.replicate e.toNat 48
  else if e < 0 ∧ 1 ≤ p ∧ p ≤ 21 then l.take p.toNat ++ (46 :: l.drop p.toNat)
  else if -5 ≤ p ∧ p ≤ 0 then 48 :: 46 :: (List.replicate (-p).toNat 48 ++ l)
  else l.take 1 ++ ((if 1 < l.length then 46 :: l.drop 1 else []) ++ (if p < 1 then 101 :: 45 :: wholeL (1 - p).toNat else 101 :: wholeL (p - 1).toNat))
def decL (neg : Bool) (l : List UInt8) (e : Int) : List UInt8 := if l = [] then [48] else L (sgB neg) ++ bodL l e
theorem drewNBm (w : World) (n : Nat) : Below w.heap.size w (w.drewN n) := ⟨rfl, rfl, rfl, Nat.le_refl _, fun _ _ => rfl⟩
theorem sgB_size (neg : Bool) : (sgB neg).size ≤ 1 := by cases neg <;> decide
theorem dec_yes {neg : Bool} {l : List UInt8} {e : Int} (h : decB neg l e = true) (hn : l ≠ []) : l.length ≤ 120 ∧ -400 ≤ e ∧ e ≤ 400 := by
  unfold decB at h
  rw [if_neg hn] at h
  simp only [Bool.and_eq_true, decide_eq_true_eq] at h
  exact ⟨h.1, h.2.2.2⟩
def StrAt (l : List UInt8) (v : Value) : Prop := ∃ u, v = .string u ∧ L u = l
theorem wholeL_len (n : Nat) (h : n < 1000) : (wholeL n).length ≤ 3 := by
  unfold wholeL
  split
  · simp
  · unfold numL
    rw [List.length_reverse]
    exact digQ_len 3 n h
theorem DDec1_any (neg : Bool) (s : ByteArray) (e : Int) (w : World) (hv : decB neg (L s) e = true) (hne : L s ≠ []) (h1 : 0 ≤ e) (h2 : (s.size : Int) + e ≤ 21) :
    Calls Tryz.prog 16 #[.agg #[.bool neg, .string s, .int .i64 e]] w (StrP (decL neg (L s) e) w) := by
  obtain ⟨hs, he1, he2⟩ := dec_yes hv hne
  rw [L_len] at hs
  have hne' : s.toList.isEmpty = false := by rw [Bool.eq_false_iff]; exact fun h => hne (isEh.1 h)
  have hs1 : 1 ≤ s.size := by
    rcases Nat.eq_zero_or_pos s.size with h | h
    · exact absurd (List.length_eq_zero_iff.1 ((L_len s).trans h)) hne
    · exact h
  have HV := Lib.hid (fun w' => decValid_any neg s e w' (by omega))
  rw [hv] at HV
  have HDC : Hid (decL neg (L s) e = L (sgB neg) ++ bodL (L s) e) := by unfold Hid decL; rw [if_neg hne]
  obtain ⟨sg, hsg⟩ : ∃ sg, sg = sgB neg := ⟨_, rfl⟩
  have hsgs : sg.size ≤ 1 := by rw [hsg]; exact sgB_size neg
  rw [← hsg] at HDC
  obtain ⟨P, hP⟩ : ∃ P, (s.size : Int) + e = P := ⟨_, rfl⟩
  have HPP := Lib.hid hP
  have HBD : Hid (bodL (L s) e = L s ++ List.replicate e.toNat 48) := by
    unfold Hid bodL
    rw [L_len]
    exact if_pos ⟨h1, h2⟩
  obtain ⟨k, rfl⟩ : ∃ k : Nat, e = (k : Int) := ⟨e.toNat, by omega⟩
  have HREP := Lib.hid (fun w' => rep_any k w' (by omega))
  have t1 : (P ≤ 21) = True := eq_true (by omega)
  clear h1 h2
  have HSG := Lib.hid hsg
  clear hv hne hP hsg
  go_enter Tryz.func16, Tryz.ntmps16
  go_upto_region 1 with fail
  generalize hW : World.alloc w _ = w1
  obtain ⟨ha1, -, hz1, hb1⟩ := alloc_of hW
  have HB1 := Lib.hid hb1
  obtain ⟨c0, c1, c2⟩ := row3 ha1
  have hz0 : w.heap.size < w1.heap.size := by omega
  have HSX : Hid (∀ w', Below w1.heap.size w1 w' → w'.cell? ⟨w.heap.size, 0, none⟩ = some (.bool neg) ∧ w'.cell? ⟨w.heap.size, 1, none⟩ = some (.string s) ∧ w'.cell? ⟨w.heap.size, 2, none⟩ = some (.int .i64 (k : Int))) := fun w' hb => ⟨(hb.cell (p := ⟨w.heap.size, 0, none⟩) hz0).trans c0, (hb.cell (p := ⟨w.heap.size, 1, none⟩) hz0).trans c1, (hb.cell (p := ⟨w.heap.size, 2, none⟩) hz0).trans c2⟩
  clear hW hb1
  go_wp2_with fail
  refine (HV.out _).mono ?_
  rintro e w2 ⟨rfl, hb2⟩
  have HX2 := Lib.hid hb2
  have HB2 := Lib.hid (HB1.out.trans (hb2.mono HB1.out.size))
  clear c0 c1 c2 HV
  obtain ⟨c0, c1, c2⟩ := HSX.out w2 hb2
  clear hb2 ha1 hz1 hz0
  go_upto_if 15 with fail
  go_cut [3] (fun v wx => v = .string sg ∧ w2 = wx)
  case first =>
    have hsg := HSG.out
    cases neg
    all_goals
      clear HSG
      go_wp2_with fail
      go_meet
      exact ⟨by rw [hsg]; rfl, rfl⟩
  case rest =>
  obtain ⟨rfl, rfl⟩ := hcut
  clear HSG
  go_upto_region 8 with fail
  rw [HPP.out]
  go_upto_region 9 with fail
  have HSZ : Hid (∀ w', Below w2.heap.size w2 w' → w'.cell? ⟨w.heap.size, 0, none⟩ = some (.bool neg) ∧ w'.cell? ⟨w.heap.size, 1, none⟩ = some (.string s) ∧ w'.cell? ⟨w.heap.size, 2, none⟩ = some (.int .i64 (k : Int))) := fun w' hb => HSX.out w' (HX2.out.trans (hb.mono HX2.out.size))
  clear c0 c1 c2
  refine wp_region_held_drew (S := fun w' => w'.cell? ⟨w.heap.size, 0, none⟩ = some (.bool neg) ∧ w'.cell? ⟨w.heap.size, 1, none⟩ = some (.string s) ∧ w'.cell? ⟨w.heap.size, 2, none⟩ = some (.int .i64 (k : Int))) (by kernel_rfl) (HSZ.out _ (drewBm w2)) (fun hHeld => ?_)
  have HBX := Lib.hid (drewBm w2)
  replace HB2 := Lib.hid (HB2.out.trans ((drewBm w2).mono HB2.out.size))
  generalize w2.drew = wd at *
  refine take_at 0 (some 31) rfl rfl (by kernel_rfl) (by kernel_rfl) (by kernel_rfl) (fun _ _ _ h => h) (Or.inl ⟨by rfl, fun w hSw => by (obtain ⟨q1, q2, q3⟩ := hSw; go_simp; with_reducible rfl)⟩) hHeld ?_
  simp only [Act.put, List.setIfInBounds_toArray, List.set_cons_zero, List.set_cons_succ]
  refine take_at 1 (some 32) rfl rfl (by kernel_rfl) (by kernel_rfl) (by kernel_rfl) (fun _ _ _ h => h) (Or.inl ⟨by rfl, fun w hSw => by (obtain ⟨q1, q2, q3⟩ := hSw; go_simp; with_reducible rfl)⟩) hHeld ?_
  simp only [Act.put, List.setIfInBounds_toArray, List.set_cons_zero, List.set_cons_succ]
  refine take_at 2 (some 33) rfl rfl (by kernel_rfl) (by kernel_rfl) (by kernel_rfl) (fun _ _ _ h => h) (Or.inl ⟨by rfl, fun w hSw => by (obtain ⟨q1, q2, q3⟩ := hSw; go_simp; with_reducible rfl)⟩) hHeld ?_
  simp only [Act.put, List.setIfInBounds_toArray, List.set_cons_zero, List.set_cons_succ]
  refine take_at 4 (some 35) rfl rfl (by kernel_rfl) (by kernel_rfl) (by kernel_rfl) (fun _ _ _ h => h) (Or.inl ⟨by rfl, fun w hSw => by (obtain ⟨q1, q2, q3⟩ := hSw; go_simp; with_reducible rfl)⟩) hHeld ?_
  simp only [Act.put, List.setIfInBounds_toArray, List.set_cons_zero, List.set_cons_succ]
  refine take_at 5 (some 36) rfl rfl (by kernel_rfl) (by kernel_rfl) (by kernel_rfl) (fun _ _ _ h => h) (Or.inl ⟨by rfl, fun w hSw => by (obtain ⟨q1, q2, q3⟩ := hSw; go_simp; with_reducible rfl)⟩) hHeld ?_
  simp only [Act.put, List.setIfInBounds_toArray, List.set_cons_zero, List.set_cons_succ]
  refine take_at 3 (some 34) rfl rfl (by kernel_rfl) (by kernel_rfl) (by kernel_rfl) (fun _ _ _ h => h) (Or.inl ⟨by rfl, fun w hSw => by (go_simp; first | (rw [if_neg (by omega)]) | with_reducible rfl)⟩) hHeld ?_
  simp only [Act.put, List.setIfInBounds_toArray, List.set_cons_zero, List.set_cons_succ]
  refine wpAnyH_ready (rs := [6]) (by kernel_rfl) (by simp) ?_
  refine AllReadyH.cons rfl (fun K hK => ?_) AllReadyH.nil
  go_simp
  refine (HREP.out _).mono ?_
  rintro e u2 ⟨⟨t2, rfl, ht2⟩, hb2⟩
  have HT2 := Lib.hid ht2
  replace HBX := Lib.hid (HBX.out.trans (hb2.mono HBX.out.size))
  replace HB2 := Lib.hid (HB2.out.trans (hb2.mono HB2.out.size))
  have hs22 : t2.size ≤ 400 := by
    have := L_len t2
    rw [ht2, List.length_replicate] at this
    omega
  clear ht2 hb2 HREP hHeld
  refine hK.out _ _ (HSZ.out _ HBX.out) (fun hHeld => ?_)
  clear hK K
  refine take_at 7 (some 38) rfl rfl (by kernel_rfl) (by kernel_rfl) (by kernel_rfl) (fun _ _ _ h => h) (Or.inl ⟨by rfl, fun w hSw => by (go_simp; first | (rw [if_neg (by omega)]) | with_reducible rfl)⟩) hHeld ?_
  simp only [Act.put, List.setIfInBounds_toArray, List.set_cons_zero, List.set_cons_succ]
  refine take_at 8 (some 2) rfl rfl (by kernel_rfl) (by kernel_rfl) (by kernel_rfl) (fun _ _ _ h => h) (Or.inl ⟨by rfl, fun w hSw => by (obtain ⟨q1, q2, q3⟩ := hSw; go_simp; with_reducible rfl)⟩) hHeld ?_
  simp only [Act.put, List.setIfInBounds_toArray, List.set_cons_zero, List.set_cons_succ]
  refine wpAnyH_done (by kernel_rfl) ?_ _
  clear hHeld
  go_wp2_with fail
  go_ret
  refine ⟨⟨_, rfl, ?_⟩, HB2.out⟩
  rw [HDC.out, HBD.out, Int.toNat_natCast]
  simp only [L_append, HT2.out, List.append_assoc]
theorem DDec2_any (neg : Bool) (s : ByteArray) (e : Int) (w : World) (hv : decB neg (L s) e = true) (hne : L s ≠ []) (h1 : e < 0) (h2 : 1 ≤ (s.size : Int) + e) (h3 : (s.size : Int) + e ≤ 21) :
    Calls Tryz.prog 16 #[.agg #[.bool neg, .string s, .int .i64 e]] w (StrP (decL neg (L s) e) w) := by
  obtain ⟨hs, he1, he2⟩ := dec_yes hv hne
  rw [L_len] at hs
  have hne' : s.toList.isEmpty = false := by rw [Bool.eq_false_iff]; exact fun h => hne (isEh.1 h)
  have hs1 : 1 ≤ s.size := by
    rcases Nat.eq_zero_or_pos s.size with h | h
    · exact absurd (List.length_eq_zero_iff.1 ((L_len s).trans h)) hne
    · exact h
  have HV := Lib.hid (fun w' => decValid_any neg s e w' (by omega))
  rw [hv] at HV
  have HDC : Hid (decL neg (L s) e = L (sgB neg) ++ bodL (L s) e) := by unfold Hid decL; rw [if_neg hne]
  obtain ⟨sg, hsg⟩ : ∃ sg, sg = sgB neg := ⟨_, rfl⟩
  have hsgs : sg.size ≤ 1 := by rw [hsg]; exact sgB_size neg
  rw [← hsg] at HDC
  obtain ⟨P, hP⟩ : ∃ P, (s.size : Int) + e = P := ⟨_, rfl⟩
  have HPP := Lib.hid hP
  have HBD : Hid (bodL (L s) e = (L s).take P.toNat ++ (46 :: (L s).drop P.toNat)) := by
    unfold Hid bodL
    rw [L_len]
    simp only [hP] at *
    exact (if_neg (by omega)).trans (if_pos ⟨h1, h2, h3⟩)
  have a1 : (0 ≤ e) = False := eq_false (by omega)
  have a2 : (e < 0) = True := eq_true h1
  obtain ⟨p, rfl⟩ : ∃ p : Nat, P = (p : Int) := ⟨P.toNat, by omega⟩
  have a3 : (1 ≤ (p : Int)) = True := eq_true (by omega)
  have a4 : ((p : Int) ≤ 21) = True := eq_true (by omega)
  have a5 : (p = 0) = False := eq_false (by omega)
  have hpl : p ≤ s.size := by omega
  rw [Int.toNat_natCast] at HBD
  clear h1 h2 h3
  have HSG := Lib.hid hsg
  clear hv hne hP hsg
  go_enter Tryz.func16, Tryz.ntmps16
  go_upto_region 1 with fail
  generalize hW : World.alloc w _ = w1
  obtain ⟨ha1, -, hz1, hb1⟩ := alloc_of hW
  have HB1 := Lib.hid hb1
  obtain ⟨c0, c1, c2⟩ := row3 ha1
  have hz0 : w.heap.size < w1.heap.size := by omega
  have HSX : Hid (∀ w', Below w1.heap.size w1 w' → w'.cell? ⟨w.heap.size, 0, none⟩ = some (.bool neg) ∧ w'.cell? ⟨w.heap.size, 1, none⟩ = some (.string s) ∧ w'.cell? ⟨w.heap.size, 2, none⟩ = some (.int .i64 e)) := fun w' hb => ⟨(hb.cell (p := ⟨w.heap.size, 0, none⟩) hz0).trans c0, (hb.cell (p := ⟨w.heap.size, 1, none⟩) hz0).trans c1, (hb.cell (p := ⟨w.heap.size, 2, none⟩) hz0).trans c2⟩
  clear hW hb1
  go_wp2_with fail
  refine (HV.out _).mono ?_
  rintro e w2 ⟨rfl, hb2⟩
  have HX2 := Lib.hid hb2
  have HB2 := Lib.hid (HB1.out.trans (hb2.mono HB1.out.size))
  clear c0 c1 c2 HV
  obtain ⟨c0, c1, c2⟩ := HSX.out w2 hb2
  clear hb2 ha1 hz1 hz0
  go_upto_if 15 with fail
  go_cut [3] (fun v wx => v = .string sg ∧ w2 = wx)
  case first =>
    have hsg := HSG.out
    cases neg
    all_goals
      clear HSG
      go_wp2_with fail
      go_meet
      exact ⟨by rw [hsg]; rfl, rfl⟩
  case rest =>
  obtain ⟨rfl, rfl⟩ := hcut
  clear HSG
  go_upto_region 8 with fail
  rw [HPP.out]
  go_upto_region 11 with fail
  go_quiet (fail)
  go_wp2_with fail
  go_ret
  refine ⟨⟨_, rfl, ?_⟩, HB2.out.trans ((drewNBm _ _).mono HB2.out.size)⟩
  rw [HDC.out, HBD.out]
  simp only [L_append, L_from, L_upto, List.append_assoc]
  rfl
theorem DDec3_any (neg : Bool) (s : ByteArray) (e : Int) (w : World) (hv : decB neg (L s) e = true) (hne : L s ≠ []) (h1 : e < 0) (h2 : -5 ≤ (s.size : Int) + e) (h3 : (s.size : Int) + e ≤ 0) :
    Calls Tryz.prog 16 #[.agg #[.bool neg, .string s, .int .i64 e]] w (StrP (decL neg (L s) e) w) := by
  obtain ⟨hs, he1, he2⟩ := dec_yes hv hne
  rw [L_len] at hs
  have hne' : s.toList.isEmpty = false := by rw [Bool.eq_false_iff]; exact fun h => hne (isEh.1 h)
  have hs1 : 1 ≤ s.size := by
    rcases Nat.eq_zero_or_pos s.size with h | h
    · exact absurd (List.length_eq_zero_iff.1 ((L_len s).trans h)) hne
    · exact h
  have HV := Lib.hid (fun w' => decValid_any neg s e w' (by omega))
  rw [hv] at HV
  have HDC : Hid (decL neg (L s) e = L (sgB neg) ++ bodL (L s) e) := by unfold Hid decL; rw [if_neg hne]
  obtain ⟨sg, hsg⟩ : ∃ sg, sg = sgB neg := ⟨_, rfl⟩
  have hsgs : sg.size ≤ 1 := by rw [hsg]; exact sgB_size neg
  rw [← hsg] at HDC
  obtain ⟨P, hP⟩ : ∃ P, (s.size : Int) + e = P := ⟨_, rfl⟩
  have HPP := Lib.hid hP
  have HBD : Hid (bodL (L s) e = 48 :: 46 :: (List.replicate (-P).toNat 48 ++ L s)) := by
    unfold Hid bodL
    rw [L_len]
    simp only [hP] at *
    exact (if_neg (by omega)).trans ((if_neg (by omega)).trans (if_pos ⟨h2, h3⟩))
  have a1 : (0 ≤ e) = False := eq_false (by omega)
  have a2 : (e < 0) = True := eq_true h1
  have a3 : (1 ≤ P) = False := eq_false (by omega)
  have a4 : (P ≤ 0) = True := eq_true (by omega)
  have a5 : (-5 ≤ P) = True := eq_true (by omega)
  have HPB : Hid (-5 ≤ P) := by unfold Hid; omega
  have HWR : Hid (IntKind.i64.wrap (-P) = -P) := by
    obtain ⟨z, hz⟩ : ∃ z : Nat, -P = (z : Int) := ⟨(-P).toNat, by omega⟩
    unfold Hid
    rw [hz]
    have e1 : (z : Int) % 2 ^ 64 = z := Int.emod_eq_of_lt (by omega) (by omega)
    simp only [IntKind.wrap, IntKind.bits, IntKind.signed, e1]
    rw [if_neg]
    simp
    omega
  have HREP := Lib.hid (fun w' => by have := rep_any (-P).toNat w' (by omega); rw [Int.toNat_of_nonneg (show 0 ≤ -P by omega)] at this; exact this)
  clear h1 h2 h3
  have HSG := Lib.hid hsg
  clear hv hne hP hsg
  go_enter Tryz.func16, Tryz.ntmps16
  go_upto_region 1 with fail
  generalize hW : World.alloc w _ = w1
  obtain ⟨ha1, -, hz1, hb1⟩ := alloc_of hW
  have HB1 := Lib.hid hb1
  obtain ⟨c0, c1, c2⟩ := row3 ha1
  have hz0 : w.heap.size < w1.heap.size := by omega
  have HSX : Hid (∀ w', Below w1.heap.size w1 w' → w'.cell? ⟨w.heap.size, 0, none⟩ = some (.bool neg) ∧ w'.cell? ⟨w.heap.size, 1, none⟩ = some (.string s) ∧ w'.cell? ⟨w.heap.size, 2, none⟩ = some (.int .i64 e)) := fun w' hb => ⟨(hb.cell (p := ⟨w.heap.size, 0, none⟩) hz0).trans c0, (hb.cell (p := ⟨w.heap.size, 1, none⟩) hz0).trans c1, (hb.cell (p := ⟨w.heap.size, 2, none⟩) hz0).trans c2⟩
  clear hW hb1
  go_wp2_with fail
  refine (HV.out _).mono ?_
  rintro e w2 ⟨rfl, hb2⟩
  have HX2 := Lib.hid hb2
  have HB2 := Lib.hid (HB1.out.trans (hb2.mono HB1.out.size))
  clear c0 c1 c2 HV
  obtain ⟨c0, c1, c2⟩ := HSX.out w2 hb2
  clear hb2 ha1 hz1 hz0
  go_upto_if 15 with fail
  go_cut [3] (fun v wx => v = .string sg ∧ w2 = wx)
  case first =>
    have hsg := HSG.out
    cases neg
    all_goals
      clear HSG
      go_wp2_with fail
      go_meet
      exact ⟨by rw [hsg]; rfl, rfl⟩
  case rest =>
  obtain ⟨rfl, rfl⟩ := hcut
  clear HSG
  go_upto_region 8 with fail
  rw [HPP.out]
  go_upto_region 13 with fail
  clear a1 a2 a3 a4 a5
  have HSZ : Hid (∀ w', Below w2.heap.size w2 w' → w'.cell? ⟨w.heap.size, 0, none⟩ = some (.bool neg) ∧ w'.cell? ⟨w.heap.size, 1, none⟩ = some (.string s) ∧ w'.cell? ⟨w.heap.size, 2, none⟩ = some (.int .i64 e)) := fun w' hb => HSX.out w' (HX2.out.trans (hb.mono HX2.out.size))
  clear c0 c1 c2
  refine wp_region_held_drew (S := fun w' => w'.cell? ⟨w.heap.size, 0, none⟩ = some (.bool neg) ∧ w'.cell? ⟨w.heap.size, 1, none⟩ = some (.string s) ∧ w'.cell? ⟨w.heap.size, 2, none⟩ = some (.int .i64 e)) (by kernel_rfl) (HSZ.out _ (drewBm w2)) (fun hHeld => ?_)
  have HBX := Lib.hid (drewBm w2)
  replace HB2 := Lib.hid (HB2.out.trans ((drewBm w2).mono HB2.out.size))
  generalize w2.drew = wd at *
  refine take_at 0 (some 70) rfl rfl (by kernel_rfl) (by kernel_rfl) (by kernel_rfl) (fun _ _ _ h => h) (Or.inl ⟨by rfl, fun w hSw => by (obtain ⟨q1, q2, q3⟩ := hSw; go_simp; with_reducible rfl)⟩) hHeld ?_
  simp only [Act.put, List.setIfInBounds_toArray, List.set_cons_zero, List.set_cons_succ]
  refine take_at 2 (some 72) rfl rfl (by kernel_rfl) (by kernel_rfl) (by kernel_rfl) (fun _ _ _ h => h) (Or.inl ⟨by rfl, fun w hSw => by (obtain ⟨q1, q2, q3⟩ := hSw; go_simp; with_reducible rfl)⟩) hHeld ?_
  simp only [Act.put, List.setIfInBounds_toArray, List.set_cons_zero, List.set_cons_succ]
  refine take_at 3 (some 73) rfl rfl (by kernel_rfl) (by kernel_rfl) (by kernel_rfl) (fun _ _ _ h => h) (Or.inl ⟨by rfl, fun w hSw => by (obtain ⟨q1, q2, q3⟩ := hSw; go_simp; with_reducible rfl)⟩) hHeld ?_
  simp only [Act.put, List.setIfInBounds_toArray, List.set_cons_zero, List.set_cons_succ]
  refine take_at 6 (some 76) rfl rfl (by kernel_rfl) (by kernel_rfl) (by kernel_rfl) (fun _ _ _ h => h) (Or.inl ⟨by rfl, fun w hSw => by (obtain ⟨q1, q2, q3⟩ := hSw; go_simp; with_reducible rfl)⟩) hHeld ?_
  simp only [Act.put, List.setIfInBounds_toArray, List.set_cons_zero, List.set_cons_succ]
  refine take_at 7 (some 77) rfl rfl (by kernel_rfl) (by kernel_rfl) (by kernel_rfl) (fun _ _ _ h => h) (Or.inl ⟨by rfl, fun w hSw => by (obtain ⟨q1, q2, q3⟩ := hSw; go_simp; with_reducible rfl)⟩) hHeld ?_
  simp only [Act.put, List.setIfInBounds_toArray, List.set_cons_zero, List.set_cons_succ]
  refine take_at (v := .string (sg ++ ⟨#[48, 46]⟩)) 1 (some 71) rfl rfl (by kernel_rfl) (by kernel_rfl) (by kernel_rfl) (fun _ _ _ h => h) (Or.inl ⟨by rfl, fun w hSw => by (go_simp; omega)⟩) hHeld ?_
  obtain ⟨sg2, hsg2⟩ : ∃ x : ByteArray, sg ++ ⟨#[48, 46]⟩ = x := ⟨_, rfl⟩
  rw [hsg2]
  have HS2 : Hid (L sg2 = L sg ++ [48, 46]) := by unfold Hid; rw [← hsg2, L_append]; rfl
  have hs2z : sg2.size ≤ 3 := by
    have := L_len sg2
    rw [HS2.out, List.length_append, L_len] at this
    simp only [List.length_cons, List.length_nil] at this
    omega
  clear hsg2
  simp only [Act.put, List.setIfInBounds_toArray, List.set_cons_zero, List.set_cons_succ]
  refine wpAnyH_ready (rs := [4]) (by kernel_rfl) (by simp) ?_
  refine AllReadyH.cons rfl (fun K hK => ?_) AllReadyH.nil
  go_simp
  rw [HWR.out]
  refine (HREP.out _).mono ?_
  rintro e u2 ⟨⟨t2, rfl, ht2⟩, hb2⟩
  have HT2 := Lib.hid ht2
  replace HBX := Lib.hid (HBX.out.trans (hb2.mono HBX.out.size))
  replace HB2 := Lib.hid (HB2.out.trans (hb2.mono HB2.out.size))
  have hs22 : t2.size ≤ 400 := by
    have := L_len t2
    rw [ht2, List.length_replicate] at this
    have := HPB.out
    omega
  clear ht2 hb2 HREP hHeld
  refine hK.out _ _ (HSZ.out _ HBX.out) (fun hHeld => ?_)
  clear hK K
  refine take_at 5 (some 75) rfl rfl (by kernel_rfl) (by kernel_rfl) (by kernel_rfl) (fun _ _ _ h => h) (Or.inl ⟨by rfl, fun w hSw => by (go_simp; first | (rw [if_neg (by omega)]) | with_reducible rfl)⟩) hHeld ?_
  simp only [Act.put, List.setIfInBounds_toArray, List.set_cons_zero, List.set_cons_succ]
  refine take_at 8 (some 78) rfl rfl (by kernel_rfl) (by kernel_rfl) (by kernel_rfl) (fun _ _ _ h => h) (Or.inl ⟨by rfl, fun w hSw => by (go_simp; first | (rw [if_neg (by omega)]) | with_reducible rfl)⟩) hHeld ?_
  simp only [Act.put, List.setIfInBounds_toArray, List.set_cons_zero, List.set_cons_succ]
  refine take_at 9 (some 2) rfl rfl (by kernel_rfl) (by kernel_rfl) (by kernel_rfl) (fun _ _ _ h => h) (Or.inl ⟨by rfl, fun w hSw => by (obtain ⟨q1, q2, q3⟩ := hSw; go_simp; with_reducible rfl)⟩) hHeld ?_
  simp only [Act.put, List.setIfInBounds_toArray, List.set_cons_zero, List.set_cons_succ]
  refine wpAnyH_done (by kernel_rfl) ?_ _
  clear hHeld
  go_wp2_with fail
  go_ret
  refine ⟨⟨_, rfl, ?_⟩, HB2.out⟩
  rw [HDC.out, HBD.out]
  simp only [L_append, HS2.out, HT2.out, List.append_assoc]
  rfl
theorem DDec4_any (neg : Bool) (s : ByteArray) (e : Int) (w : World) (hv : decB neg (L s) e = true) (hne : L s ≠ []) (h1 : 0 ≤ e) (h2 : 22 ≤ (s.size : Int) + e) :
    Calls Tryz.prog 16 #[.agg #[.bool neg, .string s, .int .i64 e]] w (StrP (decL neg (L s) e) w) := by
  obtain ⟨hs, he1, he2⟩ := dec_yes hv hne
  rw [L_len] at hs
  have hne' : s.toList.isEmpty = false := by rw [Bool.eq_false_iff]; exact fun h => hne (isEh.1 h)
  have hs1 : 1 ≤ s.size := by
    rcases Nat.eq_zero_or_pos s.size with h | h
    · exact absurd (List.length_eq_zero_iff.1 ((L_len s).trans h)) hne
    · exact h
  have HV := Lib.hid (fun w' => decValid_any neg s e w' (by omega))
  rw [hv] at HV
  have HDC : Hid (decL neg (L s) e = L (sgB neg) ++ bodL (L s) e) := by unfold Hid decL; rw [if_neg hne]
  obtain ⟨sg, hsg⟩ : ∃ sg, sg = sgB neg := ⟨_, rfl⟩
  have hsgs : sg.size ≤ 1 := by rw [hsg]; exact sgB_size neg
  rw [← hsg] at HDC
  obtain ⟨P, hP⟩ : ∃ P, (s.size : Int) + e = P := ⟨_, rfl⟩
  have HPP := Lib.hid hP
  have h3 : e ≥ 0 := by omega
  have HBD : Hid (bodL (L s) e = (L s).take 1 ++ ((if 1 < s.size then 46 :: (L s).drop 1 else []) ++ (101 :: wholeL (P - 1).toNat))) := by
    unfold Hid bodL
    rw [L_len]
    simp only [hP] at *
    refine (if_neg (by omega)).trans ((if_neg (by omega)).trans ((if_neg (by omega)).trans ?_))
    rw [if_neg (show ¬ P < 1 by omega)]
  have a1 : (0 ≤ e) = True := eq_true (by omega)
  have a2 : (e < 0) = False := eq_false (by omega)
  have a3 : (P ≤ 21) = False := eq_false (by omega)
  have a4 : (1 ≤ P) = True := eq_true (by omega)
  have a5 : (-5 ≤ P) = True := eq_true (by omega)
  have a6 : (P ≤ 0) = False := eq_false (by omega)
  have a7 : (P < 1) = False := eq_false (by omega)
  have HPB : Hid (22 ≤ P ∧ P ≤ 600) := by unfold Hid; omega
  have HWP : Hid (wrap64 (P - 1) = P - 1) := by unfold Hid wrap64; omega
  have HWH := Lib.hid (fun w' => by have := whole_any (P - 1).toNat w' (by omega); rw [Int.toNat_of_nonneg (show 0 ≤ P - 1 by omega)] at this; exact this)
  clear h1 h2 h3
  have HSG := Lib.hid hsg
  clear hv hne hP hsg
  go_enter Tryz.func16, Tryz.ntmps16
  go_upto_region 1 with fail
  generalize hW : World.alloc w _ = w1
  obtain ⟨ha1, -, hz1, hb1⟩ := alloc_of hW
  have HB1 := Lib.hid hb1
  obtain ⟨c0, c1, c2⟩ := row3 ha1
  have hz0 : w.heap.size < w1.heap.size := by omega
  have HSX : Hid (∀ w', Below w1.heap.size w1 w' → w'.cell? ⟨w.heap.size, 0, none⟩ = some (.bool neg) ∧ w'.cell? ⟨w.heap.size, 1, none⟩ = some (.string s) ∧ w'.cell? ⟨w.heap.size, 2, none⟩ = some (.int .i64 e)) := fun w' hb => ⟨(hb.cell (p := ⟨w.heap.size, 0, none⟩) hz0).trans c0, (hb.cell (p := ⟨w.heap.size, 1, none⟩) hz0).trans c1, (hb.cell (p := ⟨w.heap.size, 2, none⟩) hz0).trans c2⟩
  clear hW hb1
  go_wp2_with fail
  refine (HV.out _).mono ?_
  rintro e w2 ⟨rfl, hb2⟩
  have HX2 := Lib.hid hb2
  have HB2 := Lib.hid (HB1.out.trans (hb2.mono HB1.out.size))
  clear c0 c1 c2 HV
  obtain ⟨c0, c1, c2⟩ := HSX.out w2 hb2
  clear hb2 ha1 hz1 hz0
  go_upto_if 15 with fail
  go_cut [3] (fun v wx => v = .string sg ∧ w2 = wx)
  case first =>
    have hsg := HSG.out
    cases neg
    all_goals
      clear HSG
      go_wp2_with fail
      go_meet
      exact ⟨by rw [hsg]; rfl, rfl⟩
  case rest =>
  obtain ⟨rfl, rfl⟩ := hcut
  clear HSG
  go_upto_region 8 with fail
  rw [HPP.out]
  go_upto_if 85 with fail
  go_cut [3] (fun v wx => StrAt (L sg ++ ((L s).take 1 ++ (if 1 < s.size then 46 :: (L s).drop 1 else []))) v ∧ w2 = wx)
  case first =>
    by_cases hn : 1 < s.size
    · have hni : (1 < (s.size : Int)) = True := eq_true (by omega)
      go_wp2_with fail
      go_meet
      refine ⟨⟨_, rfl, ?_⟩, rfl⟩
      rw [if_pos hn]
      simp only [L_append, L_from, L_upto, List.append_assoc]
      rfl
    · have hni : (1 < (s.size : Int)) = False := eq_false (by omega)
      go_wp2_with fail
      go_meet
      refine ⟨⟨_, rfl, ?_⟩, rfl⟩
      rw [if_neg hn]
      simp only [L_append, L_upto, List.append_nil]
  case rest =>
  obtain ⟨⟨sm, rfl, hsm⟩, rfl⟩ := hcut
  have HSM := Lib.hid hsm
  have hsz : sm.size ≤ 200 := by
    have := L_len sm
    rw [hsm] at this
    have h1 : ((L s).take 1).length ≤ 1 := by simp only [List.length_take]; omega
    have h2 : (if 1 < s.size then 46 :: (L s).drop 1 else []).length ≤ 121 := by
      split
      · simp only [List.length_cons, List.length_drop, L_len]; omega
      · simp
    simp only [List.length_append, L_len] at this
    omega
  clear hsm
  go_wp2_with fail
  rw [HWP.out]
  refine (HWH.out _).mono ?_
  rintro e w4 ⟨⟨t2, rfl, ht2⟩, hb2⟩
  have HT2 := Lib.hid ht2
  have HB4 := Lib.hid (HB2.out.trans (hb2.mono HB2.out.size))
  have hs22 : t2.size ≤ 100 := by
    have h0 := L_len t2
    rw [ht2] at h0
    have h1 := HPB.out
    have h2 := wholeL_len (P - 1).toNat (by omega)
    omega
  clear ht2 hb2 HWH
  go_wp2_with fail
  go_ret
  refine ⟨⟨_, rfl, ?_⟩, HB4.out⟩
  rw [HDC.out, HBD.out]
  simp only [L_append, HSM.out, HT2.out, List.append_assoc]
  rfl
theorem DDec5_any (neg : Bool) (s : ByteArray) (e : Int) (w : World) (hv : decB neg (L s) e = true) (hne : L s ≠ []) (h2 : (s.size : Int) + e ≤ -6) :
    Calls Tryz.prog 16 #[.agg #[.bool neg, .string s, .int .i64 e]] w (StrP (decL neg (L s) e) w) := by
  obtain ⟨hs, he1, he2⟩ := dec_yes hv hne
  rw [L_len] at hs
  have hne' : s.toList.isEmpty = false := by rw [Bool.eq_false_iff]; exact fun h => hne (isEh.1 h)
  have hs1 : 1 ≤ s.size := by
    rcases Nat.eq_zero_or_pos s.size with h | h
    · exact absurd (List.length_eq_zero_iff.1 ((L_len s).trans h)) hne
    · exact h
  have HV := Lib.hid (fun w' => decValid_any neg s e w' (by omega))
  rw [hv] at HV
  have HDC : Hid (decL neg (L s) e = L (sgB neg) ++ bodL (L s) e) := by unfold Hid decL; rw [if_neg hne]
  obtain ⟨sg, hsg⟩ : ∃ sg, sg = sgB neg := ⟨_, rfl⟩
  have hsgs : sg.size ≤ 1 := by rw [hsg]; exact sgB_size neg
  rw [← hsg] at HDC
  obtain ⟨P, hP⟩ : ∃ P, (s.size : Int) + e = P := ⟨_, rfl⟩
  have HPP := Lib.hid hP
  have h3 : e < 0 := by omega
  have HBD : Hid (bodL (L s) e = (L s).take 1 ++ ((if 1 < s.size then 46 :: (L s).drop 1 else []) ++ (101 :: 45 :: wholeL (1 - P).toNat))) := by
    unfold Hid bodL
    rw [L_len]
    simp only [hP] at *
    refine (if_neg (by omega)).trans ((if_neg (by omega)).trans ((if_neg (by omega)).trans ?_))
    rw [if_pos (show P < 1 by omega)]
  have a1 : (0 ≤ e) = False := eq_false (by omega)
  have a2 : (e < 0) = True := eq_true (by omega)
  have a3 : (P ≤ 21) = True := eq_true (by omega)
  have a4 : (1 ≤ P) = False := eq_false (by omega)
  have a5 : (-5 ≤ P) = False := eq_false (by omega)
  have a6 : (P ≤ 0) = True := eq_true (by omega)
  have a7 : (P < 1) = True := eq_true (by omega)
  have HPB : Hid (-600 ≤ P ∧ P ≤ -6) := by unfold Hid; omega
  have HWP : Hid (wrap64 (1 - P) = 1 - P) := by unfold Hid wrap64; omega
  have HWH := Lib.hid (fun w' => by have := whole_any (1 - P).toNat w' (by omega); rw [Int.toNat_of_nonneg (show 0 ≤ 1 - P by omega)] at this; exact this)
  clear h2 h3
  have HSG := Lib.hid hsg
  clear hv hne hP hsg
  go_enter Tryz.func16, Tryz.ntmps16
  go_upto_region 1 with fail
  generalize hW : World.alloc w _ = w1
  obtain ⟨ha1, -, hz1, hb1⟩ := alloc_of hW
  have HB1 := Lib.hid hb1
  obtain ⟨c0, c1, c2⟩ := row3 ha1
  have hz0 : w.heap.size < w1.heap.size := by omega
  have HSX : Hid (∀ w', Below w1.heap.size w1 w' → w'.cell? ⟨w.heap.size, 0, none⟩ = some (.bool neg) ∧ w'.cell? ⟨w.heap.size, 1, none⟩ = some (.string s) ∧ w'.cell? ⟨w.heap.size, 2, none⟩ = some (.int .i64 e)) := fun w' hb => ⟨(hb.cell (p := ⟨w.heap.size, 0, none⟩) hz0).trans c0, (hb.cell (p := ⟨w.heap.size, 1, none⟩) hz0).trans c1, (hb.cell (p := ⟨w.heap.size, 2, none⟩) hz0).trans c2⟩
  clear hW hb1
  go_wp2_with fail
  refine (HV.out _).mono ?_
  rintro e w2 ⟨rfl, hb2⟩
  have HX2 := Lib.hid hb2
  have HB2 := Lib.hid (HB1.out.trans (hb2.mono HB1.out.size))
  clear c0 c1 c2 HV
  obtain ⟨c0, c1, c2⟩ := HSX.out w2 hb2
  clear hb2 ha1 hz1 hz0
  go_upto_if 15 with fail
  go_cut [3] (fun v wx => v = .string sg ∧ w2 = wx)
  case first =>
    have hsg := HSG.out
    cases neg
    all_goals
      clear HSG
      go_wp2_with fail
      go_meet
      exact ⟨by rw [hsg]; rfl, rfl⟩
  case rest =>
  obtain ⟨rfl, rfl⟩ := hcut
  clear HSG
  go_upto_region 8 with fail
  rw [HPP.out]
  go_upto_if 85 with fail
  go_cut [3] (fun v wx => StrAt (L sg ++ ((L s).take 1 ++ (if 1 < s.size then 46 :: (L s).drop 1 else []))) v ∧ w2 = wx)
  case first =>
    by_cases hn : 1 < s.size
    · have hni : (1 < (s.size : Int)) = True := eq_true (by omega)
      go_wp2_with fail
      go_meet
      refine ⟨⟨_, rfl, ?_⟩, rfl⟩
      rw [if_pos hn]
      simp only [L_append, L_from, L_upto, List.append_assoc]
      rfl
    · have hni : (1 < (s.size : Int)) = False := eq_false (by omega)
      go_wp2_with fail
      go_meet
      refine ⟨⟨_, rfl, ?_⟩, rfl⟩
      rw [if_neg hn]
      simp only [L_append, L_upto, List.append_nil]
  case rest =>
  obtain ⟨⟨sm, rfl, hsm⟩, rfl⟩ := hcut
  have HSM := Lib.hid hsm
  have hsz : sm.size ≤ 200 := by
    have := L_len sm
    rw [hsm] at this
    have h1 : ((L s).take 1).length ≤ 1 := by simp only [List.length_take]; omega
    have h2 : (if 1 < s.size then 46 :: (L s).drop 1 else []).length ≤ 121 := by
      split
      · simp only [List.length_cons, List.length_drop, L_len]; omega
      · simp
    simp only [List.length_append, L_len] at this
    omega
  clear hsm
  go_wp2_with fail
  rw [HWP.out]
  refine (HWH.out _).mono ?_
  rintro e w4 ⟨⟨t2, rfl, ht2⟩, hb2⟩
  have HT2 := Lib.hid ht2
  have HB4 := Lib.hid (HB2.out.trans (hb2.mono HB2.out.size))
  have hs22 : t2.size ≤ 100 := by
    have h0 := L_len t2
    rw [ht2] at h0
    have h1 := HPB.out
    have h2 := wholeL_len (1 - P).toNat (by omega)
    omega
  clear ht2 hb2 HWH
  go_wp2_with fail
  go_ret
  refine ⟨⟨_, rfl, ?_⟩, HB4.out⟩
  rw [HDC.out, HBD.out]
  simp only [L_append, HSM.out, HT2.out, List.append_assoc]
  rfl
theorem DDec6_any (neg : Bool) (s : ByteArray) (e : Int) (w : World) (hv : decB neg (L s) e = true) (hne : L s ≠ []) (h1 : e < 0) (h2 : 22 ≤ (s.size : Int) + e) :
    Calls Tryz.prog 16 #[.agg #[.bool neg, .string s, .int .i64 e]] w (StrP (decL neg (L s) e) w) := by
  obtain ⟨hs, he1, he2⟩ := dec_yes hv hne
  rw [L_len] at hs
  have hne' : s.toList.isEmpty = false := by rw [Bool.eq_false_iff]; exact fun h => hne (isEh.1 h)
  have hs1 : 1 ≤ s.size := by
    rcases Nat.eq_zero_or_pos s.size with h | h
    · exact absurd (List.length_eq_zero_iff.1 ((L_len s).trans h)) hne
    · exact h
  have HV := Lib.hid (fun w' => decValid_any neg s e w' (by omega))
  rw [hv] at HV
  have HDC : Hid (decL neg (L s) e = L (sgB neg) ++ bodL (L s) e) := by unfold Hid decL; rw [if_neg hne]
  obtain ⟨sg, hsg⟩ : ∃ sg, sg = sgB neg := ⟨_, rfl⟩
  have hsgs : sg.size ≤ 1 := by rw [hsg]; exact sgB_size neg
  rw [← hsg] at HDC
  obtain ⟨P, hP⟩ : ∃ P, (s.size : Int) + e = P := ⟨_, rfl⟩
  have HPP := Lib.hid hP
  have h3 : e < 0 := by omega
  have HBD : Hid (bodL (L s) e = (L s).take 1 ++ ((if 1 < s.size then 46 :: (L s).drop 1 else []) ++ (101 :: wholeL (P - 1).toNat))) := by
    unfold Hid bodL
    rw [L_len]
    simp only [hP] at *
    refine (if_neg (by omega)).trans ((if_neg (by omega)).trans ((if_neg (by omega)).trans ?_))
    rw [if_neg (show ¬ P < 1 by omega)]
  have a1 : (0 ≤ e) = False := eq_false (by omega)
  have a2 : (e < 0) = True := eq_true (by omega)
  have a3 : (P ≤ 21) = False := eq_false (by omega)
  have a4 : (1 ≤ P) = True := eq_true (by omega)
  have a5 : (-5 ≤ P) = True := eq_true (by omega)
  have a6 : (P ≤ 0) = False := eq_false (by omega)
  have a7 : (P < 1) = False := eq_false (by omega)
  have HPB : Hid (22 ≤ P ∧ P ≤ 600) := by unfold Hid; omega
  have HWP : Hid (wrap64 (P - 1) = P - 1) := by unfold Hid wrap64; omega
  have HWH := Lib.hid (fun w' => by have := whole_any (P - 1).toNat w' (by omega); rw [Int.toNat_of_nonneg (show 0 ≤ P - 1 by omega)] at this; exact this)
  clear h1 h2 h3
  have HSG := Lib.hid hsg
  clear hv hne hP hsg
  go_enter Tryz.func16, Tryz.ntmps16
  go_upto_region 1 with fail
  generalize hW : World.alloc w _ = w1
  obtain ⟨ha1, -, hz1, hb1⟩ := alloc_of hW
  have HB1 := Lib.hid hb1
  obtain ⟨c0, c1, c2⟩ := row3 ha1
  have hz0 : w.heap.size < w1.heap.size := by omega
  have HSX : Hid (∀ w', Below w1.heap.size w1 w' → w'.cell? ⟨w.heap.size, 0, none⟩ = some (.bool neg) ∧ w'.cell? ⟨w.heap.size, 1, none⟩ = some (.string s) ∧ w'.cell? ⟨w.heap.size, 2, none⟩ = some (.int .i64 e)) := fun w' hb => ⟨(hb.cell (p := ⟨w.heap.size, 0, none⟩) hz0).trans c0, (hb.cell (p := ⟨w.heap.size, 1, none⟩) hz0).trans c1, (hb.cell (p := ⟨w.heap.size, 2, none⟩) hz0).trans c2⟩
  clear hW hb1
  go_wp2_with fail
  refine (HV.out _).mono ?_
  rintro e w2 ⟨rfl, hb2⟩
  have HX2 := Lib.hid hb2
  have HB2 := Lib.hid (HB1.out.trans (hb2.mono HB1.out.size))
  clear c0 c1 c2 HV
  obtain ⟨c0, c1, c2⟩ := HSX.out w2 hb2
  clear hb2 ha1 hz1 hz0
  go_upto_if 15 with fail
  go_cut [3] (fun v wx => v = .string sg ∧ w2 = wx)
  case first =>
    have hsg := HSG.out
    cases neg
    all_goals
      clear HSG
      go_wp2_with fail
      go_meet
      exact ⟨by rw [hsg]; rfl, rfl⟩
  case rest =>
  obtain ⟨rfl, rfl⟩ := hcut
  clear HSG
  go_upto_region 8 with fail
  rw [HPP.out]
  go_upto_if 85 with fail
  go_cut [3] (fun v wx => StrAt (L sg ++ ((L s).take 1 ++ (if 1 < s.size then 46 :: (L s).drop 1 else []))) v ∧ w2 = wx)
  case first =>
    by_cases hn : 1 < s.size
    · have hni : (1 < (s.size : Int)) = True := eq_true (by omega)
      go_wp2_with fail
      go_meet
      refine ⟨⟨_, rfl, ?_⟩, rfl⟩
      rw [if_pos hn]
      simp only [L_append, L_from, L_upto, List.append_assoc]
      rfl
    · have hni : (1 < (s.size : Int)) = False := eq_false (by omega)
      go_wp2_with fail
      go_meet
      refine ⟨⟨_, rfl, ?_⟩, rfl⟩
      rw [if_neg hn]
      simp only [L_append, L_upto, List.append_nil]
  case rest =>
  obtain ⟨⟨sm, rfl, hsm⟩, rfl⟩ := hcut
  have HSM := Lib.hid hsm
  have hsz : sm.size ≤ 200 := by
    have := L_len sm
    rw [hsm] at this
    have h1 : ((L s).take 1).length ≤ 1 := by simp only [List.length_take]; omega
    have h2 : (if 1 < s.size then 46 :: (L s).drop 1 else []).length ≤ 121 := by
      split
      · simp only [List.length_cons, List.length_drop, L_len]; omega
      · simp
    simp only [List.length_append, L_len] at this
    omega
  clear hsm
  go_wp2_with fail
  rw [HWP.out]
  refine (HWH.out _).mono ?_
  rintro e w4 ⟨⟨t2, rfl, ht2⟩, hb2⟩
  have HT2 := Lib.hid ht2
  have HB4 := Lib.hid (HB2.out.trans (hb2.mono HB2.out.size))
  have hs22 : t2.size ≤ 100 := by
    have h0 := L_len t2
    rw [ht2] at h0
    have h1 := HPB.out
    have h2 := wholeL_len (P - 1).toNat (by omega)
    omega
  clear ht2 hb2 HWH
  go_wp2_with fail
  go_ret
  refine ⟨⟨_, rfl, ?_⟩, HB4.out⟩
  rw [HDC.out, HBD.out]
  simp only [L_append, HSM.out, HT2.out, List.append_assoc]
  rfl
theorem DDec0_any (neg : Bool) (e : Int) (w : World) :
    Calls Tryz.prog 16 #[.agg #[.bool neg, .string ⟨#[]⟩, .int .i64 e]] w (StrP (decL neg (L ⟨#[]⟩) e) w) := by
  go_enter Tryz.func16, Tryz.ntmps16
  go_wp2_with fail
  go_ret
  exact ⟨⟨_, rfl, rfl⟩, (Below.refl _ _).alloc (Nat.le_refl _) _⟩
theorem DDec_any (neg : Bool) (s : ByteArray) (e : Int) (w : World) (hv : decB neg (L s) e = true) :
    Calls Tryz.prog 16 #[.agg #[.bool neg, .string s, .int .i64 e]] w (StrP (decL neg (L s) e) w) := by
  by_cases hne : L s = []
  · obtain rfl : s = ⟨#[]⟩ := L_inj hne
    exact DDec0_any neg e w
  have hp : 1 ≤ s.size := by
    rcases Nat.eq_zero_or_pos s.size with h | h
    · exact absurd (List.length_eq_zero_iff.1 ((L_len s).trans h)) hne
    · exact h
  by_cases h0 : 0 ≤ e
  · by_cases h1 : (s.size : Int) + e ≤ 21
    · exact DDec1_any neg s e w hv hne h0 h1
    · exact DDec4_any neg s e w hv hne h0 (by omega)
  by_cases h1 : (s.size : Int) + e ≤ -6
  · exact DDec5_any neg s e w hv hne h1
  by_cases h2 : (s.size : Int) + e ≤ 0
  · exact DDec3_any neg s e w hv hne (by omega) (by omega) h2
  by_cases h3 : (s.size : Int) + e ≤ 21
  · exact DDec2_any neg s e w hv hne (by omega) (by omega) h3
  · exact DDec6_any neg s e w hv hne (by omega) (by omega)
end Go.Proofs.YtlnpfpjncnkekaaGreatDoor

namespace Go.Proofs.YtlnpfpjncnkekaaGreatDoor
open Go.RowKit
set_option maxRecDepth 100000
set_option maxHeartbeats 1000000

theorem runL_app : ∀ (a r : List UInt8), (∀ b ∈ a, dig b = true) → runL (a ++ r) = a.length + runL r
  | [], r, _ => by rw [List.nil_append, List.length_nil, Nat.zero_add]
  | b :: t, r, h => by
    rw [List.cons_append, runL, if_pos (h b List.mem_cons_self), runL_app t r (fun c hc => h c (List.mem_cons_of_mem _ hc)), List.length_cons]
    omega
theorem runL_stop (c : UInt8) (t : List UInt8) (h : dig c = false) : runL (c :: t) = 0 := by rw [runL, if_neg (by rw [h]; decide)]
theorem runL_full (a : List UInt8) (h : ∀ b ∈ a, dig b = true) : runL a = a.length := by
  have := runL_app a [] h
  rw [List.append_nil] at this
  rw [this]
  rfl
theorem zl_zeros (l : List UInt8) : ∀ k, zl (List.replicate k 48 ++ l) = zl l
  | 0 => rfl
  | k + 1 => by rw [List.replicate_succ, List.cons_append, zl, if_pos (by decide), zl_zeros l k]
theorem tz_zeros (l : List UInt8) : ∀ k, tz (l ++ List.replicate k 48) = tz l + k
  | 0 => by rw [List.replicate_zero, List.append_nil]; rfl
  | k + 1 => by rw [List.replicate_succ', ← List.append_assoc, tz_snoc, if_pos (by decide), tz_zeros l k]; rfl
/-- Digits in normal form. -/
structure DsOk (l : List UInt8) : Prop where
  ne : l ≠ []
  len : l.length ≤ 120
  dg : ∀ b ∈ l, dig b = true
  hd : ∀ b t, l = b :: t → b.toNat ≠ 48
  tl : tz l = 0
theorem ds_of {neg : Bool} {l : List UInt8} {e : Int} (h : decB neg l e = true) (hn : l ≠ []) : DsOk l ∧ -400 ≤ e ∧ e ≤ 400 := by
  unfold decB at h
  rw [if_neg hn] at h
  simp only [Bool.and_eq_true, decide_eq_true_eq] at h
  obtain ⟨h1, h2, h3, h4, h5⟩ := h
  unfold natB at h2
  simp only [Bool.and_eq_true, decide_eq_true_eq, List.all_eq_true] at h2
  refine ⟨⟨hn, h1, h2.2.1, fun b t hb h48 => ?_, h3⟩, h4, h5⟩
  apply h2.2.2
  rw [hb]
  simp [h48]
theorem norm_back (ng : Bool) (l : List UInt8) (h : DsOk l) (j k : Nat) (e : Int) (h1 : -400 ≤ e + k) (h2 : e + k ≤ 400) : normL ng (List.replicate j 48 ++ (l ++ List.replicate k 48)) e = ⟨ng, l, e + k, 0⟩ := by
  obtain ⟨a1, a2, a3, a4, a5⟩ := h
  unfold normL
  have hz : zl (List.replicate j 48 ++ (l ++ List.replicate k 48)) = l ++ List.replicate k 48 := by
    rw [zl_zeros]
    rcases hl : l with _ | ⟨b, t⟩
    · exact absurd hl a1
    · rw [List.cons_append, zl, if_neg (a4 b t hl)]
  rw [hz]
  unfold normS
  have ht : tz (l ++ List.replicate k 48) = k := by rw [tz_zeros, a5]; omega
  have hn : l ++ List.replicate k 48 ≠ [] := by simp [a1]
  rw [if_neg hn, ht, if_neg (by rw [List.length_append, List.length_replicate]; omega), List.length_append, List.length_replicate, Nat.add_sub_cancel, List.take_left]
theorem pre1h (c : UInt8) (b : UInt8) (t : List UInt8) : pre (b :: t) [c] = decide (b = c) := by
  unfold pre
  rw [Bool.eq_iff_iff, beq_iff_eq, decide_eq_true_eq]
  simp
theorem dec_signed (neg : Bool) (b : List UInt8) (h : ∀ t, b ≠ 45 :: t) : decP numP (L (sgB neg) ++ b) = intP numP neg b := by
  unfold decP
  cases neg
  · show intP numP (pre b [45]) (if pre b [45] then b.drop 1 else b) = _
    have : pre b [45] = false := by
      rcases b with _ | ⟨c, t⟩
      · rfl
      · rw [pre1h, decide_eq_false]
        rintro rfl
        exact h t rfl
    rw [this]
    rfl
  · show intP numP (pre (45 :: b) [45]) (if pre (45 :: b) [45] then (45 :: b).drop 1 else 45 :: b) = _
    rw [pre1h, decide_eq_true rfl, if_pos rfl]
    rfl
theorem int_back (ng : Bool) (a r : List UInt8) (ha : ∀ b ∈ a, dig b = true) (hr : runL r = 0) (hne : a ≠ []) (hz : a.length = 1 ∨ ∀ b t, a = b :: t → b.toNat ≠ 48) : intP numP ng (a ++ r) = fracP numP ng a r := by
  unfold intP
  have hrun : runL (a ++ r) = a.length := by rw [runL_app a r ha, hr]; rfl
  rw [hrun, if_neg, List.take_left, List.drop_left]
  rintro (h | ⟨h1, h2⟩)
  · exact hne (List.length_eq_zero_iff.1 h)
  · rcases hz with hz | hz
    · omega
    · rcases a with _ | ⟨b, t⟩
      · exact hne rfl
      · rw [List.cons_append] at h2
        unfold zero0 at h2
        exact hz b t rfl (beq_iff_eq.1 h2)
theorem frac_none (ng : Bool) (a r : List UInt8) (h : ∀ t, r ≠ 46 :: t) : fracP numP ng a r = expoP numP ng a 0 r := by
  unfold fracP
  rw [if_neg]
  rcases r with _ | ⟨c, t⟩
  · decide
  · rw [pre1h, decide_eq_true_eq]
    rintro rfl
    exact h t rfl
theorem frac_some (ng : Bool) (a m r : List UInt8) (hm : ∀ b ∈ m, dig b = true) (hne : m ≠ []) (hr : runL r = 0) : fracP numP ng a (46 :: (m ++ r)) = expoP numP ng (a ++ m) (-(m.length : Int)) r := by
  unfold fracP
  have hrun : runL (m ++ r) = m.length := by rw [runL_app m r hm, hr]; rfl
  rw [if_pos (by rw [pre1h]; decide), List.drop_succ_cons, List.drop_zero, hrun, if_neg (fun h => hne (List.length_eq_zero_iff.1 h)), List.take_left, List.drop_succ_cons, List.drop_left]
theorem valL_numL (n : Nat) : valL 0 (numL n) = n := by
  induction n using Nat.strongRecOn with
  | _ n ih =>
    rcases Nat.eq_zero_or_pos n with rfl | hp
    · unfold numL
      rw [digQ_zero]
      rfl
    · rw [numL_pos n hp, valL_app, ih (n / 10) (by omega)]
      show 10 * (n / 10) + ((UInt8.ofNat (48 + n % 10)).toNat - 48) = n
      rw [UInt8.toNat_ofNat']
      omega
theorem digQ_dig (n : Nat) : ∀ b ∈ digQ n, dig b = true := by
  induction n using Nat.strongRecOn with
  | _ n ih =>
    intro b hb
    rcases Nat.eq_zero_or_pos n with rfl | hp
    · rw [digQ_zero] at hb
      cases hb
    · rw [digQ_pos n hp] at hb
      rcases List.mem_cons.1 hb with rfl | hb
      · unfold dig
        rw [decide_eq_true_eq, UInt8.toNat_ofNat']
        omega
      · exact ih _ (by omega) b hb
theorem wholeL_dig (n : Nat) : ∀ b ∈ wholeL n, dig b = true := by
  intro b hb
  unfold wholeL at hb
  split at hb
  · rw [List.mem_singleton.1 hb]; rfl
  · unfold numL at hb
    exact digQ_dig n b (List.mem_reverse.1 hb)
theorem wholeL_ne (n : Nat) : wholeL n ≠ [] := by
  unfold wholeL
  split
  · simp
  · rename_i h
    rw [numL_pos n (by omega)]
    simp
theorem valL_zl : ∀ l : List UInt8, valL 0 (zl l) = valL 0 l
  | [] => rfl
  | b :: t => by
    rw [zl]
    split
    · rename_i h
      rw [valL_zl t]
      show _ = valL (10 * 0 + (b.toNat - 48)) t
      rw [h]
    · rfl
theorem num_whole (n : Nat) (h : n < 1000) : numP (wholeL n) = n := by
  unfold numP
  have h1 := zl_le (wholeL n)
  have h2 := wholeL_len n h
  rw [if_pos (by omega), valL_zl]
  unfold wholeL
  split
  · rename_i h0
    rw [h0]
    rfl
  · rw [valL_numL]
theorem expT_plus (ng : Bool) (l : List UInt8) (e : Int) (n : Nat) (h : n < 1000) : expoP numP ng l e (101 :: wholeL n) = normL ng l (e + n) := by
  show (if (101 : UInt8).toNat = 101 ∨ (101 : UInt8).toNat = 69 then expT numP ng l e (wholeL n) else badR 3) = _
  rw [if_pos (.inl (by decide))]
  have h1 : pre (wholeL n) [45] = false ∧ pre (wholeL n) [43] = false := by
    have hd := wholeL_dig n
    rcases hw : wholeL n with _ | ⟨b, t⟩
    · exact ⟨rfl, rfl⟩
    · rw [hw] at hd
      have := hd b List.mem_cons_self
      rw [pre1h, pre1h]
      refine ⟨decide_eq_false ?_, decide_eq_false ?_⟩
      · rintro rfl; revert this; decide
      · rintro rfl; revert this; decide
  have hx : exsS (wholeL n) = wholeL n := by
    unfold exsS
    rw [h1.1, h1.2]
    rfl
  unfold expT
  rw [hx, if_neg, h1.1, num_whole n h]
  · rfl
  · rintro (h | h)
    · exact wholeL_ne n h
    · exact h (runL_full _ (wholeL_dig n))
theorem expT_minus (ng : Bool) (l : List UInt8) (e : Int) (n : Nat) (h : n < 1000) : expoP numP ng l e (101 :: 45 :: wholeL n) = normL ng l (e - n) := by
  show (if (101 : UInt8).toNat = 101 ∨ (101 : UInt8).toNat = 69 then expT numP ng l e (45 :: wholeL n) else badR 3) = _
  rw [if_pos (.inl (by decide))]
  have h1 : pre (45 :: wholeL n) [45] = true := by rw [pre1h]; decide
  have hx : exsS (45 :: wholeL n) = wholeL n := by
    unfold exsS
    rw [h1]
    rfl
  unfold expT
  rw [hx, if_neg, h1, num_whole n h]
  · rfl
  · rintro (h | h)
    · exact wholeL_ne n h
    · exact h (runL_full _ (wholeL_dig n))
theorem rep_dig (k : Nat) : ∀ b ∈ List.replicate k (48 : UInt8), dig b = true := by
  intro b hb
  rw [(List.mem_replicate.1 hb).2]
  rfl
theorem dec_back (neg : Bool) (l : List UInt8) (e : Int) (h : decB neg l e = true) : decP numP (decL neg l e) = ⟨neg, l, e, 0⟩ := by
  by_cases hn : l = []
  · subst hn
    unfold decB at h
    rw [if_pos rfl] at h
    simp only [Bool.and_eq_true, Bool.not_eq_true', decide_eq_true_eq] at h
    obtain ⟨rfl, rfl⟩ := h
    rfl
  obtain ⟨hok, he1, he2⟩ := ds_of h hn
  clear h
  obtain ⟨a1, a2, a3, a4, a5⟩ := hok
  obtain ⟨b, t, rfl⟩ : ∃ b t, l = b :: t := by
    rcases l with _ | ⟨b, t⟩
    · exact absurd rfl hn
    · exact ⟨b, t, rfl⟩
  have hb45 : b ≠ 45 := by
    rintro rfl
    have := a3 45 List.mem_cons_self
    revert this
    decide
  have htd : ∀ c ∈ t, dig c = true := fun c hc => a3 c (List.mem_cons_of_mem _ hc)
  have hlen : (b :: t).length = t.length + 1 := rfl
  obtain ⟨p, hp⟩ : ∃ p : Int, p = ((b :: t).length : Int) + e := ⟨_, rfl⟩
  unfold decL
  rw [if_neg hn]
  unfold bodL
  simp only
  rw [← hp]
  by_cases c1 : 0 ≤ e ∧ p ≤ 21
  · rw [if_pos c1, dec_signed _ _ (by intro u hu; rw [List.cons_append] at hu; injection hu with h1 _; exact hb45 h1)]
    have hall : ∀ c ∈ b :: t ++ List.replicate e.toNat 48, dig c = true := by
      intro c hc
      rcases List.mem_append.1 hc with hc | hc
      · exact a3 c hc
      · exact rep_dig _ c hc
    have := int_back neg (b :: t ++ List.replicate e.toNat 48) [] hall rfl (by simp) (.inr (by rintro x y hxy; rw [List.cons_append] at hxy; injection hxy with h1 _; rw [← h1]; exact a4 b t rfl))
    rw [List.append_nil] at this
    rw [this, frac_none _ _ _ (by simp)]
    show normL neg (b :: t ++ List.replicate e.toNat 48) 0 = _
    have hnb := norm_back neg (b :: t) ⟨a1, a2, a3, a4, a5⟩ 0 e.toNat 0 (by omega) (by omega)
    rw [List.replicate_zero, List.nil_append] at hnb
    rw [hnb]
    congr 1
    omega
  rw [if_neg c1]
  by_cases c2 : e < 0 ∧ 1 ≤ p ∧ p ≤ 21
  · rw [if_pos c2]
    obtain ⟨q, hq⟩ : ∃ q : Nat, p.toNat = q + 1 := ⟨p.toNat - 1, by omega⟩
    rw [hq, List.take_succ_cons, List.drop_succ_cons, dec_signed _ _ (by intro u hu; rw [List.cons_append] at hu; injection hu with h1 _; exact hb45 h1)]
    have hqt : q < t.length := by omega
    rw [int_back neg (b :: t.take q) (46 :: t.drop q) (by
      intro c hc
      rcases List.mem_cons.1 hc with rfl | hc
      · exact a3 c List.mem_cons_self
      · exact htd c (List.mem_of_mem_take hc)) (runL_stop _ _ (by decide)) (by simp) (.inr (by rintro x y hxy; injection hxy with h1 _; rw [← h1]; exact a4 b t rfl))]
    have hfs := frac_some neg (b :: t.take q) (t.drop q) [] (fun c hc => htd c (List.mem_of_mem_drop hc)) (by
      intro h
      have := congrArg List.length h
      rw [List.length_drop] at this
      simp at this
      omega) rfl
    rw [List.append_nil] at hfs
    rw [hfs, List.cons_append, List.take_append_drop]
    show normL neg (b :: t) _ = _
    have hnb := norm_back neg (b :: t) ⟨a1, a2, a3, a4, a5⟩ 0 0 (-((t.drop q).length : Int)) (by rw [List.length_drop]; omega) (by rw [List.length_drop]; omega)
    rw [List.replicate_zero, List.nil_append, List.append_nil] at hnb
    rw [hnb, List.length_drop]
    congr 1
    omega
  rw [if_neg c2]
  by_cases c3 : -5 ≤ p ∧ p ≤ 0
  · rw [if_pos c3, dec_signed _ _ (by intro u hu; injection hu with h1 _; revert h1; decide)]
    have h0 := int_back neg [48] (46 :: (List.replicate (-p).toNat 48 ++ b :: t)) (by intro c hc; rw [List.mem_singleton.1 hc]; rfl) (runL_stop _ _ (by decide)) (by simp) (.inl rfl)
    rw [List.singleton_append] at h0
    rw [h0]
    have hfs := frac_some neg [48] (List.replicate (-p).toNat 48 ++ b :: t) [] (by
      intro c hc
      rcases List.mem_append.1 hc with hc | hc
      · exact rep_dig _ c hc
      · exact a3 c hc) (by simp) rfl
    rw [List.append_nil] at hfs
    rw [hfs]
    have hnb := norm_back neg (b :: t) ⟨a1, a2, a3, a4, a5⟩ ((-p).toNat + 1) 0 (-((List.replicate (-p).toNat (48 : UInt8) ++ b :: t).length : Int)) (by rw [List.length_append, List.length_replicate]; omega) (by rw [List.length_append, List.length_replicate]; omega)
    rw [List.replicate_zero, List.append_nil, List.replicate_succ, List.cons_append] at hnb
    show normL neg (48 :: (List.replicate (-p).toNat 48 ++ b :: t)) _ = _
    rw [hnb, List.length_append, List.length_replicate]
    congr 1
    omega
  rw [if_neg c3]
  have hnb := norm_back neg (b :: t) ⟨a1, a2, a3, a4, a5⟩ 0 0 e (by omega) (by omega)
  rw [List.replicate_zero, List.nil_append, List.append_nil] at hnb
  have hex : expoP numP neg (b :: t) (-(t.length : Int)) (if p < 1 then 101 :: 45 :: wholeL (1 - p).toNat else 101 :: wholeL (p - 1).toNat) = ⟨neg, b :: t, e, 0⟩ := by
    by_cases hp1 : p < 1
    · rw [if_pos hp1, expT_minus _ _ _ _ (by omega), show -(t.length : Int) - ((1 - p).toNat : Int) = e by omega, hnb]
      congr 1
      omega
    · rw [if_neg hp1, expT_plus _ _ _ _ (by omega), show -(t.length : Int) + ((p - 1).toNat : Int) = e by omega, hnb]
      congr 1
      omega
  have hxr : ∃ c u, (if p < 1 then 101 :: 45 :: wholeL (1 - p).toNat else 101 :: wholeL (p - 1).toNat) = c :: u ∧ c = 101 := by
    split
    · exact ⟨_, _, rfl, rfl⟩
    · exact ⟨_, _, rfl, rfl⟩
  generalize (if p < 1 then (101 : UInt8) :: 45 :: wholeL (1 - p).toNat else 101 :: wholeL (p - 1).toNat) = ex at *
  obtain ⟨c, u, rfl, rfl⟩ := hxr
  rw [List.take_succ_cons, List.take_zero, List.drop_succ_cons, List.drop_zero, dec_signed _ _ (by intro u hu; rw [List.cons_append] at hu; injection hu with h1 _; exact hb45 h1)]
  have hbd : ∀ c ∈ [b], dig c = true := by intro c hc; rw [List.mem_singleton.1 hc]; exact a3 b List.mem_cons_self
  by_cases hl : 1 < (b :: t).length
  · rw [if_pos hl]
    show intP numP neg ([b] ++ (46 :: (t ++ 101 :: u))) = _
    rw [int_back neg [b] _ hbd (runL_stop _ _ (by decide)) (by simp) (.inl rfl), frac_some neg [b] t (101 :: u) htd (by rintro rfl; simp at hl) (runL_stop _ _ (by decide))]
    exact hex
  · obtain rfl : t = [] := by
      rcases t with _ | ⟨x, y⟩
      · rfl
      · simp at hl
    rw [if_neg hl]
    show intP numP neg ([b] ++ (101 :: u)) = _
    rw [int_back neg [b] _ hbd (runL_stop _ _ (by decide)) (by simp) (.inl rfl), frac_none _ _ _ (by intro t h; injection h with h _; revert h; decide)]
    exact hex
end Go.Proofs.YtlnpfpjncnkekaaGreatDoor

namespace Go.Proofs.YtlnpfpjncnkekaaGreatDoor
open Go.RowKit
set_option maxRecDepth 100000
set_option maxHeartbeats 1000000

theorem dch (x : Nat) : dig (UInt8.ofNat (48 + x % 10)) = true := by
  unfold dig
  rw [decide_eq_true_eq, UInt8.toNat_ofNat']
  omega
theorem padL_dig : ∀ (c n : Nat), ∀ b ∈ padL c n, dig b = true
  | 0, n, b, hb => by cases hb
  | c + 1, n, b, hb => by
    rcases List.mem_cons.1 hb with rfl | hb
    · exact dch _
    · exact padL_dig c n b hb
theorem val2 (n : Nat) (h : n < 100) : valL 0 (padL 2 n) = n := by
  rw [valL_pad]
  omega
theorem lk10 (a0 a1 a2 a3 a5 a6 a8 a9 : UInt8) (r : List UInt8) (h0 : dig a0 = true) (h1 : dig a1 = true) (h2 : dig a2 = true) (h3 : dig a3 = true) (h5 : dig a5 = true) (h6 : dig a6 = true) (h8 : dig a8 = true) (h9 : dig a9 = true) :
    likeB (a0 :: a1 :: a2 :: a3 :: 45 :: a5 :: a6 :: 45 :: a8 :: a9 :: r) [100, 100, 100, 100, 45, 100, 100, 45, 100, 100] = true := by
  simp [likeB, h0, h1, h2, h3, h5, h6, h8, h9]
theorem lk8 (a0 a1 a3 a4 a6 a7 : UInt8) (r : List UInt8) (h0 : dig a0 = true) (h1 : dig a1 = true) (h3 : dig a3 = true) (h4 : dig a4 = true) (h6 : dig a6 = true) (h7 : dig a7 = true) :
    likeB (a0 :: a1 :: 58 :: a3 :: a4 :: 58 :: a6 :: a7 :: r) [100, 100, 58, 100, 100, 58, 100, 100] = true := by
  simp [likeB, h0, h1, h3, h4, h6, h7]
theorem lk6 (c a1 a2 a4 a5 : UInt8) (hc : c.toNat ≠ 100) (h1 : dig a1 = true) (h2 : dig a2 = true) (h4 : dig a4 = true) (h5 : dig a5 = true) : likeB [c, a1, a2, 58, a4, a5] [c, 100, 100, 58, 100, 100] = true := by
  simp [likeB, hc, h1, h2, h4, h5]
theorem date_like (y m d : Nat) (r : List UInt8) : likeB (dateL y m d ++ r) (L datF) = true := by
  show likeB (UInt8.ofNat (48 + y / 10 ^ 3 % 10) :: UInt8.ofNat (48 + y / 10 ^ 2 % 10) :: UInt8.ofNat (48 + y / 10 ^ 1 % 10) :: UInt8.ofNat (48 + y / 10 ^ 0 % 10) :: 45 :: UInt8.ofNat (48 + m / 10 ^ 1 % 10) :: UInt8.ofNat (48 + m / 10 ^ 0 % 10) :: 45 :: UInt8.ofNat (48 + d / 10 ^ 1 % 10) :: UInt8.ofNat (48 + d / 10 ^ 0 % 10) :: r) [100, 100, 100, 100, 45, 100, 100, 45, 100, 100] = true
  exact lk10 _ _ _ _ _ _ _ _ _ (dch _) (dch _) (dch _) (dch _) (dch _) (dch _) (dch _) (dch _)
theorem date_parts (y m d : Nat) (r : List UInt8) : (dateL y m d ++ r).take 4 = padL 4 y ∧ ((dateL y m d ++ r).drop 5).take 2 = padL 2 m ∧ ((dateL y m d ++ r).drop 8).take 2 = padL 2 d ∧ (dateL y m d ++ r).drop 10 = r :=
  ⟨rfl, rfl, rfl, rfl⟩
theorem rp_date {n y m d : Nat} (h : DateIs n y m d) (r : List UInt8) : rpR (dateL y m d ++ r) = datedR (n, 0) r := by
  have h1 := h.y2
  have h2 := h.m2
  have h3 := h.d2
  have h4 := monC_le y m
  obtain ⟨e1, e2, e3, e4⟩ := date_parts y m d r
  unfold rpR
  rw [if_neg (by rw [date_like]; decide), e1, e2, e3, e4, val2 m (by omega), val2 d (by omega), valL_pad, show 0 * 10 ^ 4 + y % 10 ^ 4 = y by omega, h.day]
theorem strip_split (l : List UInt8) : ∃ k, l = stripZ l ++ List.replicate k 48 := by
  have key : ∀ (n : Nat) (l : List UInt8), l.length = n → ∃ k, l = stripZ l ++ List.replicate k 48 := by
    intro n
    induction n with
    | zero =>
      intro l hl
      obtain rfl := List.length_eq_zero_iff.1 hl
      exact ⟨0, rfl⟩
    | succ n ih =>
      intro l hl
      have hne : l ≠ [] := by rintro rfl; cases hl
      obtain ⟨m, b, rfl⟩ : ∃ m b, l = m ++ [b] := ⟨l.dropLast, l.getLast hne, (List.dropLast_concat_getLast hne).symm⟩
      rw [stripZ_snoc]
      by_cases h : b.toNat = 48
      · rw [if_pos h]
        obtain ⟨k, hk⟩ := ih m (by rw [List.length_append] at hl; simpa using hl)
        refine ⟨k + 1, ?_⟩
        rw [List.replicate_succ', ← List.append_assoc, ← hk]
        congr 2
        exact UInt8.toNat_inj.1 h
      · rw [if_neg h]
        exact ⟨0, by rw [List.replicate_zero, List.append_nil]⟩
  exact key _ l rfl
theorem strip_val (r : Nat) (h : r < 1000000000) : valL 0 ((stripZ (padL 9 r) ++ zer9).take 9) = r := by
  obtain ⟨k, hk⟩ := strip_split (padL 9 r)
  have hl := congrArg List.length hk
  rw [padL_len, List.length_append, List.length_replicate] at hl
  rw [frac_fill _ (by omega), show 9 - (stripZ (padL 9 r)).length = k by omega]
  have hv := congrArg (valL 0) hk
  rw [valL_app, valL_zeros, valL_pad] at hv
  rw [← hv]
  omega
theorem clock_like (n : Nat) (r : List UInt8) : likeB (clockL n ++ r) (L hmsF) = true := by
  show likeB (UInt8.ofNat (48 + n / 1000000000 / 3600 / 10 ^ 1 % 10) :: UInt8.ofNat (48 + n / 1000000000 / 3600 / 10 ^ 0 % 10) :: 58 :: UInt8.ofNat (48 + n / 1000000000 / 60 % 60 / 10 ^ 1 % 10) :: UInt8.ofNat (48 + n / 1000000000 / 60 % 60 / 10 ^ 0 % 10) :: 58 :: UInt8.ofNat (48 + n / 1000000000 % 60 / 10 ^ 1 % 10) :: UInt8.ofNat (48 + n / 1000000000 % 60 / 10 ^ 0 % 10) :: (fracL (n % 1000000000) ++ r)) [100, 100, 58, 100, 100, 58, 100, 100] = true
  exact lk8 _ _ _ _ _ _ _ (dch _) (dch _) (dch _) (dch _) (dch _) (dch _)
theorem clock_parts (n : Nat) (r : List UInt8) : (clockL n ++ r).take 2 = padL 2 (n / 1000000000 / 3600) ∧ ((clockL n ++ r).drop 3).take 2 = padL 2 (n / 1000000000 / 60 % 60) ∧ ((clockL n ++ r).drop 6).take 2 = padL 2 (n / 1000000000 % 60) ∧ (clockL n ++ r).drop 8 = fracL (n % 1000000000) ++ r :=
  ⟨rfl, rfl, rfl, rfl⟩
theorem tc_back (n : Nat) (r : List UInt8) (h : n ≤ 86399999999999) (hr : ∀ c t, r = c :: t → c ≠ 46 ∧ dig c = false) : tcR (clockL n ++ r) = (n, r, true, true) := by
  obtain ⟨e1, e2, e3, e4⟩ := clock_parts n r
  have hN : hmsN (clockL n ++ r) = n / 1000000000 * 1000000000 := by
    unfold hmsN
    rw [e1, e2, e3, val2 _ (by omega), val2 _ (by omega), val2 _ (by omega)]
    congr 1
    omega
  have hI : hmsI (clockL n ++ r) = true := by
    unfold hmsI
    rw [e1, e2, e3, val2 _ (by omega), val2 _ (by omega), val2 _ (by omega), decide_eq_true_eq]
    omega
  have hr0 : runL r = 0 := by
    rcases r with _ | ⟨c, t⟩
    · rfl
    · exact runL_stop c t (hr c t rfl).2
  unfold tcR
  rw [if_neg (by rw [clock_like]; decide), e4]
  by_cases hz : n % 1000000000 = 0
  · have hf : fracL (n % 1000000000) = [] := if_pos hz
    rw [hf, List.nil_append, if_neg, hN, hI]
    · have : n / 1000000000 * 1000000000 = n := by omega
      rw [this]
    · rcases r with _ | ⟨c, t⟩
      · simp
      · intro hc
        exact (hr c t rfl).1 (by simpa using hc)
  · have hf : fracL (n % 1000000000) = 46 :: stripZ (padL 9 (n % 1000000000)) := if_neg hz
    obtain ⟨k, hk⟩ := strip_split (padL 9 (n % 1000000000))
    have hne : stripZ (padL 9 (n % 1000000000)) ≠ [] := by
      intro h0
      have := valL_zero _ (stripZ_nil _ h0)
      rw [valL_pad] at this
      omega
    have hlen : (stripZ (padL 9 (n % 1000000000))).length ≤ 9 := by
      have := stripZ_len (padL 9 (n % 1000000000))
      rw [padL_len] at this
      exact this
    have hpos := List.length_pos_iff.2 hne
    have hdg : ∀ b ∈ stripZ (padL 9 (n % 1000000000)), dig b = true := fun b hb => padL_dig 9 _ b (by rw [hk]; exact List.mem_append_left _ hb)
    have hd9 : (clockL n ++ r).drop 9 = stripZ (padL 9 (n % 1000000000)) ++ r := by
      have : (clockL n ++ r).drop 9 = ((clockL n ++ r).drop 8).drop 1 := by rw [List.drop_drop]
      rw [this, e4, hf]
      rfl
    have hrun : runL (stripZ (padL 9 (n % 1000000000)) ++ r) = (stripZ (padL 9 (n % 1000000000))).length := by rw [runL_app _ _ hdg, hr0]; rfl
    rw [hf, List.cons_append, if_pos List.head?_cons, hd9, hrun, if_neg (by omega), List.take_left, strip_val _ (by omega), hN, hI, ← List.drop_drop, hd9, List.drop_left]
    have : n / 1000000000 * 1000000000 + n % 1000000000 = n := by omega
    rw [this]
theorem to_back (o : Int) (h1 : -1439 ≤ o) (h2 : o ≤ 1439) : toR (offL o) = (o, true, true) := by
  by_cases h0 : o = 0
  · subst h0
    rfl
  have hpad : padL 2 (o.natAbs / 60) ++ ([58] ++ padL 2 (o.natAbs % 60)) = [UInt8.ofNat (48 + o.natAbs / 60 / 10 ^ 1 % 10), UInt8.ofNat (48 + o.natAbs / 60 / 10 ^ 0 % 10), 58, UInt8.ofNat (48 + o.natAbs % 60 / 10 ^ 1 % 10), UInt8.ofNat (48 + o.natAbs % 60 / 10 ^ 0 % 10)] := rfl
  have hl : offL o = (if o < 0 then 45 else 43) :: (padL 2 (o.natAbs / 60) ++ ([58] ++ padL 2 (o.natAbs % 60))) := if_neg h0
  have t1 : ((offL o).drop 1).take 2 = padL 2 (o.natAbs / 60) := by rw [hl]; rfl
  have t2 : ((offL o).drop 4).take 2 = padL 2 (o.natAbs % 60) := by rw [hl]; rfl
  unfold toR
  rw [t1, t2, val2 _ (by omega), val2 _ (by omega)]
  rw [hl, hpad]
  by_cases hs : o < 0
  · rw [if_pos hs, if_neg (by rintro (h | h) <;> cases h), if_neg, if_pos List.head?_cons]
    · rw [decide_eq_true (show o.natAbs / 60 ≤ 23 ∧ o.natAbs % 60 ≤ 59 by omega)]
      congr 1
      omega
    · rintro (h | ⟨-, h⟩)
      · exact h rfl
      · have : likeB (45 :: [UInt8.ofNat (48 + o.natAbs / 60 / 10 ^ 1 % 10), UInt8.ofNat (48 + o.natAbs / 60 / 10 ^ 0 % 10), 58, UInt8.ofNat (48 + o.natAbs % 60 / 10 ^ 1 % 10), UInt8.ofNat (48 + o.natAbs % 60 / 10 ^ 0 % 10)]) [45, 100, 100, 58, 100, 100] = true := lk6 _ _ _ _ _ (by decide) (dch _) (dch _) (dch _) (dch _)
        exact absurd (this.symm.trans h) (by decide)
  · rw [if_neg hs, if_neg (by rintro (h | h) <;> cases h), if_neg, if_neg (by simp)]
    · rw [decide_eq_true (show o.natAbs / 60 ≤ 23 ∧ o.natAbs % 60 ≤ 59 by omega)]
      congr 1
      omega
    · rintro (h | ⟨h, -⟩)
      · exact h rfl
      · have : likeB (43 :: [UInt8.ofNat (48 + o.natAbs / 60 / 10 ^ 1 % 10), UInt8.ofNat (48 + o.natAbs / 60 / 10 ^ 0 % 10), 58, UInt8.ofNat (48 + o.natAbs % 60 / 10 ^ 1 % 10), UInt8.ofNat (48 + o.natAbs % 60 / 10 ^ 0 % 10)]) [43, 100, 100, 58, 100, 100] = true := lk6 _ _ _ _ _ (by decide) (dch _) (dch _) (dch _) (dch _)
        exact absurd (this.symm.trans h) (by decide)
theorem off_head (o : Int) : ∃ c t, offL o = c :: t ∧ c ≠ 46 ∧ dig c = false := by
  unfold offL
  split
  · exact ⟨90, [], rfl, by decide, by decide⟩
  · split
    · exact ⟨45, _, rfl, by decide, by decide⟩
    · exact ⟨43, _, rfl, by decide, by decide⟩
theorem tm_back (k d n o : Int) (y m dd : Nat) (hv : timeB k d n o = true) (hd : DateIs d.toNat y m dd) : rpR (tmL k y m dd n.toNat o) = (tmV k d n o, 0) := by
  obtain ⟨h1, h2, h3, -, h5, h6, h7, h8, hk2, hk1, hk4⟩ := timeB_yes _ _ _ _ hv
  obtain ⟨d, rfl⟩ : ∃ a : Nat, d = (a : Int) := ⟨d.toNat, by omega⟩
  obtain ⟨n, rfl⟩ : ∃ a : Nat, n = (a : Int) := ⟨n.toNat, by omega⟩
  rw [Int.toNat_natCast] at hd ⊢
  have htc := tc_back n [] (by omega) (by intro c t h; cases h)
  rw [List.append_nil] at htc
  rcases (by omega : k = 1 ∨ k = 2 ∨ k = 3 ∨ k = 4) with rfl | rfl | rfl | rfl
  · have hn := hk1 rfl
    obtain rfl : n = 0 := by omega
    obtain rfl := hk4 (by decide)
    have := rp_date hd []
    rw [List.append_nil] at this
    show rpR (dateL y m dd) = _
    rw [this]
    rfl
  · have hd0 := hk2 rfl
    obtain rfl : d = 0 := by omega
    obtain rfl := hk4 (by decide)
    show rpR (clockL n) = _
    have hl : likeB (clockL n) (L datF) = false := by
      show likeB (UInt8.ofNat (48 + n / 1000000000 / 3600 / 10 ^ 1 % 10) :: UInt8.ofNat (48 + n / 1000000000 / 3600 / 10 ^ 0 % 10) :: 58 :: _) (100 :: 100 :: 100 :: _) = false
      simp only [likeB, dch]
      rfl
    unfold rpR
    rw [if_pos hl, htc]
    rfl
  · obtain rfl := hk4 (by decide)
    show rpR (dateL y m dd ++ ([84] ++ clockL n)) = _
    rw [rp_date hd]
    show (if (84 : UInt8).toNat = 84 ∨ (84 : UInt8).toNat = 116 ∨ (84 : UInt8).toNat = 32 then afterR (d, 0) (tcR (clockL n)) else (tmZ, 3)) = _
    rw [if_pos (.inl (by decide)), htc]
    rfl
  · show rpR (dateL y m dd ++ ([84] ++ (clockL n ++ offL o))) = _
    obtain ⟨c, t, ho, hc1, hc2⟩ := off_head o
    rw [rp_date hd]
    show (if (84 : UInt8).toNat = 84 ∨ (84 : UInt8).toNat = 116 ∨ (84 : UInt8).toNat = 32 then afterR (d, 0) (tcR (clockL n ++ offL o)) else (tmZ, 3)) = _
    rw [if_pos (.inl (by decide)), tc_back n (offL o) (by omega) (by intro c' t' h; rw [ho] at h; injection h with h _; rw [← h]; exact ⟨hc1, hc2⟩)]
    unfold afterR
    dsimp only
    rw [if_neg (by decide), if_neg (by rw [ho]; simp), to_back o h7 h8]
    rfl
/-- Digits, then a byte that no number has there. -/
theorem numB_no (a : List UInt8) (c : UInt8) (t : List UInt8) (ha : ∀ b ∈ a, dig b = true) (hne : a ≠ []) (hc : dig c = false ∧ c ≠ 46 ∧ c.toNat ≠ 101 ∧ c.toNat ≠ 69) : numB (a ++ c :: t) = false := by
  obtain ⟨b, u, rfl⟩ : ∃ b u, a = b :: u := by
    rcases a with _ | ⟨b, u⟩
    · exact absurd rfl hne
    · exact ⟨b, u, rfl⟩
  have hb : pre (b :: u ++ c :: t) [45] = false := by
    rw [List.cons_append, pre1h, decide_eq_false]
    rintro rfl
    have := ha 45 List.mem_cons_self
    revert this
    decide
  have hrun : runL (b :: u ++ c :: t) = (b :: u).length := by rw [runL_app _ _ ha, runL_stop c t hc.1]; rfl
  unfold numB
  rw [hb, if_neg (by decide)]
  unfold intB
  rw [hrun]
  split
  · rfl
  · rw [List.drop_left]
    unfold fracB
    rw [pre1h, decide_eq_false hc.2.1, if_neg (by decide)]
    show ((c.toNat == 101 || c.toNat == 69) && _) = false
    have e1 : (c.toNat == 101) = false := beq_false_of_ne hc.2.2.1
    have e2 : (c.toNat == 69) = false := beq_false_of_ne hc.2.2.2
    rw [e1, e2]
    rfl
theorem tm_num (k : Int) (y m dd n : Nat) (o : Int) : numB (tmL k y m dd n o) = false := by
  have hdate : ∀ r, numB (dateL y m dd ++ r) = false := fun r => by
    have := numB_no (padL 4 y) 45 (padL 2 m ++ ([45] ++ padL 2 dd) ++ r) (padL_dig 4 y) (by rw [padL]; simp) ⟨by decide, by decide, by decide, by decide⟩
    rw [show dateL y m dd ++ r = padL 4 y ++ 45 :: (padL 2 m ++ ([45] ++ padL 2 dd) ++ r) from rfl]
    exact this
  have hclock : numB (clockL n) = false := numB_no (padL 2 (n / 1000000000 / 3600)) 58 _ (padL_dig 2 _) (by rw [padL]; simp) ⟨by decide, by decide, by decide, by decide⟩
  unfold tmL
  split
  · have := hdate []
    rw [List.append_nil] at this
    exact this
  split
  · exact hclock
  split
  · exact hdate _
  · exact hdate _
/-- The bytes of texts of numbers and times. -/
def okC (b : UInt8) : Bool := dig b || [45, 46, 58, 84, 90, 43, 101].contains b
theorem okC_dig {b : UInt8} (h : dig b = true) : okC b = true := by unfold okC; rw [h]; rfl
theorem tm_bytes (k : Int) (y m dd n : Nat) (o : Int) : ∀ b ∈ tmL k y m dd n o, okC b = true := by
  have hp : ∀ c n, ∀ b ∈ padL c n, okC b = true := fun c n b hb => okC_dig (padL_dig c n b hb)
  have hap : ∀ (l r : List UInt8), (∀ b ∈ l, okC b = true) → (∀ b ∈ r, okC b = true) → ∀ b ∈ l ++ r, okC b = true := fun l r h1 h2 b hb => by
    rcases List.mem_append.1 hb with h | h
    · exact h1 b h
    · exact h2 b h
  have hs : ∀ c : UInt8, okC c = true → ∀ b ∈ [c], okC b = true := fun c h b hb => by rw [List.mem_singleton.1 hb]; exact h
  have hdate : ∀ b ∈ dateL y m dd, okC b = true := hap _ _ (hp _ _) (hap _ _ (hs 45 (by decide)) (hap _ _ (hp _ _) (hap _ _ (hs 45 (by decide)) (hp _ _))))
  have hfrac : ∀ b ∈ fracL (n % 1000000000), okC b = true := by
    intro b hb
    unfold fracL at hb
    split at hb
    · cases hb
    · rcases List.mem_cons.1 hb with rfl | hb
      · decide
      · obtain ⟨k, hk⟩ := strip_split (padL 9 (n % 1000000000))
        exact hp 9 (n % 1000000000) b (by rw [hk]; exact List.mem_append_left _ hb)
  have hclock : ∀ b ∈ clockL n, okC b = true := hap _ _ (hp _ _) (hap _ _ (hs 58 (by decide)) (hap _ _ (hp _ _) (hap _ _ (hs 58 (by decide)) (hap _ _ (hp _ _) hfrac))))
  have hoff : ∀ b ∈ offL o, okC b = true := by
    intro b hb
    unfold offL at hb
    split at hb
    · exact hs 90 (by decide) b hb
    · rcases List.mem_cons.1 hb with rfl | hb
      · split <;> decide
      · exact hap _ _ (hp _ _) (hap _ _ (hs 58 (by decide)) (hp _ _)) b hb
  unfold tmL
  split
  · exact hdate
  split
  · exact hclock
  split
  · exact hap _ _ hdate (hap _ _ (hs 84 (by decide)) hclock)
  · exact hap _ _ hdate (hap _ _ (hs 84 (by decide)) (hap _ _ hclock hoff))
theorem dec_bytes (neg : Bool) (l : List UInt8) (e : Int) (h : decB neg l e = true) : ∀ b ∈ decL neg l e, okC b = true := by
  have hap : ∀ (l r : List UInt8), (∀ b ∈ l, okC b = true) → (∀ b ∈ r, okC b = true) → ∀ b ∈ l ++ r, okC b = true := fun l r h1 h2 b hb => by
    rcases List.mem_append.1 hb with h | h
    · exact h1 b h
    · exact h2 b h
  have hco : ∀ (c : UInt8) (r : List UInt8), okC c = true → (∀ b ∈ r, okC b = true) → ∀ b ∈ c :: r, okC b = true := fun c r h1 h2 b hb => by
    rcases List.mem_cons.1 hb with h | h
    · rw [h]; exact h1
    · exact h2 b h
  have hw : ∀ n, ∀ b ∈ wholeL n, okC b = true := fun n b hb => okC_dig (wholeL_dig n b hb)
  have hz : ∀ n, ∀ b ∈ List.replicate n (48 : UInt8), okC b = true := fun n b hb => okC_dig (rep_dig n b hb)
  unfold decL
  split
  · exact hco 48 [] (by decide) (fun b hb => by cases hb)
  rename_i hn
  have hl : ∀ b ∈ l, okC b = true := fun b hb => okC_dig ((ds_of h hn).1.dg b hb)
  refine hap _ _ ?_ ?_
  · cases neg
    · intro b hb; cases hb
    · exact hco 45 [] (by decide) (fun b hb => by cases hb)
  unfold bodL
  simp only
  split
  · exact hap _ _ hl (hz _)
  split
  · exact hap _ _ (fun b hb => hl b (List.mem_of_mem_take hb)) (hco 46 _ (by decide) (fun b hb => hl b (List.mem_of_mem_drop hb)))
  split
  · exact hco 48 _ (by decide) (hco 46 _ (by decide) (hap _ _ (hz _) hl))
  · refine hap _ _ (fun b hb => hl b (List.mem_of_mem_take hb)) (hap _ _ ?_ ?_)
    · split
      · exact hco 46 _ (by decide) (fun b hb => hl b (List.mem_of_mem_drop hb))
      · intro b hb; cases hb
    · split
      · exact hco 101 _ (by decide) (hco 45 _ (by decide) (hw _))
      · exact hco 101 _ (by decide) (hw _)
end Go.Proofs.YtlnpfpjncnkekaaGreatDoor

namespace Go.Proofs.YtlnpfpjncnkekaaGreatDoor
open Go.RowKit
set_option maxHeartbeats 4000000
set_option maxRecDepth 100000

abbrev vY (v : Value) : List Value := [.int .i64 5, .bool false, .bool false, .string ⟨#[]⟩, .int .i64 0, .int .i64 0, .int .i64 0, .int .i64 0, .int .i64 0, .string ⟨#[]⟩, v, .slice none 0 0, .slice none 0 0]
/-- Bytes of one's own, read where another block has been written. -/
theorem own_other {w w' : World} {base g b cap : Nat} {bs : List UInt8} (h : w.ownsRow base 5 1 (.slice (some ⟨g, 0, none⟩) bs.length cap) bs.length (bs.map bv)) (hg : g ≠ b) (ho : ∀ j, j ≠ b → w'.heap[j]? = w.heap[j]?) (hz : w'.heap.size = w.heap.size) (hl : bs.length ≤ 140737488351232) : RdB w' (.slice (some ⟨g, 0, none⟩) bs.length cap) bs := by
  refine Sl.kept (S := fun j => j = g) (RdB.of_own h rfl hl) ?_ (fun j hj _ => ho j (by rw [hj]; exact hg)) (by omega)
  intro g' o p m cap' hv _
  cases hv
  rfl
theorem Sc_b64 (s : ByteArray) (w : World) (hs : s.size ≤ 100000) (hv : validL (L s) = true) (hc : ctlB (L s) = false) (hw : ¬ wordS (L s)) (hd : (decP numP (L s)).err = 3) (ht : timB s = false) (hp : 0 < s.size) (hq : s[0].toNat ≠ 34 ∧ s[0].toNat ≠ 39) (hpb : pre (L s) [33, 98, 32] = true) (hok : okB ((L s).drop 3)) (hne : bytB ((L s).drop 3) ≠ []) (hbig : ¬ 65536 < (bytB ((L s).drop 3)).length) :
    Calls Tryz.prog 10 #[.string s] w fun e w' => (∃ v, e = .returned (.tuple #[.agg (vY v).toArray, .int .i64 0]) ∧ RdB w' v (bytB ((L s).drop 3))) ∧ Below w.heap.size w w' := by
  have HV := Lib.hid (fun w' => Valid_any s w' (by omega))
  rw [hv] at HV
  have HC := Lib.hid (fun w' => control_any s w')
  rw [hc] at HC
  obtain ⟨he1, n1, n2, n3, n4⟩ := no_word s hw
  have HD := Lib.hid (fun w' => Parse_any s w' hs)
  generalize decP numP (L s) = dr at *
  obtain ⟨d1, d2, d3, d4⟩ := dr
  have hd4 : d4 = 3 := hd
  subst hd4
  clear hd
  have HM := Lib.hid (fun w' => ParseM_no s w' (by omega) ht)
  have g1 := beqNB s[0] 34 (by omega)
  have g2 := beqNB s[0] 39 (by omega)
  have HP := Lib.hid (fun w' => (Tryz.strings_HasPrefix s ⟨#[33, 98, 32]⟩ w').mono fun e w2 h => (⟨h.1, h.2.symm⟩ : _ ∧ w' = w2))
  have e1 : Lib.hasPrefix s.data.toList (⟨#[33, 98, 32]⟩ : ByteArray).data.toList = pre (L s) [33, 98, 32] := hasP_pre _ _
  rw [e1, hpb] at HP
  have h3 : 3 ≤ s.size := by
    have hx := hpb
    unfold pre at hx
    have hy := congrArg List.length (eq_of_beq hx)
    rw [List.length_take, L_len] at hy
    simp only [List.length_cons, List.length_nil] at hy
    omega
  have h3i : (3 : Int) ≤ (s.size : Int) := by omega
  have HT := Lib.hid (fun w' => BDecode_any (s.extract 3 s.size) w' (by have := L_len (s.extract 3 s.size); rw [L_from, List.length_drop, L_len] at this; omega))
  rw [L_from] at HT
  obtain ⟨bs, hbs⟩ : ∃ bs, bytB ((L s).drop 3) = bs := ⟨_, rfl⟩
  rw [hbs] at hne hbig ⊢
  have HBE := Lib.hid hbs
  clear hv hc hw hq hpb e1 ht h3 hbs
  go_enter Tryz.func10, Tryz.ntmps10
  go_upto_region 1 with fail
  generalize hW1 : World.alloc w _ = w1
  obtain ⟨ha1, -, hz1, hb1⟩ := alloc_of hW1
  have HX : Hid (w1.heap[w.heap.size]? = some (.cells vZ.toArray 30 (0, 0))) := ha1
  have HB := Lib.hid hb1
  have HZ : Hid (w.heap.size < w1.heap.size) := by unfold Hid; omega
  clear hW1 ha1 hz1 hb1
  go_wp2_with fail
  refine (HV.out _).mono ?_
  rintro e w' ⟨rfl, rfl⟩
  clear HV
  go_wp2_with fail
  refine (HC.out _).mono ?_
  rintro e w2 ⟨rfl, hb2⟩
  replace HX := Lib.hid ((hb2.block _ HZ.out).trans HX.out)
  replace HB := Lib.hid (HB.out.trans (hb2.mono HB.out.size))
  replace HZ : Hid (w.heap.size < w2.heap.size) := Nat.lt_of_lt_of_le HZ.out hb2.size
  clear hb2
  clear HC
  go_wp2_with fail
  refine (HD.out _).mono ?_
  rintro e w3 ⟨rfl, hb3⟩
  replace HX := Lib.hid ((hb3.block _ HZ.out).trans HX.out)
  replace HB := Lib.hid (HB.out.trans (hb3.mono HB.out.size))
  replace HZ : Hid (w.heap.size < w3.heap.size) := Nat.lt_of_lt_of_le HZ.out hb3.size
  clear hb3
  clear HD
  unfold decV
  dsimp only
  go_wp2_with fail
  generalize hW4 : World.alloc w3 _ = w4
  obtain ⟨ha4, -, hz4, hb4⟩ := alloc_of hW4
  replace HX := Lib.hid ((hb4.block _ HZ.out).trans HX.out)
  replace HB := Lib.hid (HB.out.trans (hb4.mono HB.out.size))
  replace HZ : Hid (w.heap.size < w4.heap.size) := Nat.lt_of_lt_of_le HZ.out hb4.size
  clear hb4
  clear hW4 hz4
  clear ha4
  refine (HM.out _).mono ?_
  rintro e w5 ⟨rfl, hb5⟩
  replace HX := Lib.hid ((hb5.block _ HZ.out).trans HX.out)
  replace HB := Lib.hid (HB.out.trans (hb5.mono HB.out.size))
  replace HZ : Hid (w.heap.size < w5.heap.size) := Nat.lt_of_lt_of_le HZ.out hb5.size
  clear hb5
  clear HM
  go_wp2_with fail
  generalize hW6 : World.alloc w5 _ = w6
  obtain ⟨ha6, -, hz6, hb6⟩ := alloc_of hW6
  replace HX := Lib.hid ((hb6.block _ HZ.out).trans HX.out)
  replace HB := Lib.hid (HB.out.trans (hb6.mono HB.out.size))
  replace HZ : Hid (w.heap.size < w6.heap.size) := Nat.lt_of_lt_of_le HZ.out hb6.size
  clear hb6
  clear hW6 hz6
  clear ha6
  refine (HP.out _).mono ?_
  rintro e w' ⟨rfl, rfl⟩
  clear HP
  go_wp2_with fail
  refine (HT.out _).mono ?_
  rintro e w7 ⟨⟨v, n, rfl, hy, hn⟩, hb7⟩
  have HZP : Hid (w.heap.size < w6.heap.size) := HZ.out
  replace HX := Lib.hid ((hb7.block _ HZ.out).trans HX.out)
  replace HB := Lib.hid (HB.out.trans (hb7.mono HB.out.size))
  replace HZ : Hid (w.heap.size < w7.heap.size) := Nat.lt_of_lt_of_le HZ.out hb7.size
  clear hb7
  clear HT
  obtain ⟨rfl, hown⟩ := hy hok
  rw [HBE.out] at hown
  have hvv : ∃ g cap, v = .slice (some ⟨g, 0, none⟩) bs.length cap := by
    rcases hown.2 with ⟨rfl, h0⟩ | ⟨g, cap, cur, rfl, -⟩
    · exact absurd (List.eq_nil_of_length_eq_zero h0) hne
    · exact ⟨g, cap, rfl⟩
  obtain ⟨g, cap, rfl⟩ := hvv
  have q1 : ((bs.length : Int) == 0) = false := by
    have : bs.length ≠ 0 := fun h => hne (List.eq_nil_of_length_eq_zero h)
    rw [beq_eq_false_iff_ne]; omega
  have q2 : ((65536 : Int) < (bs.length : Int)) = False := eq_false (by omega)
  have hgz := (hown.lt g rfl).1
  have HG : Hid (g ≠ w.heap.size) := by unfold Hid; have := HZP.out; omega
  have HOWN := Lib.hid hown
  have HBL : Hid (bs.length ≤ 140737488351232) := by unfold Hid; omega
  clear hy hn hown HZP hne hbig hgz
  go_wp2_with (refine wpl_store rfl rfl stVl.2 rfl rfl (cs := vY (.slice (some ⟨g, 0, none⟩) bs.length cap)) rfl rfl (one13 rfl) HX.out (Nat.le_of_ble_eq_true rfl) (row := vY (.slice (some ⟨g, 0, none⟩) bs.length cap)) rfl ?_; generalize hW : World.setRow _ _ _ = ww; have HS := Lib.hid (setRow_of hW HX.out); clear hW)
  obtain ⟨hd5, ho5, hz5, hb5⟩ := HS.out
  obtain ⟨z0, z1, z2, z3, z4, z5, z6, z7, z8, z9, za, zb, zc⟩ := row13 hd5
  exact bodyPost_ret (v := .tuple #[.agg (vY (.slice (some ⟨g, 0, none⟩) bs.length cap)).toArray, .int .i64 0]) (by simp [results, Tryz.results10, go_sem, z0, z1, z2, z3, z4, z5, z6, z7, z8, z9, za, zb, zc]) rfl ⟨⟨_, rfl, own_other HOWN.out HG.out ho5 hz5 HBL.out⟩, HB.out.trans (hb5 _ (Nat.le_refl _))⟩
end Go.Proofs.YtlnpfpjncnkekaaGreatDoor

namespace Go.Proofs.YtlnpfpjncnkekaaGreatDoor
open Go.RowKit
set_option maxHeartbeats 4000000
set_option maxRecDepth 100000

end Go.Proofs.YtlnpfpjncnkekaaGreatDoor
