/- automaton.Least walked; the least automata of the law's examples. Conditions: fewer than 100 states. -/
import Derived.Test.YtpkecepelcppiaaGreatDoorZa39
import Derived.Test.YtpkecepelcppiaaGreatDoorZa21
import Derived.Deep.DeepCutAuto
import Derived.Test.YtpkecepelcppiaaGreatDoorZa23
import Derived.Test.YtpkecepelcppiaaGreatDoorZa22
import Derived.Test.YtpkecepelcppiaaGreatDoorZa37
import Derived.Test.YtpkecepelcppiaaGreatDoorZa24
namespace Go.Proofs.YtpkecepelcppiaaGreatDoor
open Go.RowKit Go.Shelf
set_option maxHeartbeats 4000000
set_option maxRecDepth 100000

theorem src_small : srcF.all (fun l => decide (l.length ≤ 1000)) = true := by decide +kernel
theorem src_cnt : srcF.all (fun l => match parseR l with | some p => decide (cntN 48 p ≤ 1000000) | none => true) = true := by decide +kernel
theorem srcB_L (n : Nat) : L (srcB n) = (srcF[n]?).getD [] := L_mk _
theorem srcB_size (n : Nat) : (srcB n).size ≤ 100000000 := by
 rw [← L_len, srcB_L]
 cases h : srcF[n]? with
 | none => show (0 : Nat) ≤ _; omega
 | some l =>
  have := of_decide_eq_true (List.all_eq_true.1 src_small l (List.mem_of_getElem? h))
  show l.length ≤ _
  omega
theorem pat_cnt {name : List UInt8} {p : RX} (h : patF name = some p) : cntN 48 p ≤ 1000000 := by
 unfold patF at h
 cases h1 : srcF[numF name]? with
 | none => rw [h1] at h; cases h
 | some l =>
  rw [h1] at h
  have h2 := List.all_eq_true.1 src_cnt l (List.mem_of_getElem? h1)
  have h3 : parseR l = some p := h
  rw [h3] at h2
  exact of_decide_eq_true h2
def GotQ (O : Option RX) (w : World) (e : Ending) (w' : World) : Prop :=
 ∃ c, e = .returned (.tuple #[aggP c, .int .i64 (gotE O)]) ∧ RdQ (fun g => w.heap.size ≤ g) w' c (gotP O) ∧ Below w.heap.size w w'
theorem gotQ_main (s : ByteArray) (w : World) (hs : s.size ≤ 100000000) (he : Env w) : Calls Tryz.prog 44 #[.string s] w (GotQ (parseR (L s)) w) := by
 refine (Parse_any s w hs he).mono ?_
 rintro e w' ⟨hb, hm⟩
 cases h : parseR (L s) with
 | none =>
  rw [h] at hm
  exact ⟨_, hm, leaf_rdq _ w' 0 0 0, hb⟩
 | some p =>
  rw [h] at hm
  obtain ⟨c, rfl, hq⟩ := hm
  exact ⟨c, rfl, hq, hb⟩
theorem gotQ_ref (s : ByteArray) (w : World) (hs : s.size ≤ 100000000) : Calls Tryz.prog 46 #[.string s] w (GotQ (parseR (L s)) w) := by
 refine (RParse_any s w hs).mono ?_
 rintro e w' ⟨hb, hm⟩
 rw [← parse_same] at hm
 cases h : parseR (L s) with
 | none =>
  rw [h] at hm
  exact ⟨_, hm, leaf_rdq _ w' 0 0 0, hb⟩
 | some p =>
  rw [h] at hm
  obtain ⟨c, rfl, hq⟩ := hm
  exact ⟨c, rfl, hq, hb⟩
theorem src_len {s : ByteArray} {n : Nat} (h : L s = (srcF[n]?).getD []) : s.size ≤ 100000000 := by
 rw [← L_len, h, ← srcB_L, L_len]
 exact srcB_size n
theorem fRKnown_any (s : ByteArray) (w : World) : Calls Tryz.prog 28 #[.string s] w fun e w' => e = .returned (.bool (decide (numF (L s) < 12))) ∧ w = w' := by
 have HC := Lib.hid (fun w' => fSource_any s w')
 have HSE := Lib.hid (src_empty (L s))
 have HL := Lib.hid (L_mk (srcOf (L s)))
 generalize (⟨(srcOf (L s)).toArray⟩ : ByteArray) = u at *
 generalize srcOf (L s) = S at *
 go_enter Tryz.func28, Tryz.ntmps28
 go_wp2_with fail
 refine (HC.out w).mono ?_
 rintro e wx ⟨rfl, hwx⟩
 replace hwx := hwx
 subst hwx
 by_cases h : numF (L s) < 12
 ·have hu : u.toList.isEmpty = false := by
   rw [toList_L, HL.out]
   cases hS : S with
   | nil => exact absurd h (HSE.out.1 hS)
   | cons a t => rfl
  have HD : Hid (decide (numF (L s) < 12) = true) := decide_eq_true h
  clear h
  go_wp2_with fail
  go_ret
  exact ⟨by rw [HD.out]; simp_all, rfl⟩
 ·have hu : u.toList.isEmpty = true := by
   rw [toList_L, HL.out, HSE.out.2 h]
   rfl
  have HD : Hid (decide (numF (L s) < 12) = false) := decide_eq_false h
  clear h
  go_wp2_with fail
  go_ret
  exact ⟨by rw [HD.out]; simp_all, rfl⟩
theorem fPattern_any (s : ByteArray) (w : World) (hE : Env w) : Calls Tryz.prog 23 #[.string s] w (PatO (patF (L s)) w) := by
 have HC := Lib.hid (fun w' => fNumber_any s w')
 have HE := Lib.hid hE
 have HPS := Lib.hid (pat_src (L s))
 have HPN := Lib.hid (pat_none (L s))
 have HLE := Lib.hid (num_le (L s))
 have HSO : Hid (srcOf (L s) = (srcF[numF (L s)]?).getD []) := rfl
 generalize patF (L s) = O at *
 generalize srcOf (L s) = S at *
 generalize numF (L s) = r at *
 clear hE
 go_enter Tryz.func23, Tryz.ntmps23
 go_upto_region 1 with fail
 generalize hW : World.alloc w _ = w1
 obtain ⟨ha, -, hz1, hb1⟩ := alloc_of hW
 have HX := Lib.hid (show BoxP w.heap.size ⟨0, 0, 0, 0, 0, .slice none 0 0⟩ w1 from ha)
 have HB := Lib.hid hb1
 clear hW ha hz1 hb1
 by_cases hr : r < 12
 ·obtain ⟨p, hp, hO⟩ := HPS.out hr
  have HOO := Lib.hid hO
  have e12 : ((r : Int) == 12) = false := beq_false_of_ne (by omega)
  have HT := Lib.hid (fun w' => fText_any r hr w')
  have HG : Hid (∀ w', Env w' → Calls Tryz.prog 44 #[.string (srcB r)] w' (GotQ (some p) w')) := fun w' he => by
   have := gotQ_main (srcB r) w' (srcB_size r) he
   rw [srcB_L, ← HSO.out, hp] at this
   exact this
  clear hr hp hO HPS HPN
  go_wp2_with fail
  refine (HC.out w1).mono ?_
  rintro e w2 ⟨rfl, hb⟩
  replace HX := Lib.hid (HX.out.below hb)
  replace HB := Lib.hid (HB.out.trans (hb.mono HB.out.size))
  clear hb HC
  go_wp2_with fail
  refine (HT.out w2).mono ?_
  rintro e wx ⟨rfl, hwx⟩
  subst hwx
  go_wp2_with fail
  refine (HG.out _ (HE.out.below HB.out)).mono ?_
  rintro e w3 ⟨c, rfl, hq, hb⟩
  have HXL := Lib.hid HX.out.lt
  replace HX := Lib.hid (HX.out.below hb)
  replace HB := Lib.hid (HB.out.trans (hb.mono HB.out.size))
  have HQ := Lib.hid (hq.mono (M := fun g => w.heap.size < g) (fun g h _ => Nat.lt_of_lt_of_le HXL.out h))
  obtain ⟨fa, fcap, hfa⟩ := hq.rd.forms
  generalize (gotP (some p)).args.length = rn at *
  obtain ⟨q0, q1, q2, q3, q4, q5⟩ := c
  simp only at hfa
  subst hfa
  clear hb hq HG HXL
  obtain ⟨z0, z1, z2, z3, z4, z5⟩ := HX.out.cells
  obtain ⟨y0, y1, y2, y3, y4, y5⟩ := HX.out.free
  simp only at z0 z1 z2 z3 z4 z5
  simp only [aggP, gotE]
  go_wp2_with fail
  generalize hW : World.setCell _ _ _ = w9
  obtain ⟨hbx, hq, hb⟩ := par_fin (d := ⟨q0, q1, q2, q3, q4, .slice fa rn fcap⟩) HX.out HB.out HQ.out hW
  obtain ⟨s0, s1, s2, s3, s4, s5⟩ := hbx.cells
  rw [HOO.out]
  exact bodyPost_ret (v := .tuple #[aggP ⟨q0, q1, q2, q3, q4, .slice fa rn fcap⟩, .int .i64 0]) (by simp only at s0 s1 s2 s3 s4 s5; simp [results, Tryz.results23, go_sem, s0, s1, s2, s3, s4, s5]) rfl ⟨_, rfl, hq.rd, hb⟩
 ·have hO := (HPN.out hr).1
  have HOO := Lib.hid hO
  have HRE := Lib.hid hr
  clear hr hO HPS HPN
  go_wp2_with fail
  refine (HC.out w1).mono ?_
  rintro e w2 ⟨rfl, hb⟩
  replace HX := Lib.hid (HX.out.below hb)
  replace HB := Lib.hid (HB.out.trans (hb.mono HB.out.size))
  have e12 : ((r : Int) == 12) = true := by rw [show (r : Int) = 12 by have := HRE.out; have := HLE.out; omega]; rfl
  clear hb HC
  obtain ⟨z0, z1, z2, z3, z4, z5⟩ := HX.out.cells
  obtain ⟨y0, y1, y2, y3, y4, y5⟩ := HX.out.free
  simp only at z0 z1 z2 z3 z4 z5
  go_wp2_with fail
  generalize hW : World.setCell _ _ _ = w9
  obtain ⟨hbx, hq, hb⟩ := par_fin (d := ⟨0, 0, 0, 0, 0, .slice none 0 0⟩) HX.out HB.out (leaf_rdq _ _ 0 0 0) hW
  obtain ⟨s0, s1, s2, s3, s4, s5⟩ := hbx.cells
  rw [HOO.out]
  exact bodyPost_ret (v := .tuple #[aggP ⟨0, 0, 0, 0, 0, .slice none 0 0⟩, .int .i64 7]) (by simp only at s0 s1 s2 s3 s4 s5; simp [results, Tryz.results23, go_sem, s0, s1, s2, s3, s4, s5]) rfl ⟨_, rfl, hq.rd, hb⟩
theorem fRPattern_any (s : ByteArray) (w : World) : Calls Tryz.prog 24 #[.string s] w (PatO (patF (L s)) w) := by
 have HC := Lib.hid (fun w' => fRKnown_any s w')
 have HSC := Lib.hid (fun w' => fSource_any s w')
 have HSL := Lib.hid (L_mk (srcOf (L s)))
 generalize (⟨(srcOf (L s)).toArray⟩ : ByteArray) = u at *
 have HPS := Lib.hid (pat_src (L s))
 have HPN := Lib.hid (pat_none (L s))
 have HSO : Hid (srcOf (L s) = (srcF[numF (L s)]?).getD []) := rfl
 generalize patF (L s) = O at *
 generalize srcOf (L s) = S at *
 generalize numF (L s) = r at *

 go_enter Tryz.func24, Tryz.ntmps24
 go_upto_region 1 with fail
 generalize hW : World.alloc w _ = w1
 obtain ⟨ha, -, hz1, hb1⟩ := alloc_of hW
 have HX := Lib.hid (show BoxP w.heap.size ⟨0, 0, 0, 0, 0, .slice none 0 0⟩ w1 from ha)
 have HB := Lib.hid hb1
 clear hW ha hz1 hb1
 by_cases hr : r < 12
 ·obtain ⟨p, hp, hO⟩ := HPS.out hr
  have HOO := Lib.hid hO
  have HD : Hid (decide (r < 12) = true) := decide_eq_true hr
  have HG : Hid (∀ w', Calls Tryz.prog 46 #[.string u] w' (GotQ (some p) w')) := fun w' => by
   have := gotQ_ref u w' (src_len (HSL.out.trans HSO.out))
   rw [HSL.out, hp] at this
   exact this
  clear hr hp hO HPS HPN
  go_wp2_with fail
  refine (HC.out w1).mono ?_
  rintro e wx ⟨rfl, hwx⟩
  subst hwx
  rw [HD.out]
  go_wp2_with fail
  refine (HSC.out w1).mono ?_
  rintro e wx ⟨rfl, hwx⟩
  subst hwx
  go_wp2_with fail
  refine (HG.out w1).mono ?_
  rintro e w3 ⟨c, rfl, hq, hb⟩
  have HXL := Lib.hid HX.out.lt
  replace HX := Lib.hid (HX.out.below hb)
  replace HB := Lib.hid (HB.out.trans (hb.mono HB.out.size))
  have HQ := Lib.hid (hq.mono (M := fun g => w.heap.size < g) (fun g h _ => Nat.lt_of_lt_of_le HXL.out h))
  obtain ⟨fa, fcap, hfa⟩ := hq.rd.forms
  generalize (gotP (some p)).args.length = rn at *
  obtain ⟨q0, q1, q2, q3, q4, q5⟩ := c
  simp only at hfa
  subst hfa
  clear hb hq HG HXL
  simp only [aggP]
  go_upto_region 4 with fail
  generalize hW : World.alloc w3 _ = w4
  obtain ⟨ha, -, hz1, hb1⟩ := alloc_of hW
  have HY := Lib.hid (show BoxP w3.heap.size ⟨q0, q1, q2, q3, q4, .slice fa rn fcap⟩ w4 from ha)
  replace HX := Lib.hid (HX.out.below hb1)
  replace HB := Lib.hid (HB.out.trans (hb1.mono HB.out.size))
  replace HQ := Lib.hid (HQ.out.stay hb1)
  obtain ⟨x0, x1, x2, x3, x4, x5⟩ := HY.out.cells
  simp only at x0 x1 x2 x3 x4 x5
  clear hW ha hz1 hb1
  obtain ⟨z0, z1, z2, z3, z4, z5⟩ := HX.out.cells
  obtain ⟨y0, y1, y2, y3, y4, y5⟩ := HX.out.free
  simp only at z0 z1 z2 z3 z4 z5
  simp only [aggP, gotE]
  go_wp2_with fail
  generalize hW : World.setCell _ _ _ = w9
  obtain ⟨hbx, hq, hb⟩ := par_fin (d := ⟨q0, q1, q2, q3, q4, .slice fa rn fcap⟩) HX.out HB.out HQ.out hW
  obtain ⟨s0, s1, s2, s3, s4, s5⟩ := hbx.cells
  rw [HOO.out]
  exact bodyPost_ret (v := .tuple #[aggP ⟨q0, q1, q2, q3, q4, .slice fa rn fcap⟩, .int .i64 0]) (by simp only at s0 s1 s2 s3 s4 s5; simp [results, Tryz.results24, go_sem, s0, s1, s2, s3, s4, s5]) rfl ⟨_, rfl, hq.rd, hb⟩
 ·have hO := (HPN.out hr).1
  have HOO := Lib.hid hO
  have HD : Hid (decide (r < 12) = false) := decide_eq_false hr
  clear hr hO HPS HPN
  go_wp2_with fail
  refine (HC.out w1).mono ?_
  rintro e wx ⟨rfl, hwx⟩
  subst hwx
  rw [HD.out]
  obtain ⟨z0, z1, z2, z3, z4, z5⟩ := HX.out.cells
  obtain ⟨y0, y1, y2, y3, y4, y5⟩ := HX.out.free
  simp only at z0 z1 z2 z3 z4 z5
  go_wp2_with fail
  generalize hW : World.setCell _ _ _ = w9
  obtain ⟨hbx, hq, hb⟩ := par_fin (d := ⟨0, 0, 0, 0, 0, .slice none 0 0⟩) HX.out HB.out (leaf_rdq _ _ 0 0 0) hW
  obtain ⟨s0, s1, s2, s3, s4, s5⟩ := hbx.cells
  rw [HOO.out]
  exact bodyPost_ret (v := .tuple #[aggP ⟨0, 0, 0, 0, 0, .slice none 0 0⟩, .int .i64 7]) (by simp only at s0 s1 s2 s3 s4 s5; simp [results, Tryz.results24, go_sem, s0, s1, s2, s3, s4, s5]) rfl ⟨_, rfl, hq.rd, hb⟩
end Go.Proofs.YtpkecepelcppiaaGreatDoor

namespace Go.Proofs.YtpkecepelcppiaaGreatDoor
open Go.RowKit Go.Shelf
set_option maxHeartbeats 4000000
set_option maxRecDepth 100000

theorem elemT : Elem Tryz.prog 24 9 1 := elem_of (z := .string ⟨#[]⟩) (bytes := 16) Tryz.underlying24 (by kernel_rfl) (by decide) (by decide) rfl
theorem fCheck_any (n s : ByteArray) (w : World) (hs : s.size ≤ 1000000) (hE : Env w) : Calls Tryz.prog 8 #[.string n, .string s] w fun e w' => e = .returned (.bool (chkF (L n) (L s))) ∧ Below w.heap.size w w' := by
 have HC := Lib.hid (fPattern_any n w hE)
 have HCK : Hid (chkF (L n) (L s) = match patF (L n) with | some p => matR p (L s) | none => false) := rfl
 have HM : Hid (∀ p, patF (L n) = some p → ∀ c w', RdP w' c p → Calls Tryz.prog 36 #[aggP c, .string s] w' fun e w'' => e = .returned (.bool (matR p (L s))) ∧ Below w'.heap.size w' w'') := fun p hp c w' h => Match_any s hs p c w' h
 generalize chkF (L n) (L s) = R at *
 generalize patF (L n) = O at *
 clear hs hE
 go_enter Tryz.func8, Tryz.ntmps8
 go_wp2_with fail
 refine HC.out.mono ?_
 rintro e w3 ⟨c, rfl, hq, hb⟩
 have HB := Lib.hid hb
 have HQ := Lib.hid hq
 obtain ⟨fa, fcap, hfa⟩ := hq.forms
 generalize (gotP O).args.length = rn at *
 obtain ⟨q0, q1, q2, q3, q4, q5⟩ := c
 simp only at hfa
 subst hfa
 clear hb hq HC
 simp only [aggP]
 go_upto_region 2 with fail
 generalize hW : World.alloc w3 _ = w4
 obtain ⟨ha, -, hz1, hb1⟩ := alloc_of hW
 have HY := Lib.hid (show BoxP w3.heap.size ⟨q0, q1, q2, q3, q4, .slice fa rn fcap⟩ w4 from ha)
 replace HB := Lib.hid (HB.out.trans (hb1.mono HB.out.size))
 replace HQ := Lib.hid (HQ.out.stays hb1)
 obtain ⟨x0, x1, x2, x3, x4, x5⟩ := HY.out.cells
 simp only at x0 x1 x2 x3 x4 x5
 clear hW ha hz1 hb1
 cases O with
 | none =>
  have HF : Hid (R = false) := HCK.out
  go_wp2_with fail
  go_ret
  exact ⟨by rw [HF.out]; rfl, HB.out⟩
 | some p =>
  have HF : Hid (R = matR p (L s)) := HCK.out
  have HMM := Lib.hid (HM.out p rfl ⟨q0, q1, q2, q3, q4, .slice fa rn fcap⟩ w4 HQ.out)
  simp only [aggP] at HMM
  go_wp2_with fail
  refine HMM.out.mono ?_
  rintro e w5 ⟨rfl, hb⟩
  replace HB := Lib.hid (HB.out.trans (hb.mono HB.out.size))
  clear hb
  go_wp2_with fail
  go_ret
  exact ⟨by rw [HF.out]; rfl, HB.out⟩
theorem fRCheck_any (n s : ByteArray) (w : World) (hs : s.size ≤ 1000000) : Calls Tryz.prog 9 #[.string n, .string s] w fun e w' => e = .returned (.bool (chkF (L n) (L s))) ∧ Below w.heap.size w w' := by
 have HC := Lib.hid (fRPattern_any n w)
 have HCK : Hid (chkF (L n) (L s) = match patF (L n) with | some p => matR p (L s) | none => false) := rfl
 have HM : Hid (∀ p, patF (L n) = some p → ∀ c w', RdP w' c p → Calls Tryz.prog 37 #[aggP c, .string s] w' fun e w'' => e = .returned (.bool (matR p (L s))) ∧ Below w'.heap.size w' w'') := fun p hp c w' h => RMatch_any s hs p c w' h (fun _ => pat_cnt hp)
 generalize chkF (L n) (L s) = R at *
 generalize patF (L n) = O at *
 clear hs
 go_enter Tryz.func9, Tryz.ntmps9
 go_wp2_with fail
 refine HC.out.mono ?_
 rintro e w3 ⟨c, rfl, hq, hb⟩
 have HB := Lib.hid hb
 have HQ := Lib.hid hq
 obtain ⟨fa, fcap, hfa⟩ := hq.forms
 generalize (gotP O).args.length = rn at *
 obtain ⟨q0, q1, q2, q3, q4, q5⟩ := c
 simp only at hfa
 subst hfa
 clear hb hq HC
 simp only [aggP]
 go_upto_region 2 with fail
 generalize hW : World.alloc w3 _ = w4
 obtain ⟨ha, -, hz1, hb1⟩ := alloc_of hW
 have HY := Lib.hid (show BoxP w3.heap.size ⟨q0, q1, q2, q3, q4, .slice fa rn fcap⟩ w4 from ha)
 replace HB := Lib.hid (HB.out.trans (hb1.mono HB.out.size))
 replace HQ := Lib.hid (HQ.out.stays hb1)
 obtain ⟨x0, x1, x2, x3, x4, x5⟩ := HY.out.cells
 simp only at x0 x1 x2 x3 x4 x5
 clear hW ha hz1 hb1
 cases O with
 | none =>
  have HF : Hid (R = false) := HCK.out
  go_wp2_with fail
  go_ret
  exact ⟨by rw [HF.out]; rfl, HB.out⟩
 | some p =>
  have HF : Hid (R = matR p (L s)) := HCK.out
  have HMM := Lib.hid (HM.out p rfl ⟨q0, q1, q2, q3, q4, .slice fa rn fcap⟩ w4 HQ.out)
  simp only [aggP] at HMM
  go_wp2_with fail
  refine HMM.out.mono ?_
  rintro e w5 ⟨rfl, hb⟩
  replace HB := Lib.hid (HB.out.trans (hb.mono HB.out.size))
  clear hb
  go_wp2_with fail
  go_ret
  exact ⟨by rw [HF.out]; rfl, HB.out⟩
theorem fDetect_any (s : ByteArray) (w : World) (hs : s.size ≤ 1000000) (hE : Env w) : Calls Tryz.prog 11 #[.string s] w fun e w' => ∃ v, e = .returned v ∧ RdT w' v ((detF (L s)).map fun l => ⟨l.toArray⟩) ∧ Below w.heap.size w w' := by
 have HCK : Hid (∀ (nb : ByteArray) w', Env w' → Calls Tryz.prog 8 #[.string nb, .string s] w' fun e w'' => e = .returned (.bool (chkF (L nb) (L s))) ∧ Below w'.heap.size w' w'') := fun nb w' he => fCheck_any nb s w' hs he
 have HDE := Lib.hid (detG_end (L s))
 have HE := Lib.hid hE
 clear hs hE
 go_enter Tryz.func11, Tryz.ntmps11
 go_wp2_with fail
 refine (fNames_any w).mono ?_
 rintro e w1 ⟨v, rfl, hr, hb⟩
 obtain ⟨a, cap, rfl, -⟩ := hr.form
 have HR := Lib.hid hr
 have HB := Lib.hid hb
 clear hr hb
 rw [show namesB.length = 12 from rfl]
 rw [show namesB.length = 12 from rfl] at HR
 go_wp2_with fail
 go_loopw [3, 8] (fun ov kv wr => ∃ (k : Nat) (A : Option Addr) (nl cp : Nat) (out : List ByteArray), kv = .int .i64 (k : Int) ∧ k ≤ 12 ∧ ov = .slice A nl cp ∧ Hid (OwnL w1.heap.size 9 1 strV wr (.slice A nl cp) out) ∧ Hid (out.map L = detG (L s) k) ∧ Hid (out.length ≤ k) ∧ Hid (Below w1.heap.size w1 wr)) (fun _ kv _ => 12 - (intOf kv).toNat)
 case atStart => exact ⟨0, none, 0, 0, [], rfl, by omega, rfl, OwnL.nil _ _ _ _ _, rfl, Nat.le_refl _, Below.refl _ _⟩
 case round =>
  obtain ⟨k, A, nl, cp, out, rfl, hk, rfl, HO, HD, HL, HW⟩ := hrel
  by_cases hlt : k < 12
  case neg =>
   have hke : k = 12 := by omega
   subst hke
   have HRD : Hid (RdT wr (.slice A nl cp) ((detF (L s)).map fun l => ⟨l.toArray⟩)) := by
    have h1 : out = (detF (L s)).map fun l => (⟨l.toArray⟩ : ByteArray) := by
     rw [← HDE.out, ← HD.out, List.map_map]
     exact (List.map_id out).symm
    unfold Hid
    rw [← h1]
    exact HO.out.strs
   clear hlt
   go_wp2_with fail
   go_ret
   exact ⟨_, rfl, HRD.out, HB.out.trans (HW.out.mono HB.out.size)⟩
  case pos =>
   have hlti : (k : Int) < 12 := by omega
   have hkB : k < namesB.length := hlt
   obtain ⟨g, o, rfl, hc⟩ := (HR.out.stay HW.out).at_ k hkB
   have HST := Lib.hid (detG_stepB (L s) k hkB)
   have HKL : Hid (k + 1 ≤ 12) := hlt
   have HCS := Lib.hid (fun w' (hb : Below w1.heap.size w1 w') => ((HR.out.stay hb).at_ k hkB))
   generalize namesB[k] = nb at *
   clear hlt
   go_wp2_with fail
   refine (HCK.out nb wr (HE.out.below (HB.out.trans (HW.out.mono HB.out.size)))).mono ?_
   rintro e w5 ⟨rfl, hb⟩
   replace HO := Lib.hid (HO.out.stay hb)
   replace HW := Lib.hid (HW.out.trans (hb.mono HW.out.size))
   clear hb hc
   cases hck : chkF (L nb) (L s) with
   | false =>
    have HN : Hid (out.map L = detG (L s) (k + 1)) := HD.out.trans ((HST.out.trans (if_neg (by rw [hck]; decide))).symm)
    clear hck
    go_wp2_with fail
    exact ⟨⟨k + 1, A, nl, cp, out, by simp, HKL.out, rfl, HO.out, HN.out, Nat.le_succ_of_le HL.out, HW.out⟩, by have := HKL.out; simp [intOf]; omega⟩
   | true =>
    have HN : Hid ((out ++ [nb]).map L = detG (L s) (k + 1)) := by
     unfold Hid
     rw [HST.out, if_pos hck, List.map_append, HD.out]
     rfl
    clear hck
    go_wp2_with (at_builtin; refine wpl_pushL (f := strV) (x := nb) (v := .slice A nl cp) (l := out) (B := w1.heap.size) (e := 9) (sz := 1) _ _ rfl rfl elemT strV_len (by decide) (strV_one nb) HO.out rfl rfl rfl (by have := HL.out; omega) HW.out.size ?_; intro v3 w6 hown3 hg3 hfm3 hat3; obtain ⟨A3, n3, cap3, rfl⟩ : ∃ A n cap, v3 = .slice A n cap := (by obtain ⟨A, c, h⟩ := hfm3; exact ⟨A, _, c, h⟩))
    have hgb := grown_belowL hg3 (fun x hx => (HO.out.lt x hx).1) HW.out.size
    exact ⟨⟨k + 1, A3, n3, cap3, out ++ [nb], by simp, HKL.out, rfl, hown3, HN.out, by unfold Hid; rw [List.length_append]; exact Nat.succ_le_succ HL.out, HW.out.trans hgb⟩, by have := HKL.out; simp [intOf]; omega⟩
theorem fRDetect_any (s : ByteArray) (w : World) (hs : s.size ≤ 1000000) : Calls Tryz.prog 12 #[.string s] w fun e w' => ∃ v, e = .returned v ∧ RdT w' v ((detF (L s)).map fun l => ⟨l.toArray⟩) ∧ Below w.heap.size w w' := by
 have HCK : Hid (∀ (nb : ByteArray) w', Calls Tryz.prog 9 #[.string nb, .string s] w' fun e w'' => e = .returned (.bool (chkF (L nb) (L s))) ∧ Below w'.heap.size w' w'') := fun nb w' => fRCheck_any nb s w' hs
 have HDE := Lib.hid (detG_end (L s))

 clear hs
 go_enter Tryz.func12, Tryz.ntmps12
 go_wp2_with fail
 refine (fRNames_any w).mono ?_
 rintro e w1 ⟨v, rfl, hr, hb⟩
 obtain ⟨a, cap, rfl, -⟩ := hr.form
 have HR := Lib.hid hr
 have HB := Lib.hid hb
 clear hr hb
 rw [show namesB.length = 12 from rfl]
 rw [show namesB.length = 12 from rfl] at HR
 go_wp2_with fail
 go_loopw [3, 5] (fun ov kv wr => ∃ (k : Nat) (A : Option Addr) (nl cp : Nat) (out : List ByteArray), kv = .int .i64 (k : Int) ∧ k ≤ 12 ∧ ov = .slice A nl cp ∧ Hid (OwnL w1.heap.size 9 1 strV wr (.slice A nl cp) out) ∧ Hid (out.map L = detG (L s) k) ∧ Hid (out.length ≤ k) ∧ Hid (Below w1.heap.size w1 wr)) (fun _ kv _ => 12 - (intOf kv).toNat)
 case atStart => exact ⟨0, none, 0, 0, [], rfl, by omega, rfl, OwnL.nil _ _ _ _ _, rfl, Nat.le_refl _, Below.refl _ _⟩
 case round =>
  obtain ⟨k, A, nl, cp, out, rfl, hk, rfl, HO, HD, HL, HW⟩ := hrel
  by_cases hlt : k < 12
  case neg =>
   have hke : k = 12 := by omega
   subst hke
   have HRD : Hid (RdT wr (.slice A nl cp) ((detF (L s)).map fun l => ⟨l.toArray⟩)) := by
    have h1 : out = (detF (L s)).map fun l => (⟨l.toArray⟩ : ByteArray) := by
     rw [← HDE.out, ← HD.out, List.map_map]
     exact (List.map_id out).symm
    unfold Hid
    rw [← h1]
    exact HO.out.strs
   clear hlt
   go_wp2_with fail
   go_ret
   exact ⟨_, rfl, HRD.out, HB.out.trans (HW.out.mono HB.out.size)⟩
  case pos =>
   have hlti : (k : Int) < 12 := by omega
   have hkB : k < namesB.length := hlt
   obtain ⟨g, o, rfl, hc⟩ := (HR.out.stay HW.out).at_ k hkB
   have HST := Lib.hid (detG_stepB (L s) k hkB)
   have HKL : Hid (k + 1 ≤ 12) := hlt
   have HCS := Lib.hid (fun w' (hb : Below w1.heap.size w1 w') => ((HR.out.stay hb).at_ k hkB))
   generalize namesB[k] = nb at *
   clear hlt
   go_wp2_with fail
   refine (HCK.out nb wr).mono ?_
   rintro e w5 ⟨rfl, hb⟩
   replace HO := Lib.hid (HO.out.stay hb)
   replace HW := Lib.hid (HW.out.trans (hb.mono HW.out.size))
   clear hb hc
   cases hck : chkF (L nb) (L s) with
   | false =>
    have HN : Hid (out.map L = detG (L s) (k + 1)) := HD.out.trans ((HST.out.trans (if_neg (by rw [hck]; decide))).symm)
    clear hck
    go_wp2_with fail
    exact ⟨⟨k + 1, A, nl, cp, out, by simp, HKL.out, rfl, HO.out, HN.out, Nat.le_succ_of_le HL.out, HW.out⟩, by have := HKL.out; simp [intOf]; omega⟩
   | true =>
    have HN : Hid ((out ++ [nb]).map L = detG (L s) (k + 1)) := by
     unfold Hid
     rw [HST.out, if_pos hck, List.map_append, HD.out]
     rfl
    clear hck
    obtain ⟨g2, o2, he2, hc2⟩ := HCS.out w5 HW.out
    cases he2
    go_wp2_with (at_builtin; refine wpl_pushL (f := strV) (x := nb) (v := .slice A nl cp) (l := out) (B := w1.heap.size) (e := 9) (sz := 1) _ _ rfl rfl elemT strV_len (by decide) (strV_one nb) HO.out rfl rfl rfl (by have := HL.out; omega) HW.out.size ?_; intro v3 w6 hown3 hg3 hfm3 hat3; obtain ⟨A3, n3, cap3, rfl⟩ : ∃ A n cap, v3 = .slice A n cap := (by obtain ⟨A, c, h⟩ := hfm3; exact ⟨A, _, c, h⟩))
    have hgb := grown_belowL hg3 (fun x hx => (HO.out.lt x hx).1) HW.out.size
    exact ⟨⟨k + 1, A3, n3, cap3, out ++ [nb], by simp, HKL.out, rfl, hown3, HN.out, by unfold Hid; rw [List.length_append]; exact Nat.succ_le_succ HL.out, HW.out.trans hgb⟩, by have := HKL.out; simp [intOf]; omega⟩
end Go.Proofs.YtpkecepelcppiaaGreatDoor

namespace Go.Proofs.YtpkecepelcppiaaGreatDoor
open Go.RowKit Go.Shelf
set_option maxHeartbeats 4000000
set_option maxRecDepth 100000

def LeastQ (m out : List StA) : Prop := ∀ (N : Nat → Prop) (v : Value) (w' : World), RdS N w' v m → Calls Tryz.prog 63 #[.agg #[v]] w' fun e w'' => ∃ v', e = .returned (.agg #[v']) ∧ RdS (fun g => w'.heap.size ≤ g) w'' v' out ∧ Below w'.heap.size w' w''
theorem fUtf_any (w : World) (hl : LeastQ (machC 0 (-1) 0) utfA) : Calls Tryz.prog 14 #[] w fun e w' => ∃ v', e = .returned (.agg #[v']) ∧ RdS (fun g => w.heap.size ≤ g) w' v' utfA ∧ Below w.heap.size w w' := by
 have HC := Lib.hid (fun w' => machine_any 0 (-1) 0 utfA w' (by omega) hl)
 unfold cntV at HC
 clear hl
 go_enter Tryz.func14, Tryz.ntmps14
 go_upto_region 1 with fail
 generalize hW : World.alloc w _ = w1
 obtain ⟨hbx, -, hz1, hb1⟩ := alloc_of hW
 have HX := Lib.hid (show BoxV w.heap.size 29 [.slice none 0 0] w1 from hbx)
 have HB := Lib.hid hb1
 clear hW hbx hz1 hb1
 go_wp2_with fail
 refine (HC.out w1).mono ?_
 rintro e w3 ⟨v', rfl, hr, hb⟩
 obtain ⟨ra, rcap, rfl, -⟩ := hr.form
 have HXL := Lib.hid HX.out.lt
 replace HX := Lib.hid (HX.out.below hb)
 replace HB := Lib.hid (HB.out.trans (hb.mono HB.out.size))
 have HR := Lib.hid (hr.mono (M := fun g => w.heap.size < g) (fun g h _ => Nat.lt_of_lt_of_le HXL.out h))
 generalize hout : utfA = out at *
 have HOE := Lib.hid hout
 clear hout
 have z0 := HX.out.cell 0
 have y0 := HX.out.free 0
 simp only [List.getElem?_cons_zero] at z0
 clear hr hb HC
 go_wp2_with fail
 refine bodyPost_ret (v := .agg #[.slice ra out.length rcap]) ?_ rfl ⟨_, rfl, ?_, HB.out.setCell (p := ⟨w.heap.size, 0, none⟩) (Nat.le_refl _) _⟩
 ·have hbx : BoxV w.heap.size 29 [.slice ra out.length rcap] (w3.setCell ⟨w.heap.size, 0, none⟩ (.slice ra out.length rcap)) := heap_setCell_same w3 w.heap.size 0 _ _ _ HX.out
  have q0 := hbx.cell 0
  simp only [List.getElem?_cons_zero] at q0
  simp [results, Tryz.results14, go_sem, q0]
 ·rw [HOE.out]
  exact (HR.out.keep (fun g hg _ => Below.heap_setCell w3 ⟨w.heap.size, 0, none⟩ _ g (by show g ≠ w.heap.size; omega))).mono (fun g hg _ => Nat.le_of_lt hg)
theorem fLength11 (w : World) (hl : LeastQ (machC 1 1 1) oneA) : Calls Tryz.prog 19 #[.int .i64 1, .int .i64 1] w fun e w' => ∃ v', e = .returned (.tuple #[.agg #[v'], .int .i64 0]) ∧ RdS (fun g => w.heap.size ≤ g) w' v' oneA ∧ Below w.heap.size w w' := by
 have HC := Lib.hid (fun w' => machine_any 1 1 1 oneA w' (by omega) hl)
 unfold cntV at HC
 clear hl
 go_enter Tryz.func19, Tryz.ntmps19
 go_upto_region 1 with fail
 generalize hW : World.alloc w _ = w1
 obtain ⟨hbx, -, hz1, hb1⟩ := alloc_of hW
 have HX := Lib.hid (show BoxV w.heap.size 29 [.slice none 0 0] w1 from hbx)
 have HB := Lib.hid hb1
 clear hW hbx hz1 hb1
 go_upto_region 6 with fail
 generalize hW : World.alloc w1 _ = w2
 obtain ⟨hbx, -, hz1, hb1⟩ := alloc_of hW
 have HY := Lib.hid (show BoxV w1.heap.size 67 [.int .i64 1, .int .i64 1, .int .i64 1] w2 from hbx)
 have HXL := Lib.hid HX.out.lt
 replace HX := Lib.hid (HX.out.below hb1)
 replace HB := Lib.hid (HB.out.trans (hb1.mono HB.out.size))
 have x0 := HY.out.cell 0
 have x1 := HY.out.cell 1
 have x2 := HY.out.cell 2
 simp only [List.getElem?_cons_zero, List.getElem?_cons_succ] at x0 x1 x2
 clear hW hbx hz1 hb1
 go_wp2_with fail
 refine (HC.out w2).mono ?_
 rintro e w3 ⟨v', rfl, hr, hb⟩
 obtain ⟨ra, rcap, rfl, -⟩ := hr.form
 have HXL2 := Lib.hid HX.out.lt
 replace HX := Lib.hid (HX.out.below hb)
 replace HB := Lib.hid (HB.out.trans (hb.mono HB.out.size))
 have HR := Lib.hid (hr.mono (M := fun g => w.heap.size < g) (fun g h _ => Nat.lt_of_lt_of_le HXL2.out h))
 generalize hout : oneA = out at *
 have HOE := Lib.hid hout
 clear hout
 have z0 := HX.out.cell 0
 have y0 := HX.out.free 0
 simp only [List.getElem?_cons_zero] at z0
 clear hr hb HC x0 x1 x2
 go_wp2_with fail
 refine bodyPost_ret (v := .tuple #[.agg #[.slice ra out.length rcap], .int .i64 0]) ?_ rfl ⟨_, rfl, ?_, HB.out.setCell (p := ⟨w.heap.size, 0, none⟩) (Nat.le_refl _) _⟩
 ·have hbx : BoxV w.heap.size 29 [.slice ra out.length rcap] (w3.setCell ⟨w.heap.size, 0, none⟩ (.slice ra out.length rcap)) := heap_setCell_same w3 w.heap.size 0 _ _ _ HX.out
  have q0 := hbx.cell 0
  simp only [List.getElem?_cons_zero] at q0
  simp [results, Tryz.results19, go_sem, q0]
 ·rw [HOE.out]
  exact (HR.out.keep (fun g hg _ => Below.heap_setCell w3 ⟨w.heap.size, 0, none⟩ _ g (by show g ≠ w.heap.size; omega))).mono (fun g hg _ => Nat.le_of_lt hg)
theorem one_val : valA oneA = true := by decide +kernel
theorem awake17_any (w : World) (hE : Env w) (hl1 : LeastQ (machC 1 1 1) oneA) (hl2 : LeastQ (machC 0 (-1) 0) utfA) : Calls Tryz.prog 13 #[] w fun e w' => e = .returned (.bool true) ∧ Below w.heap.size w w' := by
 have HE := Lib.hid hE
 have HL1 := Lib.hid (fun w' => fLength11 w' hl1)
 have HUT := Lib.hid (fun w' => fUtf_any w' hl2)
 have HCK := Lib.hid (fun (n s : ByteArray) (b : Bool) (hs : s.size ≤ 1000000) (h : chkF (L n) (L s) = b) w' he => show Calls Tryz.prog 8 #[.string n, .string s] w' fun e w'' => e = .returned (.bool b) ∧ Below w'.heap.size w' w'' from by
  have := fCheck_any n s w' hs he
  rw [h] at this
  exact this)
 have HDT := Lib.hid (fun (s : ByteArray) (l : List ByteArray) (hs : s.size ≤ 1000000) (h : (detF (L s)).map (fun l => (⟨l.toArray⟩ : ByteArray)) = l) w' he => show Calls Tryz.prog 11 #[.string s] w' fun e w'' => ∃ v, e = .returned v ∧ RdT w'' v l ∧ Below w'.heap.size w' w'' from by
  have := fDetect_any s w' hs he
  rw [h] at this
  exact this)
 have HAC := Lib.hid (fun (s : ByteArray) (b : Bool) (hs : s.size ≤ 1000000) (h : accA oneA (L s) = b) (N : Nat → Prop) v w' (hr : RdS N w' v oneA) => show Calls Tryz.prog 17 #[.agg #[v], .string s] w' fun e w'' => e = .returned (.bool b) ∧ Below w'.heap.size w' w'' from by
  have := Accepts_any N oneA v s w' hr one_val hs
  rw [h] at this
  exact this)
 clear hE hl1 hl2
 go_enter Tryz.func13, Tryz.ntmps13
 go_wp2_with fail
 refine (HL1.out w).mono ?_
 rintro e w1 ⟨v', rfl, hr, hb⟩
 obtain ⟨ra, rcap, rfl, -⟩ := hr.form
 have HR := Lib.hid hr
 have HB := Lib.hid hb
 clear hr hb HL1
 have HON : Hid (oneA.length = oneA.length) := rfl
 generalize hon : oneA.length = on at *
 clear HON hon
 go_upto_region 2 with fail
 generalize hW : World.alloc w1 _ = w2
 obtain ⟨hbx, -, hz1, hb1⟩ := alloc_of hW
 have HX := Lib.hid (show BoxV w1.heap.size 29 [.slice ra on rcap] w2 from hbx)
 replace HR := Lib.hid (HR.out.stay hb1)
 replace HB := Lib.hid (HB.out.trans (hb1.mono HB.out.size))
 clear hW hbx hz1 hb1
 go_wp2_with fail
 refine (HCK.out ⟨#[100, 97, 116, 101]⟩ ⟨#[50, 48, 50, 52, 45, 48, 50, 45, 51, 48]⟩ true (by decide) chk_dates.1 _ (HE.out.below HB.out)).mono ?_
 rintro e wx ⟨rfl, hb⟩
 replace HX := Lib.hid (HX.out.below hb)
 replace HR := Lib.hid (HR.out.stay hb)
 replace HB := Lib.hid (HB.out.trans (hb.mono HB.out.size))
 clear hb
 go_wp2_with fail
 refine (HCK.out ⟨#[100, 97, 116, 101]⟩ ⟨#[50, 48, 50, 52, 45, 49, 51, 45, 48, 49]⟩ false (by decide) chk_dates.2 _ (HE.out.below HB.out)).mono ?_
 rintro e wx ⟨rfl, hb⟩
 replace HX := Lib.hid (HX.out.below hb)
 replace HR := Lib.hid (HR.out.stay hb)
 replace HB := Lib.hid (HB.out.trans (hb.mono HB.out.size))
 clear hb
 go_wp2_with fail
 refine (HDT.out ⟨#[49, 50]⟩ [⟨#[104, 101, 120]⟩, ⟨#[105, 110, 116, 101, 103, 101, 114]⟩, ⟨#[110, 117, 109, 98, 101, 114]⟩] (by decide) (by rw [show L (⟨#[49, 50]⟩ : ByteArray) = [49, 50] from rfl, det_12]; rfl) _ (HE.out.below HB.out)).mono ?_
 rintro e wd ⟨v1, rfl, hr, hb⟩
 replace HX := Lib.hid (HX.out.below hb)
 replace HR := Lib.hid (HR.out.stay hb)
 replace HB := Lib.hid (HB.out.trans (hb.mono HB.out.size))
 obtain ⟨da, dcap, rfl, -⟩ := hr.form
 have HD := Lib.hid hr
 clear hr hb
 go_wp2_with fail
 generalize hW : World.alloc wd _ = wf
 obtain ⟨hbx, -, hz1, hb⟩ := alloc_of hW
 have HD2 := Lib.hid (show RdT wf (.slice (some ⟨wd.heap.size, 0, none⟩) 3 3) [⟨#[104, 101, 120]⟩, ⟨#[105, 110, 116, 101, 103, 101, 114]⟩, ⟨#[110, 117, 109, 98, 101, 114]⟩] from slx_block (l := [⟨#[104, 101, 120]⟩, ⟨#[105, 110, 116, 101, 103, 101, 114]⟩, ⟨#[110, 117, 109, 98, 101, 114]⟩]) strV_len hbx (show (3 : Nat) ≤ maxLen by decide))
 replace HD := Lib.hid (HD.out.stay hb)
 replace HX := Lib.hid (HX.out.below hb)
 replace HR := Lib.hid (HR.out.stay hb)
 replace HB := Lib.hid (HB.out.trans (hb.mono HB.out.size))
 clear hW hbx hz1 hb
 refine (fSame_yes [⟨#[104, 101, 120]⟩, ⟨#[105, 110, 116, 101, 103, 101, 114]⟩, ⟨#[110, 117, 109, 98, 101, 114]⟩] _ _ wf HD.out HD2.out).mono ?_
 rintro e wx ⟨rfl, hb⟩
 replace HX := Lib.hid (HX.out.below hb)
 replace HR := Lib.hid (HR.out.stay hb)
 replace HB := Lib.hid (HB.out.trans (hb.mono HB.out.size))
 clear hb HD HD2
 go_wp2_with fail
 refine (HDT.out ⟨#[97, 49]⟩ [⟨#[104, 101, 120]⟩, ⟨#[110, 97, 109, 101]⟩] (by decide) (by rw [show L (⟨#[97, 49]⟩ : ByteArray) = [97, 49] from rfl, det_a1]; rfl) _ (HE.out.below HB.out)).mono ?_
 rintro e wd ⟨v1, rfl, hr, hb⟩
 replace HX := Lib.hid (HX.out.below hb)
 replace HR := Lib.hid (HR.out.stay hb)
 replace HB := Lib.hid (HB.out.trans (hb.mono HB.out.size))
 obtain ⟨da, dcap, rfl, -⟩ := hr.form
 have HD := Lib.hid hr
 clear hr hb
 go_wp2_with fail
 generalize hW : World.alloc wd _ = wf
 obtain ⟨hbx, -, hz1, hb⟩ := alloc_of hW
 have HD2 := Lib.hid (show RdT wf (.slice (some ⟨wd.heap.size, 0, none⟩) 2 2) [⟨#[104, 101, 120]⟩, ⟨#[110, 97, 109, 101]⟩] from slx_block (l := [⟨#[104, 101, 120]⟩, ⟨#[110, 97, 109, 101]⟩]) strV_len hbx (show (2 : Nat) ≤ maxLen by decide))
 replace HD := Lib.hid (HD.out.stay hb)
 replace HX := Lib.hid (HX.out.below hb)
 replace HR := Lib.hid (HR.out.stay hb)
 replace HB := Lib.hid (HB.out.trans (hb.mono HB.out.size))
 clear hW hbx hz1 hb
 refine (fSame_yes [⟨#[104, 101, 120]⟩, ⟨#[110, 97, 109, 101]⟩] _ _ wf HD.out HD2.out).mono ?_
 rintro e wx ⟨rfl, hb⟩
 replace HX := Lib.hid (HX.out.below hb)
 replace HR := Lib.hid (HR.out.stay hb)
 replace HB := Lib.hid (HB.out.trans (hb.mono HB.out.size))
 clear hb HD HD2
 go_wp2_with fail
 refine (HDT.out ⟨#[]⟩ [⟨#[98, 97, 115, 101, 54, 52]⟩] (by decide) (by rw [show L (⟨#[]⟩ : ByteArray) = [] from rfl, det_nil]; rfl) _ (HE.out.below HB.out)).mono ?_
 rintro e wd ⟨v1, rfl, hr, hb⟩
 replace HX := Lib.hid (HX.out.below hb)
 replace HR := Lib.hid (HR.out.stay hb)
 replace HB := Lib.hid (HB.out.trans (hb.mono HB.out.size))
 obtain ⟨da, dcap, rfl, -⟩ := hr.form
 have HD := Lib.hid hr
 clear hr hb
 go_wp2_with fail
 generalize hW : World.alloc wd _ = wf
 obtain ⟨hbx, -, hz1, hb⟩ := alloc_of hW
 have HD2 := Lib.hid (show RdT wf (.slice (some ⟨wd.heap.size, 0, none⟩) 1 1) [⟨#[98, 97, 115, 101, 54, 52]⟩] from slx_block (l := [⟨#[98, 97, 115, 101, 54, 52]⟩]) strV_len hbx (show (1 : Nat) ≤ maxLen by decide))
 replace HD := Lib.hid (HD.out.stay hb)
 replace HX := Lib.hid (HX.out.below hb)
 replace HR := Lib.hid (HR.out.stay hb)
 replace HB := Lib.hid (HB.out.trans (hb.mono HB.out.size))
 clear hW hbx hz1 hb
 refine (fSame_yes [⟨#[98, 97, 115, 101, 54, 52]⟩] _ _ wf HD.out HD2.out).mono ?_
 rintro e wx ⟨rfl, hb⟩
 replace HX := Lib.hid (HX.out.below hb)
 replace HR := Lib.hid (HR.out.stay hb)
 replace HB := Lib.hid (HB.out.trans (hb.mono HB.out.size))
 clear hb HD HD2
 have x0 := HX.out.cell 0
 simp only [List.getElem?_cons_zero] at x0
 go_wp2_with fail
 refine (HAC.out ⟨#[195, 169]⟩ true (by decide) one_acc.1 _ _ _ HR.out).mono ?_
 rintro e wx ⟨rfl, hb⟩
 replace HX := Lib.hid (HX.out.below hb)
 replace HR := Lib.hid (HR.out.stay hb)
 replace HB := Lib.hid (HB.out.trans (hb.mono HB.out.size))
 clear hb x0
 have x0 := HX.out.cell 0
 simp only [List.getElem?_cons_zero] at x0
 go_wp2_with fail
 refine (HAC.out ⟨#[97, 98]⟩ false (by decide) one_acc.2 _ _ _ HR.out).mono ?_
 rintro e wx ⟨rfl, hb⟩
 replace HX := Lib.hid (HX.out.below hb)
 replace HR := Lib.hid (HR.out.stay hb)
 replace HB := Lib.hid (HB.out.trans (hb.mono HB.out.size))
 clear hb x0
 have x0 := HX.out.cell 0
 simp only [List.getElem?_cons_zero] at x0
 go_wp2_with fail
 refine (HUT.out _).mono ?_
 rintro e wx ⟨v', rfl, hr, hb⟩
 obtain ⟨ua, ucap, rfl, -⟩ := hr.form
 replace HB := Lib.hid (HB.out.trans (hb.mono HB.out.size))
 rw [utf_least.2.2]
 have hfld : ∀ w', (Instr.field 29 (.agg #[.slice ua 9 ucap]) 0).run Tryz.prog w' = .ok (.slice ua 9 ucap) w' := fun w' => by kernel_rfl
 clear hr hb x0
 go_wp2_with fail
 go_ret
 exact ⟨rfl, HB.out⟩
end Go.Proofs.YtpkecepelcppiaaGreatDoor

namespace Go.Proofs.YtpkecepelcppiaaGreatDoor
open Go.RowKit Go.Shelf
set_option maxHeartbeats 4000000
set_option maxRecDepth 100000

theorem pat_snd (l : List UInt8) : sndR 48 (gotP (patF l)) = true := by
 unfold patF
 cases srcF[numF l]? with
 | none => exact snd_le (show 1 ≤ 48 by omega) (show sndR 1 (.mk 0 0 0 0 0 []) = true from rfl)
 | some t => exact got_snd t
def patN (O : Option RX) : Int := match O with
 | some _ => 0
 | none => 7
theorem patO_N {O : Option RX} {w w' : World} {e : Ending} (h : PatO O w e w') : ∃ c, e = .returned (.tuple #[aggP c, .int .i64 (patN O)]) ∧ RdP w' c (gotP O) ∧ Below w.heap.size w w' := by
 obtain ⟨c, he, h1, h2⟩ := h
 refine ⟨c, ?_, h1, h2⟩
 rw [he]
 cases O <;> rfl
theorem NamesX_any (s : ByteArray) (w : World) (hE : Env w) (hl1 : LeastQ (machC 1 1 1) oneA) (hl2 : LeastQ (machC 0 (-1) 0) utfA) :
  Calls Tryz.prog 6 #[.string s] w fun e w' => e = .returned (.bool true) ∧ Below w.heap.size w w' := by
 have HE := Lib.hid hE
 have HAW := Lib.hid (fun w' h => awake17_any w' h hl1 hl2)
 have HG1 := Lib.hid (fun w' h => fPattern_any s w' h)
 have HG2 := Lib.hid (fun w' => fRPattern_any s w')
 have HK1 := Lib.hid (fun w' => fKnown_any s w')
 have HK2 := Lib.hid (fun w' => fRKnown_any s w')
 have HSN := Lib.hid (pat_snd (L s))
 clear hE hl1 hl2
 generalize patF (L s) = O at *
 obtain ⟨kb, hkb⟩ : ∃ b, decide (numF (L s) < 12) = b := ⟨_, rfl⟩
 rw [hkb] at HK1 HK2
 have tkb : (kb == kb) = true := beq_self_eq_true kb
 obtain ⟨x, hx⟩ : ∃ x, patN O = x := ⟨_, rfl⟩
 have HXE : Hid (IntKind.i64.wrap x = x) := by unfold Hid; rw [← hx]; cases O <;> rfl
 have HXX := Lib.hid hx
 clear hx hkb
 go_enter Tryz.func6, Tryz.ntmps6
 go_wp2_with fail
 refine (HG1.out w HE.out).mono ?_
 rintro e w3 hpo
 obtain ⟨c, rfl, hq, hb⟩ := patO_N hpo
 rw [HXX.out]
 have HQ := Lib.hid hq
 have HB := Lib.hid hb
 obtain ⟨pa, pcap, hpa⟩ := hq.forms
 generalize (gotP O).args.length = pn at *
 obtain ⟨p0, p1, p2, p3, p4, p5⟩ := c
 simp only at hpa
 subst hpa
 clear hq hb hpo
 simp only [aggP]
 go_upto_region 2 with fail
 generalize hW : World.alloc w3 _ = w4
 obtain ⟨ha, -, -, hb⟩ := alloc_of hW
 have HX := Lib.hid (show BoxP w3.heap.size ⟨p0, p1, p2, p3, p4, .slice pa pn pcap⟩ w4 from ha)
 replace HQ := Lib.hid (HQ.out.stays hb)
 replace HB := Lib.hid (HB.out.trans (hb.mono HB.out.size))
 clear hW ha hb
 go_wp2_with fail
 refine (HG2.out w4).mono ?_
 rintro e w5 hpo
 obtain ⟨c, rfl, hq, hb⟩ := patO_N hpo
 rw [HXX.out]
 replace HX := Lib.hid (HX.out.below hb)
 replace HQ := Lib.hid (HQ.out.stays hb)
 replace HB := Lib.hid (HB.out.trans (hb.mono HB.out.size))
 have HR := Lib.hid hq
 obtain ⟨qa, qcap, hqa⟩ := hq.forms
 generalize (gotP O).args.length = qn at *
 obtain ⟨q0, q1, q2, q3, q4, q5⟩ := c
 simp only at hqa
 subst hqa
 clear hq hb hpo
 simp only [aggP]
 go_upto_region 3 with fail
 generalize hW : World.alloc w5 _ = w6
 obtain ⟨ha, -, -, hb⟩ := alloc_of hW
 have HY := Lib.hid (show BoxP w5.heap.size ⟨q0, q1, q2, q3, q4, .slice qa qn qcap⟩ w6 from ha)
 replace HX := Lib.hid (HX.out.below hb)
 replace HQ := Lib.hid (HQ.out.stays hb)
 replace HR := Lib.hid (HR.out.stays hb)
 replace HB := Lib.hid (HB.out.trans (hb.mono HB.out.size))
 clear hW ha hb
 go_wp2_with fail
 refine (fNames_any w6).mono ?_
 rintro e w7 ⟨v1, rfl, ht1, hb⟩
 have HT1 := Lib.hid ht1
 replace HX := Lib.hid (HX.out.below hb)
 replace HY := Lib.hid (HY.out.below hb)
 replace HQ := Lib.hid (HQ.out.stays hb)
 replace HR := Lib.hid (HR.out.stays hb)
 replace HB := Lib.hid (HB.out.trans (hb.mono HB.out.size))
 obtain ⟨a1, c1, rfl, -⟩ := ht1.form
 clear ht1 hb
 go_wp2_with fail
 refine (fRNames_any w7).mono ?_
 rintro e w8 ⟨v2, rfl, ht2, hb⟩
 have HT2 := Lib.hid ht2
 replace HT1 := Lib.hid (HT1.out.stay hb)
 replace HX := Lib.hid (HX.out.below hb)
 replace HY := Lib.hid (HY.out.below hb)
 replace HQ := Lib.hid (HQ.out.stays hb)
 replace HR := Lib.hid (HR.out.stays hb)
 replace HB := Lib.hid (HB.out.trans (hb.mono HB.out.size))
 obtain ⟨a2, c2, rfl, -⟩ := ht2.form
 clear ht2 hb
 go_wp2_with fail
 refine (fSame_yes namesB _ _ w8 HT1.out HT2.out).mono ?_
 rintro e w9 ⟨rfl, hb⟩
 replace HX := Lib.hid (HX.out.below hb)
 replace HY := Lib.hid (HY.out.below hb)
 replace HQ := Lib.hid (HQ.out.stays hb)
 replace HR := Lib.hid (HR.out.stays hb)
 replace HB := Lib.hid (HB.out.trans (hb.mono HB.out.size))
 clear hb HT1 HT2
 go_wp2_with fail
 refine (HK1.out w9).mono ?_
 rintro e w10 ⟨rfl, hb⟩
 replace HX := Lib.hid (HX.out.below hb)
 replace HY := Lib.hid (HY.out.below hb)
 replace HQ := Lib.hid (HQ.out.stays hb)
 replace HR := Lib.hid (HR.out.stays hb)
 replace HB := Lib.hid (HB.out.trans (hb.mono HB.out.size))
 clear hb
 go_wp2_with fail
 refine (HK2.out w10).mono ?_
 rintro e w11 ⟨rfl, hwe⟩
 subst hwe
 have HSA := Lib.hid (Same_any _ _ _ _ HSN.out HQ.out HR.out)
 simp only [aggP] at HSA
 obtain ⟨z0, z1, z2, z3, z4, z5⟩ := HX.out.cells
 obtain ⟨x0, x1, x2, x3, x4, x5⟩ := HY.out.cells
 simp only at z0 z1 z2 z3 z4 z5 x0 x1 x2 x3 x4 x5
 have hwr := HXE.out
 go_wp2_with fail
 refine HSA.out.mono ?_
 rintro e w12 ⟨rfl, hb⟩
 replace HB := Lib.hid (HB.out.trans (hb.mono HB.out.size))
 clear hb z0 z1 z2 z3 z4 z5 x0 x1 x2 x3 x4 x5
 go_wp2_with fail
 refine (HAW.out w12 (HE.out.below HB.out)).mono ?_
 rintro e w13 ⟨rfl, hb⟩
 replace HB := Lib.hid (HB.out.trans (hb.mono HB.out.size))
 clear hb
 go_wp2_with fail
 go_ret
 exact ⟨rfl, HB.out⟩
theorem ChecksX_any (n s : ByteArray) (w : World) (hE : Env w) (hl1 : LeastQ (machC 1 1 1) oneA) (hl2 : LeastQ (machC 0 (-1) 0) utfA) :
  Calls Tryz.prog 3 #[.string n, .string s] w fun e w' => e = .returned (.bool true) ∧ Below w.heap.size w w' := by
 have HE := Lib.hid hE
 have HAW := Lib.hid (fun w' h => awake17_any w' h hl1 hl2)
 clear hE hl1 hl2
 by_cases hlen : (60 : Int) < s.size
 ·go_enter Tryz.func3, Tryz.ntmps3
  go_wp2_with fail
  refine (HAW.out w HE.out).mono ?_
  rintro e w13 ⟨rfl, hb⟩
  have HB := Lib.hid hb
  clear hb
  go_wp2_with fail
  go_ret
  exact ⟨rfl, HB.out⟩
 have hs : s.size ≤ 1000000 := by omega
 have HC1 := Lib.hid (fun w' h => fCheck_any n s w' hs h)
 have HC2 := Lib.hid (fun w' => fRCheck_any n s w' hs)
 have HD1 := Lib.hid (fun w' h => fDetect_any s w' hs h)
 have HD2 := Lib.hid (fun w' => fRDetect_any s w' hs)
 generalize chkF (L n) (L s) = cb at *
 generalize (detF (L s)).map (fun l => (⟨l.toArray⟩ : ByteArray)) = dl at *
 have tcb : (cb == cb) = true := beq_self_eq_true cb
 clear hs
 go_enter Tryz.func3, Tryz.ntmps3
 go_wp2_with fail
 refine (HC1.out w HE.out).mono ?_
 rintro e w3 ⟨rfl, hb⟩
 have HB := Lib.hid hb
 clear hb
 go_wp2_with fail
 refine (HC2.out w3).mono ?_
 rintro e w4 ⟨rfl, hb⟩
 replace HB := Lib.hid (HB.out.trans (hb.mono HB.out.size))
 clear hb
 go_wp2_with fail
 refine (HD1.out w4 (HE.out.below HB.out)).mono ?_
 rintro e w5 ⟨v1, rfl, ht1, hb⟩
 have HT1 := Lib.hid ht1
 obtain ⟨a1, c1, rfl, -⟩ := ht1.form
 replace HB := Lib.hid (HB.out.trans (hb.mono HB.out.size))
 clear hb ht1
 go_wp2_with fail
 refine (HD2.out w5).mono ?_
 rintro e w6 ⟨v2, rfl, ht2, hb⟩
 have HT2 := Lib.hid ht2
 obtain ⟨a2, c2, rfl, -⟩ := ht2.form
 replace HT1 := Lib.hid (HT1.out.stay hb)
 replace HB := Lib.hid (HB.out.trans (hb.mono HB.out.size))
 clear hb ht2
 go_wp2_with fail
 refine (fSame_yes dl _ _ w6 HT1.out HT2.out).mono ?_
 rintro e w7 ⟨rfl, hb⟩
 replace HB := Lib.hid (HB.out.trans (hb.mono HB.out.size))
 clear hb
 go_wp2_with fail
 refine (HAW.out w7 (HE.out.below HB.out)).mono ?_
 rintro e w8 ⟨rfl, hb⟩
 replace HB := Lib.hid (HB.out.trans (hb.mono HB.out.size))
 clear hb
 go_wp2_with fail
 go_ret
 exact ⟨rfl, HB.out⟩
end Go.Proofs.YtpkecepelcppiaaGreatDoor

namespace Go.Proofs.YtpkecepelcppiaaGreatDoor
open Go.RowKit Go.Shelf
set_option maxHeartbeats 4000000
set_option maxRecDepth 100000

theorem Least_any (f : Nat) (m out : List StA) (hv : valA m = true) (hn : m.length < 100) (hf : leastA f m = some out) (hff : f ≤ 1000) : LeastQ m out := by
 intro N v w hm
 have HV := Lib.hid (fun w' (h : Below w.heap.size w w') => Valid_yes N m v w' (hm.stay h) hv)
 have HL := Lib.hid (fun w' (h : Below w.heap.size w w') => least_any N f m out v w' (hm.stay h) hv hn hf hff)
 obtain ⟨a, cap, rfl, -⟩ := hm.form
 clear hv hn hf hff hm
 go_enter Tryz.func63, Tryz.ntmps63
 go_upto_region 1 with fail
 generalize hW : World.alloc w _ = w1
 obtain ⟨hbx, -, hz1, hb1⟩ := alloc_of hW
 generalize hW2 : World.alloc w1 _ = w2
 obtain ⟨hbx2, -, hz2, hb2⟩ := alloc_of hW2
 rw [hz1] at hbx2
 have HX := Lib.hid (show BoxV w.heap.size 29 [.slice a m.length cap] w2 from (hb2.block _ (by omega)).trans hbx)
 have HR := Lib.hid (show BoxV (w.heap.size + 1) 29 [.slice none 0 0] w2 from hbx2)
 have HB := Lib.hid (hb1.trans (hb2.mono hb1.size))
 clear hW hbx hz1 hb1 hW2 hbx2 hz2 hb2
 have x0 := HX.out.cell 0
 simp only [List.getElem?_cons_zero] at x0
 go_wp2_with fail
 refine (HV.out w2 HB.out).mono ?_
 rintro e w3 ⟨rfl, hb⟩
 replace HX := Lib.hid (HX.out.below hb)
 replace HR := Lib.hid (HR.out.below hb)
 replace HB := Lib.hid (HB.out.trans (hb.mono HB.out.size))
 clear hb x0
 have x0 := HX.out.cell 0
 simp only [List.getElem?_cons_zero] at x0
 go_wp2_with fail
 refine (HL.out w3 HB.out).mono ?_
 rintro e w9 ⟨v', rfl, hr, hb⟩
 obtain ⟨ra, rcap, rfl, -⟩ := hr.form
 have HRL := Lib.hid HR.out.lt
 replace HR := Lib.hid (HR.out.below hb)
 replace HB := Lib.hid (HB.out.trans (hb.mono HB.out.size))
 have HRS := Lib.hid (hr.mono (M := fun g => w.heap.size + 1 < g) (fun g h _ => Nat.lt_of_lt_of_le HRL.out h))
 have z0 := HR.out.cell 0
 have y0 := HR.out.free 0
 simp only [List.getElem?_cons_zero] at z0
 clear hr hb x0
 go_wp2_with fail
 refine bodyPost_ret (v := .agg #[.slice ra out.length rcap]) ?_ rfl ⟨_, rfl, ?_, HB.out.setCell (p := ⟨w.heap.size + 1, 0, none⟩) (by show w.heap.size ≤ w.heap.size + 1; omega) _⟩
 ·have hbx : BoxV (w.heap.size + 1) 29 [.slice ra out.length rcap] (w9.setCell ⟨w.heap.size + 1, 0, none⟩ (.slice ra out.length rcap)) := heap_setCell_same w9 (w.heap.size + 1) 0 _ _ _ HR.out
  have q0 := hbx.cell 0
  simp only [List.getElem?_cons_zero] at q0
  simp [results, Tryz.results63, go_sem, q0]
 ·exact (HRS.out.keep (fun g hg _ => Below.heap_setCell w9 ⟨w.heap.size + 1, 0, none⟩ _ g (by show g ≠ w.heap.size + 1; omega))).mono (fun g hg _ => by omega)
theorem least_of {m : List StA} (h : (leastA 20 m).isSome = true) : leastA 20 m = some ((leastA 20 m).getD []) := by
 cases hl : leastA 20 m with
 | none => rw [hl] at h; cases h
 | some o => rfl
theorem leastOne : LeastQ (machC 1 1 1) oneA := Least_any 20 _ _ one_least.2 (by decide +kernel) (least_of one_least.1) (by omega)
theorem leastUtf : LeastQ (machC 0 (-1) 0) utfA := Least_any 20 _ _ utf_least.2.1 (by decide +kernel) (least_of utf_least.1) (by omega)
end Go.Proofs.YtpkecepelcppiaaGreatDoor
