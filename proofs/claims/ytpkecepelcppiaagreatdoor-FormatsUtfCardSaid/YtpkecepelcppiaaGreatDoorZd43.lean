/- datakitref16.Least; datakitref17.counter walked. Conditions: at most 101 characters are told apart. -/
import Derived.Test.YtpkecepelcppiaaGreatDoorZd42
import Derived.Test.YtpkecepelcppiaaGreatDoorZd22
import Derived.Deep.DeepCutAuto
import Derived.Test.YtpkecepelcppiaaGreatDoorZd27
import Derived.Test.YtpkecepelcppiaaGreatDoorZd25
import Derived.Test.YtpkecepelcppiaaGreatDoorZd2
namespace Go.Proofs.YtpkecepelcppiaaGreatDoor
open Go.RowKit Go.Shelf
set_option maxHeartbeats 4000000
set_option maxRecDepth 100000

theorem src_small : srcF.all (fun l => decide (l.length ≤ 1000)) = true := by decide +kernel
theorem srcB_L (n : Nat) : L (srcB n) = (srcF[n]?).getD [] := L_mk _
theorem srcB_size (n : Nat) : (srcB n).size ≤ 100000000 := by
 rw [← L_len, srcB_L]
 cases h : srcF[n]? with
 | none => show (0 : Nat) ≤ _; omega
 | some l =>
  have := of_decide_eq_true (List.all_eq_true.1 src_small l (List.mem_of_getElem? h))
  show l.length ≤ _
  omega
def GotQ (O : Option RX) (w : World) (e : Ending) (w' : World) : Prop :=
 ∃ c, e = .returned (.tuple #[aggP c, .int .i64 (gotE O)]) ∧ RdQ (fun g => w.heap.size ≤ g) w' c (gotP O) ∧ Below w.heap.size w w'
theorem gotQ_main (s : ByteArray) (w : World) (hs : s.size ≤ 100000000) (he : Env w) : Calls Tryz.prog 44 #[.string s] w (GotQ (parseR (L s)) w) := by
 refine (Parse_any s w hs he).mono ?_
 rintro e w' ⟨hb, hm⟩
 cases h : parseR (L s) with
 | none =>
  rw [h] at hm
  exact ⟨_, hm, leaf_rdq _ w' 0 0 0, hb⟩
 | some p =>
  rw [h] at hm
  obtain ⟨c, rfl, hq⟩ := hm
  exact ⟨c, rfl, hq, hb⟩
theorem fPattern_any (s : ByteArray) (w : World) (hE : Env w) : Calls Tryz.prog 23 #[.string s] w (PatO (patF (L s)) w) := by
 have HC := Lib.hid (fun w' => fNumber_any s w')
 have HE := Lib.hid hE
 have HPS := Lib.hid (pat_src (L s))
 have HPN := Lib.hid (pat_none (L s))
 have HLE := Lib.hid (num_le (L s))
 have HSO : Hid (srcOf (L s) = (srcF[numF (L s)]?).getD []) := rfl
 generalize patF (L s) = O at *
 generalize srcOf (L s) = S at *
 generalize numF (L s) = r at *
 clear hE
 go_enter Tryz.func23, Tryz.ntmps23
 go_upto_region 1 with fail
 generalize hW : World.alloc w _ = w1
 obtain ⟨ha, -, hz1, hb1⟩ := alloc_of hW
 have HX := Lib.hid (show BoxP w.heap.size ⟨0, 0, 0, 0, 0, .slice none 0 0⟩ w1 from ha)
 have HB := Lib.hid hb1
 clear hW ha hz1 hb1
 by_cases hr : r < 12
 ·obtain ⟨p, hp, hO⟩ := HPS.out hr
  have HOO := Lib.hid hO
  have e12 : ((r : Int) == 12) = false := beq_false_of_ne (by omega)
  have HT := Lib.hid (fun w' => fText_any r hr w')
  have HG : Hid (∀ w', Env w' → Calls Tryz.prog 44 #[.string (srcB r)] w' (GotQ (some p) w')) := fun w' he => by
   have := gotQ_main (srcB r) w' (srcB_size r) he
   rw [srcB_L, ← HSO.out, hp] at this
   exact this
  clear hr hp hO HPS HPN
  go_wp2_with fail
  refine (HC.out w1).mono ?_
  rintro e w2 ⟨rfl, hb⟩
  replace HX := Lib.hid (HX.out.below hb)
  replace HB := Lib.hid (HB.out.trans (hb.mono HB.out.size))
  clear hb HC
  go_wp2_with fail
  refine (HT.out w2).mono ?_
  rintro e wx ⟨rfl, hwx⟩
  subst hwx
  go_wp2_with fail
  refine (HG.out _ (HE.out.below HB.out)).mono ?_
  rintro e w3 ⟨c, rfl, hq, hb⟩
  have HXL := Lib.hid HX.out.lt
  replace HX := Lib.hid (HX.out.below hb)
  replace HB := Lib.hid (HB.out.trans (hb.mono HB.out.size))
  have HQ := Lib.hid (hq.mono (M := fun g => w.heap.size < g) (fun g h _ => Nat.lt_of_lt_of_le HXL.out h))
  obtain ⟨fa, fcap, hfa⟩ := hq.rd.forms
  generalize (gotP (some p)).args.length = rn at *
  obtain ⟨q0, q1, q2, q3, q4, q5⟩ := c
  simp only at hfa
  subst hfa
  clear hb hq HG HXL
  obtain ⟨z0, z1, z2, z3, z4, z5⟩ := HX.out.cells
  obtain ⟨y0, y1, y2, y3, y4, y5⟩ := HX.out.free
  simp only at z0 z1 z2 z3 z4 z5
  simp only [aggP, gotE]
  go_wp2_with fail
  generalize hW : World.setCell _ _ _ = w9
  obtain ⟨hbx, hq, hb⟩ := par_fin (d := ⟨q0, q1, q2, q3, q4, .slice fa rn fcap⟩) HX.out HB.out HQ.out hW
  obtain ⟨s0, s1, s2, s3, s4, s5⟩ := hbx.cells
  rw [HOO.out]
  exact bodyPost_ret (v := .tuple #[aggP ⟨q0, q1, q2, q3, q4, .slice fa rn fcap⟩, .int .i64 0]) (by simp only at s0 s1 s2 s3 s4 s5; simp [results, Tryz.results23, go_sem, s0, s1, s2, s3, s4, s5]) rfl ⟨_, rfl, hq.rd, hb⟩
 ·have hO := (HPN.out hr).1
  have HOO := Lib.hid hO
  have HRE := Lib.hid hr
  clear hr hO HPS HPN
  go_wp2_with fail
  refine (HC.out w1).mono ?_
  rintro e w2 ⟨rfl, hb⟩
  replace HX := Lib.hid (HX.out.below hb)
  replace HB := Lib.hid (HB.out.trans (hb.mono HB.out.size))
  have e12 : ((r : Int) == 12) = true := by rw [show (r : Int) = 12 by have := HRE.out; have := HLE.out; omega]; rfl
  clear hb HC
  obtain ⟨z0, z1, z2, z3, z4, z5⟩ := HX.out.cells
  obtain ⟨y0, y1, y2, y3, y4, y5⟩ := HX.out.free
  simp only at z0 z1 z2 z3 z4 z5
  go_wp2_with fail
  generalize hW : World.setCell _ _ _ = w9
  obtain ⟨hbx, hq, hb⟩ := par_fin (d := ⟨0, 0, 0, 0, 0, .slice none 0 0⟩) HX.out HB.out (leaf_rdq _ _ 0 0 0) hW
  obtain ⟨s0, s1, s2, s3, s4, s5⟩ := hbx.cells
  rw [HOO.out]
  exact bodyPost_ret (v := .tuple #[aggP ⟨0, 0, 0, 0, 0, .slice none 0 0⟩, .int .i64 7]) (by simp only at s0 s1 s2 s3 s4 s5; simp [results, Tryz.results23, go_sem, s0, s1, s2, s3, s4, s5]) rfl ⟨_, rfl, hq.rd, hb⟩
end Go.Proofs.YtpkecepelcppiaaGreatDoor

namespace Go.Proofs.YtpkecepelcppiaaGreatDoor
open Go.RowKit Go.Shelf
set_option maxHeartbeats 4000000
set_option maxRecDepth 100000

theorem elemT : Elem Tryz.prog 24 9 1 := elem_of (z := .string ⟨#[]⟩) (bytes := 16) Tryz.underlying24 (by kernel_rfl) (by decide) (by decide) rfl
theorem fCheck_any (n s : ByteArray) (w : World) (hs : s.size ≤ 1000000) (hE : Env w) : Calls Tryz.prog 8 #[.string n, .string s] w fun e w' => e = .returned (.bool (chkF (L n) (L s))) ∧ Below w.heap.size w w' := by
 have HC := Lib.hid (fPattern_any n w hE)
 have HCK : Hid (chkF (L n) (L s) = match patF (L n) with | some p => matR p (L s) | none => false) := rfl
 have HM : Hid (∀ p, patF (L n) = some p → ∀ c w', RdP w' c p → Calls Tryz.prog 36 #[aggP c, .string s] w' fun e w'' => e = .returned (.bool (matR p (L s))) ∧ Below w'.heap.size w' w'') := fun p hp c w' h => Match_any s hs p c w' h
 generalize chkF (L n) (L s) = R at *
 generalize patF (L n) = O at *
 clear hs hE
 go_enter Tryz.func8, Tryz.ntmps8
 go_wp2_with fail
 refine HC.out.mono ?_
 rintro e w3 ⟨c, rfl, hq, hb⟩
 have HB := Lib.hid hb
 have HQ := Lib.hid hq
 obtain ⟨fa, fcap, hfa⟩ := hq.forms
 generalize (gotP O).args.length = rn at *
 obtain ⟨q0, q1, q2, q3, q4, q5⟩ := c
 simp only at hfa
 subst hfa
 clear hb hq HC
 simp only [aggP]
 go_upto_region 2 with fail
 generalize hW : World.alloc w3 _ = w4
 obtain ⟨ha, -, hz1, hb1⟩ := alloc_of hW
 have HY := Lib.hid (show BoxP w3.heap.size ⟨q0, q1, q2, q3, q4, .slice fa rn fcap⟩ w4 from ha)
 replace HB := Lib.hid (HB.out.trans (hb1.mono HB.out.size))
 replace HQ := Lib.hid (HQ.out.stays hb1)
 obtain ⟨x0, x1, x2, x3, x4, x5⟩ := HY.out.cells
 simp only at x0 x1 x2 x3 x4 x5
 clear hW ha hz1 hb1
 cases O with
 | none =>
  have HF : Hid (R = false) := HCK.out
  go_wp2_with fail
  go_ret
  exact ⟨by rw [HF.out]; rfl, HB.out⟩
 | some p =>
  have HF : Hid (R = matR p (L s)) := HCK.out
  have HMM := Lib.hid (HM.out p rfl ⟨q0, q1, q2, q3, q4, .slice fa rn fcap⟩ w4 HQ.out)
  simp only [aggP] at HMM
  go_wp2_with fail
  refine HMM.out.mono ?_
  rintro e w5 ⟨rfl, hb⟩
  replace HB := Lib.hid (HB.out.trans (hb.mono HB.out.size))
  clear hb
  go_wp2_with fail
  go_ret
  exact ⟨by rw [HF.out]; rfl, HB.out⟩
theorem fDetect_any (s : ByteArray) (w : World) (hs : s.size ≤ 1000000) (hE : Env w) : Calls Tryz.prog 11 #[.string s] w fun e w' => ∃ v, e = .returned v ∧ RdT w' v ((detF (L s)).map fun l => ⟨l.toArray⟩) ∧ Below w.heap.size w w' := by
 have HCK : Hid (∀ (nb : ByteArray) w', Env w' → Calls Tryz.prog 8 #[.string nb, .string s] w' fun e w'' => e = .returned (.bool (chkF (L nb) (L s))) ∧ Below w'.heap.size w' w'') := fun nb w' he => fCheck_any nb s w' hs he
 have HDE := Lib.hid (detG_end (L s))
 have HE := Lib.hid hE
 clear hs hE
 go_enter Tryz.func11, Tryz.ntmps11
 go_wp2_with fail
 refine (fNames_any w).mono ?_
 rintro e w1 ⟨v, rfl, hr, hb⟩
 obtain ⟨a, cap, rfl, -⟩ := hr.form
 have HR := Lib.hid hr
 have HB := Lib.hid hb
 clear hr hb
 rw [show namesB.length = 12 from rfl]
 rw [show namesB.length = 12 from rfl] at HR
 go_wp2_with fail
 go_loopw [3, 8] (fun ov kv wr => ∃ (k : Nat) (A : Option Addr) (nl cp : Nat) (out : List ByteArray), kv = .int .i64 (k : Int) ∧ k ≤ 12 ∧ ov = .slice A nl cp ∧ Hid (OwnL w1.heap.size 9 1 strV wr (.slice A nl cp) out) ∧ Hid (out.map L = detG (L s) k) ∧ Hid (out.length ≤ k) ∧ Hid (Below w1.heap.size w1 wr)) (fun _ kv _ => 12 - (intOf kv).toNat)
 case atStart => exact ⟨0, none, 0, 0, [], rfl, by omega, rfl, OwnL.nil _ _ _ _ _, rfl, Nat.le_refl _, Below.refl _ _⟩
 case round =>
  obtain ⟨k, A, nl, cp, out, rfl, hk, rfl, HO, HD, HL, HW⟩ := hrel
  by_cases hlt : k < 12
  case neg =>
   have hke : k = 12 := by omega
   subst hke
   have HRD : Hid (RdT wr (.slice A nl cp) ((detF (L s)).map fun l => ⟨l.toArray⟩)) := by
    have h1 : out = (detF (L s)).map fun l => (⟨l.toArray⟩ : ByteArray) := by
     rw [← HDE.out, ← HD.out, List.map_map]
     exact (List.map_id out).symm
    unfold Hid
    rw [← h1]
    exact HO.out.strs
   clear hlt
   go_wp2_with fail
   go_ret
   exact ⟨_, rfl, HRD.out, HB.out.trans (HW.out.mono HB.out.size)⟩
  case pos =>
   have hlti : (k : Int) < 12 := by omega
   have hkB : k < namesB.length := hlt
   obtain ⟨g, o, rfl, hc⟩ := (HR.out.stay HW.out).at_ k hkB
   have HST := Lib.hid (detG_stepB (L s) k hkB)
   have HKL : Hid (k + 1 ≤ 12) := hlt
   have HCS := Lib.hid (fun w' (hb : Below w1.heap.size w1 w') => ((HR.out.stay hb).at_ k hkB))
   generalize namesB[k] = nb at *
   clear hlt
   go_wp2_with fail
   refine (HCK.out nb wr (HE.out.below (HB.out.trans (HW.out.mono HB.out.size)))).mono ?_
   rintro e w5 ⟨rfl, hb⟩
   replace HO := Lib.hid (HO.out.stay hb)
   replace HW := Lib.hid (HW.out.trans (hb.mono HW.out.size))
   clear hb hc
   cases hck : chkF (L nb) (L s) with
   | false =>
    have HN : Hid (out.map L = detG (L s) (k + 1)) := HD.out.trans ((HST.out.trans (if_neg (by rw [hck]; decide))).symm)
    clear hck
    go_wp2_with fail
    exact ⟨⟨k + 1, A, nl, cp, out, by simp, HKL.out, rfl, HO.out, HN.out, Nat.le_succ_of_le HL.out, HW.out⟩, by have := HKL.out; simp [intOf]; omega⟩
   | true =>
    have HN : Hid ((out ++ [nb]).map L = detG (L s) (k + 1)) := by
     unfold Hid
     rw [HST.out, if_pos hck, List.map_append, HD.out]
     rfl
    clear hck
    go_wp2_with (at_builtin; refine wpl_pushL (f := strV) (x := nb) (v := .slice A nl cp) (l := out) (B := w1.heap.size) (e := 9) (sz := 1) _ _ rfl rfl elemT strV_len (by decide) (strV_one nb) HO.out rfl rfl rfl (by have := HL.out; omega) HW.out.size ?_; intro v3 w6 hown3 hg3 hfm3 hat3; obtain ⟨A3, n3, cap3, rfl⟩ : ∃ A n cap, v3 = .slice A n cap := (by obtain ⟨A, c, h⟩ := hfm3; exact ⟨A, _, c, h⟩))
    have hgb := grown_belowL hg3 (fun x hx => (HO.out.lt x hx).1) HW.out.size
    exact ⟨⟨k + 1, A3, n3, cap3, out ++ [nb], by simp, HKL.out, rfl, hown3, HN.out, by unfold Hid; rw [List.length_append]; exact Nat.succ_le_succ HL.out, HW.out.trans hgb⟩, by have := HKL.out; simp [intOf]; omega⟩
end Go.Proofs.YtpkecepelcppiaaGreatDoor

namespace Go.Proofs.YtpkecepelcppiaaGreatDoor
open Go.RowKit Go.Shelf
set_option maxHeartbeats 4000000
set_option maxRecDepth 100000

def LeastQ (m out : List StA) : Prop := ∀ (N : Nat → Prop) (v : Value) (w' : World), RdS N w' v m → Calls Tryz.prog 63 #[.agg #[v]] w' fun e w'' => ∃ v', e = .returned (.agg #[v']) ∧ RdS (fun g => w'.heap.size ≤ g) w'' v' out ∧ Below w'.heap.size w' w''
theorem fUtf_any (w : World) (hl : LeastQ (machC 0 (-1) 0) utfA) : Calls Tryz.prog 14 #[] w fun e w' => ∃ v', e = .returned (.agg #[v']) ∧ RdS (fun g => w.heap.size ≤ g) w' v' utfA ∧ Below w.heap.size w w' := by
 have HC := Lib.hid (fun w' => machine_any 0 (-1) 0 utfA w' (by omega) (fun N v w2 _ h => hl N v w2 h))
 unfold cntV at HC
 clear hl
 go_enter Tryz.func14, Tryz.ntmps14
 go_upto_region 1 with fail
 generalize hW : World.alloc w _ = w1
 obtain ⟨hbx, -, hz1, hb1⟩ := alloc_of hW
 have HX := Lib.hid (show BoxV w.heap.size 29 [.slice none 0 0] w1 from hbx)
 have HB := Lib.hid hb1
 clear hW hbx hz1 hb1
 go_wp2_with fail
 refine (HC.out w1).mono ?_
 rintro e w3 ⟨v', rfl, hr, hb⟩
 obtain ⟨ra, rcap, rfl, -⟩ := hr.form
 have HXL := Lib.hid HX.out.lt
 replace HX := Lib.hid (HX.out.below hb)
 replace HB := Lib.hid (HB.out.trans (hb.mono HB.out.size))
 have HR := Lib.hid (hr.mono (M := fun g => w.heap.size < g) (fun g h _ => Nat.lt_of_lt_of_le HXL.out h))
 generalize hout : utfA = out at *
 have HOE := Lib.hid hout
 clear hout
 have z0 := HX.out.cell 0
 have y0 := HX.out.free 0
 simp only [List.getElem?_cons_zero] at z0
 clear hr hb HC
 go_wp2_with fail
 refine bodyPost_ret (v := .agg #[.slice ra out.length rcap]) ?_ rfl ⟨_, rfl, ?_, HB.out.setCell (p := ⟨w.heap.size, 0, none⟩) (Nat.le_refl _) _⟩
 ·have hbx : BoxV w.heap.size 29 [.slice ra out.length rcap] (w3.setCell ⟨w.heap.size, 0, none⟩ (.slice ra out.length rcap)) := heap_setCell_same w3 w.heap.size 0 _ _ _ HX.out
  have q0 := hbx.cell 0
  simp only [List.getElem?_cons_zero] at q0
  simp [results, Tryz.results14, go_sem, q0]
 ·rw [HOE.out]
  exact (HR.out.keep (fun g hg _ => Below.heap_setCell w3 ⟨w.heap.size, 0, none⟩ _ g (by show g ≠ w.heap.size; omega))).mono (fun g hg _ => Nat.le_of_lt hg)
theorem fLength11 (w : World) (hl : LeastQ (machC 1 1 1) oneA) : Calls Tryz.prog 19 #[.int .i64 1, .int .i64 1] w fun e w' => ∃ v', e = .returned (.tuple #[.agg #[v'], .int .i64 0]) ∧ RdS (fun g => w.heap.size ≤ g) w' v' oneA ∧ Below w.heap.size w w' := by
 have HC := Lib.hid (fun w' => machine_any 1 1 1 oneA w' (by omega) (fun N v w2 _ h => hl N v w2 h))
 unfold cntV at HC
 clear hl
 go_enter Tryz.func19, Tryz.ntmps19
 go_upto_region 1 with fail
 generalize hW : World.alloc w _ = w1
 obtain ⟨hbx, -, hz1, hb1⟩ := alloc_of hW
 have HX := Lib.hid (show BoxV w.heap.size 29 [.slice none 0 0] w1 from hbx)
 have HB := Lib.hid hb1
 clear hW hbx hz1 hb1
 go_upto_region 6 with fail
 generalize hW : World.alloc w1 _ = w2
 obtain ⟨hbx, -, hz1, hb1⟩ := alloc_of hW
 have HY := Lib.hid (show BoxV w1.heap.size 67 [.int .i64 1, .int .i64 1, .int .i64 1] w2 from hbx)
 have HXL := Lib.hid HX.out.lt
 replace HX := Lib.hid (HX.out.below hb1)
 replace HB := Lib.hid (HB.out.trans (hb1.mono HB.out.size))
 have x0 := HY.out.cell 0
 have x1 := HY.out.cell 1
 have x2 := HY.out.cell 2
 simp only [List.getElem?_cons_zero, List.getElem?_cons_succ] at x0 x1 x2
 clear hW hbx hz1 hb1
 go_wp2_with fail
 refine (HC.out w2).mono ?_
 rintro e w3 ⟨v', rfl, hr, hb⟩
 obtain ⟨ra, rcap, rfl, -⟩ := hr.form
 have HXL2 := Lib.hid HX.out.lt
 replace HX := Lib.hid (HX.out.below hb)
 replace HB := Lib.hid (HB.out.trans (hb.mono HB.out.size))
 have HR := Lib.hid (hr.mono (M := fun g => w.heap.size < g) (fun g h _ => Nat.lt_of_lt_of_le HXL2.out h))
 generalize hout : oneA = out at *
 have HOE := Lib.hid hout
 clear hout
 have z0 := HX.out.cell 0
 have y0 := HX.out.free 0
 simp only [List.getElem?_cons_zero] at z0
 clear hr hb HC x0 x1 x2
 go_wp2_with fail
 refine bodyPost_ret (v := .tuple #[.agg #[.slice ra out.length rcap], .int .i64 0]) ?_ rfl ⟨_, rfl, ?_, HB.out.setCell (p := ⟨w.heap.size, 0, none⟩) (Nat.le_refl _) _⟩
 ·have hbx : BoxV w.heap.size 29 [.slice ra out.length rcap] (w3.setCell ⟨w.heap.size, 0, none⟩ (.slice ra out.length rcap)) := heap_setCell_same w3 w.heap.size 0 _ _ _ HX.out
  have q0 := hbx.cell 0
  simp only [List.getElem?_cons_zero] at q0
  simp [results, Tryz.results19, go_sem, q0]
 ·rw [HOE.out]
  exact (HR.out.keep (fun g hg _ => Below.heap_setCell w3 ⟨w.heap.size, 0, none⟩ _ g (by show g ≠ w.heap.size; omega))).mono (fun g hg _ => Nat.le_of_lt hg)
theorem one_val : valA oneA = true := by decide +kernel
theorem awake17_any (w : World) (hE : Env w) (hl1 : LeastQ (machC 1 1 1) oneA) (hl2 : LeastQ (machC 0 (-1) 0) utfA) : Calls Tryz.prog 13 #[] w fun e w' => e = .returned (.bool true) ∧ Below w.heap.size w w' := by
 have HE := Lib.hid hE
 have HL1 := Lib.hid (fun w' => fLength11 w' hl1)
 have HUT := Lib.hid (fun w' => fUtf_any w' hl2)
 have HCK := Lib.hid (fun (n s : ByteArray) (b : Bool) (hs : s.size ≤ 1000000) (h : chkF (L n) (L s) = b) w' he => show Calls Tryz.prog 8 #[.string n, .string s] w' fun e w'' => e = .returned (.bool b) ∧ Below w'.heap.size w' w'' from by
  have := fCheck_any n s w' hs he
  rw [h] at this
  exact this)
 have HDT := Lib.hid (fun (s : ByteArray) (l : List ByteArray) (hs : s.size ≤ 1000000) (h : (detF (L s)).map (fun l => (⟨l.toArray⟩ : ByteArray)) = l) w' he => show Calls Tryz.prog 11 #[.string s] w' fun e w'' => ∃ v, e = .returned v ∧ RdT w'' v l ∧ Below w'.heap.size w' w'' from by
  have := fDetect_any s w' hs he
  rw [h] at this
  exact this)
 have HAC := Lib.hid (fun (s : ByteArray) (b : Bool) (hs : s.size ≤ 1000000) (h : accA oneA (L s) = b) (N : Nat → Prop) v w' (hr : RdS N w' v oneA) => show Calls Tryz.prog 17 #[.agg #[v], .string s] w' fun e w'' => e = .returned (.bool b) ∧ Below w'.heap.size w' w'' from by
  have := Accepts_any N oneA v s w' hr one_val hs
  rw [h] at this
  exact this)
 clear hE hl1 hl2
 go_enter Tryz.func13, Tryz.ntmps13
 go_wp2_with fail
 refine (HL1.out w).mono ?_
 rintro e w1 ⟨v', rfl, hr, hb⟩
 obtain ⟨ra, rcap, rfl, -⟩ := hr.form
 have HR := Lib.hid hr
 have HB := Lib.hid hb
 clear hr hb HL1
 have HON : Hid (oneA.length = oneA.length) := rfl
 generalize hon : oneA.length = on at *
 clear HON hon
 go_upto_region 2 with fail
 generalize hW : World.alloc w1 _ = w2
 obtain ⟨hbx, -, hz1, hb1⟩ := alloc_of hW
 have HX := Lib.hid (show BoxV w1.heap.size 29 [.slice ra on rcap] w2 from hbx)
 replace HR := Lib.hid (HR.out.stay hb1)
 replace HB := Lib.hid (HB.out.trans (hb1.mono HB.out.size))
 clear hW hbx hz1 hb1
 go_wp2_with fail
 refine (HCK.out ⟨#[100, 97, 116, 101]⟩ ⟨#[50, 48, 50, 52, 45, 48, 50, 45, 51, 48]⟩ true (by decide) chk_dates.1 _ (HE.out.below HB.out)).mono ?_
 rintro e wx ⟨rfl, hb⟩
 replace HX := Lib.hid (HX.out.below hb)
 replace HR := Lib.hid (HR.out.stay hb)
 replace HB := Lib.hid (HB.out.trans (hb.mono HB.out.size))
 clear hb
 go_wp2_with fail
 refine (HCK.out ⟨#[100, 97, 116, 101]⟩ ⟨#[50, 48, 50, 52, 45, 49, 51, 45, 48, 49]⟩ false (by decide) chk_dates.2 _ (HE.out.below HB.out)).mono ?_
 rintro e wx ⟨rfl, hb⟩
 replace HX := Lib.hid (HX.out.below hb)
 replace HR := Lib.hid (HR.out.stay hb)
 replace HB := Lib.hid (HB.out.trans (hb.mono HB.out.size))
 clear hb
 go_wp2_with fail
 refine (HDT.out ⟨#[49, 50]⟩ [⟨#[104, 101, 120]⟩, ⟨#[105, 110, 116, 101, 103, 101, 114]⟩, ⟨#[110, 117, 109, 98, 101, 114]⟩] (by decide) (by rw [show L (⟨#[49, 50]⟩ : ByteArray) = [49, 50] from rfl, det_12]; rfl) _ (HE.out.below HB.out)).mono ?_
 rintro e wd ⟨v1, rfl, hr, hb⟩
 replace HX := Lib.hid (HX.out.below hb)
 replace HR := Lib.hid (HR.out.stay hb)
 replace HB := Lib.hid (HB.out.trans (hb.mono HB.out.size))
 obtain ⟨da, dcap, rfl, -⟩ := hr.form
 have HD := Lib.hid hr
 clear hr hb
 go_wp2_with fail
 generalize hW : World.alloc wd _ = wf
 obtain ⟨hbx, -, hz1, hb⟩ := alloc_of hW
 have HD2 := Lib.hid (show RdT wf (.slice (some ⟨wd.heap.size, 0, none⟩) 3 3) [⟨#[104, 101, 120]⟩, ⟨#[105, 110, 116, 101, 103, 101, 114]⟩, ⟨#[110, 117, 109, 98, 101, 114]⟩] from slx_block (l := [⟨#[104, 101, 120]⟩, ⟨#[105, 110, 116, 101, 103, 101, 114]⟩, ⟨#[110, 117, 109, 98, 101, 114]⟩]) strV_len hbx (show (3 : Nat) ≤ maxLen by decide))
 replace HD := Lib.hid (HD.out.stay hb)
 replace HX := Lib.hid (HX.out.below hb)
 replace HR := Lib.hid (HR.out.stay hb)
 replace HB := Lib.hid (HB.out.trans (hb.mono HB.out.size))
 clear hW hbx hz1 hb
 refine (fSame_yes [⟨#[104, 101, 120]⟩, ⟨#[105, 110, 116, 101, 103, 101, 114]⟩, ⟨#[110, 117, 109, 98, 101, 114]⟩] _ _ wf HD.out HD2.out).mono ?_
 rintro e wx ⟨rfl, hb⟩
 replace HX := Lib.hid (HX.out.below hb)
 replace HR := Lib.hid (HR.out.stay hb)
 replace HB := Lib.hid (HB.out.trans (hb.mono HB.out.size))
 clear hb HD HD2
 go_wp2_with fail
 refine (HDT.out ⟨#[97, 49]⟩ [⟨#[104, 101, 120]⟩, ⟨#[110, 97, 109, 101]⟩] (by decide) (by rw [show L (⟨#[97, 49]⟩ : ByteArray) = [97, 49] from rfl, det_a1]; rfl) _ (HE.out.below HB.out)).mono ?_
 rintro e wd ⟨v1, rfl, hr, hb⟩
 replace HX := Lib.hid (HX.out.below hb)
 replace HR := Lib.hid (HR.out.stay hb)
 replace HB := Lib.hid (HB.out.trans (hb.mono HB.out.size))
 obtain ⟨da, dcap, rfl, -⟩ := hr.form
 have HD := Lib.hid hr
 clear hr hb
 go_wp2_with fail
 generalize hW : World.alloc wd _ = wf
 obtain ⟨hbx, -, hz1, hb⟩ := alloc_of hW
 have HD2 := Lib.hid (show RdT wf (.slice (some ⟨wd.heap.size, 0, none⟩) 2 2) [⟨#[104, 101, 120]⟩, ⟨#[110, 97, 109, 101]⟩] from slx_block (l := [⟨#[104, 101, 120]⟩, ⟨#[110, 97, 109, 101]⟩]) strV_len hbx (show (2 : Nat) ≤ maxLen by decide))
 replace HD := Lib.hid (HD.out.stay hb)
 replace HX := Lib.hid (HX.out.below hb)
 replace HR := Lib.hid (HR.out.stay hb)
 replace HB := Lib.hid (HB.out.trans (hb.mono HB.out.size))
 clear hW hbx hz1 hb
 refine (fSame_yes [⟨#[104, 101, 120]⟩, ⟨#[110, 97, 109, 101]⟩] _ _ wf HD.out HD2.out).mono ?_
 rintro e wx ⟨rfl, hb⟩
 replace HX := Lib.hid (HX.out.below hb)
 replace HR := Lib.hid (HR.out.stay hb)
 replace HB := Lib.hid (HB.out.trans (hb.mono HB.out.size))
 clear hb HD HD2
 go_wp2_with fail
 refine (HDT.out ⟨#[]⟩ [⟨#[98, 97, 115, 101, 54, 52]⟩] (by decide) (by rw [show L (⟨#[]⟩ : ByteArray) = [] from rfl, det_nil]; rfl) _ (HE.out.below HB.out)).mono ?_
 rintro e wd ⟨v1, rfl, hr, hb⟩
 replace HX := Lib.hid (HX.out.below hb)
 replace HR := Lib.hid (HR.out.stay hb)
 replace HB := Lib.hid (HB.out.trans (hb.mono HB.out.size))
 obtain ⟨da, dcap, rfl, -⟩ := hr.form
 have HD := Lib.hid hr
 clear hr hb
 go_wp2_with fail
 generalize hW : World.alloc wd _ = wf
 obtain ⟨hbx, -, hz1, hb⟩ := alloc_of hW
 have HD2 := Lib.hid (show RdT wf (.slice (some ⟨wd.heap.size, 0, none⟩) 1 1) [⟨#[98, 97, 115, 101, 54, 52]⟩] from slx_block (l := [⟨#[98, 97, 115, 101, 54, 52]⟩]) strV_len hbx (show (1 : Nat) ≤ maxLen by decide))
 replace HD := Lib.hid (HD.out.stay hb)
 replace HX := Lib.hid (HX.out.below hb)
 replace HR := Lib.hid (HR.out.stay hb)
 replace HB := Lib.hid (HB.out.trans (hb.mono HB.out.size))
 clear hW hbx hz1 hb
 refine (fSame_yes [⟨#[98, 97, 115, 101, 54, 52]⟩] _ _ wf HD.out HD2.out).mono ?_
 rintro e wx ⟨rfl, hb⟩
 replace HX := Lib.hid (HX.out.below hb)
 replace HR := Lib.hid (HR.out.stay hb)
 replace HB := Lib.hid (HB.out.trans (hb.mono HB.out.size))
 clear hb HD HD2
 have x0 := HX.out.cell 0
 simp only [List.getElem?_cons_zero] at x0
 go_wp2_with fail
 refine (HAC.out ⟨#[195, 169]⟩ true (by decide) one_acc.1 _ _ _ HR.out).mono ?_
 rintro e wx ⟨rfl, hb⟩
 replace HX := Lib.hid (HX.out.below hb)
 replace HR := Lib.hid (HR.out.stay hb)
 replace HB := Lib.hid (HB.out.trans (hb.mono HB.out.size))
 clear hb x0
 have x0 := HX.out.cell 0
 simp only [List.getElem?_cons_zero] at x0
 go_wp2_with fail
 refine (HAC.out ⟨#[97, 98]⟩ false (by decide) one_acc.2 _ _ _ HR.out).mono ?_
 rintro e wx ⟨rfl, hb⟩
 replace HX := Lib.hid (HX.out.below hb)
 replace HR := Lib.hid (HR.out.stay hb)
 replace HB := Lib.hid (HB.out.trans (hb.mono HB.out.size))
 clear hb x0
 have x0 := HX.out.cell 0
 simp only [List.getElem?_cons_zero] at x0
 go_wp2_with fail
 refine (HUT.out _).mono ?_
 rintro e wx ⟨v', rfl, hr, hb⟩
 obtain ⟨ua, ucap, rfl, -⟩ := hr.form
 replace HB := Lib.hid (HB.out.trans (hb.mono HB.out.size))
 rw [utf_least.2.2]
 have hfld : ∀ w', (Instr.field 29 (.agg #[.slice ua 9 ucap]) 0).run Tryz.prog w' = .ok (.slice ua 9 ucap) w' := fun w' => by kernel_rfl
 clear hr hb x0
 go_wp2_with fail
 go_ret
 exact ⟨rfl, HB.out⟩
end Go.Proofs.YtpkecepelcppiaaGreatDoor

namespace Go.Proofs.YtpkecepelcppiaaGreatDoor
open Go.RowKit Go.Shelf
set_option maxHeartbeats 8000000
set_option maxRecDepth 100000

theorem RLeast_any (f : Nat) (m out : List StA) (hv : valA m = true) (hn : m.length < 1000) (hf : leastA f m = some out) (hff : f ≤ 1000) (N : Nat → Prop) (v : Value) (w : World) (hm : RdS N w v m) :
  Calls Tryz.prog 64 #[.agg #[v]] w fun e w' => ∃ v', e = .returned (.agg #[v']) ∧ RdS (fun g => w.heap.size ≤ g) w' v' out ∧ Below w.heap.size w w' := by
 have HV := Lib.hid (fun w' (h : Below w.heap.size w w') => RMValid_yes N m v w' (hm.stay h) hv)
 have HL := Lib.hid (fun w' (h : Below w.heap.size w w') => rleast_any N f m out v w' (hm.stay h) hv hn hf hff)
 obtain ⟨a, cap, rfl, -⟩ := hm.form
 clear hv hn hf hff hm
 go_enter Tryz.func64, Tryz.ntmps64
 go_upto_region 1 with fail
 generalize hW : World.alloc w _ = w1
 obtain ⟨hbx, -, hz1, hb1⟩ := alloc_of hW
 generalize hW2 : World.alloc w1 _ = w2
 obtain ⟨hbx2, -, hz2, hb2⟩ := alloc_of hW2
 rw [hz1] at hbx2
 have HX := Lib.hid (show BoxV w.heap.size 29 [.slice a m.length cap] w2 from (hb2.block _ (by omega)).trans hbx)
 have HR := Lib.hid (show BoxV (w.heap.size + 1) 29 [.slice none 0 0] w2 from hbx2)
 have HB := Lib.hid (hb1.trans (hb2.mono hb1.size))
 clear hW hbx hz1 hb1 hW2 hbx2 hz2 hb2
 have x0 := HX.out.cell 0
 simp only [List.getElem?_cons_zero] at x0
 go_wp2_with fail
 refine (HV.out w2 HB.out).mono ?_
 rintro e w3 ⟨rfl, hb⟩
 replace HX := Lib.hid (HX.out.below hb)
 replace HR := Lib.hid (HR.out.below hb)
 replace HB := Lib.hid (HB.out.trans (hb.mono HB.out.size))
 clear hb x0
 have x0 := HX.out.cell 0
 simp only [List.getElem?_cons_zero] at x0
 go_wp2_with fail
 refine (HL.out w3 HB.out).mono ?_
 rintro e w9 ⟨v', rfl, hr, hb⟩
 obtain ⟨ra, rcap, rfl, -⟩ := hr.form
 have HRL := Lib.hid HR.out.lt
 replace HR := Lib.hid (HR.out.below hb)
 replace HB := Lib.hid (HB.out.trans (hb.mono HB.out.size))
 have HRS := Lib.hid (hr.mono (M := fun g => w.heap.size + 1 < g) (fun g h _ => Nat.lt_of_lt_of_le HRL.out h))
 have z0 := HR.out.cell 0
 have y0 := HR.out.free 0
 simp only [List.getElem?_cons_zero] at z0
 clear hr hb x0
 go_wp2_with fail
 refine bodyPost_ret (v := .agg #[.slice ra out.length rcap]) ?_ rfl ⟨_, rfl, ?_, HB.out.setCell (p := ⟨w.heap.size + 1, 0, none⟩) (by show w.heap.size ≤ w.heap.size + 1; omega) _⟩
 ·have hbx : BoxV (w.heap.size + 1) 29 [.slice ra out.length rcap] (w9.setCell ⟨w.heap.size + 1, 0, none⟩ (.slice ra out.length rcap)) := heap_setCell_same w9 (w.heap.size + 1) 0 _ _ _ HR.out
  have q0 := hbx.cell 0
  simp only [List.getElem?_cons_zero] at q0
  simp [results, Tryz.results64, go_sem, q0]
 ·exact (HRS.out.keep (fun g hg _ => Below.heap_setCell w9 ⟨w.heap.size + 1, 0, none⟩ _ g (by show g ≠ w.heap.size + 1; omega))).mono (fun g hg _ => by omega)
structure MR (w wr : World) (sv : Value) (ps : List (Bool × Value)) (ml : List StA) : Prop where
 bel : Below w.heap.size w wr
 r : BoxV w.heap.size 29 [.slice none 0 0] wr
 b : BoxV (w.heap.size + 1) 29 [sv] wr
 st : OwnS (w.heap.size + 2) wr sv ps ml
theorem MR.stay {w wr wx : World} {sv : Value} {ps : List (Bool × Value)} {ml : List StA} (h : MR w wr sv ps ml) (hb : Below wr.heap.size wr wx) : MR w wx sv ps ml :=
 ⟨h.bel.trans (hb.mono h.bel.size), h.r.below hb, h.b.below hb, h.st.stay hb⟩
theorem MR.push {w wr w7 : World} {sv v' : Value} {ps : List (Bool × Value)} {ml : List StA} {acc : Bool} {av : Value} {arcs : List ArcA} (h : MR w wr sv ps ml) (hown : OwnL (w.heap.size + 2) 70 2 stV w7 v' (ps ++ [(acc, av)])) (hg : wr.grownBy w7 sv.ownBlock)
  (hat : v'.ownBlock = sv.ownBlock ∨ ∃ k, wr.heap.size ≤ k ∧ v'.ownBlock = some k) (ha : RdA (fun g => w.heap.size + 2 ≤ g ∧ sv.ownBlock ≠ some g) wr av arcs) : MR w (w7.setCell ⟨w.heap.size + 1, 0, none⟩ v') v' (ps ++ [(acc, av)]) (ml ++ [⟨acc, arcs⟩]) := by
 have hgb := grown_belowL hg (fun x hx => (h.st.own.lt x hx).1) (by have := h.b.lt; omega)
 have hot : ∀ y, y ≠ w.heap.size + 1 → (w7.setCell ⟨w.heap.size + 1, 0, none⟩ v').heap[y]? = w7.heap[y]? := fun y hy => Below.heap_setCell w7 ⟨w.heap.size + 1, 0, none⟩ _ y hy
 refine ⟨(h.bel.trans (hgb.mono (by omega))).setCell (p := ⟨w.heap.size + 1, 0, none⟩) (by show _ ≤ w.heap.size + 1; omega) _, h.r.keep ((hot _ (by omega)).trans (hgb.block _ (by omega))), ?_, (h.st.push hown hg hat ha).keep (fun g hb _ => hot g (by omega))⟩
 exact heap_setCell_same w7 (w.heap.size + 1) 0 _ _ v' ((hgb.block _ (by omega)).trans h.b)
theorem counter_any (most lo : Nat) (hi : Int) (out : List StA) (w : World) (hm : most ≤ 101) (hout : leastA 1000 (refM most lo hi) = some out) :
  Calls Tryz.prog 39 #[.int .i64 (most : Int), .int .i64 (lo : Int), .int .i64 hi] w fun e w' => ∃ v', e = .returned (.agg #[v']) ∧ RdS (fun g => w.heap.size ≤ g) w' v' out ∧ Below w.heap.size w w' := by
 have hmi : (most : Int) ≤ 101 := by omega
 have HLE := Lib.hid (fun (N : Nat → Prop) v w' (hr : RdS N w' v (refM most lo hi)) => RLeast_any 1000 _ out (refM_val hm) (by rw [refM_len]; omega) hout (Nat.le_refl _) N v w' hr)
 have HM := Lib.hid hm
 clear hm hout
 go_enter Tryz.func39, Tryz.ntmps39
 go_upto_region 2 with fail
 generalize hW : World.alloc w _ = w1
 obtain ⟨hbx, -, hz1, hb1⟩ := alloc_of hW
 generalize hW2 : World.alloc w1 _ = w2
 obtain ⟨hbx2, -, hz2, hb2⟩ := alloc_of hW2
 rw [hz1] at hbx2
 have HMR := Lib.hid (show MR w w2 (.slice none 0 0) [] (preF most lo hi 0 0) from ⟨hb1.trans (hb2.mono hb1.size), (hb2.block _ (by omega)).trans hbx, hbx2, OwnS.nil _ _⟩)
 clear hW hbx hz1 hb1 hW2 hbx2 hz2 hb2
 go_wp2_with fail
 go_loopw [8] (fun nv wr => ∃ (n : Nat) (A : Option Addr) (cap : Nat) (ps : List (Bool × Value)), nv = .int .i64 (n : Int) ∧ n ≤ most + 1 ∧ Hid (MR w wr (.slice A (n * 9) cap) ps (preF most lo hi n 0))) (fun nv _ => most + 1 - (intOf nv).toNat)
 case atStart => exact ⟨0, none, 0, [], rfl, Nat.zero_le _, by rw [Nat.zero_mul]; exact HMR.out⟩
 case round =>
  clear HMR
  obtain ⟨n, A, cap, ps, rfl, hn, HMR⟩ := hrel
  by_cases hlt : n ≤ most
  case neg =>
   have hge : ¬ (n : Int) ≤ most := by omega
   have hne : n = most + 1 := by omega
   rw [hne, preF_end] at HMR
   have x0 := HMR.out.b.cell 0
   simp only [List.getElem?_cons_zero] at x0
   have HB := Lib.hid HMR.out.bel
   clear hlt hne
   go_wp2_with fail
   refine (HLE.out _ _ wr HMR.out.st.rds).mono ?_
   rintro e w3 ⟨v', rfl, hr, hb⟩
   obtain ⟨ra, rcap, rfl, -⟩ := hr.form
   have HXL := Lib.hid HMR.out.r.lt
   have HX := Lib.hid (HMR.out.r.below hb)
   replace HB := Lib.hid (HB.out.trans (hb.mono HB.out.size))
   have HR := Lib.hid (hr.mono (M := fun g => w.heap.size < g) (fun g h _ => Nat.lt_of_lt_of_le HXL.out h))
   have z0 := HX.out.cell 0
   have y0 := HX.out.free 0
   simp only [List.getElem?_cons_zero] at z0
   clear hr hb x0
   go_wp2_with fail
   refine bodyPost_ret (v := .agg #[.slice ra out.length rcap]) ?_ rfl ⟨_, rfl, ?_, HB.out.setCell (p := ⟨w.heap.size, 0, none⟩) (Nat.le_refl _) _⟩
   ·have hbx : BoxV w.heap.size 29 [.slice ra out.length rcap] (w3.setCell ⟨w.heap.size, 0, none⟩ (.slice ra out.length rcap)) := heap_setCell_same w3 w.heap.size 0 _ _ _ HX.out
    have q0 := hbx.cell 0
    simp only [List.getElem?_cons_zero] at q0
    simp [results, Tryz.results39, go_sem, q0]
   ·exact (HR.out.keep (fun g hg _ => Below.heap_setCell w3 ⟨w.heap.size, 0, none⟩ _ g (by show g ≠ w.heap.size; omega))).mono (fun g hg _ => Nat.le_of_lt hg)
  case pos =>
   have hlti : (n : Int) ≤ most := by omega
   have HN := Lib.hid hlt
   have HMR0 : Hid (MR w wr (.slice A (n * 9 + 0) cap) ps (preF most lo hi n 0)) := HMR.out
   clear hlt HMR
   go_wp2_with fail
   go_loopw [9] (fun kv wr => ∃ (k : Nat) (A : Option Addr) (cap : Nat) (ps : List (Bool × Value)), kv = .int .i64 (k : Int) ∧ k ≤ 9 ∧ Hid (MR w wr (.slice A (n * 9 + k) cap) ps (preF most lo hi n k))) (fun kv _ => 9 - (intOf kv).toNat)
   case atStart => exact ⟨0, A, cap, ps, rfl, Nat.zero_le _, HMR0.out⟩
   case round =>
    clear HMR0
    obtain ⟨k, A, cap, ps, rfl, hk, HMR⟩ := hrel
    by_cases hkt : k < 9
    case neg =>
     have hge : ¬ (k : Int) < 9 := by omega
     have hke : k = 9 := by omega
     have HMN : Hid (MR w wr (.slice A ((n + 1) * 9) cap) ps (preF most lo hi (n + 1) 0)) := by
      have h := HMR.out
      rw [hke, preF_n, show n * 9 + 9 = (n + 1) * 9 by omega] at h
      exact h
     clear hkt hke
     go_wp2_with fail
     exact ⟨⟨n + 1, A, cap, ps, by simp, by have := HN.out; omega, HMN.out⟩, by have := HN.out; simp [intOf]; omega⟩
    case pos =>
     have hkti : (k : Int) < 9 := by omega
     have HK : Hid (k + 1 ≤ 9) := hkt
     have HTO := Lib.hid (fun (b : Nat) w' => to_any k b (by omega) w')
     have HT8 := Lib.hid (fun (b : Nat) => toS_le k b)
     obtain ⟨wB, hwB⟩ : ∃ x, x = wr := ⟨_, rfl⟩
     subst hwB
     clear hkt
     go_wp2_with fail
     go_loopw [10, 11] (fun lv bv wr => ∃ (b : Nat) (A2 : Option Addr) (c2 : Nat), lv = .slice A2 (foldF (qC most n k) b).length c2 ∧ bv = .int .i64 (b : Int) ∧ b ≤ 256 ∧ Hid (OwnL wB.heap.size 72 3 arcV wr (.slice A2 (foldF (qC most n k) b).length c2) (foldF (qC most n k) b)) ∧ Hid (Below wB.heap.size wB wr)) (fun _ bv _ => 256 - (intOf bv).toNat)
     case atStart => exact ⟨0, none, 0, rfl, rfl, Nat.zero_le _, OwnL.nil _ _ _ _ _, Below.refl _ _⟩
     case round =>
      obtain ⟨b, A2, c2, rfl, rfl, hb, HO, HB⟩ := hrel
      have HFL := Lib.hid (foldF_len (qC most n k) b)
      have hfl : ((foldF (qC most n k) b).length : Int) ≤ 256 := by have := HFL.out; omega
      by_cases hbt : b < 256
      case neg =>
       have hge : ¬ (b : Int) < 256 := by omega
       have hbe : b = 256 := by omega
       subst hbe
       have HMW := Lib.hid (HMR.out.stay HB.out)
       have HPS : Hid (ps.length = n * 9 + k) := by have h1 := HMR.out.st.len; rw [preF_len] at h1; exact h1
       have HNN := Lib.hid HN.out
       have hps : (ps.length : Int) ≤ 1000 := by have h1 := HPS.out; have h2 := HNN.out; have h3 := HM.out; have h4 := HK.out; omega
       have HACC := Lib.hid (show stR most lo hi n k = ⟨okCnt lo hi n k, foldF (qC most n k) 256⟩ from rfl)
       have HAR : Hid (RdA (fun g => w.heap.size + 2 ≤ g ∧ (Value.slice A (n * 9 + k) cap).ownBlock ≠ some g) wr (.slice A2 (foldF (qC most n k) 256).length c2) (foldF (qC most n k) 256)) := by
        have h1 : RdA (fun g => wB.heap.size ≤ g) wr (.slice A2 (foldF (qC most n k) 256).length c2) (foldF (qC most n k) 256) := HO.out.arcs (fun g h1 _ => h1)
        refine h1.mono (fun g h2 _ => ⟨?_, fun e => ?_⟩)
        ·have := HMR.out.b.lt
         have h3 : wB.heap.size ≤ g := h2
         omega
        ·have := (HMR.out.st.own.lt g e).2
         have h3 : wB.heap.size ≤ g := h2
         omega
       have x0 := HMW.out.b.cell 0
       simp only [List.getElem?_cons_zero] at x0
       generalize foldF (qC most n k) 256 = fl at *
       obtain ⟨acc, hacc⟩ : ∃ x, x = okCnt lo hi n k := ⟨_, rfl⟩
       rw [← hacc] at HACC
       have HAE := Lib.hid hacc
       have HBZ : Hid (w.heap.size + 2 ≤ wr.heap.size) := HMW.out.b.lt
       have HPW := Lib.hid HPS.out
       have HFIN : Hid (∀ (av : Bool) (v3 : Value) w7, av = acc → OwnL (w.heap.size + 2) 70 2 stV w7 v3 (ps ++ [(av, .slice A2 fl.length c2)]) → wr.grownBy w7 (Value.slice A (n * 9 + k) cap).ownBlock → (v3.ownBlock = (Value.slice A (n * 9 + k) cap).ownBlock ∨ ∃ j, wr.heap.size ≤ j ∧ v3.ownBlock = some j) → MR w (w7.setCell ⟨w.heap.size + 1, 0, none⟩ v3) v3 (ps ++ [(av, .slice A2 fl.length c2)]) (preF most lo hi n (k + 1))) := fun av v3 w7 e h1 h2 h3 => by
        rw [preF_k, HACC.out, ← e]
        exact HMW.out.push h1 h2 h3 HAR.out
       clear hbt hacc HO
       by_cases hk0 : k = 0
       ·have tk : ((k : Int) == 0) = true := by rw [hk0]; rfl
        by_cases hlo : lo ≤ n
        ·have hloi : (lo : Int) ≤ (n : Int) := by omega
         by_cases hh : hi = -1
         ·have th : (hi == -1) = true := by rw [hh]; rfl
          have hA : Hid (true = acc) := by unfold Hid; rw [HAE.out]; unfold okCnt; rw [decide_eq_true hk0, decide_eq_true hlo, decide_eq_true hh]; rfl
          clear hk0 hlo hh
          go_wp2_with (at_builtin; refine wpl_pushL (f := stV) (x := (true, .slice A2 fl.length c2)) (v := .slice A (n * 9 + k) cap) (l := ps) (B := w.heap.size + 2) (e := 70) (sz := 2) _ _ rfl rfl elemS stV_len (by decide) (stV_one _ _ _ _) HMW.out.st.own rfl rfl rfl (by omega) HBZ.out ?_; intro v3 w7 hown3 hg3 hfm3 hat3; obtain ⟨A3, cap3, rfl⟩ := hfm3; have HMN := Lib.hid (HFIN.out _ _ _ hA.out hown3 hg3 hat3); have hbo : BoxV (w.heap.size + 1) 29 [.slice A (n * 9 + k) cap] w7 := HMW.out.b.keep ((grown_belowL hg3 (fun y hy => (HMW.out.st.own.lt y hy).1) HBZ.out).block _ (by omega)); have f3 := hbo.free 0; have o3 := hbo.cell 0; simp only [List.getElem?_cons_zero] at o3; clear hown3 hg3 hat3 hbo x0)
          have HE9 : Hid (Value.slice A3 (ps.length + 1) cap3 = Value.slice A3 (n * 9 + (k + 1)) cap3) := by unfold Hid; rw [HPW.out]; rfl
          have HMN2 := HMN.out
          rw [HE9.out] at HMN2
          have HMN3 := Lib.hid HMN2
          clear HMN2
          rw [HE9.out]
          exact ⟨⟨k + 1, A3, cap3, _, by simp, HK.out, HMN3.out⟩, by have := HK.out; simp [intOf]; omega⟩
         ·have th : (hi == -1) = false := beq_false_of_ne hh
          by_cases hnh : (n : Int) ≤ hi
          ·have hA : Hid (true = acc) := by unfold Hid; rw [HAE.out]; unfold okCnt; rw [decide_eq_true hk0, decide_eq_true hlo, decide_eq_true hnh, Bool.or_true]; rfl
           clear hk0 hlo hh
           go_wp2_with (at_builtin; refine wpl_pushL (f := stV) (x := (true, .slice A2 fl.length c2)) (v := .slice A (n * 9 + k) cap) (l := ps) (B := w.heap.size + 2) (e := 70) (sz := 2) _ _ rfl rfl elemS stV_len (by decide) (stV_one _ _ _ _) HMW.out.st.own rfl rfl rfl (by omega) HBZ.out ?_; intro v3 w7 hown3 hg3 hfm3 hat3; obtain ⟨A3, cap3, rfl⟩ := hfm3; have HMN := Lib.hid (HFIN.out _ _ _ hA.out hown3 hg3 hat3); have hbo : BoxV (w.heap.size + 1) 29 [.slice A (n * 9 + k) cap] w7 := HMW.out.b.keep ((grown_belowL hg3 (fun y hy => (HMW.out.st.own.lt y hy).1) HBZ.out).block _ (by omega)); have f3 := hbo.free 0; have o3 := hbo.cell 0; simp only [List.getElem?_cons_zero] at o3; clear hown3 hg3 hat3 hbo x0)
           have HE9 : Hid (Value.slice A3 (ps.length + 1) cap3 = Value.slice A3 (n * 9 + (k + 1)) cap3) := by unfold Hid; rw [HPW.out]; rfl
           have HMN2 := HMN.out
           rw [HE9.out] at HMN2
           have HMN3 := Lib.hid HMN2
           clear HMN2
           rw [HE9.out]
           exact ⟨⟨k + 1, A3, cap3, _, by simp, HK.out, HMN3.out⟩, by have := HK.out; simp [intOf]; omega⟩
          ·have hA : Hid (false = acc) := by unfold Hid; rw [HAE.out]; unfold okCnt; rw [decide_eq_false hnh, decide_eq_false hh, Bool.or_false, Bool.and_false]
           have hnf : ((n : Int) ≤ hi) = False := eq_false hnh
           clear hk0 hlo hh hnh
           go_wp2_with (at_builtin; refine wpl_pushL (f := stV) (x := (false, .slice A2 fl.length c2)) (v := .slice A (n * 9 + k) cap) (l := ps) (B := w.heap.size + 2) (e := 70) (sz := 2) _ _ rfl rfl elemS stV_len (by decide) (stV_one _ _ _ _) HMW.out.st.own rfl rfl rfl (by omega) HBZ.out ?_; intro v3 w7 hown3 hg3 hfm3 hat3; obtain ⟨A3, cap3, rfl⟩ := hfm3; have HMN := Lib.hid (HFIN.out _ _ _ hA.out hown3 hg3 hat3); have hbo : BoxV (w.heap.size + 1) 29 [.slice A (n * 9 + k) cap] w7 := HMW.out.b.keep ((grown_belowL hg3 (fun y hy => (HMW.out.st.own.lt y hy).1) HBZ.out).block _ (by omega)); have f3 := hbo.free 0; have o3 := hbo.cell 0; simp only [List.getElem?_cons_zero] at o3; clear hown3 hg3 hat3 hbo x0)
           have HE9 : Hid (Value.slice A3 (ps.length + 1) cap3 = Value.slice A3 (n * 9 + (k + 1)) cap3) := by unfold Hid; rw [HPW.out]; rfl
           have HMN2 := HMN.out
           rw [HE9.out] at HMN2
           have HMN3 := Lib.hid HMN2
           clear HMN2
           rw [HE9.out]
           exact ⟨⟨k + 1, A3, cap3, _, by simp, HK.out, HMN3.out⟩, by have := HK.out; simp [intOf]; omega⟩
        ·have hloi : ((lo : Int) ≤ (n : Int)) = False := eq_false (by omega)
         have hA : Hid (false = acc) := by unfold Hid; rw [HAE.out]; unfold okCnt; rw [decide_eq_false hlo, Bool.and_false, Bool.false_and]
         clear hk0 hlo
         go_wp2_with (at_builtin; refine wpl_pushL (f := stV) (x := (false, .slice A2 fl.length c2)) (v := .slice A (n * 9 + k) cap) (l := ps) (B := w.heap.size + 2) (e := 70) (sz := 2) _ _ rfl rfl elemS stV_len (by decide) (stV_one _ _ _ _) HMW.out.st.own rfl rfl rfl (by omega) HBZ.out ?_; intro v3 w7 hown3 hg3 hfm3 hat3; obtain ⟨A3, cap3, rfl⟩ := hfm3; have HMN := Lib.hid (HFIN.out _ _ _ hA.out hown3 hg3 hat3); have hbo : BoxV (w.heap.size + 1) 29 [.slice A (n * 9 + k) cap] w7 := HMW.out.b.keep ((grown_belowL hg3 (fun y hy => (HMW.out.st.own.lt y hy).1) HBZ.out).block _ (by omega)); have f3 := hbo.free 0; have o3 := hbo.cell 0; simp only [List.getElem?_cons_zero] at o3; clear hown3 hg3 hat3 hbo x0)
         have HE9 : Hid (Value.slice A3 (ps.length + 1) cap3 = Value.slice A3 (n * 9 + (k + 1)) cap3) := by unfold Hid; rw [HPW.out]; rfl
         have HMN2 := HMN.out
         rw [HE9.out] at HMN2
         have HMN3 := Lib.hid HMN2
         clear HMN2
         rw [HE9.out]
         exact ⟨⟨k + 1, A3, cap3, _, by simp, HK.out, HMN3.out⟩, by have := HK.out; simp [intOf]; omega⟩
       ·have tk : ((k : Int) == 0) = false := beq_false_of_ne (by omega)
        have hA : Hid (false = acc) := by unfold Hid; rw [HAE.out]; unfold okCnt; rw [decide_eq_false hk0, Bool.false_and, Bool.false_and]
        clear hk0
        go_wp2_with (at_builtin; refine wpl_pushL (f := stV) (x := (false, .slice A2 fl.length c2)) (v := .slice A (n * 9 + k) cap) (l := ps) (B := w.heap.size + 2) (e := 70) (sz := 2) _ _ rfl rfl elemS stV_len (by decide) (stV_one _ _ _ _) HMW.out.st.own rfl rfl rfl (by omega) HBZ.out ?_; intro v3 w7 hown3 hg3 hfm3 hat3; obtain ⟨A3, cap3, rfl⟩ := hfm3; have HMN := Lib.hid (HFIN.out _ _ _ hA.out hown3 hg3 hat3); have hbo : BoxV (w.heap.size + 1) 29 [.slice A (n * 9 + k) cap] w7 := HMW.out.b.keep ((grown_belowL hg3 (fun y hy => (HMW.out.st.own.lt y hy).1) HBZ.out).block _ (by omega)); have f3 := hbo.free 0; have o3 := hbo.cell 0; simp only [List.getElem?_cons_zero] at o3; clear hown3 hg3 hat3 hbo x0)
        have HE9 : Hid (Value.slice A3 (ps.length + 1) cap3 = Value.slice A3 (n * 9 + (k + 1)) cap3) := by unfold Hid; rw [HPW.out]; rfl
        have HMN2 := HMN.out
        rw [HE9.out] at HMN2
        have HMN3 := Lib.hid HMN2
        clear HMN2
        rw [HE9.out]
        exact ⟨⟨k + 1, A3, cap3, _, by simp, HK.out, HMN3.out⟩, by have := HK.out; simp [intOf]; omega⟩
      case pos =>
       have hbti : (b : Int) < 256 := by omega
       have HB1 : Hid (b + 1 ≤ 256) := hbt
       have HST : Hid (foldF (qC most n k) (b + 1) = addArcA (foldF (qC most n k) b) b b (qC most n k b)) := rfl
       have HBZ : Hid (wB.heap.size ≤ wr.heap.size) := HB.out.size
       have hQ : qC most n k b = 9 * (if toS k b = 0 ∧ n < most then n + 1 else n) + toS k b := rfl
       have ht8 := HT8.out b
       have HTB := Lib.hid (HTO.out b)
       generalize toS k b = t at *
       generalize foldF (qC most n k) b = fl at *
       obtain ⟨qv, hqv⟩ : ∃ q, q = qC most n k b := ⟨_, rfl⟩
       rw [← hqv] at HST hQ
       clear hbt hqv
       go_wp2_with fail
       refine (HTB.out wr).mono ?_
       rintro e wx ⟨rfl, hwx⟩
       subst hwx
       have hti : (t : Int) ≤ 8 := by omega
       by_cases hc : t = 0 ∧ n < most
       ·rw [if_pos hc] at hQ
        have tt : ((t : Int) == 0) = true := by rw [hc.1]; rfl
        have hnm : (n : Int) < most := by omega
        have hqi : (qv : Int) ≤ 2000 := by have := HM.out; omega
        have hq : 9 * ((n : Int) + 1) + (t : Int) = (qv : Int) := by omega
        clear hc hQ
        go_upto_region 17 with fail
        try rw [hq]
        clear hq hqi
        rcases List.eq_nil_or_concat fl with rfl | ⟨l', a, rfl⟩
        ·have HNX : Hid (foldF (qC most n k) (b + 1) = [] ++ [⟨b, b, qv⟩]) := HST.out
         go_wp2_with (at_builtin; refine wpl_pushL (f := arcV) (x := ⟨b, b, qv⟩) (v := .slice A2 (([] : List ArcA)).length c2) (l := []) (B := wB.heap.size) (e := 72) (sz := 3) _ _ rfl rfl elemA arcV_len (by decide) (arcV_one _) HO.out rfl rfl rfl (by simp) HBZ.out ?_; intro v3 w7 hown3 hg3 hfm3 hat3; obtain ⟨A3, cap3, rfl⟩ := hfm3; have HON := Lib.hid hown3; have HB7 := Lib.hid (HB.out.trans (grown_belowL hg3 (fun y hy => (HO.out.lt y hy).1) HBZ.out)); clear hown3 hg3 hat3)
         exact ⟨⟨b + 1, A3, cap3, by rw [HNX.out]; rfl, by simp, HB1.out, by rw [HNX.out]; exact HON.out, HB7.out⟩, by have := HB1.out; simp [intOf]; omega⟩
        ·rw [List.concat_eq_append] at *
         have hL := addArcA_last l' a b b qv
         have hv := HO.out
         obtain ⟨g, cap2, hg, -, hgl⟩ := (hv.slx arcV_len).2 (by simp)
         obtain ⟨a1, cap3, he, -, -, -, h3⟩ := (hv.slx arcV_len).1
         rw [hg] at he
         cases he
         obtain ⟨g2, o2, he2, -, h4⟩ := h3 (by simp)
         cases he2
         have h5 := h4 l'.length (by simp)
         rw [cellsAt_eq arcV _ _ (by simp), List.getElem_concat_length rfl] at h5
         have q2 : wr.cell? ⟨g, l'.length * 3 + 2, none⟩ = some (.int .i64 (a.nx : Int)) := by have := h5 2 (by omega); rw [Nat.zero_add] at this; exact this
         have q1 : wr.cell? ⟨g, l'.length * 3 + 1, none⟩ = some (.int .i64 (a.hi : Int)) := by have := h5 1 (by omega); rw [Nat.zero_add] at this; exact this
         have qf : wr.frozen? ⟨g, l'.length * 3 + 1, none⟩ = false := by
          rcases hv.2 with ⟨hz, -⟩ | ⟨g3, cap4, cur, hz, -, hh2, -⟩
          ·rw [hg] at hz; cases hz
          ·rw [hg] at hz
           cases hz
           exact Lib.frozen_of_heap hh2 _
         obtain ⟨rfl, hcp⟩ : A2 = some ⟨g, 0, none⟩ ∧ c2 = cap2 := by injection hg with e1 e2 e3; exact ⟨e1, e3⟩
         have HGL : Hid (wB.heap.size ≤ g) := by
          rcases hv.2 with ⟨hz, -⟩ | ⟨g3, cap4, cur, hz, hbb, -⟩
          ·rw [hg] at hz; cases hz
          ·rw [hg] at hz
           cases hz
           exact hbb
         clear h3 h4 h5 hgl hg hv hcp
         rw [List.length_append, List.length_singleton] at hfl
         have hp : (l'.length : Int) ≤ 255 := by omega
         by_cases hx : a.nx = qv
         ·have HNX : Hid (foldF (qC most n k) (b + 1) = l' ++ [⟨a.lo, b, a.nx⟩]) := by unfold Hid; rw [HST.out, hL, if_pos hx]
          have HSET := Lib.hid (HO.out.setArc l'.length (by simp) b)
          rw [List.getElem_concat_length rfl, List.set_append_right _ _ (Nat.le_refl _), Nat.sub_self] at HSET
          have hxi : ((a.nx : Int) == (qv : Int)) = true := by rw [hx]; exact beq_self_eq_true _
          rw [List.length_append, List.length_singleton] at *
          clear hL hx
          go_wp2_with fail
          exact ⟨⟨b + 1, some ⟨g, 0, none⟩, c2, by rw [HNX.out, List.length_append]; rfl, by simp, HB1.out, by rw [HNX.out, List.length_append]; exact HSET.out, HB.out.setCell (p := ⟨g, l'.length * 3 + 1, none⟩) HGL.out _⟩, by have := HB1.out; simp [intOf]; omega⟩
         ·have HNX : Hid (foldF (qC most n k) (b + 1) = (l' ++ [a]) ++ [⟨b, b, qv⟩]) := by unfold Hid; rw [HST.out, hL, if_neg hx]
          have hxi : ((a.nx : Int) == (qv : Int)) = false := beq_false_of_ne (by omega)
          replace HO : Hid (OwnL wB.heap.size 72 3 arcV wr (.slice (some ⟨g, 0, none⟩) (l'.length + 1) c2) (l' ++ [a])) := by
           have h9 := HO.out
           rw [List.length_append, List.length_singleton] at h9
           exact h9
          rw [List.length_append, List.length_singleton]
          clear hL hx qf q1
          go_wp2_with (at_builtin; refine wpl_pushL (f := arcV) (x := ⟨b, b, qv⟩) (v := .slice (some ⟨g, 0, none⟩) (l'.length + 1) c2) (l := l' ++ [a]) (B := wB.heap.size) (e := 72) (sz := 3) _ _ rfl rfl elemA arcV_len (by decide) (arcV_one _) HO.out rfl rfl rfl (by simp; omega) HBZ.out ?_; intro v3 w7 hown3 hg3 hfm3 hat3; obtain ⟨A3, cap3, rfl⟩ := hfm3; have HON := Lib.hid hown3; have HB7 := Lib.hid (HB.out.trans (grown_belowL hg3 (fun y hy => (HO.out.lt y hy).1) HBZ.out)); clear hown3 hg3 hat3)
          exact ⟨⟨b + 1, A3, cap3, by first | (rw [HNX.out]; done) | (rw [HNX.out]; rfl) | (rw [HNX.out]; simp), by simp, HB1.out, by rw [HNX.out]; first | exact HON.out | (simp only [List.length_append, List.length_singleton] at HON ⊢; exact HON.out), HB7.out⟩, by have := HB1.out; simp [intOf]; omega⟩
       ·rw [if_neg hc] at hQ
        have hqi : (qv : Int) ≤ 2000 := by have := HM.out; have := HN.out; omega
        have hq : 9 * (n : Int) + (t : Int) = (qv : Int) := by omega
        by_cases h0 : t = 0
        ·have tt : ((t : Int) == 0) = true := by rw [h0]; rfl
         have hnm : ((n : Int) < most) = False := eq_false (by omega)
         clear hc hQ h0
         go_upto_region 17 with fail
         try rw [hq]
         clear hq hqi
         rcases List.eq_nil_or_concat fl with rfl | ⟨l', a, rfl⟩
         ·have HNX : Hid (foldF (qC most n k) (b + 1) = [] ++ [⟨b, b, qv⟩]) := HST.out
          go_wp2_with (at_builtin; refine wpl_pushL (f := arcV) (x := ⟨b, b, qv⟩) (v := .slice A2 (([] : List ArcA)).length c2) (l := []) (B := wB.heap.size) (e := 72) (sz := 3) _ _ rfl rfl elemA arcV_len (by decide) (arcV_one _) HO.out rfl rfl rfl (by simp) HBZ.out ?_; intro v3 w7 hown3 hg3 hfm3 hat3; obtain ⟨A3, cap3, rfl⟩ := hfm3; have HON := Lib.hid hown3; have HB7 := Lib.hid (HB.out.trans (grown_belowL hg3 (fun y hy => (HO.out.lt y hy).1) HBZ.out)); clear hown3 hg3 hat3)
          exact ⟨⟨b + 1, A3, cap3, by rw [HNX.out]; rfl, by simp, HB1.out, by rw [HNX.out]; exact HON.out, HB7.out⟩, by have := HB1.out; simp [intOf]; omega⟩
         ·rw [List.concat_eq_append] at *
          have hL := addArcA_last l' a b b qv
          have hv := HO.out
          obtain ⟨g, cap2, hg, -, hgl⟩ := (hv.slx arcV_len).2 (by simp)
          obtain ⟨a1, cap3, he, -, -, -, h3⟩ := (hv.slx arcV_len).1
          rw [hg] at he
          cases he
          obtain ⟨g2, o2, he2, -, h4⟩ := h3 (by simp)
          cases he2
          have h5 := h4 l'.length (by simp)
          rw [cellsAt_eq arcV _ _ (by simp), List.getElem_concat_length rfl] at h5
          have q2 : wr.cell? ⟨g, l'.length * 3 + 2, none⟩ = some (.int .i64 (a.nx : Int)) := by have := h5 2 (by omega); rw [Nat.zero_add] at this; exact this
          have q1 : wr.cell? ⟨g, l'.length * 3 + 1, none⟩ = some (.int .i64 (a.hi : Int)) := by have := h5 1 (by omega); rw [Nat.zero_add] at this; exact this
          have qf : wr.frozen? ⟨g, l'.length * 3 + 1, none⟩ = false := by
           rcases hv.2 with ⟨hz, -⟩ | ⟨g3, cap4, cur, hz, -, hh2, -⟩
           ·rw [hg] at hz; cases hz
           ·rw [hg] at hz
            cases hz
            exact Lib.frozen_of_heap hh2 _
          obtain ⟨rfl, hcp⟩ : A2 = some ⟨g, 0, none⟩ ∧ c2 = cap2 := by injection hg with e1 e2 e3; exact ⟨e1, e3⟩
          have HGL : Hid (wB.heap.size ≤ g) := by
           rcases hv.2 with ⟨hz, -⟩ | ⟨g3, cap4, cur, hz, hbb, -⟩
           ·rw [hg] at hz; cases hz
           ·rw [hg] at hz
            cases hz
            exact hbb
          clear h3 h4 h5 hgl hg hv hcp
          rw [List.length_append, List.length_singleton] at hfl
          have hp : (l'.length : Int) ≤ 255 := by omega
          by_cases hx : a.nx = qv
          ·have HNX : Hid (foldF (qC most n k) (b + 1) = l' ++ [⟨a.lo, b, a.nx⟩]) := by unfold Hid; rw [HST.out, hL, if_pos hx]
           have HSET := Lib.hid (HO.out.setArc l'.length (by simp) b)
           rw [List.getElem_concat_length rfl, List.set_append_right _ _ (Nat.le_refl _), Nat.sub_self] at HSET
           have hxi : ((a.nx : Int) == (qv : Int)) = true := by rw [hx]; exact beq_self_eq_true _
           rw [List.length_append, List.length_singleton] at *
           clear hL hx
           go_wp2_with fail
           exact ⟨⟨b + 1, some ⟨g, 0, none⟩, c2, by rw [HNX.out, List.length_append]; rfl, by simp, HB1.out, by rw [HNX.out, List.length_append]; exact HSET.out, HB.out.setCell (p := ⟨g, l'.length * 3 + 1, none⟩) HGL.out _⟩, by have := HB1.out; simp [intOf]; omega⟩
          ·have HNX : Hid (foldF (qC most n k) (b + 1) = (l' ++ [a]) ++ [⟨b, b, qv⟩]) := by unfold Hid; rw [HST.out, hL, if_neg hx]
           have hxi : ((a.nx : Int) == (qv : Int)) = false := beq_false_of_ne (by omega)
           replace HO : Hid (OwnL wB.heap.size 72 3 arcV wr (.slice (some ⟨g, 0, none⟩) (l'.length + 1) c2) (l' ++ [a])) := by
            have h9 := HO.out
            rw [List.length_append, List.length_singleton] at h9
            exact h9
           rw [List.length_append, List.length_singleton]
           clear hL hx qf q1
           go_wp2_with (at_builtin; refine wpl_pushL (f := arcV) (x := ⟨b, b, qv⟩) (v := .slice (some ⟨g, 0, none⟩) (l'.length + 1) c2) (l := l' ++ [a]) (B := wB.heap.size) (e := 72) (sz := 3) _ _ rfl rfl elemA arcV_len (by decide) (arcV_one _) HO.out rfl rfl rfl (by simp; omega) HBZ.out ?_; intro v3 w7 hown3 hg3 hfm3 hat3; obtain ⟨A3, cap3, rfl⟩ := hfm3; have HON := Lib.hid hown3; have HB7 := Lib.hid (HB.out.trans (grown_belowL hg3 (fun y hy => (HO.out.lt y hy).1) HBZ.out)); clear hown3 hg3 hat3)
           exact ⟨⟨b + 1, A3, cap3, by first | (rw [HNX.out]; done) | (rw [HNX.out]; rfl) | (rw [HNX.out]; simp), by simp, HB1.out, by rw [HNX.out]; first | exact HON.out | (simp only [List.length_append, List.length_singleton] at HON ⊢; exact HON.out), HB7.out⟩, by have := HB1.out; simp [intOf]; omega⟩
        ·have tt : ((t : Int) == 0) = false := beq_false_of_ne (by omega)
         clear hc hQ h0
         go_upto_region 17 with fail
         try rw [hq]
         clear hq hqi
         rcases List.eq_nil_or_concat fl with rfl | ⟨l', a, rfl⟩
         ·have HNX : Hid (foldF (qC most n k) (b + 1) = [] ++ [⟨b, b, qv⟩]) := HST.out
          go_wp2_with (at_builtin; refine wpl_pushL (f := arcV) (x := ⟨b, b, qv⟩) (v := .slice A2 (([] : List ArcA)).length c2) (l := []) (B := wB.heap.size) (e := 72) (sz := 3) _ _ rfl rfl elemA arcV_len (by decide) (arcV_one _) HO.out rfl rfl rfl (by simp) HBZ.out ?_; intro v3 w7 hown3 hg3 hfm3 hat3; obtain ⟨A3, cap3, rfl⟩ := hfm3; have HON := Lib.hid hown3; have HB7 := Lib.hid (HB.out.trans (grown_belowL hg3 (fun y hy => (HO.out.lt y hy).1) HBZ.out)); clear hown3 hg3 hat3)
          exact ⟨⟨b + 1, A3, cap3, by rw [HNX.out]; rfl, by simp, HB1.out, by rw [HNX.out]; exact HON.out, HB7.out⟩, by have := HB1.out; simp [intOf]; omega⟩
         ·rw [List.concat_eq_append] at *
          have hL := addArcA_last l' a b b qv
          have hv := HO.out
          obtain ⟨g, cap2, hg, -, hgl⟩ := (hv.slx arcV_len).2 (by simp)
          obtain ⟨a1, cap3, he, -, -, -, h3⟩ := (hv.slx arcV_len).1
          rw [hg] at he
          cases he
          obtain ⟨g2, o2, he2, -, h4⟩ := h3 (by simp)
          cases he2
          have h5 := h4 l'.length (by simp)
          rw [cellsAt_eq arcV _ _ (by simp), List.getElem_concat_length rfl] at h5
          have q2 : wr.cell? ⟨g, l'.length * 3 + 2, none⟩ = some (.int .i64 (a.nx : Int)) := by have := h5 2 (by omega); rw [Nat.zero_add] at this; exact this
          have q1 : wr.cell? ⟨g, l'.length * 3 + 1, none⟩ = some (.int .i64 (a.hi : Int)) := by have := h5 1 (by omega); rw [Nat.zero_add] at this; exact this
          have qf : wr.frozen? ⟨g, l'.length * 3 + 1, none⟩ = false := by
           rcases hv.2 with ⟨hz, -⟩ | ⟨g3, cap4, cur, hz, -, hh2, -⟩
           ·rw [hg] at hz; cases hz
           ·rw [hg] at hz
            cases hz
            exact Lib.frozen_of_heap hh2 _
          obtain ⟨rfl, hcp⟩ : A2 = some ⟨g, 0, none⟩ ∧ c2 = cap2 := by injection hg with e1 e2 e3; exact ⟨e1, e3⟩
          have HGL : Hid (wB.heap.size ≤ g) := by
           rcases hv.2 with ⟨hz, -⟩ | ⟨g3, cap4, cur, hz, hbb, -⟩
           ·rw [hg] at hz; cases hz
           ·rw [hg] at hz
            cases hz
            exact hbb
          clear h3 h4 h5 hgl hg hv hcp
          rw [List.length_append, List.length_singleton] at hfl
          have hp : (l'.length : Int) ≤ 255 := by omega
          by_cases hx : a.nx = qv
          ·have HNX : Hid (foldF (qC most n k) (b + 1) = l' ++ [⟨a.lo, b, a.nx⟩]) := by unfold Hid; rw [HST.out, hL, if_pos hx]
           have HSET := Lib.hid (HO.out.setArc l'.length (by simp) b)
           rw [List.getElem_concat_length rfl, List.set_append_right _ _ (Nat.le_refl _), Nat.sub_self] at HSET
           have hxi : ((a.nx : Int) == (qv : Int)) = true := by rw [hx]; exact beq_self_eq_true _
           rw [List.length_append, List.length_singleton] at *
           clear hL hx
           go_wp2_with fail
           exact ⟨⟨b + 1, some ⟨g, 0, none⟩, c2, by rw [HNX.out, List.length_append]; rfl, by simp, HB1.out, by rw [HNX.out, List.length_append]; exact HSET.out, HB.out.setCell (p := ⟨g, l'.length * 3 + 1, none⟩) HGL.out _⟩, by have := HB1.out; simp [intOf]; omega⟩
          ·have HNX : Hid (foldF (qC most n k) (b + 1) = (l' ++ [a]) ++ [⟨b, b, qv⟩]) := by unfold Hid; rw [HST.out, hL, if_neg hx]
           have hxi : ((a.nx : Int) == (qv : Int)) = false := beq_false_of_ne (by omega)
           replace HO : Hid (OwnL wB.heap.size 72 3 arcV wr (.slice (some ⟨g, 0, none⟩) (l'.length + 1) c2) (l' ++ [a])) := by
            have h9 := HO.out
            rw [List.length_append, List.length_singleton] at h9
            exact h9
           rw [List.length_append, List.length_singleton]
           clear hL hx qf q1
           go_wp2_with (at_builtin; refine wpl_pushL (f := arcV) (x := ⟨b, b, qv⟩) (v := .slice (some ⟨g, 0, none⟩) (l'.length + 1) c2) (l := l' ++ [a]) (B := wB.heap.size) (e := 72) (sz := 3) _ _ rfl rfl elemA arcV_len (by decide) (arcV_one _) HO.out rfl rfl rfl (by simp; omega) HBZ.out ?_; intro v3 w7 hown3 hg3 hfm3 hat3; obtain ⟨A3, cap3, rfl⟩ := hfm3; have HON := Lib.hid hown3; have HB7 := Lib.hid (HB.out.trans (grown_belowL hg3 (fun y hy => (HO.out.lt y hy).1) HBZ.out)); clear hown3 hg3 hat3)
           exact ⟨⟨b + 1, A3, cap3, by first | (rw [HNX.out]; done) | (rw [HNX.out]; rfl) | (rw [HNX.out]; simp), by simp, HB1.out, by rw [HNX.out]; first | exact HON.out | (simp only [List.length_append, List.length_singleton] at HON ⊢; exact HON.out), HB7.out⟩, by have := HB1.out; simp [intOf]; omega⟩
end Go.Proofs.YtpkecepelcppiaaGreatDoor
