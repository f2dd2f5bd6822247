/- The law FormatsCounts walked. Conditions: what the listed variables read as. -/
import Derived.Test.YtpkecepelcppiaaDoorZc40
import Derived.Test.YtpkecepelcppiaaDoorZc22
import Derived.Deep.DeepCutAuto
import Derived.Test.YtpkecepelcppiaaDoorZc26
import Derived.Test.YtpkecepelcppiaaDoorZc24
import Derived.Lib.SmallJoins
namespace Go.Proofs.YtpkecepelcppiaaDoor
open Go.RowKit Go.Shelf
set_option maxHeartbeats 4000000
set_option maxRecDepth 100000

theorem src_small : srcF.all (fun l => decide (l.length ≤ 1000)) = true := by decide +kernel
theorem srcB_L (n : Nat) : L (srcB n) = (srcF[n]?).getD [] := L_mk _
theorem srcB_size (n : Nat) : (srcB n).size ≤ 100000000 := by
 rw [← L_len, srcB_L]
 cases h : srcF[n]? with
 | none => show (0 : Nat) ≤ _; omega
 | some l =>
  have := of_decide_eq_true (List.all_eq_true.1 src_small l (List.mem_of_getElem? h))
  show l.length ≤ _
  omega
def GotQ (O : Option RX) (w : World) (e : Ending) (w' : World) : Prop :=
 ∃ c, e = .returned (.tuple #[aggP c, .int .i64 (gotE O)]) ∧ RdQ (fun g => w.heap.size ≤ g) w' c (gotP O) ∧ Below w.heap.size w w'
theorem gotQ_main (s : ByteArray) (w : World) (hs : s.size ≤ 100000000) (he : Env w) : Calls Tryd.prog 28 #[.string s] w (GotQ (parseR (L s)) w) := by
 refine (Parse_any s w hs he).mono ?_
 rintro e w' ⟨hb, hm⟩
 cases h : parseR (L s) with
 | none =>
  rw [h] at hm
  exact ⟨_, hm, leaf_rdq _ w' 0 0 0, hb⟩
 | some p =>
  rw [h] at hm
  obtain ⟨c, rfl, hq⟩ := hm
  exact ⟨c, rfl, hq, hb⟩
theorem fPattern_any (s : ByteArray) (w : World) (hE : Env w) : Calls Tryd.prog 19 #[.string s] w (PatO (patF (L s)) w) := by
 have HC := Lib.hid (fun w' => fNumber_any s w')
 have HE := Lib.hid hE
 have HPS := Lib.hid (pat_src (L s))
 have HPN := Lib.hid (pat_none (L s))
 have HLE := Lib.hid (num_le (L s))
 have HSO : Hid (srcOf (L s) = (srcF[numF (L s)]?).getD []) := rfl
 generalize patF (L s) = O at *
 generalize srcOf (L s) = S at *
 generalize numF (L s) = r at *
 clear hE
 go_enter Tryd.func19, Tryd.ntmps19
 go_upto_region 1 with fail
 generalize hW : World.alloc w _ = w1
 obtain ⟨ha, -, hz1, hb1⟩ := alloc_of hW
 have HX := Lib.hid (show BoxP w.heap.size ⟨0, 0, 0, 0, 0, .slice none 0 0⟩ w1 from ha)
 have HB := Lib.hid hb1
 clear hW ha hz1 hb1
 by_cases hr : r < 12
 ·obtain ⟨p, hp, hO⟩ := HPS.out hr
  have HOO := Lib.hid hO
  have e12 : ((r : Int) == 12) = false := beq_false_of_ne (by omega)
  have HT := Lib.hid (fun w' => fText_any r hr w')
  have HG : Hid (∀ w', Env w' → Calls Tryd.prog 28 #[.string (srcB r)] w' (GotQ (some p) w')) := fun w' he => by
   have := gotQ_main (srcB r) w' (srcB_size r) he
   rw [srcB_L, ← HSO.out, hp] at this
   exact this
  clear hr hp hO HPS HPN
  go_wp2_with fail
  refine (HC.out w1).mono ?_
  rintro e w2 ⟨rfl, hb⟩
  replace HX := Lib.hid (HX.out.below hb)
  replace HB := Lib.hid (HB.out.trans (hb.mono HB.out.size))
  clear hb HC
  go_wp2_with fail
  refine (HT.out w2).mono ?_
  rintro e wx ⟨rfl, hwx⟩
  subst hwx
  go_wp2_with fail
  refine (HG.out _ (HE.out.below HB.out)).mono ?_
  rintro e w3 ⟨c, rfl, hq, hb⟩
  have HXL := Lib.hid HX.out.lt
  replace HX := Lib.hid (HX.out.below hb)
  replace HB := Lib.hid (HB.out.trans (hb.mono HB.out.size))
  have HQ := Lib.hid (hq.mono (M := fun g => w.heap.size < g) (fun g h _ => Nat.lt_of_lt_of_le HXL.out h))
  obtain ⟨fa, fcap, hfa⟩ := hq.rd.forms
  generalize (gotP (some p)).args.length = rn at *
  obtain ⟨q0, q1, q2, q3, q4, q5⟩ := c
  simp only at hfa
  subst hfa
  clear hb hq HG HXL
  obtain ⟨z0, z1, z2, z3, z4, z5⟩ := HX.out.cells
  obtain ⟨y0, y1, y2, y3, y4, y5⟩ := HX.out.free
  simp only at z0 z1 z2 z3 z4 z5
  simp only [aggP, gotE]
  go_wp2_with fail
  generalize hW : World.setCell _ _ _ = w9
  obtain ⟨hbx, hq, hb⟩ := par_fin (d := ⟨q0, q1, q2, q3, q4, .slice fa rn fcap⟩) HX.out HB.out HQ.out hW
  obtain ⟨s0, s1, s2, s3, s4, s5⟩ := hbx.cells
  rw [HOO.out]
  exact bodyPost_ret (v := .tuple #[aggP ⟨q0, q1, q2, q3, q4, .slice fa rn fcap⟩, .int .i64 0]) (by simp only at s0 s1 s2 s3 s4 s5; simp [results, Tryd.results19, go_sem, s0, s1, s2, s3, s4, s5]) rfl ⟨_, rfl, hq.rd, hb⟩
 ·have hO := (HPN.out hr).1
  have HOO := Lib.hid hO
  have HRE := Lib.hid hr
  clear hr hO HPS HPN
  go_wp2_with fail
  refine (HC.out w1).mono ?_
  rintro e w2 ⟨rfl, hb⟩
  replace HX := Lib.hid (HX.out.below hb)
  replace HB := Lib.hid (HB.out.trans (hb.mono HB.out.size))
  have e12 : ((r : Int) == 12) = true := by rw [show (r : Int) = 12 by have := HRE.out; have := HLE.out; omega]; rfl
  clear hb HC
  obtain ⟨z0, z1, z2, z3, z4, z5⟩ := HX.out.cells
  obtain ⟨y0, y1, y2, y3, y4, y5⟩ := HX.out.free
  simp only at z0 z1 z2 z3 z4 z5
  go_wp2_with fail
  generalize hW : World.setCell _ _ _ = w9
  obtain ⟨hbx, hq, hb⟩ := par_fin (d := ⟨0, 0, 0, 0, 0, .slice none 0 0⟩) HX.out HB.out (leaf_rdq _ _ 0 0 0) hW
  obtain ⟨s0, s1, s2, s3, s4, s5⟩ := hbx.cells
  rw [HOO.out]
  exact bodyPost_ret (v := .tuple #[aggP ⟨0, 0, 0, 0, 0, .slice none 0 0⟩, .int .i64 7]) (by simp only at s0 s1 s2 s3 s4 s5; simp [results, Tryd.results19, go_sem, s0, s1, s2, s3, s4, s5]) rfl ⟨_, rfl, hq.rd, hb⟩
end Go.Proofs.YtpkecepelcppiaaDoor

namespace Go.Proofs.YtpkecepelcppiaaDoor
open Go.RowKit Go.Shelf
set_option maxHeartbeats 4000000
set_option maxRecDepth 100000

theorem elemT : Elem Tryd.prog 37 9 1 := elem_of (z := .string ⟨#[]⟩) (bytes := 16) Tryd.underlying37 (by kernel_rfl) (by decide) (by decide) rfl
theorem fCheck_any (n s : ByteArray) (w : World) (hs : s.size ≤ 1000000) (hE : Env w) : Calls Tryd.prog 9 #[.string n, .string s] w fun e w' => e = .returned (.bool (chkF (L n) (L s))) ∧ Below w.heap.size w w' := by
 have HC := Lib.hid (fPattern_any n w hE)
 have HCK : Hid (chkF (L n) (L s) = match patF (L n) with | some p => matR p (L s) | none => false) := rfl
 have HM : Hid (∀ p, patF (L n) = some p → ∀ c w', RdP w' c p → Calls Tryd.prog 20 #[aggP c, .string s] w' fun e w'' => e = .returned (.bool (matR p (L s))) ∧ Below w'.heap.size w' w'') := fun p hp c w' h => Match_any s hs p c w' h
 generalize chkF (L n) (L s) = R at *
 generalize patF (L n) = O at *
 clear hs hE
 go_enter Tryd.func9, Tryd.ntmps9
 go_wp2_with fail
 refine HC.out.mono ?_
 rintro e w3 ⟨c, rfl, hq, hb⟩
 have HB := Lib.hid hb
 have HQ := Lib.hid hq
 obtain ⟨fa, fcap, hfa⟩ := hq.forms
 generalize (gotP O).args.length = rn at *
 obtain ⟨q0, q1, q2, q3, q4, q5⟩ := c
 simp only at hfa
 subst hfa
 clear hb hq HC
 simp only [aggP]
 go_upto_region 2 with fail
 generalize hW : World.alloc w3 _ = w4
 obtain ⟨ha, -, hz1, hb1⟩ := alloc_of hW
 have HY := Lib.hid (show BoxP w3.heap.size ⟨q0, q1, q2, q3, q4, .slice fa rn fcap⟩ w4 from ha)
 replace HB := Lib.hid (HB.out.trans (hb1.mono HB.out.size))
 replace HQ := Lib.hid (HQ.out.stays hb1)
 obtain ⟨x0, x1, x2, x3, x4, x5⟩ := HY.out.cells
 simp only at x0 x1 x2 x3 x4 x5
 clear hW ha hz1 hb1
 cases O with
 | none =>
  have HF : Hid (R = false) := HCK.out
  go_wp2_with fail
  go_ret
  exact ⟨by rw [HF.out]; rfl, HB.out⟩
 | some p =>
  have HF : Hid (R = matR p (L s)) := HCK.out
  have HMM := Lib.hid (HM.out p rfl ⟨q0, q1, q2, q3, q4, .slice fa rn fcap⟩ w4 HQ.out)
  simp only [aggP] at HMM
  go_wp2_with fail
  refine HMM.out.mono ?_
  rintro e w5 ⟨rfl, hb⟩
  replace HB := Lib.hid (HB.out.trans (hb.mono HB.out.size))
  clear hb
  go_wp2_with fail
  go_ret
  exact ⟨by rw [HF.out]; rfl, HB.out⟩
theorem fDetect_any (s : ByteArray) (w : World) (hs : s.size ≤ 1000000) (hE : Env w) : Calls Tryd.prog 11 #[.string s] w fun e w' => ∃ v, e = .returned v ∧ RdT w' v ((detF (L s)).map fun l => ⟨l.toArray⟩) ∧ Below w.heap.size w w' := by
 have HCK : Hid (∀ (nb : ByteArray) w', Env w' → Calls Tryd.prog 9 #[.string nb, .string s] w' fun e w'' => e = .returned (.bool (chkF (L nb) (L s))) ∧ Below w'.heap.size w' w'') := fun nb w' he => fCheck_any nb s w' hs he
 have HDE := Lib.hid (detG_end (L s))
 have HE := Lib.hid hE
 clear hs hE
 go_enter Tryd.func11, Tryd.ntmps11
 go_wp2_with fail
 refine (fNames_any w).mono ?_
 rintro e w1 ⟨v, rfl, hr, hb⟩
 obtain ⟨a, cap, rfl, -⟩ := hr.form
 have HR := Lib.hid hr
 have HB := Lib.hid hb
 clear hr hb
 rw [show namesB.length = 12 from rfl]
 rw [show namesB.length = 12 from rfl] at HR
 go_wp2_with fail
 go_loopw [3, 8] (fun ov kv wr => ∃ (k : Nat) (A : Option Addr) (nl cp : Nat) (out : List ByteArray), kv = .int .i64 (k : Int) ∧ k ≤ 12 ∧ ov = .slice A nl cp ∧ Hid (OwnL w1.heap.size 9 1 strV wr (.slice A nl cp) out) ∧ Hid (out.map L = detG (L s) k) ∧ Hid (out.length ≤ k) ∧ Hid (Below w1.heap.size w1 wr)) (fun _ kv _ => 12 - (intOf kv).toNat)
 case atStart => exact ⟨0, none, 0, 0, [], rfl, by omega, rfl, OwnL.nil _ _ _ _ _, rfl, Nat.le_refl _, Below.refl _ _⟩
 case round =>
  obtain ⟨k, A, nl, cp, out, rfl, hk, rfl, HO, HD, HL, HW⟩ := hrel
  by_cases hlt : k < 12
  case neg =>
   have hke : k = 12 := by omega
   subst hke
   have HRD : Hid (RdT wr (.slice A nl cp) ((detF (L s)).map fun l => ⟨l.toArray⟩)) := by
    have h1 : out = (detF (L s)).map fun l => (⟨l.toArray⟩ : ByteArray) := by
     rw [← HDE.out, ← HD.out, List.map_map]
     exact (List.map_id out).symm
    unfold Hid
    rw [← h1]
    exact HO.out.strs
   clear hlt
   go_wp2_with fail
   go_ret
   exact ⟨_, rfl, HRD.out, HB.out.trans (HW.out.mono HB.out.size)⟩
  case pos =>
   have hlti : (k : Int) < 12 := by omega
   have hkB : k < namesB.length := hlt
   obtain ⟨g, o, rfl, hc⟩ := (HR.out.stay HW.out).at_ k hkB
   have HST := Lib.hid (detG_stepB (L s) k hkB)
   have HKL : Hid (k + 1 ≤ 12) := hlt
   have HCS := Lib.hid (fun w' (hb : Below w1.heap.size w1 w') => ((HR.out.stay hb).at_ k hkB))
   generalize namesB[k] = nb at *
   clear hlt
   go_wp2_with fail
   refine (HCK.out nb wr (HE.out.below (HB.out.trans (HW.out.mono HB.out.size)))).mono ?_
   rintro e w5 ⟨rfl, hb⟩
   replace HO := Lib.hid (HO.out.stay hb)
   replace HW := Lib.hid (HW.out.trans (hb.mono HW.out.size))
   clear hb hc
   cases hck : chkF (L nb) (L s) with
   | false =>
    have HN : Hid (out.map L = detG (L s) (k + 1)) := HD.out.trans ((HST.out.trans (if_neg (by rw [hck]; decide))).symm)
    clear hck
    go_wp2_with fail
    exact ⟨⟨k + 1, A, nl, cp, out, by simp, HKL.out, rfl, HO.out, HN.out, Nat.le_succ_of_le HL.out, HW.out⟩, by have := HKL.out; simp [intOf]; omega⟩
   | true =>
    have HN : Hid ((out ++ [nb]).map L = detG (L s) (k + 1)) := by
     unfold Hid
     rw [HST.out, if_pos hck, List.map_append, HD.out]
     rfl
    clear hck
    go_wp2_with (at_builtin; refine wpl_pushL (f := strV) (x := nb) (v := .slice A nl cp) (l := out) (B := w1.heap.size) (e := 9) (sz := 1) _ _ rfl rfl elemT strV_len (by decide) (strV_one nb) HO.out rfl rfl rfl (by have := HL.out; omega) HW.out.size ?_; intro v3 w6 hown3 hg3 hfm3 hat3; obtain ⟨A3, n3, cap3, rfl⟩ : ∃ A n cap, v3 = .slice A n cap := (by obtain ⟨A, c, h⟩ := hfm3; exact ⟨A, _, c, h⟩))
    have hgb := grown_belowL hg3 (fun x hx => (HO.out.lt x hx).1) HW.out.size
    exact ⟨⟨k + 1, A3, n3, cap3, out ++ [nb], by simp, HKL.out, rfl, hown3, HN.out, by unfold Hid; rw [List.length_append]; exact Nat.succ_le_succ HL.out, HW.out.trans hgb⟩, by have := HKL.out; simp [intOf]; omega⟩
end Go.Proofs.YtpkecepelcppiaaDoor

namespace Go.Proofs.YtpkecepelcppiaaDoor
open Go.RowKit Go.Shelf
set_option maxHeartbeats 4000000
set_option maxRecDepth 100000

def LeastQ (m out : List StA) : Prop := ∀ (N : Nat → Prop) (v : Value) (w' : World), RdS N w' v m → Calls Tryd.prog 18 #[.agg #[v]] w' fun e w'' => ∃ v', e = .returned (.agg #[v']) ∧ RdS (fun g => w'.heap.size ≤ g) w'' v' out ∧ Below w'.heap.size w' w''
theorem fUtf_any (w : World) (hl : LeastQ (machC 0 (-1) 0) utfA) : Calls Tryd.prog 12 #[] w fun e w' => ∃ v', e = .returned (.agg #[v']) ∧ RdS (fun g => w.heap.size ≤ g) w' v' utfA ∧ Below w.heap.size w w' := by
 have HC := Lib.hid (fun w' => machine_any 0 (-1) 0 utfA w' (by omega) (fun N v w2 _ h => hl N v w2 h))
 unfold cntV at HC
 clear hl
 go_enter Tryd.func12, Tryd.ntmps12
 go_upto_region 1 with fail
 generalize hW : World.alloc w _ = w1
 obtain ⟨hbx, -, hz1, hb1⟩ := alloc_of hW
 have HX := Lib.hid (show BoxV w.heap.size 24 [.slice none 0 0] w1 from hbx)
 have HB := Lib.hid hb1
 clear hW hbx hz1 hb1
 go_wp2_with fail
 refine (HC.out w1).mono ?_
 rintro e w3 ⟨v', rfl, hr, hb⟩
 obtain ⟨ra, rcap, rfl, -⟩ := hr.form
 have HXL := Lib.hid HX.out.lt
 replace HX := Lib.hid (HX.out.below hb)
 replace HB := Lib.hid (HB.out.trans (hb.mono HB.out.size))
 have HR := Lib.hid (hr.mono (M := fun g => w.heap.size < g) (fun g h _ => Nat.lt_of_lt_of_le HXL.out h))
 generalize hout : utfA = out at *
 have HOE := Lib.hid hout
 clear hout
 have z0 := HX.out.cell 0
 have y0 := HX.out.free 0
 simp only [List.getElem?_cons_zero] at z0
 clear hr hb HC
 go_wp2_with fail
 refine bodyPost_ret (v := .agg #[.slice ra out.length rcap]) ?_ rfl ⟨_, rfl, ?_, HB.out.setCell (p := ⟨w.heap.size, 0, none⟩) (Nat.le_refl _) _⟩
 ·have hbx : BoxV w.heap.size 24 [.slice ra out.length rcap] (w3.setCell ⟨w.heap.size, 0, none⟩ (.slice ra out.length rcap)) := heap_setCell_same w3 w.heap.size 0 _ _ _ HX.out
  have q0 := hbx.cell 0
  simp only [List.getElem?_cons_zero] at q0
  simp [results, Tryd.results12, go_sem, q0]
 ·rw [HOE.out]
  exact (HR.out.keep (fun g hg _ => Below.heap_setCell w3 ⟨w.heap.size, 0, none⟩ _ g (by show g ≠ w.heap.size; omega))).mono (fun g hg _ => Nat.le_of_lt hg)
theorem fLength11 (w : World) (hl : LeastQ (machC 1 1 1) oneA) : Calls Tryd.prog 4 #[.int .i64 1, .int .i64 1] w fun e w' => ∃ v', e = .returned (.tuple #[.agg #[v'], .int .i64 0]) ∧ RdS (fun g => w.heap.size ≤ g) w' v' oneA ∧ Below w.heap.size w w' := by
 have HC := Lib.hid (fun w' => machine_any 1 1 1 oneA w' (by omega) (fun N v w2 _ h => hl N v w2 h))
 unfold cntV at HC
 clear hl
 go_enter Tryd.func4, Tryd.ntmps4
 go_upto_region 1 with fail
 generalize hW : World.alloc w _ = w1
 obtain ⟨hbx, -, hz1, hb1⟩ := alloc_of hW
 have HX := Lib.hid (show BoxV w.heap.size 24 [.slice none 0 0] w1 from hbx)
 have HB := Lib.hid hb1
 clear hW hbx hz1 hb1
 go_upto_region 6 with fail
 generalize hW : World.alloc w1 _ = w2
 obtain ⟨hbx, -, hz1, hb1⟩ := alloc_of hW
 have HY := Lib.hid (show BoxV w1.heap.size 33 [.int .i64 1, .int .i64 1, .int .i64 1] w2 from hbx)
 have HXL := Lib.hid HX.out.lt
 replace HX := Lib.hid (HX.out.below hb1)
 replace HB := Lib.hid (HB.out.trans (hb1.mono HB.out.size))
 have x0 := HY.out.cell 0
 have x1 := HY.out.cell 1
 have x2 := HY.out.cell 2
 simp only [List.getElem?_cons_zero, List.getElem?_cons_succ] at x0 x1 x2
 clear hW hbx hz1 hb1
 go_wp2_with fail
 refine (HC.out w2).mono ?_
 rintro e w3 ⟨v', rfl, hr, hb⟩
 obtain ⟨ra, rcap, rfl, -⟩ := hr.form
 have HXL2 := Lib.hid HX.out.lt
 replace HX := Lib.hid (HX.out.below hb)
 replace HB := Lib.hid (HB.out.trans (hb.mono HB.out.size))
 have HR := Lib.hid (hr.mono (M := fun g => w.heap.size < g) (fun g h _ => Nat.lt_of_lt_of_le HXL2.out h))
 generalize hout : oneA = out at *
 have HOE := Lib.hid hout
 clear hout
 have z0 := HX.out.cell 0
 have y0 := HX.out.free 0
 simp only [List.getElem?_cons_zero] at z0
 clear hr hb HC x0 x1 x2
 go_wp2_with fail
 refine bodyPost_ret (v := .tuple #[.agg #[.slice ra out.length rcap], .int .i64 0]) ?_ rfl ⟨_, rfl, ?_, HB.out.setCell (p := ⟨w.heap.size, 0, none⟩) (Nat.le_refl _) _⟩
 ·have hbx : BoxV w.heap.size 24 [.slice ra out.length rcap] (w3.setCell ⟨w.heap.size, 0, none⟩ (.slice ra out.length rcap)) := heap_setCell_same w3 w.heap.size 0 _ _ _ HX.out
  have q0 := hbx.cell 0
  simp only [List.getElem?_cons_zero] at q0
  simp [results, Tryd.results4, go_sem, q0]
 ·rw [HOE.out]
  exact (HR.out.keep (fun g hg _ => Below.heap_setCell w3 ⟨w.heap.size, 0, none⟩ _ g (by show g ≠ w.heap.size; omega))).mono (fun g hg _ => Nat.le_of_lt hg)
theorem one_val : valA oneA = true := by decide +kernel
theorem awake17_any (w : World) (hE : Env w) (hl1 : LeastQ (machC 1 1 1) oneA) (hl2 : LeastQ (machC 0 (-1) 0) utfA) : Calls Tryd.prog 5 #[] w fun e w' => e = .returned (.bool true) ∧ Below w.heap.size w w' := by
 have HE := Lib.hid hE
 have HL1 := Lib.hid (fun w' => fLength11 w' hl1)
 have HUT := Lib.hid (fun w' => fUtf_any w' hl2)
 have HCK := Lib.hid (fun (n s : ByteArray) (b : Bool) (hs : s.size ≤ 1000000) (h : chkF (L n) (L s) = b) w' he => show Calls Tryd.prog 9 #[.string n, .string s] w' fun e w'' => e = .returned (.bool b) ∧ Below w'.heap.size w' w'' from by
  have := fCheck_any n s w' hs he
  rw [h] at this
  exact this)
 have HDT := Lib.hid (fun (s : ByteArray) (l : List ByteArray) (hs : s.size ≤ 1000000) (h : (detF (L s)).map (fun l => (⟨l.toArray⟩ : ByteArray)) = l) w' he => show Calls Tryd.prog 11 #[.string s] w' fun e w'' => ∃ v, e = .returned v ∧ RdT w'' v l ∧ Below w'.heap.size w' w'' from by
  have := fDetect_any s w' hs he
  rw [h] at this
  exact this)
 have HAC := Lib.hid (fun (s : ByteArray) (b : Bool) (hs : s.size ≤ 1000000) (h : accA oneA (L s) = b) (N : Nat → Prop) v w' (hr : RdS N w' v oneA) => show Calls Tryd.prog 7 #[.agg #[v], .string s] w' fun e w'' => e = .returned (.bool b) ∧ Below w'.heap.size w' w'' from by
  have := Accepts_any N oneA v s w' hr one_val hs
  rw [h] at this
  exact this)
 clear hE hl1 hl2
 go_enter Tryd.func5, Tryd.ntmps5
 go_wp2_with fail
 refine (HL1.out w).mono ?_
 rintro e w1 ⟨v', rfl, hr, hb⟩
 obtain ⟨ra, rcap, rfl, -⟩ := hr.form
 have HR := Lib.hid hr
 have HB := Lib.hid hb
 clear hr hb HL1
 have HON : Hid (oneA.length = oneA.length) := rfl
 generalize hon : oneA.length = on at *
 clear HON hon
 go_upto_region 2 with fail
 generalize hW : World.alloc w1 _ = w2
 obtain ⟨hbx, -, hz1, hb1⟩ := alloc_of hW
 have HX := Lib.hid (show BoxV w1.heap.size 24 [.slice ra on rcap] w2 from hbx)
 replace HR := Lib.hid (HR.out.stay hb1)
 replace HB := Lib.hid (HB.out.trans (hb1.mono HB.out.size))
 clear hW hbx hz1 hb1
 go_wp2_with fail
 refine (HCK.out ⟨#[100, 97, 116, 101]⟩ ⟨#[50, 48, 50, 52, 45, 48, 50, 45, 51, 48]⟩ true (by decide) chk_dates.1 _ (HE.out.below HB.out)).mono ?_
 rintro e wx ⟨rfl, hb⟩
 replace HX := Lib.hid (HX.out.below hb)
 replace HR := Lib.hid (HR.out.stay hb)
 replace HB := Lib.hid (HB.out.trans (hb.mono HB.out.size))
 clear hb
 go_wp2_with fail
 refine (HCK.out ⟨#[100, 97, 116, 101]⟩ ⟨#[50, 48, 50, 52, 45, 49, 51, 45, 48, 49]⟩ false (by decide) chk_dates.2 _ (HE.out.below HB.out)).mono ?_
 rintro e wx ⟨rfl, hb⟩
 replace HX := Lib.hid (HX.out.below hb)
 replace HR := Lib.hid (HR.out.stay hb)
 replace HB := Lib.hid (HB.out.trans (hb.mono HB.out.size))
 clear hb
 go_wp2_with fail
 refine (HDT.out ⟨#[49, 50]⟩ [⟨#[104, 101, 120]⟩, ⟨#[105, 110, 116, 101, 103, 101, 114]⟩, ⟨#[110, 117, 109, 98, 101, 114]⟩] (by decide) (by rw [show L (⟨#[49, 50]⟩ : ByteArray) = [49, 50] from rfl, det_12]; rfl) _ (HE.out.below HB.out)).mono ?_
 rintro e wd ⟨v1, rfl, hr, hb⟩
 replace HX := Lib.hid (HX.out.below hb)
 replace HR := Lib.hid (HR.out.stay hb)
 replace HB := Lib.hid (HB.out.trans (hb.mono HB.out.size))
 obtain ⟨da, dcap, rfl, -⟩ := hr.form
 have HD := Lib.hid hr
 clear hr hb
 go_wp2_with fail
 generalize hW : World.alloc wd _ = wf
 obtain ⟨hbx, -, hz1, hb⟩ := alloc_of hW
 have HD2 := Lib.hid (show RdT wf (.slice (some ⟨wd.heap.size, 0, none⟩) 3 3) [⟨#[104, 101, 120]⟩, ⟨#[105, 110, 116, 101, 103, 101, 114]⟩, ⟨#[110, 117, 109, 98, 101, 114]⟩] from slx_block (l := [⟨#[104, 101, 120]⟩, ⟨#[105, 110, 116, 101, 103, 101, 114]⟩, ⟨#[110, 117, 109, 98, 101, 114]⟩]) strV_len hbx (show (3 : Nat) ≤ maxLen by decide))
 replace HD := Lib.hid (HD.out.stay hb)
 replace HX := Lib.hid (HX.out.below hb)
 replace HR := Lib.hid (HR.out.stay hb)
 replace HB := Lib.hid (HB.out.trans (hb.mono HB.out.size))
 clear hW hbx hz1 hb
 refine (fSame_yes [⟨#[104, 101, 120]⟩, ⟨#[105, 110, 116, 101, 103, 101, 114]⟩, ⟨#[110, 117, 109, 98, 101, 114]⟩] _ _ wf HD.out HD2.out).mono ?_
 rintro e wx ⟨rfl, hb⟩
 replace HX := Lib.hid (HX.out.below hb)
 replace HR := Lib.hid (HR.out.stay hb)
 replace HB := Lib.hid (HB.out.trans (hb.mono HB.out.size))
 clear hb HD HD2
 go_wp2_with fail
 refine (HDT.out ⟨#[97, 49]⟩ [⟨#[104, 101, 120]⟩, ⟨#[110, 97, 109, 101]⟩] (by decide) (by rw [show L (⟨#[97, 49]⟩ : ByteArray) = [97, 49] from rfl, det_a1]; rfl) _ (HE.out.below HB.out)).mono ?_
 rintro e wd ⟨v1, rfl, hr, hb⟩
 replace HX := Lib.hid (HX.out.below hb)
 replace HR := Lib.hid (HR.out.stay hb)
 replace HB := Lib.hid (HB.out.trans (hb.mono HB.out.size))
 obtain ⟨da, dcap, rfl, -⟩ := hr.form
 have HD := Lib.hid hr
 clear hr hb
 go_wp2_with fail
 generalize hW : World.alloc wd _ = wf
 obtain ⟨hbx, -, hz1, hb⟩ := alloc_of hW
 have HD2 := Lib.hid (show RdT wf (.slice (some ⟨wd.heap.size, 0, none⟩) 2 2) [⟨#[104, 101, 120]⟩, ⟨#[110, 97, 109, 101]⟩] from slx_block (l := [⟨#[104, 101, 120]⟩, ⟨#[110, 97, 109, 101]⟩]) strV_len hbx (show (2 : Nat) ≤ maxLen by decide))
 replace HD := Lib.hid (HD.out.stay hb)
 replace HX := Lib.hid (HX.out.below hb)
 replace HR := Lib.hid (HR.out.stay hb)
 replace HB := Lib.hid (HB.out.trans (hb.mono HB.out.size))
 clear hW hbx hz1 hb
 refine (fSame_yes [⟨#[104, 101, 120]⟩, ⟨#[110, 97, 109, 101]⟩] _ _ wf HD.out HD2.out).mono ?_
 rintro e wx ⟨rfl, hb⟩
 replace HX := Lib.hid (HX.out.below hb)
 replace HR := Lib.hid (HR.out.stay hb)
 replace HB := Lib.hid (HB.out.trans (hb.mono HB.out.size))
 clear hb HD HD2
 go_wp2_with fail
 refine (HDT.out ⟨#[]⟩ [⟨#[98, 97, 115, 101, 54, 52]⟩] (by decide) (by rw [show L (⟨#[]⟩ : ByteArray) = [] from rfl, det_nil]; rfl) _ (HE.out.below HB.out)).mono ?_
 rintro e wd ⟨v1, rfl, hr, hb⟩
 replace HX := Lib.hid (HX.out.below hb)
 replace HR := Lib.hid (HR.out.stay hb)
 replace HB := Lib.hid (HB.out.trans (hb.mono HB.out.size))
 obtain ⟨da, dcap, rfl, -⟩ := hr.form
 have HD := Lib.hid hr
 clear hr hb
 go_wp2_with fail
 generalize hW : World.alloc wd _ = wf
 obtain ⟨hbx, -, hz1, hb⟩ := alloc_of hW
 have HD2 := Lib.hid (show RdT wf (.slice (some ⟨wd.heap.size, 0, none⟩) 1 1) [⟨#[98, 97, 115, 101, 54, 52]⟩] from slx_block (l := [⟨#[98, 97, 115, 101, 54, 52]⟩]) strV_len hbx (show (1 : Nat) ≤ maxLen by decide))
 replace HD := Lib.hid (HD.out.stay hb)
 replace HX := Lib.hid (HX.out.below hb)
 replace HR := Lib.hid (HR.out.stay hb)
 replace HB := Lib.hid (HB.out.trans (hb.mono HB.out.size))
 clear hW hbx hz1 hb
 refine (fSame_yes [⟨#[98, 97, 115, 101, 54, 52]⟩] _ _ wf HD.out HD2.out).mono ?_
 rintro e wx ⟨rfl, hb⟩
 replace HX := Lib.hid (HX.out.below hb)
 replace HR := Lib.hid (HR.out.stay hb)
 replace HB := Lib.hid (HB.out.trans (hb.mono HB.out.size))
 clear hb HD HD2
 have x0 := HX.out.cell 0
 simp only [List.getElem?_cons_zero] at x0
 go_wp2_with fail
 refine (HAC.out ⟨#[195, 169]⟩ true (by decide) one_acc.1 _ _ _ HR.out).mono ?_
 rintro e wx ⟨rfl, hb⟩
 replace HX := Lib.hid (HX.out.below hb)
 replace HR := Lib.hid (HR.out.stay hb)
 replace HB := Lib.hid (HB.out.trans (hb.mono HB.out.size))
 clear hb x0
 have x0 := HX.out.cell 0
 simp only [List.getElem?_cons_zero] at x0
 go_wp2_with fail
 refine (HAC.out ⟨#[97, 98]⟩ false (by decide) one_acc.2 _ _ _ HR.out).mono ?_
 rintro e wx ⟨rfl, hb⟩
 replace HX := Lib.hid (HX.out.below hb)
 replace HR := Lib.hid (HR.out.stay hb)
 replace HB := Lib.hid (HB.out.trans (hb.mono HB.out.size))
 clear hb x0
 have x0 := HX.out.cell 0
 simp only [List.getElem?_cons_zero] at x0
 go_wp2_with fail
 refine (HUT.out _).mono ?_
 rintro e wx ⟨v', rfl, hr, hb⟩
 obtain ⟨ua, ucap, rfl, -⟩ := hr.form
 replace HB := Lib.hid (HB.out.trans (hb.mono HB.out.size))
 rw [utf_least.2.2]
 have hfld : ∀ w', (Instr.field 24 (.agg #[.slice ua 9 ucap]) 0).run Tryd.prog w' = .ok (.slice ua 9 ucap) w' := fun w' => by kernel_rfl
 clear hr hb x0
 go_wp2_with fail
 go_ret
 exact ⟨rfl, HB.out⟩
end Go.Proofs.YtpkecepelcppiaaDoor

namespace Go.Proofs.YtpkecepelcppiaaDoor
open Go.RowKit Go.Shelf
set_option maxHeartbeats 4000000
set_option maxRecDepth 100000

theorem LeastW_any (f : Nat) (m out : List StA) (hv : valA m = true) (hn : m.length < 1000) (hf : leastA f m = some out) (hff : f ≤ 1000) (N : Nat → Prop) (v : Value) (w : World) (hit : ItoaQ m.length w) (hm : RdS N w v m) :
  Calls Tryd.prog 18 #[.agg #[v]] w fun e w' => ∃ v', e = .returned (.agg #[v']) ∧ RdS (fun g => w.heap.size ≤ g) w' v' out ∧ Below w.heap.size w w' := by
 have HV := Lib.hid (fun w' (h : Below w.heap.size w w') => Valid_yes N m v w' (hm.stay h) hv)
 have HL := Lib.hid (fun w' (h : Below w.heap.size w w') => least_any N f m out v w' (hm.stay h) hv hn hf hff (fun c hc w2 hb => hit c hc w2 (h.trans (hb.mono h.size))))
 obtain ⟨a, cap, rfl, -⟩ := hm.form
 clear hv hn hf hff hm hit
 go_enter Tryd.func18, Tryd.ntmps18
 go_upto_region 1 with fail
 generalize hW : World.alloc w _ = w1
 obtain ⟨hbx, -, hz1, hb1⟩ := alloc_of hW
 generalize hW2 : World.alloc w1 _ = w2
 obtain ⟨hbx2, -, hz2, hb2⟩ := alloc_of hW2
 rw [hz1] at hbx2
 have HX := Lib.hid (show BoxV w.heap.size 24 [.slice a m.length cap] w2 from (hb2.block _ (by omega)).trans hbx)
 have HR := Lib.hid (show BoxV (w.heap.size + 1) 24 [.slice none 0 0] w2 from hbx2)
 have HB := Lib.hid (hb1.trans (hb2.mono hb1.size))
 clear hW hbx hz1 hb1 hW2 hbx2 hz2 hb2
 have x0 := HX.out.cell 0
 simp only [List.getElem?_cons_zero] at x0
 go_wp2_with fail
 refine (HV.out w2 HB.out).mono ?_
 rintro e w3 ⟨rfl, hb⟩
 replace HX := Lib.hid (HX.out.below hb)
 replace HR := Lib.hid (HR.out.below hb)
 replace HB := Lib.hid (HB.out.trans (hb.mono HB.out.size))
 clear hb x0
 have x0 := HX.out.cell 0
 simp only [List.getElem?_cons_zero] at x0
 go_wp2_with fail
 refine (HL.out w3 HB.out).mono ?_
 rintro e w9 ⟨v', rfl, hr, hb⟩
 obtain ⟨ra, rcap, rfl, -⟩ := hr.form
 have HRL := Lib.hid HR.out.lt
 replace HR := Lib.hid (HR.out.below hb)
 replace HB := Lib.hid (HB.out.trans (hb.mono HB.out.size))
 have HRS := Lib.hid (hr.mono (M := fun g => w.heap.size + 1 < g) (fun g h _ => Nat.lt_of_lt_of_le HRL.out h))
 have z0 := HR.out.cell 0
 have y0 := HR.out.free 0
 simp only [List.getElem?_cons_zero] at z0
 clear hr hb x0
 go_wp2_with fail
 refine bodyPost_ret (v := .agg #[.slice ra out.length rcap]) ?_ rfl ⟨_, rfl, ?_, HB.out.setCell (p := ⟨w.heap.size + 1, 0, none⟩) (by show w.heap.size ≤ w.heap.size + 1; omega) _⟩
 ·have hbx : BoxV (w.heap.size + 1) 24 [.slice ra out.length rcap] (w9.setCell ⟨w.heap.size + 1, 0, none⟩ (.slice ra out.length rcap)) := heap_setCell_same w9 (w.heap.size + 1) 0 _ _ _ HR.out
  have q0 := hbx.cell 0
  simp only [List.getElem?_cons_zero] at q0
  simp [results, Tryd.results18, go_sem, q0]
 ·exact (HRS.out.keep (fun g hg _ => Below.heap_setCell w9 ⟨w.heap.size + 1, 0, none⟩ _ g (by show g ≠ w.heap.size + 1; omega))).mono (fun g hg _ => by omega)
theorem itoaQ_small (n : Nat) (hn : n < 100) (w : World) : ItoaQ n w := fun c hc w' _ => (itoa_any c (by omega) w').mono fun e w'' h => ⟨h.1, by rw [h.2]; exact Below.refl _ _⟩
theorem Least_any (f : Nat) (m out : List StA) (hv : valA m = true) (hn : m.length < 100) (hf : leastA f m = some out) (hff : f ≤ 1000) : LeastQ m out := fun N v w hm => LeastW_any f m out hv (by omega) hf hff N v w (itoaQ_small _ hn w) hm
theorem least_of {m : List StA} (h : (leastA 20 m).isSome = true) : leastA 20 m = some ((leastA 20 m).getD []) := by
 cases hl : leastA 20 m with
 | none => rw [hl] at h; cases h
 | some o => rfl
theorem leastOne : LeastQ (machC 1 1 1) oneA := Least_any 20 _ _ one_least.2 (by decide +kernel) (least_of one_least.1) (by omega)
theorem leastUtf : LeastQ (machC 0 (-1) 0) utfA := Least_any 20 _ _ utf_least.2.1 (by decide +kernel) (least_of utf_least.1) (by omega)
theorem awakeF (w : World) (hE : Env w) : Calls Tryd.prog 5 #[] w fun e w' => e = .returned (.bool true) ∧ Below w.heap.size w w' := awake17_any w hE leastOne leastUtf
end Go.Proofs.YtpkecepelcppiaaDoor

namespace Go.Proofs.YtpkecepelcppiaaDoor
open Go.RowKit Go.Shelf
set_option maxHeartbeats 4000000
set_option maxRecDepth 100000

def TabP (w : World) : Prop := Lib.TabIs Tryd.prog w "internal/strconv.uint64pow10" .u64 Lib.pow10Tab ∧ 0 + 1 ≤ w.heap.size
theorem TabP.below {w w' : World} (h : TabP w) (hb : Below w.heap.size w w') : TabP w' :=
 ⟨Go.Joins.tab_stays (show Tryd.prog.globalNamed "internal/strconv.uint64pow10" = some 0 by kernel_rfl) h.1 hb (Nat.le_refl _), Nat.le_trans h.2 hb.size⟩
theorem itoa_facts : (List.range 1000).all (fun n => decide (Lib.itoa (n : Int) = decT n)) = true := by decide +kernel
theorem itoa_dec {n : Nat} (h : n < 1000) : Lib.itoa (n : Int) = decT n := of_decide_eq_true (List.all_eq_true.1 itoa_facts n (List.mem_range.2 h))
theorem below_growF (w : World) (k : Nat) (os : Array Obj) : Below w.heap.size w (Go.Sort.grow (w.drewN k) os) :=
 ⟨rfl, rfl, rfl, by show w.heap.size ≤ (w.heap ++ os).size; rw [Array.size_append]; omega, fun j hj => by show (w.heap ++ os)[j]? = w.heap[j]?; rw [Array.getElem?_append_left hj]⟩
theorem itoaQ_any (n : Nat) (hn : n < 1000) (w : World) (ht : TabP w) : ItoaQ n w := fun c hc w' hb => by
 refine (Tryd.strconv_Itoa (c : Int) (by omega) (by omega) w' (ht.below hb).1).mono ?_
 rintro e w2 ⟨rfl, k, os, rfl⟩
 exact ⟨by rw [itoa_dec (by omega)], below_growF w' k os⟩
def bndE (mn mx : Int) : Int := if mn < 0 ∨ mx < -1 ∨ (mx ≠ -1 ∧ mx < mn) then 1 else if 100 < mn ∨ 100 < mx then 32 else 0
def topOf (mn : Nat) (mx : Int) : Nat := if mx = -1 then mn else mx.toNat
def lenA (mn : Nat) (mx : Int) : List StA := (leastA 1000 (machC mn mx (topOf mn mx))).getD []
theorem bnd_ok {mn mx : Int} (h : bndE mn mx = 0) : ∃ n : Nat, mn = (n : Int) ∧ n ≤ 100 ∧ ((mx = -1 ∧ topOf n mx = n) ∨ (mx = (topOf n mx : Int) ∧ n ≤ topOf n mx ∧ topOf n mx ≤ 100)) := by
 unfold bndE at h
 split at h
 ·cases h
 ·split at h
  ·cases h
  ·refine ⟨mn.toNat, by omega, by omega, ?_⟩
   unfold topOf
   split
   ·exact .inl ⟨by assumption, rfl⟩
   ·exact .inr ⟨by omega, by omega, by omega⟩
theorem len_top {n : Nat} {mx : Int} (hn : n ≤ 100) (h : (mx = -1 ∧ topOf n mx = n) ∨ (mx = (topOf n mx : Int) ∧ n ≤ topOf n mx ∧ topOf n mx ≤ 100)) : topOf n mx ≤ 100 := by omega
theorem len_sem {n : Nat} {mx : Int} (hn : n ≤ 100) (h : (mx = -1 ∧ topOf n mx = n) ∨ (mx = (topOf n mx : Int) ∧ n ≤ topOf n mx ∧ topOf n mx ≤ 100)) :
  leastA 1000 (machC n mx (topOf n mx)) = some (lenA n mx) ∧ valA (lenA n mx) = true ∧ ∀ s : List UInt8, accA (lenA n mx) s = okCnt n mx (cntRun (0, 0) s).1 (cntRun (0, 0) s).2 := by
 have ht := len_top hn h
 obtain ⟨out, h1, h2, -, h4⟩ := least_sem (machC_val n mx (topOf n mx) (by omega)) (by rw [machC_len]; omega) 1000 (by rw [machC_len]; omega)
 have he : lenA n mx = out := by unfold lenA; rw [h1]; rfl
 rw [he]
 refine ⟨h1, h2, fun s => ?_⟩
 unfold accA
 rw [h2, Bool.true_and, h4, accC n mx (topOf n mx) (by omega)]
theorem fLength_err (mn mx : Int) (h : bndE mn mx ≠ 0) (w : World) : Calls Tryd.prog 4 #[.int .i64 mn, .int .i64 mx] w fun e w' => e = .returned (.tuple #[.agg #[.slice none 0 0], .int .i64 (bndE mn mx)]) ∧ Below w.heap.size w w' := by
 obtain ⟨R, hR⟩ : ∃ R, R = bndE mn mx := ⟨_, rfl⟩
 rw [← hR]
 have HR := Lib.hid hR
 have HN : Hid (R ≠ 0) := by unfold Hid; rw [hR]; exact h
 clear hR h
 by_cases h1 : mn < 0
 ·have HV : Hid (R = 1) := by unfold Hid; rw [HR.out]; unfold bndE; rw [if_pos (.inl h1)]
  clear HR HN
  rw [HV.out]
  go_enter Tryd.func4, Tryd.ntmps4
  go_upto_region 1 with fail
  generalize hW : World.alloc w _ = w1
  obtain ⟨hbx, -, hz1, hb1⟩ := alloc_of hW
  have HX : Hid (BoxV w.heap.size 24 [.slice none 0 0] w1) := hbx
  have HB := Lib.hid hb1
  clear hW hbx hz1 hb1
  have z0 := HX.out.cell 0
  have y0 := HX.out.free 0
  simp only [List.getElem?_cons_zero] at z0
  go_wp2_with fail
  all_goals
   refine bodyPost_ret (v := .tuple #[.agg #[.slice none 0 0], .int .i64 1]) ?_ rfl ⟨rfl, HB.out.setCell (p := ⟨w.heap.size, 0, none⟩) (Nat.le_refl _) _⟩
   have q0 := (show BoxV w.heap.size 24 [.slice none 0 0] _ from heap_setCell_same w1 w.heap.size 0 _ _ (.slice none 0 0) HX.out).cell 0
   simp only [List.getElem?_cons_zero] at q0
   simp [results, Tryd.results4, go_sem, q0]
 by_cases h2 : mx < -1
 ·have HV : Hid (R = 1) := by unfold Hid; rw [HR.out]; unfold bndE; rw [if_pos (.inr (.inl h2))]
  clear HR HN
  rw [HV.out]
  go_enter Tryd.func4, Tryd.ntmps4
  go_upto_region 1 with fail
  generalize hW : World.alloc w _ = w1
  obtain ⟨hbx, -, hz1, hb1⟩ := alloc_of hW
  have HX : Hid (BoxV w.heap.size 24 [.slice none 0 0] w1) := hbx
  have HB := Lib.hid hb1
  clear hW hbx hz1 hb1
  have z0 := HX.out.cell 0
  have y0 := HX.out.free 0
  simp only [List.getElem?_cons_zero] at z0
  go_wp2_with fail
  all_goals
   refine bodyPost_ret (v := .tuple #[.agg #[.slice none 0 0], .int .i64 1]) ?_ rfl ⟨rfl, HB.out.setCell (p := ⟨w.heap.size, 0, none⟩) (Nat.le_refl _) _⟩
   have q0 := (show BoxV w.heap.size 24 [.slice none 0 0] _ from heap_setCell_same w1 w.heap.size 0 _ _ (.slice none 0 0) HX.out).cell 0
   simp only [List.getElem?_cons_zero] at q0
   simp [results, Tryd.results4, go_sem, q0]
 obtain ⟨hm1, hm2⟩ : (mx != -1) = decide (mx ≠ -1) ∧ True := ⟨by by_cases h : mx = -1 <;> simp [h], trivial⟩
 by_cases h3 : mx = -1
 ·subst h3
  have h5 : (100 : Int) < mn := by
   have h0 := HN.out
   have h9 := HR.out
   unfold bndE at h9
   rw [if_neg (by omega)] at h9
   split at h9
   ·omega
   ·exact absurd h9 h0
  have HV : Hid (R = 32) := by unfold Hid; rw [HR.out]; unfold bndE; rw [if_neg (by omega), if_pos (.inl h5)]
  clear HR HN hm1 hm2
  rw [HV.out]
  go_enter Tryd.func4, Tryd.ntmps4
  go_upto_region 1 with fail
  generalize hW : World.alloc w _ = w1
  obtain ⟨hbx, -, hz1, hb1⟩ := alloc_of hW
  have HX : Hid (BoxV w.heap.size 24 [.slice none 0 0] w1) := hbx
  have HB := Lib.hid hb1
  clear hW hbx hz1 hb1
  have z0 := HX.out.cell 0
  have y0 := HX.out.free 0
  simp only [List.getElem?_cons_zero] at z0
  go_wp2_with fail
  all_goals
   refine bodyPost_ret (v := .tuple #[.agg #[.slice none 0 0], .int .i64 32]) ?_ rfl ⟨rfl, HB.out.setCell (p := ⟨w.heap.size, 0, none⟩) (Nat.le_refl _) _⟩
   have q0 := (show BoxV w.heap.size 24 [.slice none 0 0] _ from heap_setCell_same w1 w.heap.size 0 _ _ (.slice none 0 0) HX.out).cell 0
   simp only [List.getElem?_cons_zero] at q0
   simp [results, Tryd.results4, go_sem, q0]
 have tm : (mx != -1) = true := bne_iff_ne.2 h3
 clear hm1 hm2
 by_cases h4 : mx < mn
 ·have HV : Hid (R = 1) := by unfold Hid; rw [HR.out]; unfold bndE; rw [if_pos (.inr (.inr ⟨h3, h4⟩))]
  clear HR HN
  rw [HV.out]
  go_enter Tryd.func4, Tryd.ntmps4
  go_upto_region 1 with fail
  generalize hW : World.alloc w _ = w1
  obtain ⟨hbx, -, hz1, hb1⟩ := alloc_of hW
  have HX : Hid (BoxV w.heap.size 24 [.slice none 0 0] w1) := hbx
  have HB := Lib.hid hb1
  clear hW hbx hz1 hb1 h3
  have z0 := HX.out.cell 0
  have y0 := HX.out.free 0
  simp only [List.getElem?_cons_zero] at z0
  go_wp2_with fail
  all_goals
   refine bodyPost_ret (v := .tuple #[.agg #[.slice none 0 0], .int .i64 1]) ?_ rfl ⟨rfl, HB.out.setCell (p := ⟨w.heap.size, 0, none⟩) (Nat.le_refl _) _⟩
   have q0 := (show BoxV w.heap.size 24 [.slice none 0 0] _ from heap_setCell_same w1 w.heap.size 0 _ _ (.slice none 0 0) HX.out).cell 0
   simp only [List.getElem?_cons_zero] at q0
   simp [results, Tryd.results4, go_sem, q0]
 ·have h5 : (100 : Int) < mx := by
   have h0 := HN.out
   have h9 := HR.out
   unfold bndE at h9
   rw [if_neg (by omega)] at h9
   split at h9
   ·omega
   ·exact absurd h9 h0
  have HV : Hid (R = 32) := by unfold Hid; rw [HR.out]; unfold bndE; rw [if_neg (by omega), if_pos (.inr h5)]
  clear HR HN
  rw [HV.out]
  go_enter Tryd.func4, Tryd.ntmps4
  go_upto_region 1 with fail
  generalize hW : World.alloc w _ = w1
  obtain ⟨hbx, -, hz1, hb1⟩ := alloc_of hW
  have HX : Hid (BoxV w.heap.size 24 [.slice none 0 0] w1) := hbx
  have HB := Lib.hid hb1
  clear hW hbx hz1 hb1 h3
  have z0 := HX.out.cell 0
  have y0 := HX.out.free 0
  simp only [List.getElem?_cons_zero] at z0
  by_cases h6 : (100 : Int) < mn
  all_goals go_wp2_with fail
  all_goals
   refine bodyPost_ret (v := .tuple #[.agg #[.slice none 0 0], .int .i64 32]) ?_ rfl ⟨rfl, HB.out.setCell (p := ⟨w.heap.size, 0, none⟩) (Nat.le_refl _) _⟩
   have q0 := (show BoxV w.heap.size 24 [.slice none 0 0] _ from heap_setCell_same w1 w.heap.size 0 _ _ (.slice none 0 0) HX.out).cell 0
   simp only [List.getElem?_cons_zero] at q0
   simp [results, Tryd.results4, go_sem, q0]
theorem fLength_ok (n : Nat) (mx : Int) (hn : n ≤ 100) (h : (mx = -1 ∧ topOf n mx = n) ∨ (mx = (topOf n mx : Int) ∧ n ≤ topOf n mx ∧ topOf n mx ≤ 100)) (w : World) (ht : TabP w) :
  Calls Tryd.prog 4 #[.int .i64 (n : Int), .int .i64 mx] w fun e w' => ∃ v', e = .returned (.tuple #[.agg #[v'], .int .i64 0]) ∧ RdS (fun g => w.heap.size ≤ g) w' v' (lenA n mx) ∧ Below w.heap.size w w' := by
 obtain ⟨hl, -, -⟩ := len_sem hn h
 have htop := len_top hn h
 obtain ⟨top, htp⟩ : ∃ t, t = topOf n mx := ⟨_, rfl⟩
 rw [← htp] at h hl htop
 have HC := Lib.hid (fun w' (hb : Below w.heap.size w w') => machine_any n mx top (lenA n mx) w' (by omega) (fun N v w2 hb2 hr => LeastW_any 1000 _ _ (machC_val n mx top (by omega)) (by rw [machC_len]; omega) hl (by omega) N v w2 (itoaQ_any _ (by rw [machC_len]; omega) w2 (ht.below (hb.trans (hb2.mono hb.size)))) hr))
 unfold cntV at HC
 generalize lenA n mx = out at *
 have hni : ¬ (n : Int) < 0 := by omega
 have hni2 : ¬ (100 : Int) < (n : Int) := by omega
 have hm1 : ¬ mx < -1 := by omega
 have hm2 : ¬ (100 : Int) < mx := by omega
 clear hl ht htop htp hn
 rcases h with ⟨rfl, rfl⟩ | ⟨rfl, h2, h3⟩
 ·go_enter Tryd.func4, Tryd.ntmps4
  go_upto_region 1 with fail
  generalize hW : World.alloc w _ = w1
  obtain ⟨hbx, -, hz1, hb1⟩ := alloc_of hW
  have HX := Lib.hid (show BoxV w.heap.size 24 [.slice none 0 0] w1 from hbx)
  have HB := Lib.hid hb1
  clear hW hbx hz1 hb1
  go_upto_region 6 with fail
  generalize hW : World.alloc w1 _ = w2
  obtain ⟨hbx, -, hz1, hb1⟩ := alloc_of hW
  have HY := Lib.hid (show BoxV w1.heap.size 33 [.int .i64 (top : Int), .int .i64 (-1), .int .i64 (-1)] w2 from hbx)
  have HXL := Lib.hid HX.out.lt
  replace HX := Lib.hid (HX.out.below hb1)
  replace HB := Lib.hid (HB.out.trans (hb1.mono HB.out.size))
  have x0 := HY.out.cell 2
  have x1 := HY.out.free 2
  simp only [List.getElem?_cons_zero, List.getElem?_cons_succ] at x0
  clear hW hbx hz1 hb1
  go_upto_region 8 with fail
  generalize hW : World.setCell _ _ _ = w2b
  have HY2 := Lib.hid (show BoxV w1.heap.size 33 [.int .i64 (top : Int), .int .i64 (-1), .int .i64 (top : Int)] w2b from hW ▸ heap_setCell_same w2 w1.heap.size 2 _ _ (.int .i64 (top : Int)) HY.out)
  replace HX := Lib.hid (show BoxV w.heap.size 24 [.slice none 0 0] w2b from (hW ▸ Below.heap_setCell w2 ⟨w1.heap.size, 2, none⟩ _ w.heap.size (by have := HXL.out; show w.heap.size ≠ w1.heap.size; omega)).trans HX.out)
  replace HB := Lib.hid (show Below w.heap.size w w2b from hW ▸ HB.out.setCell (p := ⟨w1.heap.size, 2, none⟩) (by have := HXL.out; show w.heap.size ≤ w1.heap.size; omega) _)
  clear hW HY x0 x1
  have x0 := HY2.out.cell 0
  have x1 := HY2.out.cell 1
  have x2 := HY2.out.cell 2
  simp only [List.getElem?_cons_zero, List.getElem?_cons_succ] at x0 x1 x2
  go_wp2_with fail
  refine (HC.out w2b HB.out).mono ?_
  rintro e w3 ⟨v', rfl, hr, hb⟩
  obtain ⟨ra, rcap, rfl, -⟩ := hr.form
  have HXL2 := Lib.hid HX.out.lt
  replace HX := Lib.hid (HX.out.below hb)
  replace HB := Lib.hid (HB.out.trans (hb.mono HB.out.size))
  have HR := Lib.hid (hr.mono (M := fun g => w.heap.size < g) (fun g h _ => Nat.lt_of_lt_of_le HXL2.out h))
  have z0 := HX.out.cell 0
  have y0 := HX.out.free 0
  simp only [List.getElem?_cons_zero] at z0
  clear hr hb x0 x1 x2
  go_wp2_with fail
  refine bodyPost_ret (v := .tuple #[.agg #[.slice ra out.length rcap], .int .i64 0]) ?_ rfl ⟨_, rfl, ?_, HB.out.setCell (p := ⟨w.heap.size, 0, none⟩) (Nat.le_refl _) _⟩
  ·have hbx : BoxV w.heap.size 24 [.slice ra out.length rcap] (w3.setCell ⟨w.heap.size, 0, none⟩ (.slice ra out.length rcap)) := heap_setCell_same w3 w.heap.size 0 _ _ _ HX.out
   have q0 := hbx.cell 0
   simp only [List.getElem?_cons_zero] at q0
   simp [results, Tryd.results4, go_sem, q0]
  ·exact (HR.out.keep (fun g hg _ => Below.heap_setCell w3 ⟨w.heap.size, 0, none⟩ _ g (by show g ≠ w.heap.size; omega))).mono (fun g hg _ => Nat.le_of_lt hg)
 ·have tm : ((top : Int) != -1) = true := bne_iff_ne.2 (by omega)
  have tm2 : ((top : Int) == -1) = false := beq_false_of_ne (by omega)
  have hlt : ¬ (top : Int) < (n : Int) := by omega
  clear h2 h3
  go_enter Tryd.func4, Tryd.ntmps4
  go_upto_region 1 with fail
  generalize hW : World.alloc w _ = w1
  obtain ⟨hbx, -, hz1, hb1⟩ := alloc_of hW
  have HX := Lib.hid (show BoxV w.heap.size 24 [.slice none 0 0] w1 from hbx)
  have HB := Lib.hid hb1
  clear hW hbx hz1 hb1
  go_upto_region 6 with fail
  generalize hW : World.alloc w1 _ = w2
  obtain ⟨hbx, -, hz1, hb1⟩ := alloc_of hW
  have HY := Lib.hid (show BoxV w1.heap.size 33 [.int .i64 (n : Int), .int .i64 (top : Int), .int .i64 (top : Int)] w2 from hbx)
  have HXL := Lib.hid HX.out.lt
  replace HX := Lib.hid (HX.out.below hb1)
  replace HB := Lib.hid (HB.out.trans (hb1.mono HB.out.size))
  have x0 := HY.out.cell 0
  have x1 := HY.out.cell 1
  have x2 := HY.out.cell 2
  simp only [List.getElem?_cons_zero, List.getElem?_cons_succ] at x0 x1 x2
  clear hW hbx hz1 hb1
  go_wp2_with fail
  refine (HC.out w2 HB.out).mono ?_
  rintro e w3 ⟨v', rfl, hr, hb⟩
  obtain ⟨ra, rcap, rfl, -⟩ := hr.form
  have HXL2 := Lib.hid HX.out.lt
  replace HX := Lib.hid (HX.out.below hb)
  replace HB := Lib.hid (HB.out.trans (hb.mono HB.out.size))
  have HR := Lib.hid (hr.mono (M := fun g => w.heap.size < g) (fun g h _ => Nat.lt_of_lt_of_le HXL2.out h))
  have z0 := HX.out.cell 0
  have y0 := HX.out.free 0
  simp only [List.getElem?_cons_zero] at z0
  clear hr hb x0 x1 x2
  go_wp2_with fail
  refine bodyPost_ret (v := .tuple #[.agg #[.slice ra out.length rcap], .int .i64 0]) ?_ rfl ⟨_, rfl, ?_, HB.out.setCell (p := ⟨w.heap.size, 0, none⟩) (Nat.le_refl _) _⟩
  ·have hbx : BoxV w.heap.size 24 [.slice ra out.length rcap] (w3.setCell ⟨w.heap.size, 0, none⟩ (.slice ra out.length rcap)) := heap_setCell_same w3 w.heap.size 0 _ _ _ HX.out
   have q0 := hbx.cell 0
   simp only [List.getElem?_cons_zero] at q0
   simp [results, Tryd.results4, go_sem, q0]
  ·exact (HR.out.keep (fun g hg _ => Below.heap_setCell w3 ⟨w.heap.size, 0, none⟩ _ g (by show g ≠ w.heap.size; omega))).mono (fun g hg _ => Nat.le_of_lt hg)
end Go.Proofs.YtpkecepelcppiaaDoor

namespace Go.Proofs.YtpkecepelcppiaaDoor
open Go.RowKit Go.Shelf
set_option maxHeartbeats 4000000
set_option maxRecDepth 100000

theorem CountsX_any (mn mx : Int) (s : ByteArray) (w : World) (hE : Env w) (hT : TabP w) :
  Calls Tryd.prog 3 #[.int .i64 mn, .int .i64 mx, .string s] w fun e w' => e = .returned (.bool true) ∧ Below w.heap.size w w' := by
 have HE := Lib.hid hE
 have HT := Lib.hid hT
 have HAW := Lib.hid (fun w' h => awakeF w' h)
 clear hE hT
 by_cases hb0 : bndE mn mx = 0
 case neg =>
  have HL := Lib.hid (fun w' => fLength_err mn mx hb0 w')
  have tb : (bndE mn mx != 0) = true := bne_iff_ne.2 hb0
  clear hb0
  generalize bndE mn mx = R at *
  go_enter Tryd.func3, Tryd.ntmps3
  go_wp2_with fail
  refine (HL.out w).mono ?_
  rintro e w3 ⟨rfl, hb⟩
  have HB := Lib.hid hb
  clear hb
  go_upto_region 2 with fail
  generalize hW : World.alloc w3 _ = w4
  obtain ⟨-, -, -, hb1⟩ := alloc_of hW
  replace HB := Lib.hid (HB.out.trans (hb1.mono HB.out.size))
  clear hW hb1
  go_wp2_with fail
  refine (HAW.out w4 (HE.out.below HB.out)).mono ?_
  rintro e w5 ⟨rfl, hb⟩
  replace HB := Lib.hid (HB.out.trans (hb.mono HB.out.size))
  clear hb
  go_wp2_with fail
  go_ret
  exact ⟨rfl, HB.out⟩
 case pos =>
  obtain ⟨n, rfl, hn, htop⟩ := bnd_ok hb0
  obtain ⟨-, hval, hacc⟩ := len_sem hn htop
  have HL := Lib.hid (fun w' (h : TabP w') => fLength_ok n mx hn htop w' h)
  clear hb0 htop hn
  by_cases hlen : (1000 : Int) < s.size
  ·clear hacc hval
   go_enter Tryd.func3, Tryd.ntmps3
   go_wp2_with fail
   refine (HL.out w HT.out).mono ?_
   rintro e w3 ⟨v, rfl, hr, hb⟩
   obtain ⟨ra, rcap, rfl, -⟩ := hr.form
   have HB := Lib.hid hb
   clear hb hr
   go_upto_region 2 with fail
   generalize hW : World.alloc w3 _ = w4
   obtain ⟨-, -, -, hb1⟩ := alloc_of hW
   replace HB := Lib.hid (HB.out.trans (hb1.mono HB.out.size))
   clear hW hb1
   go_wp2_with fail
   refine (HAW.out w4 (HE.out.below HB.out)).mono ?_
   rintro e w5 ⟨rfl, hb⟩
   replace HB := Lib.hid (HB.out.trans (hb.mono HB.out.size))
   clear hb
   go_wp2_with fail
   go_ret
   exact ⟨rfl, HB.out⟩
  have hs : s.size ≤ 1000000 := by omega
  have HA := Lib.hid (fun (N : Nat → Prop) v w' (hr : RdS N w' v (lenA n mx)) => Accepts_any N _ v s w' hr hval hs)
  rw [hacc] at HA
  have HC := Lib.hid (fun w' => Count_any s w' hs)
  unfold cntI at HC
  clear hacc hval
  obtain ⟨c, hc⟩ : ∃ c, c = (cntRun (0, 0) (L s)).1 := ⟨_, rfl⟩
  obtain ⟨k, hk⟩ : ∃ k, k = (cntRun (0, 0) (L s)).2 := ⟨_, rfl⟩
  rw [← hc, ← hk] at HA HC
  clear hc hk hs
  obtain ⟨I, hI⟩ : ∃ I, I = if k = 0 then (c : Int) else -1 := ⟨_, rfl⟩
  obtain ⟨rb, hrb⟩ : ∃ b, b = okCnt n mx c k := ⟨_, rfl⟩
  rw [← hI] at HC
  rw [← hrb] at HA
  have HI := Lib.hid hI
  have HRB := Lib.hid hrb
  clear hI hrb
  go_enter Tryd.func3, Tryd.ntmps3
  go_wp2_with fail
  refine (HL.out w HT.out).mono ?_
  rintro e w3 ⟨v, rfl, hr, hb⟩
  obtain ⟨ra, rcap, rfl, -⟩ := hr.form
  have HB := Lib.hid hb
  have HR := Lib.hid hr
  clear hb hr
  go_upto_region 2 with fail
  generalize hW : World.alloc w3 _ = w4
  obtain ⟨hbx, -, -, hb1⟩ := alloc_of hW
  have HX := Lib.hid (show BoxV w3.heap.size 24 [.slice ra (lenA n mx).length rcap] w4 from hbx)
  replace HR := Lib.hid (HR.out.stay hb1)
  replace HB := Lib.hid (HB.out.trans (hb1.mono HB.out.size))
  clear hW hb1 hbx
  generalize (lenA n mx).length = ln at *
  go_wp2_with fail
  refine (HC.out w4).mono ?_
  rintro e w5 ⟨rfl, hb⟩
  replace HX := Lib.hid (HX.out.below hb)
  replace HR := Lib.hid (HR.out.stay hb)
  replace HB := Lib.hid (HB.out.trans (hb.mono HB.out.size))
  clear hb
  have x0 := HX.out.cell 0
  simp only [List.getElem?_cons_zero] at x0
  go_wp2_with fail
  refine (HA.out _ _ _ HR.out).mono ?_
  rintro e w6 ⟨rfl, hb⟩
  replace HB := Lib.hid (HB.out.trans (hb.mono HB.out.size))
  clear hb x0
  have HAE := Lib.hid (fun w' (hb : Below w6.heap.size w6 w') => HB.out.trans (hb.mono HB.out.size))
  by_cases hk0 : k = 0
  ·have hIc : I = (c : Int) := by rw [HI.out, if_pos hk0]
   subst hIc
   have hge : (0 : Int) ≤ (c : Int) := by omega
   by_cases hnc : n ≤ c
   ·have hnci : (n : Int) ≤ (c : Int) := by omega
    by_cases hm : mx = -1
    ·have hrb : rb = true := by rw [HRB.out]; unfold okCnt; rw [decide_eq_true hk0, decide_eq_true hnc, decide_eq_true hm]; rfl
     subst hrb
     have tm : (mx == -1) = true := by rw [hm]; rfl
     clear hm hnc hk0
     go_wp2_with fail
     refine (HAW.out w6 (HE.out.below HB.out)).mono ?_
     rintro e w7 ⟨rfl, hb⟩
     have HB2 := Lib.hid (HAE.out w7 hb)
     clear hb
     go_wp2_with fail
     go_ret
     exact ⟨rfl, HB2.out⟩
    ·have tm : (mx == -1) = false := beq_false_of_ne hm
     by_cases hcm : (c : Int) ≤ mx
     ·have hrb : rb = true := by rw [HRB.out]; unfold okCnt; rw [decide_eq_true hk0, decide_eq_true hnc, decide_eq_true hcm, Bool.or_true]; rfl
      subst hrb
      clear hm hnc hk0
      go_wp2_with fail
      refine (HAW.out w6 (HE.out.below HB.out)).mono ?_
      rintro e w7 ⟨rfl, hb⟩
      have HB2 := Lib.hid (HAE.out w7 hb)
      clear hb
      go_wp2_with fail
      go_ret
      exact ⟨rfl, HB2.out⟩
     ·have hrb : rb = false := by rw [HRB.out]; unfold okCnt; rw [decide_eq_false hcm, decide_eq_false hm, Bool.or_false, Bool.and_false]
      subst hrb
      have hcf : ((c : Int) ≤ mx) = False := eq_false hcm
      clear hm hnc hk0 hcm
      go_wp2_with fail
      refine (HAW.out w6 (HE.out.below HB.out)).mono ?_
      rintro e w7 ⟨rfl, hb⟩
      have HB2 := Lib.hid (HAE.out w7 hb)
      clear hb
      go_wp2_with fail
      go_ret
      exact ⟨rfl, HB2.out⟩
   ·have hnci : ¬ (n : Int) ≤ (c : Int) := by omega
    have hrb : rb = false := by rw [HRB.out]; unfold okCnt; rw [decide_eq_false hnc, Bool.and_false, Bool.false_and]
    subst hrb
    clear hnc hk0
    go_wp2_with fail
    refine (HAW.out w6 (HE.out.below HB.out)).mono ?_
    rintro e w7 ⟨rfl, hb⟩
    have HB2 := Lib.hid (HAE.out w7 hb)
    clear hb
    go_wp2_with fail
    go_ret
    exact ⟨rfl, HB2.out⟩
  ·have hIc : I = -1 := by rw [HI.out, if_neg hk0]
   subst hIc
   have hrb : rb = false := by rw [HRB.out]; unfold okCnt; rw [decide_eq_false hk0, Bool.false_and, Bool.false_and]
   subst hrb
   clear hk0
   go_wp2_with fail
   refine (HAW.out w6 (HE.out.below HB.out)).mono ?_
   rintro e w7 ⟨rfl, hb⟩
   have HB2 := Lib.hid (HAE.out w7 hb)
   clear hb
   go_wp2_with fail
   go_ret
   exact ⟨rfl, HB2.out⟩
end Go.Proofs.YtpkecepelcppiaaDoor
