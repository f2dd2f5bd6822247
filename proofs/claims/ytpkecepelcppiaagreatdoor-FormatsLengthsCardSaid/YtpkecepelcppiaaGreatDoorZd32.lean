/- regex.Parse walked. Conditions: texts of at most 10^8 bytes; the variables of strconv read as laid. -/
import Derived.Test.YtpkecepelcppiaaGreatDoorZd31
import Derived.Test.YtpkecepelcppiaaGreatDoorZd3
import Derived.Recover
import Derived.Defers
namespace Go.Proofs.YtpkecepelcppiaaGreatDoor
open Go.RowKit Go.Shelf
set_option maxHeartbeats 4000000
set_option maxRecDepth 100000

theorem prefix_step (g : Nat) (s : ByteArray) (dp : Nat) (P R : List UInt8 → Option (RX × List UInt8)) (hs : s.size ≤ 1000000000)
  (hpost : ∀ l w, PrsL g s l dp w → EnvG g w → Calls Tryz.prog 128 #[.pointer (some ⟨g, 0, none⟩)] w (OkQ g w (P l) s dp))
  (hpre : dp = 96 ∨ (dp + 1 ≤ 96 ∧ ∀ l w, PrsL g s l (dp + 1) w → EnvG g w → Calls Tryz.prog 97 #[.pointer (some ⟨g, 0, none⟩)] w (OkQ g w (R l) s (dp + 1))))
  (l : List UInt8) (w : World) (h : PrsL g s l dp w) (he : EnvG g w) :
  Calls Tryz.prog 97 #[.pointer (some ⟨g, 0, none⟩)] w (OkQ g w (if tkR 33 l then (if dp = 96 then none else (R l.tail).map fun x => (sngR 7 x.1, x.2)) else P l) s dp) := by
 have HS := Lib.hid hs
 have HA0 := Lib.hid (AtS.start h he)
 have HPOST := Lib.hid hpost
 have HPRE := Lib.hid hpre
 obtain ⟨O, hO⟩ : ∃ O, O = (if tkR 33 l then (if dp = 96 then none else (R l.tail).map fun x => (sngR 7 x.1, x.2)) else P l) := ⟨_, rfl⟩
 rw [← hO]
 have HO := Lib.hid hO
 clear hs h he hpost hpre hO
 go_enter Tryz.func97, Tryz.ntmps97
 go_upto_region 1 with fail
 generalize World.alloc w _ = w1 at *
 go_wp2_with fail
 refine (take_l 33 g s l dp w1 HA0.out.1 HS.out).mono ?_
 rintro e w2 ⟨rfl, hx, hk⟩
 have HA := Lib.hid (HA0.out.go hk hx)
 clear hk hx HA0
 cases htk : tkR 33 l with
 | false =>
  rw [htk, tailIf_f] at HA
  rw [htk, if_neg (by simp)] at HO
  clear htk HPRE
  go_wp2_with fail
  refine (HPOST.out l w2 HA.out.1 HA.out.2.1).mono ?_
  rintro e w3 ⟨hk, hx⟩
  cases hp : P l with
  | none =>
   rw [hp] at hx HO
   obtain ⟨v, rfl⟩ := hx
   replace HA := Lib.hid (HA.out.2.2.1.trans hk)
   clear hk hp
   go_wp2_with fail
   rw [HO.out]
   exact ⟨rfl, HA.out, v, rfl⟩
  | some x =>
   obtain ⟨p, r⟩ := x
   rw [hp] at hx HO
   obtain ⟨c, rfl, hc, hx⟩ := hx
   have hsz := HA.out.2.2.2.1.lt
   have HQ := Lib.hid (hc.mono (M := fun b => w.heap.size < b) (fun x h1 h2 => by omega))
   replace HA := Lib.hid (HA.out.go hk hx)
   dsimp only at HA HQ
   clear hk hx hp hc hsz
   obtain ⟨qa, qcap, hqa⟩ := HQ.out.rd.forms
   generalize p.args.length = pn at *
   obtain ⟨q0, q1, q2, q3, q4, q5⟩ := c
   simp only at hqa
   subst hqa
   simp only [aggP]
   obtain ⟨k0, k1, k2, k3, k4, k5⟩ := HA.out.2.2.2.1.free
   obtain ⟨r0, r1, r2, r3, r4, r5⟩ := HA.out.2.2.2.1.cells
   simp only at r0 r1 r2 r3 r4 r5
   go_wp2_with fail
   generalize hW : World.setCell _ _ _ = w9
   obtain ⟨hbx, hok⟩ := HA.out.fin (d := ⟨q0, q1, q2, q3, q4, .slice qa pn qcap⟩) HQ.out hW
   obtain ⟨s0, s1, s2, s3, s4, s5⟩ := hbx.cells
   refine bodyPost_ret (v := aggP ⟨q0, q1, q2, q3, q4, .slice qa pn qcap⟩) (by simp only at s0 s1 s2 s3 s4 s5; simp [results, Tryz.results97, go_sem, s0, s1, s2, s3, s4, s5]) rfl ?_
   rw [HO.out]
   exact hok
 | true =>
  rw [htk, tailIf_t] at HA
  rw [htk, if_pos rfl] at HO
  clear htk HPOST
  generalize l.tail = t at *
  go_wp2_with fail
  refine (enter_l g s t dp w2 HA.out.1 (by rcases HPRE.out with h | h <;> omega)).mono ?_
  rintro e w4 ⟨hk, hx⟩
  rcases HPRE.out with hd | ⟨hd, hpre⟩
  ·rw [decide_eq_false (by omega), if_neg (by simp)] at hx
   rw [if_pos hd] at HO
   obtain ⟨v, rfl⟩ := hx
   replace HA := Lib.hid (HA.out.2.2.1.trans hk)
   clear hk hd HPRE
   go_wp2_with fail
   rw [HO.out]
   exact ⟨rfl, HA.out, v, rfl⟩
  ·rw [decide_eq_true (by omega), if_pos rfl] at hx
   rw [if_neg (by omega)] at HO
   obtain ⟨rfl, hx⟩ := hx
   replace HA := Lib.hid (HA.out.go hk hx)
   have HC := Lib.hid (hpre t w4 HA.out.1 HA.out.2.1)
   clear hk hx hpre HPRE
   go_wp2_with fail
   refine HC.out.mono ?_
   rintro e w5 ⟨hk, hx⟩
   cases hp : R t with
   | none =>
    rw [hp] at hx HO
    obtain ⟨v, rfl⟩ := hx
    replace HA := Lib.hid (HA.out.2.2.1.trans hk)
    clear hk hp
    go_wp2_with fail
    rw [HO.out]
    exact ⟨rfl, HA.out, v, rfl⟩
   | some x =>
    obtain ⟨p, r⟩ := x
    rw [hp] at hx HO
    obtain ⟨c, rfl, hc, hx⟩ := hx
    have hsz := HA.out.2.2.2.1.lt
    have HQ := Lib.hid (hc.mono (M := fun b => (w.heap.size < b ∧ b ≠ g) ∧ b < w5.heap.size) (fun x h1 h2 => by have := HA.out.2.2.2.2; omega))
    replace HA := Lib.hid (HA.out.go hk hx)
    dsimp only at HA HQ
    clear hk hx hp hc hsz HC
    obtain ⟨qa, qcap, hqa⟩ := HQ.out.rd.forms
    generalize p.args.length = pn at *
    obtain ⟨q0, q1, q2, q3, q4, q5⟩ := c
    simp only at hqa
    subst hqa
    simp only [aggP]
    obtain ⟨c2, hfz⟩ : w5.cell? ⟨g, 2, none⟩ = some (.int .i64 ((dp : Int) + 1)) ∧ w5.frozen? ⟨g, 2, none⟩ = false := by
     obtain ⟨i, h1, h2, h3⟩ := HA.out.1
     exact ⟨(row3 h3).2.2, Lib.frozen_of_heap h3 2⟩
    have hlt5 := HA.out.2.2.2.1.lt
    go_upto_region 5 with fail
    generalize hW1 : World.alloc w5 _ = w6
    obtain ⟨ha, -, hz, hb⟩ := alloc_of hW1
    have HM := Lib.hid (show BoxP w5.heap.size ⟨q0, q1, q2, q3, q4, .slice qa pn qcap⟩ w6 from ha)
    replace HA := Lib.hid (HA.out.below hb)
    replace HQ := Lib.hid (HQ.out.stay hb)
    generalize hW2 : World.alloc w6 _ = w7
    obtain ⟨ha2, -, hz2, hb2⟩ := alloc_of hW2
    rw [hz] at ha2
    have HB := Lib.hid (show BoxP (w5.heap.size + 1) ⟨7, 0, 0, 0, 0, .slice (some ⟨w5.heap.size, 0, none⟩) 1 1⟩ w7 from ha2)
    have HM7 := Lib.hid (HM.out.below hb2)
    replace HA := Lib.hid (HA.out.below hb2)
    replace HQ := Lib.hid (HQ.out.stay hb2)
    have HZ : Hid (w5.heap.size + 1 ≠ g ∧ w5.heap.size ≠ g ∧ w.heap.size < w5.heap.size) := ⟨by have := HA.out.2.2.2.2; omega, by have := HA.out.2.2.2.2; omega, hlt5⟩
    have HN := Lib.hid (sng_rd (op := 7) (lo := 0) (hi := 0) (mn := 0) (mx := 0) (N := fun b => w.heap.size < b ∧ b ≠ g) (HQ.out.mono (fun x h _ => h.1)) HM7.out ⟨HZ.out.2.2, HZ.out.2.1⟩)
    clear hW1 ha hz hb hW2 ha2 hz2 hb2 HM HM7 HQ hlt5
    obtain ⟨c2', hfz'⟩ : w7.cell? ⟨g, 2, none⟩ = some (.int .i64 ((dp : Int) + 1)) ∧ w7.frozen? ⟨g, 2, none⟩ = false := by
     obtain ⟨i, h1, h2, h3⟩ := HA.out.1
     exact ⟨(row3 h3).2.2, Lib.frozen_of_heap h3 2⟩
    clear c2 hfz
    have hdp : dp ≤ 1000 := by omega
    go_upto_region 6 with fail
    generalize hW : World.setCell w7 _ _ = w8
    obtain ⟨ha, hk⟩ := HA.out.dec hW
    replace HA := Lib.hid ha
    replace HB := Lib.hid (HB.out.pk hk HZ.out.1)
    replace HN := Lib.hid (HN.out.keep (w' := w8) (fun b hb hl => hk.keep b hb.2 hl))
    clear hW ha hk c2' hfz'
    obtain ⟨k0, k1, k2, k3, k4, k5⟩ := HA.out.2.2.2.1.free
    obtain ⟨r0, r1, r2, r3, r4, r5⟩ := HA.out.2.2.2.1.cells
    obtain ⟨t0, t1, t2, t3, t4, t5⟩ := HB.out.cells
    simp only at r0 r1 r2 r3 r4 r5 t0 t1 t2 t3 t4 t5
    go_wp2_with fail
    generalize hW : World.setCell _ _ _ = w9
    obtain ⟨hbx, hok⟩ := HA.out.fin (d := ⟨7, 0, 0, 0, 0, .slice (some ⟨w5.heap.size, 0, none⟩) 1 1⟩) (HN.out.mono (fun b h _ => h.1)) hW
    obtain ⟨s0, s1, s2, s3, s4, s5⟩ := hbx.cells
    refine bodyPost_ret (v := aggP ⟨7, 0, 0, 0, 0, .slice (some ⟨w5.heap.size, 0, none⟩) 1 1⟩) (by simp only at s0 s1 s2 s3 s4 s5; simp [results, Tryz.results97, go_sem, s0, s1, s2, s3, s4, s5]) rfl ?_
    rw [HO.out]
    exact hok
theorem infix4_l (g : Nat) (s : ByteArray) (dp : Nat) (P : List UInt8 → Option (RX × List UInt8))
  (hpre : ∀ l w, PrsL g s l dp w → EnvG g w → Calls Tryz.prog 97 #[.pointer (some ⟨g, 0, none⟩)] w (OkQ g w (P l) s dp))
  (l : List UInt8) (w : World) (h : PrsL g s l dp w) (he : EnvG g w) :
  Calls Tryz.prog 66 #[.pointer (some ⟨g, 0, none⟩), .int .i64 4] w (OkQ g w (P l) s dp) := by
 have HA0 := Lib.hid (AtS.start h he)
 have HPRE := Lib.hid hpre
 obtain ⟨O, hO⟩ : ∃ O, O = P l := ⟨_, rfl⟩
 rw [← hO]
 have HO := Lib.hid hO
 clear h he hpre hO
 go_enter Tryz.func66, Tryz.ntmps66
 go_upto_region 1 with fail
 generalize World.alloc w _ = w2 at *
 go_wp2_with fail
 refine (HPRE.out l w2 HA0.out.1 HA0.out.2.1).mono ?_
 rintro e w3 ⟨hk, hx⟩
 have HA := HA0
 clear HA0
 cases hp : P l with
 | none =>
  rw [hp] at hx HO
  obtain ⟨v, rfl⟩ := hx
  replace HA := Lib.hid (HA.out.2.2.1.trans hk)
  clear hk hp
  go_wp2_with fail
  rw [HO.out]
  exact ⟨rfl, HA.out, v, rfl⟩
 | some x =>
  obtain ⟨p, r⟩ := x
  rw [hp] at hx HO
  obtain ⟨c, rfl, hc, hx⟩ := hx
  have hsz := HA.out.2.2.2.1.lt
  have HQ := Lib.hid (hc.mono (M := fun b => w.heap.size < b) (fun x h1 h2 => by omega))
  replace HA := Lib.hid (HA.out.go hk hx)
  dsimp only at HA HQ
  clear hk hx hp hc hsz
  obtain ⟨qa, qcap, hqa⟩ := HQ.out.rd.forms
  generalize p.args.length = pn at *
  obtain ⟨q0, q1, q2, q3, q4, q5⟩ := c
  simp only at hqa
  subst hqa
  simp only [aggP]
  obtain ⟨k0, k1, k2, k3, k4, k5⟩ := HA.out.2.2.2.1.free
  obtain ⟨r0, r1, r2, r3, r4, r5⟩ := HA.out.2.2.2.1.cells
  simp only at r0 r1 r2 r3 r4 r5
  go_wp2_with fail
  generalize hW : World.setCell _ _ _ = w9
  obtain ⟨hbx, hok⟩ := HA.out.fin (d := ⟨q0, q1, q2, q3, q4, .slice qa pn qcap⟩) HQ.out hW
  obtain ⟨s0, s1, s2, s3, s4, s5⟩ := hbx.cells
  refine bodyPost_ret (v := aggP ⟨q0, q1, q2, q3, q4, .slice qa pn qcap⟩) (by simp only at s0 s1 s2 s3 s4 s5; simp [results, Tryz.results66, go_sem, s0, s1, s2, s3, s4, s5]) rfl ?_
  rw [HO.out]
  exact hok
theorem preP_tk0 (l : List UInt8) : preP pgP 0 l = if tkR 33 l then none else (atomP pgP none l).bind fun x => postP pgP 49 x.1 x.2 := by
 have h0 : (l.head? = some 33) = (tkR 33 l = true) := by unfold tkR; simp
 rw [preP]
 by_cases h : tkR 33 l = true
 ·rw [if_pos h, if_pos (h0 ▸ h)]
 ·rw [if_neg h, if_neg (h0 ▸ h)]
theorem preP_tk (n : Nat) (l : List UInt8) : preP pgP (n + 1) l = if tkR 33 l then (preP pgP n l.tail).map (fun x => (sngR 7 x.1, x.2)) else (atomP pgP (some (inf1 (preP pgP n))) l).bind fun x => postP pgP 49 x.1 x.2 := by
 have h0 : (l.head? = some 33) = (tkR 33 l = true) := by unfold tkR; simp
 rw [preP]
 by_cases h : tkR 33 l = true
 ·rw [if_pos h, if_pos (h0 ▸ h), List.drop_one]
 ·rw [if_neg h, if_neg (h0 ▸ h)]
theorem parser_all (g : Nat) (s : ByteArray) (hs : s.size ≤ 1000000000) : ∀ (n dp : Nat), dp + n = 96 →
  (∀ l w, PrsL g s l dp w → EnvG g w → Calls Tryz.prog 97 #[.pointer (some ⟨g, 0, none⟩)] w (OkQ g w (preP pgP n l) s dp))
  ∧ (∀ l w, PrsL g s l dp w → EnvG g w → Calls Tryz.prog 66 #[.pointer (some ⟨g, 0, none⟩), .int .i64 1] w (OkQ g w (inf1 (preP pgP n) l) s dp)) := by
 have key : ∀ (n dp : Nat), (∀ l w, PrsL g s l dp w → EnvG g w → Calls Tryz.prog 97 #[.pointer (some ⟨g, 0, none⟩)] w (OkQ g w (preP pgP n l) s dp)) →
   (∀ l w, PrsL g s l dp w → EnvG g w → Calls Tryz.prog 66 #[.pointer (some ⟨g, 0, none⟩), .int .i64 1] w (OkQ g w (inf1 (preP pgP n) l) s dp)) := by
  intro n dp hp
  have e0 := pre_eats n
  have i4 := infix4_l g s dp _ hp
  have i3 := infix_step3 none moreC3 _ e0 g s dp hs i4
  have e3 : Eats (inf3 (preP pgP n)) := inf_eats 3 _ e0
  have i2 := infix_step2 (some 38) (moreC1 38 2 (.inr ⟨rfl, rfl⟩)) _ e3 g s dp hs i3
  have e2 : Eats (inf2 (preP pgP n)) := inf_eats 6 _ e3
  exact infix_step1 (some 124) (moreC1 124 1 (.inl ⟨rfl, rfl⟩)) _ e2 g s dp hs i2
 intro n
 induction n with
 | zero =>
  intro dp hd
  have hp : ∀ l w, PrsL g s l dp w → EnvG g w → Calls Tryz.prog 97 #[.pointer (some ⟨g, 0, none⟩)] w (OkQ g w (preP pgP 0 l) s dp) := by
   intro l w h he
   have h1 := prefix_step g s dp (fun l => (atomP pgP none l).bind fun x => postP pgP 49 x.1 x.2) (fun _ => none) hs
    (fun l w h he => postfix_l g s l dp w (atomP pgP none) (fun w h he => atom_l g s l dp w none (.inl ⟨rfl, by omega⟩) h hs he) h hs he) (.inl (by omega)) l w h he
   rw [if_pos (show dp = 96 by omega)] at h1
   rw [preP_tk0]
   exact h1
  exact ⟨hp, key 0 dp hp⟩
 | succ n ih =>
  intro dp hd
  obtain ⟨ih1, ih2⟩ := ih (dp + 1) (by omega)
  have hp : ∀ l w, PrsL g s l dp w → EnvG g w → Calls Tryz.prog 97 #[.pointer (some ⟨g, 0, none⟩)] w (OkQ g w (preP pgP (n + 1) l) s dp) := by
   intro l w h he
   have h1 := prefix_step g s dp (fun l => (atomP pgP (some (inf1 (preP pgP n))) l).bind fun x => postP pgP 49 x.1 x.2) (preP pgP n) hs
    (fun l w h he => postfix_l g s l dp w (atomP pgP (some (inf1 (preP pgP n)))) (fun w h he => atom_l g s l dp w _ (.inr ⟨_, rfl, by omega, ih2⟩) h hs he) h hs he) (.inr ⟨by omega, ih1⟩) l w h he
   rw [if_neg (show ¬ dp = 96 by omega)] at h1
   rw [preP_tk]
   exact h1
  exact ⟨hp, key (n + 1) dp hp⟩
end Go.Proofs.YtpkecepelcppiaaGreatDoor

namespace Go.Proofs.YtpkecepelcppiaaGreatDoor
open Go.RowKit Go.Shelf
set_option maxHeartbeats 4000000
set_option maxRecDepth 100000

def BoxE (b : Nat) (x : Int) (w : World) : Prop := w.heap[b]? = some (.cells #[.int .i64 x] 35 (0, 0))
theorem BoxE.cell {b : Nat} {x : Int} {w : World} (h : BoxE b x w) : w.cell? ⟨b, 0, none⟩ = some (.int .i64 x) ∧ w.frozen? ⟨b, 0, none⟩ = false := ⟨(cell_of_row w b 0 _ _ (0, 0) h).trans rfl, Lib.frozen_of_heap h 0⟩
theorem BoxE.lt {b : Nat} {x : Int} {w : World} (h : BoxE b x w) : b < w.heap.size := (Array.getElem?_eq_some_iff.1 h).1
theorem BoxE.below {b : Nat} {x : Int} {w w' : World} (h : BoxE b x w) (hb : Below w.heap.size w w') : BoxE b x w' := (hb.block b h.lt).trans h
theorem BoxE.pk {g b : Nat} {x : Int} {w w' : World} (h : BoxE b x w) (hk : PK g w w') (hg : b ≠ g) : BoxE b x w' := (hk.keep b hg h.lt).trans h
def CaughtP (b1 b2 : Nat) (pv : Value) (u : TypeId) (w : World) (e : Ending) (u' : FrameMode) (w' : World) : Prop :=
 e = .returned (.tuple #[]) ∧ u' = .panicking [{ v := .iface u pv, recovered := true }] ∧ BoxP b1 ⟨0, 0, 0, 0, 0, .slice none 0 0⟩ w' ∧ BoxE b2 3 w' ∧ ∀ B, B ≤ b1 → B ≤ b2 → Below B w w'
theorem catch_pan (b1 : Nat) (c : PC) (x : Int) (u : TypeId) (pv : Value) (w : World) (h1 : BoxP b1 c w) (h2 : BoxE (b1 + 1) x w) :
  CallsD Tryz.prog 65 #[.pointer (some ⟨b1, 0, none⟩), .pointer (some ⟨b1 + 1, 0, none⟩)] (.panicking [{ v := .iface u pv, recovered := false }]) w (CaughtP b1 (b1 + 1) pv u w) := by
 have HP := Lib.hid h1
 have HE := Lib.hid h2
 obtain ⟨r0, r1, r2, r3, r4, r5⟩ := h1.cells
 obtain ⟨k0, k1, k2, k3, k4, k5⟩ := h1.free
 obtain ⟨q0, q1⟩ := h2.cell
 clear h1 h2
 refine callsD_of_wpS Tryz.func65 rfl fun c₀ cs hu => ?_
 apply wpS_seq
 apply wpS_region
 simp [wpOpsS, go_sem, recoverD, hu, Tryz.ntmps65, Exit.thenS]
 apply wpS_seq
 apply wpS_region
 simp [wpOpsS, go_sem, Exit.thenS]
 refine wpS_cond (t := true) (by simp [Act.eval, Array.replicate]) ?_
 simp only [if_true]
 refine wpS_of_wp ?_
 obtain ⟨R, hR⟩ : ∃ R, R = CaughtP b1 (b1 + 1) pv u w := ⟨_, rfl⟩
 rw [← hR]
 have HR := Lib.hid hR
 clear hR
 have HHU := Lib.hid hu
 clear hu
 change Code.wp _ _ _ { tmps := #[.pointer (some ⟨b1, 0, none⟩), .pointer (some ⟨b1 + 1, 0, none⟩), .iface u pv, .iface u pv, .iface u pv, .bool true, undef], defers := [] } w
 go_wp2_with fail
 generalize hW : World.setCell _ ⟨b1, 5, none⟩ _ = w4
 obtain ⟨hb1, hb2⟩ := HP.out.set (d := ⟨0, 0, 0, 0, 0, .slice none 0 0⟩) hW
 have hot := set6_other hW
 have hE4 : BoxE (b1 + 1) x w4 := (hot _ (by omega)).trans HE.out
 generalize hW2 : World.setCell w4 _ _ = w5
 have hE5 : BoxE (b1 + 1) 3 w5 := hW2 ▸ heap_setCell_same w4 (b1 + 1) 0 _ _ (.int .i64 3) hE4
 have hB5 : BoxP b1 ⟨0, 0, 0, 0, 0, .slice none 0 0⟩ w5 := hW2 ▸ (Below.heap_setCell w4 ⟨b1 + 1, 0, none⟩ (.int .i64 3) b1 (by show b1 ≠ b1 + 1; omega)).trans hb1
 refine ⟨rfl, _, rfl, .tuple #[], by simp [results, Tryz.results65, go_sem], ?_⟩
 rw [HR.out]
 exact ⟨rfl, rfl, hB5, hE5, fun B h1 h2 => hW2 ▸ (hb2.mono h1).setCell (p := ⟨b1 + 1, 0, none⟩) h2 _⟩
theorem catch_not (p q : Addr) (w : World) :
  CallsD Tryz.prog 65 #[.pointer (some p), .pointer (some q)] .returning w fun e u' w' => e = .returned (.tuple #[]) ∧ u' = .returning ∧ w' = w := by
 refine callsD_of_wpS Tryz.func65 rfl fun c₀ cs hu => ?_
 apply wpS_seq
 apply wpS_region
 simp [wpOpsS, go_sem, recoverD, hu, Tryz.ntmps65, Exit.thenS]
 apply wpS_seq
 apply wpS_region
 simp [wpOpsS, go_sem, Exit.thenS]
 refine wpS_cond (t := false) (by simp [Act.eval, Array.replicate]) ?_
 simp only [Bool.false_eq_true, if_false]
 refine wpS_of_wp (wp_skip ?_)
 cases c₀
 simp_all [bodyPostS, results, Tryz.results65]
def ParP (s : ByteArray) (w : World) (e : Ending) (w' : World) : Prop := Below w.heap.size w w' ∧ match parseR (L s) with
 | some p => ∃ c, e = .returned (.tuple #[aggP c, .int .i64 0]) ∧ RdQ (fun b => w.heap.size ≤ b) w' c p
 | none => e = .returned (.tuple #[aggP (zeroP 0), .int .i64 3])
theorem ParP.no {s : ByteArray} {w w' : World} (h : parseR (L s) = none) (hb : Below w.heap.size w w') : ParP s w (.returned (.tuple #[aggP (zeroP 0), .int .i64 3])) w' := by
 refine ⟨hb, ?_⟩
 rw [h]
theorem ParP.yes {s : ByteArray} {w w' : World} {p : RX} {c : PC} (h : parseR (L s) = some p) (hb : Below w.heap.size w w') (hc : RdQ (fun b => w.heap.size ≤ b) w' c p) : ParP s w (.returned (.tuple #[aggP c, .int .i64 0])) w' := by
 refine ⟨hb, ?_⟩
 rw [h]
 exact ⟨c, rfl, hc⟩
theorem parse_few {s : ByteArray} {p : RX} {r : List UInt8} (hs : s.size ≤ 100000000) (h : inf1 (preP pgP 96) (L s) = some (p, r)) : valR p = true → (showR 48 p).length ≤ 1000000000 := by
 intro hv
 have h1 := inf1_few 48 96 _ _ _ h
 rw [L_len] at h1
 have := text_le hv (by omega)
 omega
theorem Parse_any (s : ByteArray) (w : World) (hs : s.size ≤ 100000000) (he : Env w) : Calls Tryz.prog 44 #[.string s] w (ParP s w) := by
 have hmf : ∀ (fn : Fn) (first cap : Array Value) (w : World), (Instr.makeFunc fn first cap).run Tryz.prog w = .ok (.func fn first cap) w := fun _ _ _ _ => rfl
 have HS := Lib.hid hs
 have HEN := Lib.hid he
 clear hs he
 go_enter_defers Tryz.func44, Tryz.ntmps44
 go_upto_region 3 with fail
 generalize hW1 : World.alloc w _ = w1
 obtain ⟨ha1, -, hz1, hb1⟩ := alloc_of hW1
 generalize hW2 : World.alloc w1 _ = w2
 obtain ⟨ha2, -, hz2, hb2⟩ := alloc_of hW2
 generalize hW3 : World.alloc w2 _ = w3
 obtain ⟨ha3, -, hz3, hb3⟩ := alloc_of hW3
 rw [hz1] at ha2
 rw [hz2, hz1] at ha3
 have hb13 : Below w1.heap.size w1 w3 := hb2.trans (hb3.mono hb2.size)
 have HBL := Lib.hid (hb1.trans (hb13.mono hb1.size))
 have HB := Lib.hid (show BoxP w.heap.size ⟨0, 0, 0, 0, 0, .slice none 0 0⟩ w3 from (hb13.block _ (by omega)).trans ha1)
 have HE := Lib.hid (show BoxE (w.heap.size + 1) 0 w3 from (hb3.block _ (by omega)).trans ha2)
 have HP := Lib.hid (show PrsL (w.heap.size + 1 + 1) s (L s) 0 w3 from ⟨0, Nat.zero_le _, by rw [List.drop_zero], ha3⟩)
 have HEG := Lib.hid (show EnvG (w.heap.size + 1 + 1) w3 from ⟨w, HEN.out, by omega, HBL.out⟩)
 have HC := Lib.hid ((parser_all (w.heap.size + 1 + 1) s (by have := HS.out; omega) 96 0 rfl).2 (L s) w3 HP.out HEG.out)
 clear hW1 hW2 hW3 ha1 ha2 ha3 hz1 hz2 hz3 hb1 hb2 hb3 hb13 hmf
 go_wp2_with fail
 refine HC.out.mono ?_
 rintro e w4 ⟨hk, hx⟩
 have hlt3 := HP.out.lt
 replace HB := Lib.hid (HB.out.pk hk (by omega))
 replace HE := Lib.hid (HE.out.pk hk (by omega))
 replace HBL := Lib.hid (HBL.out.trans (hk.bel.mono (by omega)))
 cases hi : inf1 (preP pgP 96) (L s) with
 | none =>
  rw [hi] at hx
  obtain ⟨v, rfl⟩ := hx
  have HPN : Hid (parseR (L s) = none) := by unfold Hid parseR; rw [hi]
  clear hk hi HC HP HEG HEN
  go_wp2_with fail
  refine leaves_cons (f := 65) (args := #[.pointer (some ⟨w.heap.size, 0, none⟩), .pointer (some ⟨w.heap.size + 1, 0, none⟩)]) (by simp) (by simp [go_sem]) ?_
  refine (catch_pan w.heap.size _ _ _ _ _ HB.out HE.out).mono ?_
  rintro e u' w'' ⟨rfl, rfl, hb, he, hbel⟩
  obtain ⟨s0, s1, s2, s3, s4, s5⟩ := hb.cells
  obtain ⟨t0, -⟩ := he.cell
  simp only at s0 s1 s2 s3 s4 s5
  have hfin := ParP.no HPN.out (HBL.out.trans ((hbel w.heap.size (Nat.le_refl _) (Nat.le_succ _))))
  simp [Leaves, settle, results, Tryz.results44, go_sem, s0, s1, s2, s3, s4, s5, t0]
  exact hfin
 | some x =>
  obtain ⟨p, r⟩ := x
  rw [hi] at hx
  obtain ⟨c, rfl, hc, hx⟩ := hx
  dsimp only at hx hc
  have HHI := Lib.hid hi
  have HQ := Lib.hid (hc.mono (M := fun b => w.heap.size + 1 + 1 < b) (fun b h1 h2 => by omega))
  obtain ⟨qa, qcap, hqa⟩ := HQ.out.rd.forms
  have HPL := Lib.hid hx
  have HTX := Lib.hid (fun w' (h : RdP w' c p) => Text_any p c w' h (parse_few HS.out HHI.out))
  have HG0 := Lib.hid (show w.heap.size + 1 + 1 < w4.heap.size from hx.lt)
  generalize p.args.length = pn at *
  clear hk hi HC HP HEG HEN hx hc hlt3
  obtain ⟨q0, q1, q2, q3, q4, q5⟩ := c
  simp only at hqa
  subst hqa
  simp only [aggP]
  obtain ⟨k0, k1, k2, k3, k4, k5⟩ := HB.out.free
  obtain ⟨r0, r1, r2, r3, r4, r5⟩ := HB.out.cells
  simp only at r0 r1 r2 r3 r4 r5
  go_upto_region 4 with fail
  generalize hW : World.setCell _ _ _ = w5
  obtain ⟨hb1, hb2⟩ := HB.out.set (d := ⟨q0, q1, q2, q3, q4, .slice qa pn qcap⟩) hW
  have hot := set6_other hW
  replace HB := Lib.hid hb1
  replace HE := Lib.hid (show BoxE (w.heap.size + 1) 0 w5 from (hot _ (by omega)).trans HE.out)
  replace HQ := Lib.hid (HQ.out.keep (w' := w5) (fun x hx _ => hot x (by omega)))
  replace HPL := Lib.hid (HPL.out.keep (hot _ (by omega)))
  replace HBL := Lib.hid (HBL.out.trans hb2)
  clear hW hb1 hb2 hot k0 k1 k2 k3 k4 k5 r0 r1 r2 r3 r4 r5
  obtain ⟨i, hi1, hi2, hi3⟩ := HPL.out
  obtain ⟨c0, c1, c2⟩ := row3 hi3
  obtain ⟨r0, r1, r2, r3, r4, r5⟩ := HB.out.cells
  simp only at r0 r1 r2 r3 r4 r5
  clear hi3
  by_cases hlt : i < s.size
  ·have hlti : (i : Int) < s.size := by omega
   have HPN : Hid (parseR (L s) = none) := by
    unfold Hid parseR
    rw [HHI.out]
    dsimp only
    rw [if_pos (.inl (by rw [hi2]; intro h; have := congrArg List.length h; rw [List.length_drop, L_len, List.length_nil] at this; omega))]
   clear hi1 hi2 hlt HTX
   go_wp2_with fail
   refine leaves_cons (f := 65) (args := #[.pointer (some ⟨w.heap.size, 0, none⟩), .pointer (some ⟨w.heap.size + 1, 0, none⟩)]) (by simp) (by simp [go_sem]) ?_
   refine (catch_pan w.heap.size _ _ _ _ _ HB.out HE.out).mono ?_
   rintro e u' w'' ⟨rfl, rfl, hb, he, hbel⟩
   obtain ⟨s0, s1, s2, s3, s4, s5⟩ := hb.cells
   obtain ⟨t0, -⟩ := he.cell
   simp only at s0 s1 s2 s3 s4 s5
   have hfin := ParP.no HPN.out (HBL.out.trans ((hbel w.heap.size (Nat.le_refl _) (Nat.le_succ _))))
   simp [Leaves, settle, results, Tryz.results44, go_sem, s0, s1, s2, s3, s4, s5, t0]
   exact hfin
  ·have hge : ¬ (i : Int) < s.size := by omega
   have hr : r = [] := by rw [hi2]; exact L_drop_nil s i (by omega)
   subst hr
   clear hi1 hi2 hlt
   go_wp2_with fail
   refine (HTX.out w5 HQ.out.rd).mono ?_
   rintro e w6 ⟨rfl, hb⟩
   replace HB := Lib.hid (HB.out.below hb)
   replace HE := Lib.hid (HE.out.below hb)
   replace HQ := Lib.hid (HQ.out.stay hb)
   replace HBL := Lib.hid (HBL.out.trans (hb.mono HBL.out.size))
   clear hb c0 c1 c2 r0 r1 r2 r3 r4 r5 HTX HPL
   by_cases ht : textR p = L s
   case neg =>
    have e1 : (textR p == s.toList) = false := by rw [toList_L]; exact beq_false_of_ne ht
    have HPN : Hid (parseR (L s) = none) := by
     unfold Hid parseR
     rw [HHI.out]
     dsimp only
     rw [if_pos (.inr (.inl ht))]
    clear ht
    go_wp2_with fail
    refine leaves_cons (f := 65) (args := #[.pointer (some ⟨w.heap.size, 0, none⟩), .pointer (some ⟨w.heap.size + 1, 0, none⟩)]) (by simp) (by simp [go_sem]) ?_
    refine (catch_pan w.heap.size _ _ _ _ _ HB.out HE.out).mono ?_
    rintro e u' w'' ⟨rfl, rfl, hb, he, hbel⟩
    obtain ⟨s0, s1, s2, s3, s4, s5⟩ := hb.cells
    obtain ⟨t0, -⟩ := he.cell
    simp only at s0 s1 s2 s3 s4 s5
    have hfin := ParP.no HPN.out (HBL.out.trans ((hbel w.heap.size (Nat.le_refl _) (Nat.le_succ _))))
    simp [Leaves, settle, results, Tryz.results44, go_sem, s0, s1, s2, s3, s4, s5, t0]
    exact hfin
   case pos =>
    have e1 : (textR p == s.toList) = true := by rw [toList_L, ht]; exact beq_self_eq_true _
    by_cases h0 : L s = []
    case pos =>
     have e2 : s.toList.isEmpty = true := by rw [toList_L, h0]; rfl
     have e3 : s.toList = [] := by rw [toList_L, h0]
     have HPN : Hid (parseR (L s) = none) := by
      unfold Hid parseR
      rw [HHI.out]
      dsimp only
      rw [if_pos (.inr (.inr h0))]
     clear ht h0
     go_wp2_with fail
     all_goals
      refine leaves_cons (f := 65) (args := #[.pointer (some ⟨w.heap.size, 0, none⟩), .pointer (some ⟨w.heap.size + 1, 0, none⟩)]) (by simp) (by simp [go_sem]) ?_
      refine (catch_pan w.heap.size _ _ _ _ _ HB.out HE.out).mono ?_
      rintro e u' w'' ⟨rfl, rfl, hb, he, hbel⟩
      obtain ⟨s0, s1, s2, s3, s4, s5⟩ := hb.cells
      obtain ⟨t0, -⟩ := he.cell
      simp only at s0 s1 s2 s3 s4 s5
      have hfin := ParP.no HPN.out (HBL.out.trans ((hbel w.heap.size (Nat.le_refl _) (Nat.le_succ _))))
      simp [Leaves, settle, results, Tryz.results44, go_sem, s0, s1, s2, s3, s4, s5, t0]
      exact hfin
    case neg =>
     have e2 : s.toList.isEmpty = false := by rw [toList_L]; cases hl : L s with | nil => exact absurd hl h0 | cons _ _ => rfl
     have HPY : Hid (parseR (L s) = some p) := by
      unfold Hid parseR
      rw [HHI.out]
      dsimp only
      rw [if_neg (by rintro (h | h | h); exact h rfl; exact h ht; exact h0 h)]
     clear ht h0
     obtain ⟨k0, k1, k2, k3, k4, k5⟩ := HB.out.free
     obtain ⟨r0, r1, r2, r3, r4, r5⟩ := HB.out.cells
     obtain ⟨t0, t1⟩ := HE.out.cell
     simp only at r0 r1 r2 r3 r4 r5
     go_wp2_with fail
     generalize hW : World.setCell _ ⟨w.heap.size, 5, none⟩ _ = w7
     obtain ⟨hb1, hb2⟩ := HB.out.set (d := ⟨q0, q1, q2, q3, q4, .slice qa pn qcap⟩) hW
     have hot := set6_other hW
     have hE7 : BoxE (w.heap.size + 1) 0 w7 := (hot _ (by omega)).trans HE.out
     have hQ7 := HQ.out.keep (w' := w7) (fun x hx _ => hot x (by omega))
     generalize hW2 : World.setCell w7 _ _ = w8
     have hE8 : BoxE (w.heap.size + 1) 0 w8 := hW2 ▸ heap_setCell_same w7 (w.heap.size + 1) 0 _ _ (.int .i64 0) hE7
     have ho8 : ∀ x, x ≠ w.heap.size + 1 → w8.heap[x]? = w7.heap[x]? := fun x hx => hW2 ▸ Below.heap_setCell w7 ⟨w.heap.size + 1, 0, none⟩ _ _ hx
     have hB8 : BoxP w.heap.size ⟨q0, q1, q2, q3, q4, .slice qa pn qcap⟩ w8 := (ho8 _ (by omega)).trans hb1
     have hb8 : Below w.heap.size w7 w8 := hW2 ▸ (Below.refl _ _).setCell (p := ⟨w.heap.size + 1, 0, none⟩) (Nat.le_succ _) _
     refine leaves_cons (f := 65) (args := #[.pointer (some ⟨w.heap.size, 0, none⟩), .pointer (some ⟨w.heap.size + 1, 0, none⟩)]) (by simp) (by simp [go_sem]) ?_
     refine (catch_not ⟨w.heap.size, 0, none⟩ ⟨w.heap.size + 1, 0, none⟩ _).mono ?_
     rintro e u' w'' ⟨rfl, rfl, rfl⟩
     obtain ⟨s0, s1, s2, s3, s4, s5⟩ := hB8.cells
     obtain ⟨t0, -⟩ := hE8.cell
     simp only at s0 s1 s2 s3 s4 s5
     have hfin := ParP.yes HPY.out (HBL.out.trans (hb2.trans hb8)) ((hQ7.keep (fun x hx _ => ho8 x (by omega))).mono (fun b h _ => by omega))
     simp [Leaves, settle, results, Tryz.results44, go_sem, s0, s1, s2, s3, s4, s5, t0]
     exact hfin
end Go.Proofs.YtpkecepelcppiaaGreatDoor
