/- What the reference's matcher reaches, operator by operator; rows that are being written. Conditions: sound patterns. -/
import Derived.Test.YtpkecepelcppiaaGreatDoorZa30
import Derived.Test.YtpkecepelcppiaaGreatDoorZa15
import Derived.Test.YtpkecepelcppiaaGreatDoorZa33
import Derived.Test.YtpkecepelcppiaaGreatDoorZa36
import Derived.Test.YtpkecepelcppiaaGreatDoorZa2
import Derived.Test.YtpkecepelcppiaaGreatDoorZa18
namespace Go.Proofs.YtpkecepelcppiaaGreatDoor
open Go.RowKit Go.Shelf
set_option maxHeartbeats 4000000
set_option maxRecDepth 100000

structure SmS (c1 c2 : PC) (w wr : World) : Prop where
 b1 : BoxP w.heap.size c1 wr
 b2 : BoxP (w.heap.size + 1) c2 wr
 bel : Below w.heap.size w wr
theorem SmS.stay {c1 c2 : PC} {w wr wx : World} (h : SmS c1 c2 w wr) (hb : Below wr.heap.size wr wx) : SmS c1 c2 w wx := ⟨h.b1.below hb, h.b2.below hb, h.bel.trans (hb.mono h.bel.size)⟩
theorem SmS.start {c1 c2 : PC} {w w1 w2 : World} {X Y : Obj} (hW : w.alloc X = w1) (hW2 : w1.alloc Y = w2) (hX : X = .cells c1.cells.toArray 45 (0, 0)) (hY : Y = .cells c2.cells.toArray 45 (0, 0)) : SmS c1 c2 w w2 := by
 obtain ⟨ha, -, hz1, hb1⟩ := alloc_of hW
 obtain ⟨ha2, -, hz2, hb2⟩ := alloc_of hW2
 rw [hz1] at ha2
 exact ⟨(hb2.block _ (by omega)).trans (ha.trans (by rw [hX])), ha2.trans (by rw [hY]), hb1.trans (hb2.mono hb1.size)⟩
theorem same_any : ∀ (d : Nat) (p : RX) (c1 c2 : PC) (w : World), d ≤ 48 → sndR d p = true → RdP w c1 p → RdP w c2 p →
  Calls Tryz.prog 48 #[aggP c1, aggP c2, .int .i64 (d : Int)] w (Ret (.bool true) w) := by
 intro d
 induction d with
 | zero => intro p c1 c2 w _ h; cases h
 | succ d ih =>
  intro p c1 c2 w hd hs hr1 hr2
  have IH := Lib.hid ih
  clear ih
  have H1 := Lib.hid hr1
  have H2 := Lib.hid hr2
  obtain ⟨op, lo, hi, mn, mx, l⟩ := p
  have HKS := Lib.hid (snd_node hs).2
  obtain ⟨a1, cap1, e1⟩ := hr1.forms
  obtain ⟨a2, cap2, e2⟩ := hr2.forms
  have h1 : c1.op = op ∧ c1.lo = lo ∧ c1.hi = hi ∧ c1.mn = mn ∧ c1.mx = mx := by cases hr1; exact ⟨rfl, rfl, rfl, rfl, rfl⟩
  have h2 : c2.op = op ∧ c2.lo = lo ∧ c2.hi = hi ∧ c2.mn = mn ∧ c2.mx = mx := by cases hr2; exact ⟨rfl, rfl, rfl, rfl, rfl⟩
  obtain ⟨p0, p1, p2, p3, p4, p5⟩ := c1
  obtain ⟨q0, q1, q2, q3, q4, q5⟩ := c2
  simp only at h1 h2 e1 e2
  obtain ⟨rfl, rfl, rfl, rfl, rfl⟩ := h1
  obtain ⟨rfl, rfl, rfl, rfl, rfl⟩ := h2
  rw [show (RX.mk q0 q1 q2 q3 q4 l).args = l from rfl] at e1 e2
  subst e1 e2
  have hm : (l.length : Int) ≤ 9223372036854775807 := by
   cases hr1 with
   | mk _ _ _ _ _ _ _ cs hl hL =>
   obtain ⟨a', cap', he, h1, h2, h0, h3⟩ := hl
   cases he
   simp only [maxLen] at h2
   omega
  have hdi : ¬ ((d + 1 : Nat) : Int) < 1 := by omega
  simp only [aggP]
  clear hr1 hr2 hs
  go_enter Tryz.func48, Tryz.ntmps48
  go_upto_region 1 with fail
  generalize hW : World.alloc w _ = w1
  generalize hW2 : World.alloc w1 _ = w2
  have HS := Lib.hid (SmS.start (c1 := ⟨q0, q1, q2, q3, q4, .slice a1 l.length cap1⟩) (c2 := ⟨q0, q1, q2, q3, q4, .slice a2 l.length cap2⟩) hW hW2 rfl rfl)
  clear hW hW2
  obtain ⟨t0, t1, t2, t3, t4, t5⟩ := HS.out.b1.cells
  obtain ⟨u0, u1, u2, u3, u4, u5⟩ := HS.out.b2.cells
  simp only at t0 t1 t2 t3 t4 t5 u0 u1 u2 u3 u4 u5
  go_wp2_with fail
  go_loopw [6, 7] (fun _ iv wr => ∃ (k : Nat), k ≤ l.length ∧ iv = .int .i64 k ∧ Hid (SmS ⟨q0, q1, q2, q3, q4, .slice a1 l.length cap1⟩ ⟨q0, q1, q2, q3, q4, .slice a2 l.length cap2⟩ w wr)) (fun _ iv _ => l.length - (intOf iv).toNat)
  case atStart => exact ⟨0, Nat.zero_le _, rfl, HS.out⟩
  case round =>
   clear HS t0 t1 t2 t3 t4 t5 u0 u1 u2 u3 u4 u5
   obtain ⟨k, hk, rfl, HS⟩ := hrel
   obtain ⟨t0, t1, t2, t3, t4, t5⟩ := HS.out.b1.cells
   obtain ⟨u0, u1, u2, u3, u4, u5⟩ := HS.out.b2.cells
   simp only at t0 t1 t2 t3 t4 t5 u0 u1 u2 u3 u4 u5
   by_cases hlt : k < l.length
   case neg =>
    have hge : ¬ (k : Int) < l.length := by omega
    clear hlt
    go_wp2_with fail
    go_ret
    exact ⟨rfl, HS.out.bel⟩
   case pos =>
    have hlti : (k : Int) < l.length := by omega
    obtain ⟨g, o, c, rfl, hc6, hrq⟩ := RdP.part H1.out HS.out.bel k hlt
    obtain ⟨g2, o2, c', rfl, hc6', hrq'⟩ := RdP.part H2.out HS.out.bel k hlt
    have HR1 := Lib.hid (hrq.stays (below_drewN (Below.refl _ _) 1))
    have HR2 := Lib.hid (hrq'.stays (below_drewN (Below.refl _ _) 1))
    have HSQ := Lib.hid (HKS.out _ (List.getElem_mem hlt))
    generalize l[k] = q at *
    obtain ⟨pa, pcap, hpa⟩ := hrq.forms
    obtain ⟨qa, qcap, hqa⟩ := hrq'.forms
    generalize q.args.length = pn at *
    obtain ⟨p0, p1, p2, p3, p4, p5⟩ := c
    obtain ⟨r0, r1, r2, r3, r4, r5⟩ := c'
    simp only at hpa hqa
    subst hpa hqa
    obtain ⟨b0, b1, b2, b3, b4, b5⟩ := cells6 hc6
    obtain ⟨v0, v1, v2, v3, v4, v5⟩ := cells6 hc6'
    simp only at b0 b1 b2 b3 b4 b5 v0 v1 v2 v3 v4 v5
    have HC1 : Hid (∀ j, j < 6 → wr.drew.cell? ⟨g, o + k * 6 + j, none⟩ = (PC.cells ⟨p0, p1, p2, p3, p4, .slice pa pn pcap⟩)[j]?) := hc6
    have HC2 : Hid (∀ j, j < 6 → wr.drew.cell? ⟨g2, o2 + k * 6 + j, none⟩ = (PC.cells ⟨r0, r1, r2, r3, r4, .slice qa pn qcap⟩)[j]?) := hc6'
    have HG : Hid (g < w.heap.size ∧ g2 < w.heap.size) := by
     have f : ∀ {c : PC} {gg oo nn cc : Nat}, RdP w ⟨q0, q1, q2, q3, q4, .slice (some ⟨gg, oo, none⟩) nn cc⟩ (.mk q0 q1 q2 q3 q4 l) → gg < w.heap.size := by
      intro c gg oo nn cc h
      cases h with
      | mk _ _ _ _ _ _ _ cs hl hL =>
      obtain ⟨_, _, he, _, _, _, h3⟩ := hl
      cases he
      obtain ⟨_, _, e, h, _⟩ := h3 (by omega)
      cases e
      exact h
     exact ⟨f (c := ⟨0, 0, 0, 0, 0, .nilIface⟩) H1.out, f (c := ⟨0, 0, 0, 0, 0, .nilIface⟩) H2.out⟩
    clear hc6 hc6' hrq hrq'
    have HIH := Lib.hid (IH.out q ⟨p0, p1, p2, p3, p4, .slice pa pn pcap⟩ ⟨r0, r1, r2, r3, r4, .slice qa pn qcap⟩ (wr.drewN 1) (by omega) HSQ.out HR1.out HR2.out)
    have hwr : IntKind.i64.wrap (((d + 1 : Nat) : Int) - 1) = (d : Int) := (IntWalk.i64_in _ (by omega)).trans (by omega)
    have hwr2 : IntKind.i64.wrap ((d : Int) + 1 - 1) = (d : Int) := (IntWalk.i64_in _ (by omega)).trans (by omega)
    have hwr3 : IntKind.i64.wrap (d : Int) = (d : Int) := IntWalk.i64_in _ (by omega)
    have HSD := Lib.hid (HS.out.stay (below_drewN (Below.refl _ _) 1))
    go_upto_region 6 with fail
    have hS0 : SmS ⟨q0, q1, q2, q3, q4, .slice (some ⟨g, o, none⟩) l.length cap1⟩ ⟨q0, q1, q2, q3, q4, .slice (some ⟨g2, o2, none⟩) l.length cap2⟩ w wr.drew := HSD.out
    refine wpq_region (fun w' => SmS ⟨q0, q1, q2, q3, q4, .slice (some ⟨g, o, none⟩) l.length cap1⟩ ⟨q0, q1, q2, q3, q4, .slice (some ⟨g2, o2, none⟩) l.length cap2⟩ w w' ∧ Hid (∀ j, j < 6 → w'.cell? ⟨g, o + k * 6 + j, none⟩ = (PC.cells ⟨p0, p1, p2, p3, p4, .slice pa pn pcap⟩)[j]?) ∧ Hid (∀ j, j < 6 → w'.cell? ⟨g2, o2 + k * 6 + j, none⟩ = (PC.cells ⟨r0, r1, r2, r3, r4, .slice qa pn qcap⟩)[j]?)) 13 (by kernel_rfl) ⟨hS0, HC1, HC2⟩ (fun hHeld => ?_)
    have HD : wr.drewN 1 = wr.drew := rfl
    rw [HD] at HIH HR1 HR2
    clear hS0 HC1 HC2 HSD HD HS b0 b1 b2 b3 b4 b5 v0 v1 v2 v3 v4 v5 t0 t1 t2 t3 t4 t5 u0 u1 u2 u3 u4 u5
    generalize wr.drew = wd at *
    refine wpq_tk 0 (some 61) [1, 3, 4, 12, 13] (Or.inl ⟨by rfl, fun w hSw => by (obtain ⟨x0, x1, x2, x3, x4, x5⟩ := BoxP.cells hSw.1.b1; obtain ⟨y0, y1, y2, y3, y4, y5⟩ := BoxP.cells hSw.1.b2; obtain ⟨z0, z1, z2, z3, z4, z5⟩ := cells6 hSw.2.1.out; obtain ⟨s0, s1, s2, s3, s4, s5⟩ := cells6 hSw.2.2.out; simp only at x0 x1 x2 x3 x4 x5 y0 y1 y2 y3 y4 y5 z0 z1 z2 z3 z4 z5 s0 s1 s2 s3 s4 s5; go_simp; with_reducible rfl)⟩) hHeld ?_ rfl rfl
    simp only [Act.put, sA, sZ, sS]
    refine wpq_tk 1 (some 62) [3, 4, 12, 13] (Or.inl ⟨by rfl, fun w hSw => by (obtain ⟨x0, x1, x2, x3, x4, x5⟩ := BoxP.cells hSw.1.b1; obtain ⟨y0, y1, y2, y3, y4, y5⟩ := BoxP.cells hSw.1.b2; obtain ⟨z0, z1, z2, z3, z4, z5⟩ := cells6 hSw.2.1.out; obtain ⟨s0, s1, s2, s3, s4, s5⟩ := cells6 hSw.2.2.out; simp only at x0 x1 x2 x3 x4 x5 y0 y1 y2 y3 y4 y5 z0 z1 z2 z3 z4 z5 s0 s1 s2 s3 s4 s5; go_simp; with_reducible rfl)⟩) hHeld ?_ rfl rfl
    simp only [Act.put, sA, sZ, sS]
    refine wpq_tk 2 (some 63) [3, 4, 12, 13] (Or.inl ⟨by rfl, fun w hSw => by (obtain ⟨x0, x1, x2, x3, x4, x5⟩ := BoxP.cells hSw.1.b1; obtain ⟨y0, y1, y2, y3, y4, y5⟩ := BoxP.cells hSw.1.b2; obtain ⟨z0, z1, z2, z3, z4, z5⟩ := cells6 hSw.2.1.out; obtain ⟨s0, s1, s2, s3, s4, s5⟩ := cells6 hSw.2.2.out; simp only at x0 x1 x2 x3 x4 x5 y0 y1 y2 y3 y4 y5 z0 z1 z2 z3 z4 z5 s0 s1 s2 s3 s4 s5; go_simp; with_reducible rfl)⟩) hHeld ?_ rfl rfl
    simp only [Act.put, sA, sZ, sS]
    refine wpq_tk 3 (some 64) [4, 12, 13] (Or.inl ⟨by rfl, fun w hSw => by (obtain ⟨x0, x1, x2, x3, x4, x5⟩ := BoxP.cells hSw.1.b1; obtain ⟨y0, y1, y2, y3, y4, y5⟩ := BoxP.cells hSw.1.b2; obtain ⟨z0, z1, z2, z3, z4, z5⟩ := cells6 hSw.2.1.out; obtain ⟨s0, s1, s2, s3, s4, s5⟩ := cells6 hSw.2.2.out; simp only at x0 x1 x2 x3 x4 x5 y0 y1 y2 y3 y4 y5 z0 z1 z2 z3 z4 z5 s0 s1 s2 s3 s4 s5; go_simp; with_reducible rfl)⟩) hHeld ?_ rfl rfl
    simp only [Act.put, sA, sZ, sS]
    refine wpq_tk 4 (some 65) [12, 13] (Or.inl ⟨by rfl, fun w hSw => by (obtain ⟨x0, x1, x2, x3, x4, x5⟩ := BoxP.cells hSw.1.b1; obtain ⟨y0, y1, y2, y3, y4, y5⟩ := BoxP.cells hSw.1.b2; obtain ⟨z0, z1, z2, z3, z4, z5⟩ := cells6 hSw.2.1.out; obtain ⟨s0, s1, s2, s3, s4, s5⟩ := cells6 hSw.2.2.out; simp only at x0 x1 x2 x3 x4 x5 y0 y1 y2 y3 y4 y5 z0 z1 z2 z3 z4 z5 s0 s1 s2 s3 s4 s5; go_simp; with_reducible rfl)⟩) hHeld ?_ rfl rfl
    simp only [Act.put, sA, sZ, sS]
    refine wpq_tk 5 (some 66) [6, 8, 9, 12, 13] (Or.inl ⟨by rfl, fun w hSw => by (obtain ⟨x0, x1, x2, x3, x4, x5⟩ := BoxP.cells hSw.1.b1; obtain ⟨y0, y1, y2, y3, y4, y5⟩ := BoxP.cells hSw.1.b2; obtain ⟨z0, z1, z2, z3, z4, z5⟩ := cells6 hSw.2.1.out; obtain ⟨s0, s1, s2, s3, s4, s5⟩ := cells6 hSw.2.2.out; simp only at x0 x1 x2 x3 x4 x5 y0 y1 y2 y3 y4 y5 z0 z1 z2 z3 z4 z5 s0 s1 s2 s3 s4 s5; go_simp; with_reducible rfl)⟩) hHeld ?_ rfl rfl
    simp only [Act.put, sA, sZ, sS]
    refine wpq_tk 6 (some 67) [8, 9, 12, 13] (Or.inl ⟨by rfl, fun w hSw => by (obtain ⟨x0, x1, x2, x3, x4, x5⟩ := BoxP.cells hSw.1.b1; obtain ⟨y0, y1, y2, y3, y4, y5⟩ := BoxP.cells hSw.1.b2; obtain ⟨z0, z1, z2, z3, z4, z5⟩ := cells6 hSw.2.1.out; obtain ⟨s0, s1, s2, s3, s4, s5⟩ := cells6 hSw.2.2.out; simp only at x0 x1 x2 x3 x4 x5 y0 y1 y2 y3 y4 y5 z0 z1 z2 z3 z4 z5 s0 s1 s2 s3 s4 s5; go_simp; with_reducible rfl)⟩) hHeld ?_ rfl rfl
    simp only [Act.put, sA, sZ, sS]
    refine wpq_tk 7 (some 68) [8, 9, 12, 13] (Or.inl ⟨by rfl, fun w hSw => by (obtain ⟨x0, x1, x2, x3, x4, x5⟩ := BoxP.cells hSw.1.b1; obtain ⟨y0, y1, y2, y3, y4, y5⟩ := BoxP.cells hSw.1.b2; obtain ⟨z0, z1, z2, z3, z4, z5⟩ := cells6 hSw.2.1.out; obtain ⟨s0, s1, s2, s3, s4, s5⟩ := cells6 hSw.2.2.out; simp only at x0 x1 x2 x3 x4 x5 y0 y1 y2 y3 y4 y5 z0 z1 z2 z3 z4 z5 s0 s1 s2 s3 s4 s5; go_simp; with_reducible rfl)⟩) hHeld ?_ rfl rfl
    simp only [Act.put, sA, sZ, sS]
    refine wpq_tk 8 (some 69) [9, 12, 13] (Or.inl ⟨by rfl, fun w hSw => by (obtain ⟨x0, x1, x2, x3, x4, x5⟩ := BoxP.cells hSw.1.b1; obtain ⟨y0, y1, y2, y3, y4, y5⟩ := BoxP.cells hSw.1.b2; obtain ⟨z0, z1, z2, z3, z4, z5⟩ := cells6 hSw.2.1.out; obtain ⟨s0, s1, s2, s3, s4, s5⟩ := cells6 hSw.2.2.out; simp only at x0 x1 x2 x3 x4 x5 y0 y1 y2 y3 y4 y5 z0 z1 z2 z3 z4 z5 s0 s1 s2 s3 s4 s5; go_simp; with_reducible rfl)⟩) hHeld ?_ rfl rfl
    simp only [Act.put, sA, sZ, sS]
    refine wpq_tk 9 (some 70) [12, 13] (Or.inl ⟨by rfl, fun w hSw => by (obtain ⟨x0, x1, x2, x3, x4, x5⟩ := BoxP.cells hSw.1.b1; obtain ⟨y0, y1, y2, y3, y4, y5⟩ := BoxP.cells hSw.1.b2; obtain ⟨z0, z1, z2, z3, z4, z5⟩ := cells6 hSw.2.1.out; obtain ⟨s0, s1, s2, s3, s4, s5⟩ := cells6 hSw.2.2.out; simp only at x0 x1 x2 x3 x4 x5 y0 y1 y2 y3 y4 y5 z0 z1 z2 z3 z4 z5 s0 s1 s2 s3 s4 s5; go_simp; with_reducible rfl)⟩) hHeld ?_ rfl rfl
    simp only [Act.put, sA, sZ, sS]
    refine wpq_tk 10 (some 71) [11, 12, 13] (Or.inl ⟨by rfl, fun w hSw => by (obtain ⟨x0, x1, x2, x3, x4, x5⟩ := BoxP.cells hSw.1.b1; obtain ⟨y0, y1, y2, y3, y4, y5⟩ := BoxP.cells hSw.1.b2; obtain ⟨z0, z1, z2, z3, z4, z5⟩ := cells6 hSw.2.1.out; obtain ⟨s0, s1, s2, s3, s4, s5⟩ := cells6 hSw.2.2.out; simp only at x0 x1 x2 x3 x4 x5 y0 y1 y2 y3 y4 y5 z0 z1 z2 z3 z4 z5 s0 s1 s2 s3 s4 s5; go_simp; with_reducible rfl)⟩) hHeld ?_ rfl rfl
    simp only [Act.put, sA, sZ, sS]
    refine wpq_tk 11 (some 72) [12, 13] (Or.inl ⟨by rfl, fun w hSw => by (obtain ⟨x0, x1, x2, x3, x4, x5⟩ := BoxP.cells hSw.1.b1; obtain ⟨y0, y1, y2, y3, y4, y5⟩ := BoxP.cells hSw.1.b2; obtain ⟨z0, z1, z2, z3, z4, z5⟩ := cells6 hSw.2.1.out; obtain ⟨s0, s1, s2, s3, s4, s5⟩ := cells6 hSw.2.2.out; simp only at x0 x1 x2 x3 x4 x5 y0 y1 y2 y3 y4 y5 z0 z1 z2 z3 z4 z5 s0 s1 s2 s3 s4 s5; go_simp; with_reducible rfl)⟩) hHeld ?_ rfl rfl
    simp only [Act.put, sA, sZ, sS]
    refine wpq_one 12 (by kernel_rfl) rfl (fun K hK => ?_)
    go_simp
    refine HIH.out.mono ?_
    rintro e w6 ⟨rfl, hb6⟩
    have HS6 := Lib.hid (hHeld.1.stay hb6)
    have hbw := hHeld.1.bel
    have HC1 : Hid (∀ j, j < 6 → w6.cell? ⟨g, o + k * 6 + j, none⟩ = (PC.cells ⟨p0, p1, p2, p3, p4, .slice pa pn pcap⟩)[j]?) := fun j hj => (hb6.cell (p := ⟨g, o + k * 6 + j, none⟩) (by have := HG.out.1; have := hbw.size; show g < wd.heap.size; omega)).trans (hHeld.2.1.out j hj)
    have HC2 : Hid (∀ j, j < 6 → w6.cell? ⟨g2, o2 + k * 6 + j, none⟩ = (PC.cells ⟨r0, r1, r2, r3, r4, .slice qa pn qcap⟩)[j]?) := fun j hj => (hb6.cell (p := ⟨g2, o2 + k * 6 + j, none⟩) (by have := HG.out.2; have := hbw.size; show g2 < wd.heap.size; omega)).trans (hHeld.2.2.out j hj)
    clear hHeld hb6 hbw HIH
    refine hK.out _ _ ⟨HS6.out, HC1, HC2⟩ (fun hHeld => ?_)
    clear hK K hHeld
    refine wpq_end 13 (by kernel_rfl) rfl (by kernel_rfl) (fun K hK => ?_)
    go_simp
    refine hK.out _ _ ?_
    clear hK K
    refine wpq_done (by kernel_rfl) ?_ _
    go_simp
    go_wp2_with fail
    exact ⟨⟨k + 1, by omega, by go_num, HS6.out⟩, by simp [intOf]; omega⟩
theorem Same_any (p : RX) (c1 c2 : PC) (w : World) (hs : sndR 48 p = true) (hr1 : RdP w c1 p) (hr2 : RdP w c2 p) :
  Calls Tryz.prog 29 #[aggP c1, aggP c2] w (Ret (.bool true) w) := by
 have HS := Lib.hid hs
 obtain ⟨a1, cap1, e1⟩ := hr1.forms
 obtain ⟨a2, cap2, e2⟩ := hr2.forms
 have HC := Lib.hid (fun w' (hb : Below w.heap.size w w') => same_any 48 p c1 c2 w' (Nat.le_refl _) hs (hr1.stays hb) (hr2.stays hb))
 generalize p.args.length = n at *
 obtain ⟨p0, p1, p2, p3, p4, p5⟩ := c1
 obtain ⟨q0, q1, q2, q3, q4, q5⟩ := c2
 simp only at e1 e2
 subst e1 e2
 simp only [aggP] at *
 clear hr1 hr2 hs HS
 go_enter Tryz.func29, Tryz.ntmps29
 go_upto_region 1 with fail
 generalize hW : World.alloc w _ = w1
 generalize hW2 : World.alloc w1 _ = w2
 have HS := Lib.hid (SmS.start (c1 := ⟨p0, p1, p2, p3, p4, .slice a1 n cap1⟩) (c2 := ⟨q0, q1, q2, q3, q4, .slice a2 n cap2⟩) hW hW2 rfl rfl)
 clear hW hW2
 obtain ⟨t0, t1, t2, t3, t4, t5⟩ := HS.out.b1.cells
 obtain ⟨u0, u1, u2, u3, u4, u5⟩ := HS.out.b2.cells
 simp only at t0 t1 t2 t3 t4 t5 u0 u1 u2 u3 u4 u5
 go_wp2_with fail
 refine (HC.out _ HS.out.bel).mono ?_
 rintro e w3 ⟨rfl, hb⟩
 have HS3 := Lib.hid (HS.out.stay hb)
 clear hb
 go_wp2_with fail
 go_ret
 exact ⟨rfl, HS3.out.bel⟩
end Go.Proofs.YtpkecepelcppiaaGreatDoor

namespace Go.Proofs.YtpkecepelcppiaaGreatDoor
open Go.RowKit Go.Shelf
set_option maxHeartbeats 4000000
set_option maxRecDepth 100000

def LwS (b : Nat) (c : PC) (p : RX) (w0 w : World) : Prop := BoxP b c w ∧ Hid (RdP w c p ∧ Env w ∧ Below w0.heap.size w0 w)
theorem LwS.stay {b : Nat} {c : PC} {p : RX} {w0 w w' : World} (h : LwS b c p w0 w) (hb : Below w.heap.size w w') : LwS b c p w0 w' := ⟨h.1.below hb, h.2.out.1.stays hb, h.2.out.2.1.below hb, h.2.out.2.2.trans (hb.mono h.2.out.2.2.size)⟩
end Go.Proofs.YtpkecepelcppiaaGreatDoor

namespace Go.Proofs.YtpkecepelcppiaaGreatDoor
open Go.RowKit Go.Shelf
set_option maxHeartbeats 4000000
set_option maxRecDepth 100000

theorem val_snd {p : RX} (h : valR p = true) : sndR 48 p = true := by
 unfold valR at h
 rw [Bool.and_eq_true] at h
 exact h.1
end Go.Proofs.YtpkecepelcppiaaGreatDoor

namespace Go.Proofs.YtpkecepelcppiaaGreatDoor
open Go.RowKit Go.Shelf
set_option maxHeartbeats 4000000
set_option maxRecDepth 100000

def gotP (O : Option RX) : RX := O.getD (.mk 0 0 0 0 0 [])
def gotE (O : Option RX) : Int := match O with
 | some _ => 0
 | none => 3
theorem got_snd (l : List UInt8) : sndR 48 (gotP (parseR l)) = true := by
 cases h : parseR l with
 | none => exact snd_le (show 1 ≤ 48 by omega) (show sndR 1 (.mk 0 0 0 0 0 []) = true from rfl)
 | some p => exact val_snd (parse_text h).2
end Go.Proofs.YtpkecepelcppiaaGreatDoor

namespace Go.Proofs.YtpkecepelcppiaaGreatDoor
open Go.RowKit Go.Shelf
set_option maxHeartbeats 4000000
set_option maxRecDepth 100000

theorem MemoOK.keepBut {s : List UInt8} {Rb : Nat → Option RX} {w w' : World} (h : MemoOK s Rb w) (y : Nat) (hk : ∀ x, x < w.heap.size → x ≠ y → w'.heap[x]? = w.heap[x]?) (hy : ∀ c t, w.heap[y]? = some (.cells c t (0, 0)) → t ≠ 84 ∧ t ≠ 4) : MemoOK s Rb w' := by
 have hne : ∀ {r n : Nat} {t : TypeId} {f : Nat → Value}, w.rowIs r t n f → t = 84 ∨ t = 4 → r ≠ y := by
  intro r n t f hr ht he
  subst he
  obtain ⟨c, hc, -⟩ := hr
  have := hy c t hc
  rcases ht with h | h
  ·exact this.1 h
  ·exact this.2 h
 refine ⟨fun r p hr => ?_⟩
 obtain ⟨f, hf, hi⟩ := h.rows r p hr
 refine ⟨f, hf.of_block (hk r hf.lt (hne hf (.inl rfl))), fun i h1 => ?_⟩
 rcases hi i h1 with h2 | ⟨g, h2, h3, h4⟩
 ·exact .inl h2
 ·exact .inr ⟨g, h2, h3, h4.keep (hk g h4.lt (hne h4 (.inr rfl)))⟩
theorem MemoOK.other {s : List UInt8} {Rb : Nat → Option RX} {w : World} (h : MemoOK s Rb w) {y : Nat} {c : Array Value} {t : TypeId} (hy : w.heap[y]? = some (.cells c t (0, 0))) (ht : t ≠ 84) : Rb y = none := by
 cases hb : Rb y with
 | none => rfl
 | some p =>
  obtain ⟨f, ⟨c2, hc, -⟩, -⟩ := h.rows y p hb
  rw [hy] at hc
  cases hc
  exact absurd rfl ht
theorem elemSp : Elem Tryz.prog 124 85 1 := elem_of (z := .pointer none) (bytes := 8) Tryz.underlying124 (by kernel_rfl) (by decide) (by decide) rfl
theorem step_pushS {ops : Array Oper} {o : Oper} {a : Act} {w : World} {K : Act → World → Prop} {Q : Exit → Act → World → Prop} {E : Prop} {B k g : Nat} {v : Value} {gs : List Nat}
  (hgd : o.guard = none) (s x : Operand)
  (ho : o.op = .call { callee := .builtin .append, args := #[s, x], argTypes := #[124, 124] })
  (hown : w.ownsRow B 85 1 v gs.length (gs.map ptrS)) (hs : a.eval s = v) (hx : a.eval x = .slice (some ⟨k, 0, none⟩) 1 1) (hk : k = w.heap.size) (hn : gs.length < 1000000000) (hbase : B ≤ w.heap.size)
  (h : ∀ v' w', w'.ownsRow B 85 1 v' (gs ++ [g]).length ((gs ++ [g]).map ptrS) → w.grownBy w' v.ownBlock → (∃ A cap, v' = .slice A (gs.length + 1) cap) → (v'.ownBlock = v.ownBlock ∨ ∃ k, w.heap.size ≤ k ∧ v'.ownBlock = some k) → K (a.put o.dst v') w') :
  if Region.wanted o (yielded ops a.tmps) = true then o.wp Tryz.prog a (w.alloc (.cells #[ptrS g] 85)) K Q else E := by
 have hw : Region.wanted o (yielded ops a.tmps) = true := by simp [Region.wanted, hgd]
 rw [if_pos hw]
 subst hk
 obtain ⟨ht, hsz, i, z, hi, hz, hsi, hby, hzs⟩ := elemSp
 refine wp_append_at s x _ ho B _ i z 1 i.bytes ht hi hz hsi rfl hzs hsz v gs.length _ hs (hown.alloc _) ⟨w.heap.size, 0, none⟩ 1 1 [ptrS g] hx rfl (new_cells w [ptrS g] _) ?_ (by simp only [maxLen]; omega) (Nat.le_trans (Nat.mul_le_mul (show gs.length + 1 ≤ 1000000000 by omega) hby) (by decide)) (by simp; omega) ?_
 ·intro u hu
  simp only [List.mem_cons, List.not_mem_nil, or_false] at hu
  subst hu
  rfl
 ·intro v' w' hown' hg hat
  have hg' : w.grownBy w' v.ownBlock := ⟨hg.os, hg.tape, hg.output, Nat.le_trans (by simp) hg.size, fun k hk hne => (hg.block k (by simp; omega) hne).trans (heap_alloc_old w _ hk)⟩
  refine h v' w' (by rw [List.length_append, List.map_append]; exact hown') hg' ?_ ?_
  ·rcases hown'.2 with ⟨_, h0⟩ | ⟨g, cap, cur, hv, _⟩
   ·omega
   ·exact ⟨_, _, hv⟩
  ·rcases hat with h | h
   ·exact .inl h
   ·exact .inr ⟨_, by simp, h⟩
theorem own_slx {w : World} {B : Nat} {v : Value} {gs : List Nat} (h : w.ownsRow B 85 1 v gs.length (gs.map ptrS)) : SlX w v gs.length 1 (fun i => [ptrS (gs.getD i 0)]) := by
 rcases h.2 with ⟨rfl, h0⟩ | ⟨g, cap, cur, rfl, hb, hg, h1, h2, h3, h4⟩
 ·obtain rfl := List.eq_nil_of_length_eq_zero h0
  exact SlX.nil
 ·refine ⟨some ⟨g, 0, none⟩, cap, rfl, h1, h2, (fun h => by cases h), fun _ => ⟨g, 0, rfl, (Array.getElem?_eq_some_iff.1 hg).1, fun i hi j hj => ?_⟩⟩
  obtain rfl : j = 0 := by omega
  have := h.cells (g := g) rfl i (ptrS gs[i]) (by rw [List.getElem?_map, List.getElem?_eq_getElem hi]; rfl)
  have hadd : (⟨g, 0, none⟩ : Addr).add i = ⟨g, 0 + i, none⟩ := by unfold Addr.add; split <;> simp_all
  rw [hadd] at this
  rw [Nat.mul_one, Nat.add_zero, this]
  dsimp only
  rw [List.getD_eq_getElem?_getD, List.getElem?_eq_getElem hi]
  rfl
def BoxS (b : Nat) (c : PC) (av rv : Value) (w : World) : Prop := w.heap[b]? = some (.cells (spotC c.op c.lo c.hi c.mn c.mx c.a av rv).toArray 127 (0, 0))
theorem BoxS.cells {b : Nat} {c : PC} {av rv : Value} {w : World} (h : BoxS b c av rv w) : w.cell? ⟨b, 0, none⟩ = some (.int .i64 c.op) ∧ w.cell? ⟨b, 1, none⟩ = some (.int .i64 c.lo) ∧ w.cell? ⟨b, 2, none⟩ = some (.int .i64 c.hi) ∧ w.cell? ⟨b, 3, none⟩ = some (.int .i64 c.mn) ∧ w.cell? ⟨b, 4, none⟩ = some (.int .i64 c.mx) ∧ w.cell? ⟨b, 6, none⟩ = some av ∧ w.cell? ⟨b, 7, none⟩ = some rv :=
 ⟨(cell_of_row w b _ _ _ (0, 0) h).trans rfl, (cell_of_row w b _ _ _ (0, 0) h).trans rfl, (cell_of_row w b _ _ _ (0, 0) h).trans rfl, (cell_of_row w b _ _ _ (0, 0) h).trans rfl, (cell_of_row w b _ _ _ (0, 0) h).trans rfl, (cell_of_row w b _ _ _ (0, 0) h).trans rfl, (cell_of_row w b _ _ _ (0, 0) h).trans rfl⟩
theorem BoxS.lt {b : Nat} {c : PC} {av rv : Value} {w : World} (h : BoxS b c av rv w) : b < w.heap.size := (Array.getElem?_eq_some_iff.1 h).1
theorem BoxS.below {b : Nat} {c : PC} {av rv : Value} {w w' : World} (h : BoxS b c av rv w) (hb : Below w.heap.size w w') : BoxS b c av rv w' := (hb.block b h.lt).trans h
structure SpS (s : List UInt8) (c : PC) (l : List RX) (w wr : World) (Rb Rb' : Nat → Option RX) (av : Value) (gs : List Nat) : Prop where
 arg : BoxP w.heap.size c wr
 box : BoxS (w.heap.size + 1) c av (.slice none 0 0) wr
 own : wr.ownsRow (w.heap.size + 2) 85 1 av gs.length (gs.map ptrS)
 kids : ∀ i (h1 : i < gs.length) (h2 : i < l.length), SpT (s.length + 1) (fun x => (w.heap.size + 2 ≤ x ∧ some x ≠ av.ownBlock) ∧ Rb' x = none) Rb' wr gs[i] l[i]
 memo : MemoOK s Rb' wr
 ext : ∀ x, x < w.heap.size → Rb' x = Rb x
 bel : Below w.heap.size w wr
theorem SpS.own_ge {s : List UInt8} {c : PC} {l : List RX} {w wr : World} {Rb Rb' : Nat → Option RX} {av : Value} {gs : List Nat} (h : SpS s c l w wr Rb Rb' av gs) (x : Nat) (hx : av.ownBlock = some x) : w.heap.size + 2 ≤ x ∧ x < wr.heap.size := h.own.lt x hx
theorem own_keep {w w' : World} {B : Nat} {v : Value} {n : Nat} {xs : List Value} (h : w.ownsRow B 85 1 v n xs) (hk : ∀ x, v.ownBlock = some x → x < w.heap.size → w'.heap[x]? = w.heap[x]?) : w'.ownsRow B 85 1 v n xs := by
 refine ⟨h.1, ?_⟩
 rcases h.2 with h1 | ⟨g, cap, cur, rfl, hb, hg, rest⟩
 ·exact .inl h1
 ·exact .inr ⟨g, cap, cur, rfl, hb, (hk g rfl (Array.getElem?_eq_some_iff.1 hg).1).trans hg, rest⟩
theorem SpS.stay {s : List UInt8} {c : PC} {l : List RX} {w wr wx : World} {Rb Rb' : Nat → Option RX} {av : Value} {gs : List Nat} (h : SpS s c l w wr Rb Rb' av gs) (hb : Below wr.heap.size wr wx) : SpS s c l w wx Rb Rb' av gs :=
 ⟨h.arg.below hb, h.box.below hb, own_keep h.own (fun x _ hx => hb.block x hx), fun i h1 h2 => (h.kids i h1 h2).stay hb, h.memo.stay hb, h.ext, h.bel.trans (hb.mono h.bel.size)⟩
def RetT (s : List UInt8) (Rb : Nat → Option RX) (p : RX) (w : World) (e : Ending) (w' : World) : Prop :=
 ∃ g Rb', e = .returned (ptrS g) ∧ (∀ x, x < w.heap.size → Rb' x = Rb x) ∧ MemoOK s Rb' w' ∧ SpT (s.length + 1) (fun x => w.heap.size ≤ x ∧ Rb' x = none) Rb' w' g p ∧ Below w.heap.size w w'
def SptC (s : List UInt8) (d : Nat) : Prop := ∀ (p : RX) (c : PC) (w : World) (Rb : Nat → Option RX), RdP w c p → sndR d p = true → cntN d p ≤ 1000000 → MemoOK s Rb w → Calls Tryz.prog 59 #[aggP c, .int .i64 (s.length : Int)] w (RetT s Rb p w)
theorem SpS.call {s : List UInt8} {c : PC} {l : List RX} {w wr w6 : World} {Rb Rb' Rb2 : Nat → Option RX} {av : Value} {gs : List Nat} (h : SpS s c l w wr Rb Rb' av gs) (he : ∀ x, x < wr.heap.size → Rb2 x = Rb' x) (hm : MemoOK s Rb2 w6) (hb : Below wr.heap.size wr w6) : SpS s c l w w6 Rb Rb2 av gs := by
 refine ⟨h.arg.below hb, h.box.below hb, own_keep h.own (fun x _ hx => hb.block x hx), fun i h1 h2 => ?_, hm, fun x hx => ?_, h.bel.trans (hb.mono h.bel.size)⟩
 ·exact ((h.kids i h1 h2).mono (fun x hx hl => ⟨hx.1, (he x hl).trans hx.2⟩) he).stay hb
 ·have := h.bel.size
  rw [he x (by omega), h.ext x hx]
theorem SpS.push {s : List UInt8} {c : PC} {l : List RX} {w w6 w7 : World} {Rb Rb2 : Nat → Option RX} {av av' : Value} {gs : List Nat} {g : Nat} (h : SpS s c l w w6 Rb Rb2 av gs) (hl : gs.length < l.length)
  (hg : SpT (s.length + 1) (fun x => (w.heap.size + 2 ≤ x ∧ some x ≠ av.ownBlock) ∧ Rb2 x = none) Rb2 w6 g l[gs.length])
  (hown : w7.ownsRow (w.heap.size + 2) 85 1 av' (gs ++ [g]).length ((gs ++ [g]).map ptrS)) (hgr : w6.grownBy w7 av.ownBlock) (hat : av'.ownBlock = av.ownBlock ∨ ∃ k, w6.heap.size ≤ k ∧ av'.ownBlock = some k) :
  BoxP w.heap.size c w7 ∧ BoxS (w.heap.size + 1) c av (.slice none 0 0) w7 ∧ SpS s c l w (w7.setCell ⟨w.heap.size + 1, 6, none⟩ av') Rb Rb2 av' (gs ++ [g]) := by
 have hold : ∀ x, x < w6.heap.size → some x ≠ av.ownBlock → w7.heap[x]? = w6.heap[x]? := fun x h1 h2 => hgr.block x h1 h2
 have hlow : ∀ x, x < w.heap.size + 2 → x < w6.heap.size → w7.heap[x]? = w6.heap[x]? := fun x h1 h2 => hold x h2 (fun he => by have := (h.own_ge x he.symm).1; omega)
 have h0 : BoxP w.heap.size c w7 := (hlow _ (by omega) h.arg.lt).trans h.arg
 have h1 : BoxS (w.heap.size + 1) c av (.slice none 0 0) w7 := (hlow _ (by omega) h.box.lt).trans h.box
 have hot : ∀ y, y ≠ w.heap.size + 1 → (w7.setCell ⟨w.heap.size + 1, 6, none⟩ av').heap[y]? = w7.heap[y]? := fun y hy => Below.heap_setCell w7 ⟨w.heap.size + 1, 6, none⟩ av' y hy
 have hb7 : Below (w.heap.size + 1) w6 (w7.setCell ⟨w.heap.size + 1, 6, none⟩ av') :=
  (show Below (w.heap.size + 1) w6 w7 from ⟨hgr.os, hgr.tape, hgr.output, hgr.size, fun x hx => hlow x (by omega) (by have := h.box.lt; omega)⟩).setCell (p := ⟨w.heap.size + 1, 6, none⟩) (Nat.le_refl _) _
 have hkeep : ∀ x, ((w.heap.size + 2 ≤ x ∧ some x ≠ av.ownBlock) ∧ Rb2 x = none) → x < w6.heap.size → (w7.setCell ⟨w.heap.size + 1, 6, none⟩ av').heap[x]? = w6.heap[x]? := fun x hx hl => (hot x (by omega)).trans (hold x hl hx.1.2)
 have hkid : ∀ {y : Nat} {q : RX}, SpT (s.length + 1) (fun x => (w.heap.size + 2 ≤ x ∧ some x ≠ av.ownBlock) ∧ Rb2 x = none) Rb2 w6 y q → SpT (s.length + 1) (fun x => (w.heap.size + 2 ≤ x ∧ some x ≠ av'.ownBlock) ∧ Rb2 x = none) Rb2 (w7.setCell ⟨w.heap.size + 1, 6, none⟩ av') y q := by
  intro y q hq
  refine ((hq.mono (M := fun x => ((w.heap.size + 2 ≤ x ∧ some x ≠ av.ownBlock) ∧ Rb2 x = none) ∧ x < w6.heap.size) (fun x hx hl => ⟨hx, hl⟩) (fun _ _ => rfl)).keep hb7.size (fun x hx hl => hkeep x hx.1 hl)).mono (fun x hx _ => ⟨⟨hx.1.1.1, ?_⟩, hx.1.2⟩) (fun _ _ => rfl)
  rcases hat with he | ⟨k, hk, he⟩
  ·rw [he]; exact hx.1.1.2
  ·rw [he]
   intro h4
   cases h4
   have := hx.2
   omega
 refine ⟨h0, h1, (hot _ (by omega)).trans h0, heap_setCell_same w7 (w.heap.size + 1) 6 _ _ av' h1, own_keep hown (fun x hx _ => hot x (fun he => ?_)), fun i i1 i2 => ?_, ?_, h.ext, h.bel.trans (hb7.mono (by omega))⟩
 ·have := (hown.lt x hx).1
  omega
 ·by_cases hi : i < gs.length
  ·rw [List.getElem_append_left hi]
   exact hkid (h.kids i hi i2)
  ·have h3 : i = gs.length := by
    rw [List.length_append] at i1
    simp only [List.length_cons, List.length_nil] at i1
    omega
   subst h3
   rw [List.getElem_append_right (Nat.le_refl _)]
   simp only [Nat.sub_self, List.getElem_cons_zero]
   exact hkid hg
 ·have hm7 : MemoOK s Rb2 w7 := by
   rcases h.own.2 with ⟨he, _⟩ | ⟨y, cap, cur, he, hb, hy, _⟩
   ·exact h.memo.keepBut w6.heap.size (fun x hx _ => hold x hx (by rw [he]; intro h; cases h)) (fun c t hc => by rw [Array.getElem?_eq_none (Nat.le_refl _)] at hc; cases hc)
   ·exact h.memo.keepBut y (fun x hx hne => hold x hx (by rw [he]; intro h; cases h; exact hne rfl)) (fun c t hc => by rw [hy] at hc; cases hc; decide)
  exact hm7.keepBut (w.heap.size + 1) (fun x _ hne => hot x hne) (fun c t hc => by
   have h2 : w7.heap[w.heap.size + 1]? = _ := h1
   rw [h2] at hc
   cases hc
   decide)
theorem SpS.fin {s : List UInt8} {c : PC} {l : List RX} {w wr w9 : World} {Rb Rb2 Rb3 : Nat → Option RX} {av rv : Value} {gs : List Nat} (h : SpS s c l w wr Rb Rb2 av gs) (hlen : gs.length = l.length) (hz : wr.heap.size ≤ w9.heap.size)
  (hk : ∀ x, x < wr.heap.size → x ≠ w.heap.size + 1 → w9.heap[x]? = wr.heap[x]?) (hbox : BoxS (w.heap.size + 1) c av rv w9) (he : ∀ x, x < wr.heap.size → Rb3 x = Rb2 x)
  (hr : c.op = 6 ∨ c.op = 7 → ∃ r, rv = svB r (s.length + 1) ∧ Rb3 r = some (.mk c.op c.lo c.hi c.mn c.mx l) ∧ r < w9.heap.size) :
  SpT (s.length + 1) (fun x => w.heap.size ≤ x ∧ Rb3 x = none) Rb3 w9 (w.heap.size + 1) (.mk c.op c.lo c.hi c.mn c.mx l) := by
 have hob : ∀ x, av.ownBlock = some x → Rb2 x = none := by
  intro x hx
  rcases h.own.2 with ⟨h1, _⟩ | ⟨y, cap2, cur, h1, hb, hy, _⟩
  ·rw [h1] at hx; cases hx
  ·rw [h1] at hx
   cases hx
   exact h.memo.other hy (by decide)
 refine .mk (w.heap.size + 1) c.op c.lo c.hi c.mn c.mx l c.a av rv (fun i => gs.getD i 0) hbox ⟨by omega, ?_⟩ ?_ (fun x o n cap hv hl => ?_) (fun i hi => ?_) hr
 ·rw [he _ h.box.lt]
  exact h.memo.other (h.box : wr.heap[w.heap.size + 1]? = _) (by decide)
 ·have hs := own_slx h.own
  rw [hlen] at hs
  obtain ⟨a, cap, hv, h1, h2, h0, h3⟩ := hs
  refine ⟨a, cap, hv, h1, h2, h0, fun hl => ?_⟩
  obtain ⟨x, o, hx, hg, hc⟩ := h3 hl
  have hox : av.ownBlock = some x := by rw [hv, hx]; rfl
  have hge := (h.own_ge x hox).1
  refine ⟨x, o, hx, Nat.lt_of_lt_of_le hg hz, fun i hi j hj => ?_⟩
  rw [← hc i hi j hj]
  unfold World.cell?
  rw [hk x hg (by omega)]
 ·have hox : av.ownBlock = some x := by rw [hv]; rfl
  have hge := h.own_ge x hox
  exact ⟨by omega, by rw [he x hge.2]; exact hob x hox⟩
 ·have h2 : i < gs.length := by omega
  have hq := h.kids i h2 hi
  rw [show gs.getD i 0 = gs[i] by rw [List.getD_eq_getElem?_getD, List.getElem?_eq_getElem h2]; rfl]
  have h3 := hq.mono (M := fun x => w.heap.size + 2 ≤ x ∧ x < wr.heap.size ∧ Rb3 x = none) (Rb' := Rb3) (fun x hx hl => ⟨hx.1.1, hl, (he x hl).trans hx.2⟩) he
  exact (h3.keep hz (fun x hx hl => hk x hl (by omega))).mono (fun x hx _ => ⟨by omega, hx.2.2⟩) (fun _ _ => rfl)
theorem rows_infoZ : (Tryz.prog.info? 84).map (fun i => (i.zero, i.size, i.bytes)) = some (some (.slice none 0 0), 1, 24) := by kernel_rfl
theorem spots_next (s : List UInt8) (hsz : s.length ≤ 1000000) (d : Nat) (IH0 : SptC s d) : SptC s (d + 1) := by
 intro p c w Rb hp hs hcn hmo
 obtain ⟨op, lo, hi, mn, mx, l⟩ := p
 have IH := Lib.hid IH0
 have HKS := Lib.hid (snd_node hs).2
 have HCN := Lib.hid (fun q (hq : q ∈ l) => cnt_part hcn hq)
 have HLN := Lib.hid (cnt_len hs hcn)
 have HP := Lib.hid hp
 have HM := Lib.hid hmo
 have HSZ := Lib.hid hsz
 obtain ⟨la, lcap, hla⟩ := hp.forms
 have hop : c.op = op ∧ c.lo = lo ∧ c.hi = hi ∧ c.mn = mn ∧ c.mx = mx := by cases hp; exact ⟨rfl, rfl, rfl, rfl, rfl⟩
 obtain ⟨c0, c1, c2, c3, c4, c5⟩ := c
 simp only at hop hla
 obtain ⟨rfl, rfl, rfl, rfl, rfl⟩ := hop
 rw [show (RX.mk c0 c1 c2 c3 c4 l).args = l from rfl] at hla
 subst hla
 have hm : (l.length : Int) ≤ 1000000 := by have := HLN.out; omega
 have hsl : (s.length : Int) ≤ 1000000 := by omega
 obtain ⟨n, hn⟩ : ∃ n, n = s.length := ⟨_, rfl⟩
 simp only [aggP]
 clear hp hs hcn hmo IH0 hsz
 rw [← hn] at hsl ⊢
 have HNS := Lib.hid hn
 clear hn
 go_enter Tryz.func59, Tryz.ntmps59
 go_upto_region 2 with fail
 generalize hW : World.alloc w _ = w1
 obtain ⟨ha, -, hz1, hb1⟩ := alloc_of hW
 generalize hW2 : World.alloc w1 _ = w2
 obtain ⟨ha2, -, hz2, hb2⟩ := alloc_of hW2
 rw [hz1] at ha2
 have HS0 := Lib.hid (show SpS s ⟨c0, c1, c2, c3, c4, .slice la l.length lcap⟩ l w w2 Rb Rb (.slice none 0 0) [] from ⟨(hb2.block _ (by omega)).trans ha, ha2, World.ownsRow_nil _ _ _ 1, fun i h1 _ => absurd h1 (Nat.not_lt_zero _), (HM.out.stay hb1).stay hb2, fun _ _ => rfl, hb1.trans (hb2.mono hb1.size)⟩)
 clear hW ha hz1 hb1 hW2 ha2 hz2 hb2
 obtain ⟨t0, t1, t2, t3, t4, t5⟩ := HS0.out.arg.cells
 simp only at t0 t1 t2 t3 t4 t5
 go_wp2_with fail
 go_loopw [6] (fun iv wr => ∃ (k : Nat) (A : Option Addr) (cap : Nat) (Rb2 : Nat → Option RX) (gs : List Nat), k ≤ l.length ∧ iv = .int .i64 (k : Int) ∧ Hid (gs.length = k) ∧ Hid (SpS s ⟨c0, c1, c2, c3, c4, .slice la l.length lcap⟩ l w wr Rb Rb2 (.slice A k cap) gs)) (fun iv _ => l.length - (intOf iv).toNat)
 case atStart => exact ⟨0, none, 0, Rb, [], Nat.zero_le _, rfl, rfl, HS0.out⟩
 case round =>
  clear HS0 t0 t1 t2 t3 t4 t5
  obtain ⟨k, A, cap, Rb2, gs, hk, rfl, HLEN, HS⟩ := hrel
  have hLE := HLEN.out
  subst hLE
  obtain ⟨t0, t1, t2, t3, t4, t5⟩ := HS.out.arg.cells
  simp only at t0 t1 t2 t3 t4 t5
  by_cases hlt : gs.length < l.length
  case pos =>
   have hlti : (gs.length : Int) < l.length := by omega
   have hlt2 := Lib.hid hlt
   obtain ⟨g, o, c, rfl, hc6, hrq⟩ := RdP.part HP.out HS.out.bel gs.length hlt
   have HGL : Hid (g < w.heap.size) := by
    have h := HP.out
    cases h with
    | mk _ _ _ _ _ _ _ cs hl hL =>
    obtain ⟨_, _, he, _, _, _, h3⟩ := hl
    cases he
    obtain ⟨_, _, e, h, _⟩ := h3 (by omega)
    cases e
    exact h
   have HSQ := Lib.hid (HKS.out _ (List.getElem_mem hlt))
   have HCQ := Lib.hid (HCN.out _ (List.getElem_mem hlt))
   have HRD := Lib.hid hrq
   generalize hq : l[gs.length] = q at *
   have HLQ := Lib.hid hq
   obtain ⟨pa, pcap, hpa⟩ := hrq.forms
   generalize q.args.length = pn at *
   obtain ⟨p0, p1, p2, p3, p4, p5⟩ := c
   simp only at hpa
   subst hpa
   have HC6 : Hid (∀ j, j < 6 → wr.drew.cell? ⟨g, o + gs.length * 6 + j, none⟩ = (PC.cells ⟨p0, p1, p2, p3, p4, .slice pa pn pcap⟩)[j]?) := hc6
   have hS0 := HS.out.stay (drewBn wr)
   have HSd := Lib.hid hS0
   have hBwd := Lib.hid (drewBn wr)
   replace IH := Lib.hid (fun q c w Rb => HNS.out ▸ IH.out q c w Rb)
   clear hc6 hrq hq hlt
   go_upto_region 5 with fail
   refine wpq_region (fun w' => BoxP w.heap.size ⟨c0, c1, c2, c3, c4, .slice (some ⟨g, o, none⟩) l.length lcap⟩ w' ∧ BoxS (w.heap.size + 1) ⟨c0, c1, c2, c3, c4, .slice (some ⟨g, o, none⟩) l.length lcap⟩ (.slice A gs.length cap) (.slice none 0 0) w' ∧ Hid (∀ j, j < 6 → w'.cell? ⟨g, o + gs.length * 6 + j, none⟩ = (PC.cells ⟨p0, p1, p2, p3, p4, .slice pa pn pcap⟩)[j]?)) 16 (by kernel_rfl) ⟨hS0.arg, hS0.box, HC6⟩ (fun hHeld => ?_)
   clear hS0 HC6 HS t0 t1 t2 t3 t4 t5
   generalize wr.drew = wd at *
   refine wpq_tk 0 (some 17) [16] (Or.inl ⟨by rfl, fun w hSw => by (obtain ⟨x0, x1, x2, x3, x4, x5⟩ := BoxP.cells hSw.1; obtain ⟨y0, y1, y2, y3, y4, y6, y7⟩ := BoxS.cells hSw.2.1; obtain ⟨z0, z1, z2, z3, z4, z5⟩ := cells6 hSw.2.2.out; simp only at x0 x1 x2 x3 x4 x5 y0 y1 y2 y3 y4 y6 y7 z0 z1 z2 z3 z4 z5; go_simp; with_reducible rfl)⟩) hHeld ?_ rfl rfl
   simp only [Act.put, sA, sZ, sS]
   refine wpq_tk 1 (some 18) [16] (Or.inl ⟨by rfl, fun w hSw => by (obtain ⟨x0, x1, x2, x3, x4, x5⟩ := BoxP.cells hSw.1; obtain ⟨y0, y1, y2, y3, y4, y6, y7⟩ := BoxS.cells hSw.2.1; obtain ⟨z0, z1, z2, z3, z4, z5⟩ := cells6 hSw.2.2.out; simp only at x0 x1 x2 x3 x4 x5 y0 y1 y2 y3 y4 y6 y7 z0 z1 z2 z3 z4 z5; go_simp; with_reducible rfl)⟩) hHeld ?_ rfl rfl
   simp only [Act.put, sA, sZ, sS]
   refine wpq_tk 2 (some 19) [16] (Or.inl ⟨by rfl, fun w hSw => by (obtain ⟨x0, x1, x2, x3, x4, x5⟩ := BoxP.cells hSw.1; obtain ⟨y0, y1, y2, y3, y4, y6, y7⟩ := BoxS.cells hSw.2.1; obtain ⟨z0, z1, z2, z3, z4, z5⟩ := cells6 hSw.2.2.out; simp only at x0 x1 x2 x3 x4 x5 y0 y1 y2 y3 y4 y6 y7 z0 z1 z2 z3 z4 z5; go_simp; with_reducible rfl)⟩) hHeld ?_ rfl rfl
   simp only [Act.put, sA, sZ, sS]
   refine wpq_tk 3 (some 20) [16] (Or.inl ⟨by rfl, fun w hSw => by (obtain ⟨x0, x1, x2, x3, x4, x5⟩ := BoxP.cells hSw.1; obtain ⟨y0, y1, y2, y3, y4, y6, y7⟩ := BoxS.cells hSw.2.1; obtain ⟨z0, z1, z2, z3, z4, z5⟩ := cells6 hSw.2.2.out; simp only at x0 x1 x2 x3 x4 x5 y0 y1 y2 y3 y4 y6 y7 z0 z1 z2 z3 z4 z5; go_simp; with_reducible rfl)⟩) hHeld ?_ rfl rfl
   simp only [Act.put, sA, sZ, sS]
   refine wpq_tk 4 (some 21) [16] (Or.inl ⟨by rfl, fun w hSw => by (obtain ⟨x0, x1, x2, x3, x4, x5⟩ := BoxP.cells hSw.1; obtain ⟨y0, y1, y2, y3, y4, y6, y7⟩ := BoxS.cells hSw.2.1; obtain ⟨z0, z1, z2, z3, z4, z5⟩ := cells6 hSw.2.2.out; simp only at x0 x1 x2 x3 x4 x5 y0 y1 y2 y3 y4 y6 y7 z0 z1 z2 z3 z4 z5; go_simp; with_reducible rfl)⟩) hHeld ?_ rfl rfl
   simp only [Act.put, sA, sZ, sS]
   refine wpq_tk 5 (some 22) [16] (Or.inl ⟨by rfl, fun w hSw => by (obtain ⟨x0, x1, x2, x3, x4, x5⟩ := BoxP.cells hSw.1; obtain ⟨y0, y1, y2, y3, y4, y6, y7⟩ := BoxS.cells hSw.2.1; obtain ⟨z0, z1, z2, z3, z4, z5⟩ := cells6 hSw.2.2.out; simp only at x0 x1 x2 x3 x4 x5 y0 y1 y2 y3 y4 y6 y7 z0 z1 z2 z3 z4 z5; go_simp; with_reducible rfl)⟩) hHeld ?_ rfl rfl
   simp only [Act.put, sA, sZ, sS]
   refine wpq_tk 6 (some 23) [16] (Or.inl ⟨by rfl, fun w hSw => by (obtain ⟨x0, x1, x2, x3, x4, x5⟩ := BoxP.cells hSw.1; obtain ⟨y0, y1, y2, y3, y4, y6, y7⟩ := BoxS.cells hSw.2.1; obtain ⟨z0, z1, z2, z3, z4, z5⟩ := cells6 hSw.2.2.out; simp only at x0 x1 x2 x3 x4 x5 y0 y1 y2 y3 y4 y6 y7 z0 z1 z2 z3 z4 z5; go_simp; with_reducible rfl)⟩) hHeld ?_ rfl rfl
   simp only [Act.put, sA, sZ, sS]
   refine wpq_tk 7 (some 24) [16] (Or.inl ⟨by rfl, fun w hSw => by (obtain ⟨x0, x1, x2, x3, x4, x5⟩ := BoxP.cells hSw.1; obtain ⟨y0, y1, y2, y3, y4, y6, y7⟩ := BoxS.cells hSw.2.1; obtain ⟨z0, z1, z2, z3, z4, z5⟩ := cells6 hSw.2.2.out; simp only at x0 x1 x2 x3 x4 x5 y0 y1 y2 y3 y4 y6 y7 z0 z1 z2 z3 z4 z5; go_simp; with_reducible rfl)⟩) hHeld ?_ rfl rfl
   simp only [Act.put, sA, sZ, sS]
   refine wpq_tk 8 (some 25) [16] (Or.inl ⟨by rfl, fun w hSw => by (obtain ⟨x0, x1, x2, x3, x4, x5⟩ := BoxP.cells hSw.1; obtain ⟨y0, y1, y2, y3, y4, y6, y7⟩ := BoxS.cells hSw.2.1; obtain ⟨z0, z1, z2, z3, z4, z5⟩ := cells6 hSw.2.2.out; simp only at x0 x1 x2 x3 x4 x5 y0 y1 y2 y3 y4 y6 y7 z0 z1 z2 z3 z4 z5; go_simp; with_reducible rfl)⟩) hHeld ?_ rfl rfl
   simp only [Act.put, sA, sZ, sS]
   refine wpq_tk 9 (some 26) [16] (Or.inl ⟨by rfl, fun w hSw => by (obtain ⟨x0, x1, x2, x3, x4, x5⟩ := BoxP.cells hSw.1; obtain ⟨y0, y1, y2, y3, y4, y6, y7⟩ := BoxS.cells hSw.2.1; obtain ⟨z0, z1, z2, z3, z4, z5⟩ := cells6 hSw.2.2.out; simp only at x0 x1 x2 x3 x4 x5 y0 y1 y2 y3 y4 y6 y7 z0 z1 z2 z3 z4 z5; go_simp; with_reducible rfl)⟩) hHeld ?_ rfl rfl
   simp only [Act.put, sA, sZ, sS]
   refine wpq_tk 10 (some 27) [16] (Or.inl ⟨by rfl, fun w hSw => by (obtain ⟨x0, x1, x2, x3, x4, x5⟩ := BoxP.cells hSw.1; obtain ⟨y0, y1, y2, y3, y4, y6, y7⟩ := BoxS.cells hSw.2.1; obtain ⟨z0, z1, z2, z3, z4, z5⟩ := cells6 hSw.2.2.out; simp only at x0 x1 x2 x3 x4 x5 y0 y1 y2 y3 y4 y6 y7 z0 z1 z2 z3 z4 z5; go_simp; with_reducible rfl)⟩) hHeld ?_ rfl rfl
   simp only [Act.put, sA, sZ, sS]
   refine wpq_one 11 (by kernel_rfl) rfl (fun K hK => ?_)
   go_simp
   refine (IH.out q _ _ _ (HRD.out.stays hBwd.out) HSQ.out HCQ.out HSd.out.memo).mono ?_
   rintro e w6 ⟨x, Rb2, rfl, hext, hmemo, hspt, hb6⟩
   have HS6 := Lib.hid (HSd.out.call hext hmemo hb6)
   have HT6 := Lib.hid (hspt.mono (M := fun y => (w.heap.size + 2 ≤ y ∧ some y ≠ (Value.slice A gs.length cap).ownBlock) ∧ Rb2 y = none) (fun y h1 _ => ⟨⟨by have := HSd.out.box.lt; omega, fun he => by have := (HSd.out.own_ge y he.symm).2; omega⟩, h1.2⟩) (fun _ _ => rfl))
   have HC7 : Hid (∀ j, j < 6 → w6.cell? ⟨g, o + gs.length * 6 + j, none⟩ = (PC.cells ⟨p0, p1, p2, p3, p4, .slice pa pn pcap⟩)[j]?) := fun j hj => (hb6.cell (p := ⟨g, o + gs.length * 6 + j, none⟩) (Nat.lt_of_lt_of_le HGL.out HSd.out.bel.size)).trans (hHeld.2.2.out j hj)
   clear hext hmemo hspt hb6 hHeld
   refine hK.out _ _ ⟨HS6.out.arg, HS6.out.box, HC7⟩ (fun hHeld => ?_)
   clear hK K
   refine wpq_one 12 (by kernel_rfl) rfl (fun K hK => ?_)
   go_simp
   have hb7 : Below w6.heap.size w6 (w6.alloc (.cells #[ptrS x] 85)) := (Below.refl _ _).alloc (Nat.le_refl _) _
   have HC8 : Hid (∀ j, j < 6 → (w6.alloc (.cells #[ptrS x] 85)).cell? ⟨g, o + gs.length * 6 + j, none⟩ = (PC.cells ⟨p0, p1, p2, p3, p4, .slice pa pn pcap⟩)[j]?) := fun j hj => (hb7.cell (p := ⟨g, o + gs.length * 6 + j, none⟩) (Nat.lt_of_lt_of_le HGL.out HS6.out.bel.size)).trans (hHeld.2.2.out j hj)
   refine hK.out _ _ ⟨HS6.out.arg.below hb7, HS6.out.box.below hb7, HC8⟩ (fun hHeld => ?_)
   clear hK K hHeld hb7 HC8
   refine wpq_one 13 (by kernel_rfl) rfl (fun K hK => ?_)
   refine step_pushS (B := w.heap.size + 2) (g := x) (v := .slice A gs.length cap) (gs := gs) rfl _ _ rfl HS6.out.own rfl rfl rfl ?hn ?hb ?_
   case hn => omega
   case hb => have := HS6.out.box.lt; omega
   rintro v' w7 hown hg ⟨A2, cap2, rfl⟩ hat
   have hT := HT6.out
   rw [← HLQ.out] at hT
   have HPU := Lib.hid (HS6.out.push hlt2.out hT hown hg hat)
   have HC8 : Hid (∀ j, j < 6 → w7.cell? ⟨g, o + gs.length * 6 + j, none⟩ = (PC.cells ⟨p0, p1, p2, p3, p4, .slice pa pn pcap⟩)[j]?) := by
    intro j hj
    have h1 := HC7.out j hj
    rw [← h1]
    have h2 := HS6.out
    have h3 := HGL.out
    have h4 : w7.heap[g]? = w6.heap[g]? := hg.block g (Nat.lt_of_lt_of_le h3 h2.bel.size) (fun he => by have := (h2.own_ge g he.symm).1; omega)
    unfold World.cell?
    rw [h4]
   have hc5 := HPU.out.2.1.cells.2.2.2.2.2.1
   have hf5 : w7.frozen? ⟨w.heap.size + 1, 6, none⟩ = false := Lib.frozen_of_heap HPU.out.2.1 6
   clear hown hg hat hT
   refine hK.out _ _ ⟨HPU.out.1, HPU.out.2.1, HC8⟩ (fun hHeld => ?_)
   clear hK K
   refine wpq_tk 14 (some 31) [15, 16] (Or.inl ⟨by rfl, fun w hSw => by (obtain ⟨x0, x1, x2, x3, x4, x5⟩ := BoxP.cells hSw.1; obtain ⟨y0, y1, y2, y3, y4, y6, y7⟩ := BoxS.cells hSw.2.1; obtain ⟨z0, z1, z2, z3, z4, z5⟩ := cells6 hSw.2.2.out; simp only at x0 x1 x2 x3 x4 x5 y0 y1 y2 y3 y4 y6 y7 z0 z1 z2 z3 z4 z5; go_simp; with_reducible rfl)⟩) hHeld ?_ rfl rfl
   simp only [Act.put, sA, sZ, sS]
   refine wpq_tk 15 (some 32) [16] (Or.inl ⟨by rfl, fun w hSw => by (obtain ⟨x0, x1, x2, x3, x4, x5⟩ := BoxP.cells hSw.1; obtain ⟨y0, y1, y2, y3, y4, y6, y7⟩ := BoxS.cells hSw.2.1; obtain ⟨z0, z1, z2, z3, z4, z5⟩ := cells6 hSw.2.2.out; simp only at x0 x1 x2 x3 x4 x5 y0 y1 y2 y3 y4 y6 y7 z0 z1 z2 z3 z4 z5; go_simp; with_reducible rfl)⟩) hHeld ?_ rfl rfl
   simp only [Act.put, sA, sZ, sS]
   refine wpq_end 16 (by kernel_rfl) rfl (by kernel_rfl) (fun K hK => ?_)
   go_simp
   refine hK.out _ _ ?_
   clear hK K
   refine wpq_done (by kernel_rfl) ?_ _
   go_simp
   go_wp2_with fail
   exact ⟨⟨gs.length + 1, A2, cap2, Rb2, gs ++ [x], by omega, by simp, by simp [Hid], HPU.out.2.2⟩, by simp [intOf]; omega⟩
  case neg =>
   have hge : ¬ (gs.length : Int) < l.length := by omega
   have hle : gs.length = l.length := by omega
   by_cases h67 : c0 = 6 ∨ c0 = 7
   ·have hmk := run_make_row' (P := Tryz.prog) 125 84 (.slice none 0 0) 24 Tryz.underlying125 rows_infoZ rfl .i64 .i64 (n + 1) (by omega) (by omega)
    rw [show ((n + 1 : Nat) : Int) = (n : Int) + 1 by omega] at hmk
    have HMR := Lib.hid (fun w => World.rowIs_made w (.slice none 0 0) (n + 1) 84)
    have HLE := Lib.hid hle
    have H67 := Lib.hid h67
    have hc7 : ∀ X, (wr.alloc X).cell? ⟨w.heap.size + 1, 7, none⟩ = some (.slice none 0 0) := fun X => (HS.out.box.below ((Below.refl wr.heap.size wr).alloc (Nat.le_refl _) X)).cells.2.2.2.2.2.2
    have hf7 : ∀ X, (wr.alloc X).frozen? ⟨w.heap.size + 1, 7, none⟩ = false := fun X => Lib.frozen_of_heap (HS.out.box.below ((Below.refl wr.heap.size wr).alloc (Nat.le_refl _) X)) 7
    have key : ((c0 == 6) = true) ∨ ((c0 == 6) = false ∧ (c0 == 7) = true) := by
     rcases h67 with h | h
     ·exact .inl (by rw [h]; rfl)
     ·exact .inr ⟨by rw [h]; rfl, by rw [h]; rfl⟩
    clear hlt hle h67
    rcases key with k1 | ⟨k1, k2⟩
    all_goals
     go_upto_region 8 with fail
     generalize hW : World.alloc wr _ = w8
     have HR8 : Hid (w8.rowIs wr.heap.size 84 (n + 1) (fun _ => .slice none 0 0)) := hW ▸ HMR.out wr
     have hb8 : Below wr.heap.size wr w8 := hW ▸ (Below.refl _ _).alloc (Nat.le_refl _) _
     have hz8 : w8.heap.size = wr.heap.size + 1 := by rw [← hW]; simp
     generalize hW9 : World.setCell w8 _ _ = w9
     have hot : ∀ y, y ≠ w.heap.size + 1 → w9.heap[y]? = w8.heap[y]? := fun y hy => hW9 ▸ Below.heap_setCell w8 ⟨w.heap.size + 1, 7, none⟩ _ y hy
     have hz9 : w9.heap.size = w8.heap.size := by rw [← hW9]; simp
     have hbx := HS.out.box.below hb8
     have hBX : BoxS (w.heap.size + 1) ⟨c0, c1, c2, c3, c4, .slice la l.length lcap⟩ (.slice A gs.length cap) (svB wr.heap.size (n + 1)) w9 := hW9 ▸ heap_setCell_same w8 (w.heap.size + 1) 7 _ _ _ hbx
     have hbel : Below w.heap.size w w9 := hW9 ▸ (HS.out.bel.trans (hb8.mono HS.out.bel.size)).setCell (p := ⟨w.heap.size + 1, 7, none⟩) (by show _ ≤ w.heap.size + 1; omega) _
     have HOK : Hid (RetT s Rb (.mk c0 c1 c2 c3 c4 l) w (.returned (ptrS (w.heap.size + 1))) w9) := by
      have hns := HNS.out
      subst hns
      have hlt1 := HS.out.box.lt
      refine ⟨w.heap.size + 1, fun x => if x = wr.heap.size then some (.mk c0 c1 c2 c3 c4 l) else Rb2 x, rfl, fun x hx => ?_, ?_, ?_, hbel⟩
      ·have : x ≠ wr.heap.size := by have := HS.out.bel.size; omega
       simp only [if_neg this]
       exact HS.out.ext x hx
      ·exact ((HS.out.memo.stay hb8).add HR8.out _).keepBut (w.heap.size + 1) (fun x _ hne => hot x hne) (fun c t hc => by
        have h2 : w8.heap[w.heap.size + 1]? = _ := hbx
        rw [h2] at hc
        cases hc
        decide)
      ·refine HS.out.fin HLE.out (by omega) (fun x hx hne => (hot x hne).trans (hb8.block x hx)) hBX (fun x hx => ?_) (fun _ => ⟨wr.heap.size, rfl, by simp, by omega⟩)
       have : x ≠ wr.heap.size := by omega
       simp only [if_neg this]
     clear hW hW9 hb8 hz8 hot hz9 hbx hBX hbel hmk
     go_wp2_with fail
     go_ret
     exact HOK.out
   ·have k1 : (c0 == 6) = false := beq_false_of_ne (fun h => h67 (.inl h))
    have k2 : (c0 == 7) = false := beq_false_of_ne (fun h => h67 (.inr h))
    have HOK : Hid (RetT s Rb (.mk c0 c1 c2 c3 c4 l) w (.returned (ptrS (w.heap.size + 1))) wr) :=
     ⟨w.heap.size + 1, Rb2, rfl, HS.out.ext, HS.out.memo, HS.out.fin hle (Nat.le_refl _) (fun _ _ _ => rfl) HS.out.box (fun _ _ => rfl) (fun h => absurd h h67), HS.out.bel⟩
    clear hlt hle h67
    go_wp2_with fail
    go_ret
    exact HOK.out
theorem spots_all (s : List UInt8) (hsz : s.length ≤ 1000000) : ∀ d, SptC s d
 | 0 => fun _ _ _ _ _ h _ _ => by cases h
 | d + 1 => spots_next s hsz d (spots_all s hsz d)
end Go.Proofs.YtpkecepelcppiaaGreatDoor

namespace Go.Proofs.YtpkecepelcppiaaGreatDoor
open Go.RowKit
set_option maxHeartbeats 2000000
set_option maxRecDepth 100000

theorem mm_le {s : List UInt8} {q : RX} (h : sndR 48 q = true) {i j : Nat} (hi : i ≤ s.length) (hm : memR s 48 q i j) : i ≤ j ∧ j ≤ s.length := (ends_finds s 48 q h).le i j hi hm
theorem mm_kid {s : List UInt8} {q : RX} (h : sndR 47 q = true) : memR s 47 q = memR s 48 q := (mem_le s (show 47 ≤ 48 by omega) h).symm
theorem mm_kids {s : List UInt8} {l : List RX} (h : ∀ q ∈ l, sndR 47 q = true) : l.map (memR s 47) = l.map (memR s 48) := List.map_congr_left fun q hq => mm_kid (h q hq)
theorem mm2 (s : List UInt8) (lo hi mn mx : Int) (l : List RX) (i j : Nat) : memR s 48 (.mk 2 lo hi mn mx l) i j ↔ j = i + 1 ∧ rng1 s lo hi i = true := by simp [memR]
theorem mm3 (s : List UInt8) (lo hi mn mx : Int) (l : List RX) (h : ∀ q ∈ l, sndR 47 q = true) (i j : Nat) : memR s 48 (.mk 3 lo hi mn mx l) i j ↔ catM (l.map (memR s 48)) i j := by
 rw [← mm_kids h]
 simp [memR]
theorem mm4 (s : List UInt8) (lo hi mn mx : Int) (l : List RX) (h : ∀ q ∈ l, sndR 47 q = true) (i j : Nat) : memR s 48 (.mk 4 lo hi mn mx l) i j ↔ ∃ q ∈ l, memR s 48 q i j := by
 have : memR s 48 (.mk 4 lo hi mn mx l) i j ↔ ∃ q ∈ l, memR s 47 q i j := by simp [memR]
 rw [this]
 exact ⟨fun ⟨q, hq, hm⟩ => ⟨q, hq, by rw [← mm_kid (h q hq)]; exact hm⟩, fun ⟨q, hq, hm⟩ => ⟨q, hq, by rw [mm_kid (h q hq)]; exact hm⟩⟩
theorem mm6 (s : List UInt8) (lo hi mn mx : Int) (l : List RX) (h : ∀ q ∈ l, sndR 47 q = true) (i j : Nat) : memR s 48 (.mk 6 lo hi mn mx l) i j ↔ i ≤ j ∧ j ≤ s.length ∧ ∀ q ∈ l, memR s 48 q i j := by
 have : memR s 48 (.mk 6 lo hi mn mx l) i j ↔ i ≤ j ∧ j ≤ s.length ∧ ∀ q ∈ l, memR s 47 q i j := by simp [memR]
 rw [this]
 exact ⟨fun ⟨a, b, c⟩ => ⟨a, b, fun q hq => by rw [← mm_kid (h q hq)]; exact c q hq⟩, fun ⟨a, b, c⟩ => ⟨a, b, fun q hq => by rw [mm_kid (h q hq)]; exact c q hq⟩⟩
theorem mm7 (s : List UInt8) (lo hi mn mx : Int) (l : List RX) (h : ∀ q ∈ l, sndR 47 q = true) (i j : Nat) : memR s 48 (.mk 7 lo hi mn mx l) i j ↔ i ≤ j ∧ j ≤ s.length ∧ ∀ q ∈ l, ¬ memR s 48 q i j := by
 have : memR s 48 (.mk 7 lo hi mn mx l) i j ↔ i ≤ j ∧ j ≤ s.length ∧ ∀ q ∈ l, ¬ memR s 47 q i j := by simp [memR]
 rw [this]
 exact ⟨fun ⟨a, b, c⟩ => ⟨a, b, fun q hq => by rw [← mm_kid (h q hq)]; exact c q hq⟩, fun ⟨a, b, c⟩ => ⟨a, b, fun q hq => by rw [mm_kid (h q hq)]; exact c q hq⟩⟩
theorem img_one {n : Nat} {M : Nat → Nat → Prop} {i : Nat} (hi : i ≤ n) (j : Nat) : img n (fun x => x = i) M j ↔ M i j :=
 ⟨fun ⟨x, _, hx, hm⟩ => by cases hx; exact hm, fun h => ⟨i, hi, rfl, h⟩⟩
theorem img_cat {s : List UInt8} {F : Nat → Prop} {a : List RX} {q : RX} (ha : ∀ x ∈ a, sndR 48 x = true) (j : Nat) :
  img s.length (img s.length F (catM (a.map (memR s 48)))) (memR s 48 q) j ↔ img s.length F (catM ((a ++ [q]).map (memR s 48))) j := by
 have hle := (foldl_cat (N := s.length) (a.map fun x => (endsL s 48 x, memR s 48 x)) (by
  intro p hp
  obtain ⟨x, hx, rfl⟩ := List.mem_map.1 hp
  exact ends_finds s 48 x (ha x hx))).le
 rw [List.map_map] at hle
 rw [List.map_append]
 constructor
 ·rintro ⟨x, hx, ⟨i, hi, hF, h1⟩, h2⟩
  refine ⟨i, hi, hF, ?_⟩
  rw [catM_app]
  exact ⟨x, h1, j, h2, rfl⟩
 ·rintro ⟨i, hi, hF, h⟩
  rw [catM_app] at h
  obtain ⟨x, h1, y, h2, h3⟩ := h
  obtain rfl : y = j := h3
  have := hle i x hi (by simpa [Function.comp_def] using h1)
  exact ⟨x, this.2, ⟨i, hi, hF, h1⟩, h2⟩
theorem BlkB.put {w : World} {g m : Nat} {P : Nat → Prop} (h : BlkB w g m P) (i : Nat) (b : Bool) (Q : Nat → Prop) (hq : ∀ j, j < m → j ≠ i → (Q j ↔ P j)) (hb : b = true ↔ Q i) : BlkB (w.setCell ⟨g, i, none⟩ (.bool b)) g m Q :=
 (h.set i b).congr (fun j hj => by
  by_cases he : j = i
  ·subst he
   rw [if_pos rfl, hb]
  ·rw [if_neg he]
   exact (hq j hj he).symm)
structure MemoZ (s : List UInt8) (Rb : Nat → Option RX) (Z : Nat → Prop) (w : World) : Prop where
 ok : MemoOK s Rb w
 no : ∀ r p, Rb r = some p → ∀ i g, w.cell? ⟨r, i, none⟩ = some (svB g (s.length + 1)) → ¬ Z g
theorem memo_cell {s : List UInt8} {Rb : Nat → Option RX} {w : World} (h : MemoOK s Rb w) {r : Nat} {p : RX} (hr : Rb r = some p) {i : Nat} (hi : i < s.length + 1) :
  w.cell? ⟨r, i, none⟩ = some (.slice none 0 0) ∨ ∃ g, w.cell? ⟨r, i, none⟩ = some (svB g (s.length + 1)) ∧ Rb g = none ∧ BlkB w g (s.length + 1) (memR s 48 p i) := by
 obtain ⟨f, hf, hfi⟩ := h.rows r p hr
 have hc := hf.cell hi
 rcases hfi i hi with h2 | ⟨g, h2, h3, h4⟩
 ·rw [h2] at hc
  exact .inl hc
 ·rw [h2] at hc
  exact .inr ⟨g, hc, h3, h4⟩
theorem cell_in {w : World} {r n i : Nat} {t : TypeId} {f : Nat → Value} {v : Value} (h : w.rowIs r t n f) (hc : w.cell? ⟨r, i, none⟩ = some v) : i < n := by
 obtain ⟨c, hb, hs, -⟩ := h
 simp only [World.cell?, hb] at hc
 rcases Nat.lt_or_ge i n with h | h
 ·exact h
 ·simp [Array.getElem?_eq_none (show c.size ≤ i by omega)] at hc
theorem MemoZ.late {s : List UInt8} {Rb : Nat → Option RX} {Z : Nat → Prop} {w w' : World} (h : MemoZ s Rb Z w) (hb : Below w.heap.size w w') : MemoZ s Rb (fun x => Z x ∨ w.heap.size ≤ x) w' := by
 refine ⟨h.ok.stay hb, fun r p hr i g hc hz => ?_⟩
 have hl := h.ok.lt hr
 rw [hb.cell (p := ⟨r, i, none⟩) hl] at hc
 rcases hz with hz | hz
 ·exact h.no r p hr i g hc hz
 ·obtain ⟨f, hf, -⟩ := h.ok.rows r p hr
  rcases memo_cell h.ok hr (cell_in hf hc) with h2 | ⟨g2, h2, h3, h4⟩
  ·rw [hc] at h2; cases h2
  ·rw [hc] at h2
   have : g = g2 := by unfold svB at h2; cases h2; rfl
   subst this
   have := h4.lt
   omega
theorem MemoZ.mono {s : List UInt8} {Rb : Nat → Option RX} {Z Y : Nat → Prop} {w : World} (h : MemoZ s Rb Z w) (hy : ∀ x, Y x → Z x) : MemoZ s Rb Y w := ⟨h.ok, fun r p hr i g hc hz => h.no r p hr i g hc (hy g hz)⟩
theorem MemoZ.stay {s : List UInt8} {Rb : Nat → Option RX} {Z : Nat → Prop} {w w' : World} (h : MemoZ s Rb Z w) (hb : Below w.heap.size w w') : MemoZ s Rb Z w' := (h.late hb).mono (fun _ hx => .inl hx)
theorem MemoZ.set {s : List UInt8} {Rb : Nat → Option RX} {Z : Nat → Prop} {w : World} (h : MemoZ s Rb Z w) {b : Nat} (hz : Z b) (hb : Rb b = none) (i : Nat) (v : Value) : MemoZ s Rb Z (w.setCell ⟨b, i, none⟩ v) := by
 have hot : ∀ y, y ≠ b → (w.setCell ⟨b, i, none⟩ v).heap[y]? = w.heap[y]? := fun y hy => Below.heap_setCell w ⟨b, i, none⟩ _ y hy
 have hne : ∀ r p, Rb r = some p → r ≠ b := fun r p hr he => by rw [he, hb] at hr; cases hr
 refine ⟨⟨fun r p hr => ?_⟩, fun r p hr j g hc => ?_⟩
 ·obtain ⟨f, hf, hfi⟩ := h.ok.rows r p hr
  refine ⟨f, hf.of_block (hot r (hne r p hr)), fun j hj => ?_⟩
  rcases hfi j hj with h2 | ⟨g, h2, h3, h4⟩
  ·exact .inl h2
  ·refine .inr ⟨g, h2, h3, h4.keep (hot g (fun he => ?_))⟩
   have hc := hf.cell hj
   rw [h2] at hc
   exact h.no r p hr j g hc (he ▸ hz)
 ·refine h.no r p hr j g ?_
  rw [← hc]
  unfold World.cell?
  rw [hot r (hne r p hr)]
theorem KeepM.set {Rb : Nat → Option RX} {w0 w : World} (h : KeepM Rb w0 w) {b : Nat} (hb : w0.heap.size ≤ b) (i : Nat) (v : Value) : KeepM Rb w0 (w.setCell ⟨b, i, none⟩ v) :=
 ⟨h.os, h.tape, h.output, by simpa using h.size, fun k hk hn => (Below.heap_setCell w ⟨b, i, none⟩ v k (by show k ≠ b; omega)).trans (h.block k hk hn)⟩
def RetM (s : List UInt8) (Rb : Nat → Option RX) (Z : Nat → Prop) (G : Nat → Prop) (w : World) (e : Ending) (w' : World) : Prop :=
 ∃ a, e = .returned (svB a (s.length + 1)) ∧ Rb a = none ∧ ¬ Z a ∧ BlkB w' a (s.length + 1) G ∧ MemoZ s Rb Z w' ∧ KeepM Rb w w'
def EndM (s : List UInt8) (sb : ByteArray) (Rb : Nat → Option RX) (d : Nat) : Prop :=
 ∀ (Z : Nat → Prop) (p : RX) (g : Nat) (F : Nat → Prop) (a : Nat) (w : World), (∀ x, Z x → x < w.heap.size) → SpR (s.length + 1) Rb w g p → sndR d p = true → MemoZ s Rb Z w → Rb a = none → ¬ Z a → BlkB w a (s.length + 1) F →
  Calls Tryz.prog 60 #[ptrS g, .string sb, svB a (s.length + 1)] w (RetM s Rb Z (img s.length F (memR s 48 p)) w)
def RowM (s : List UInt8) (sb : ByteArray) (Rb : Nat → Option RX) (d : Nat) : Prop :=
 ∀ (Z : Nat → Prop) (p : RX) (g i : Nat) (w : World), (∀ x, Z x → x < w.heap.size) → SpR (s.length + 1) Rb w g p → sndR d p = true → p.op = 6 ∨ p.op = 7 → MemoZ s Rb Z w → i < s.length + 1 →
  Calls Tryz.prog 90 #[ptrS g, .string sb, .int .i64 (i : Int)] w (RetM s Rb Z (memR s 48 p i) w)
theorem SpR.open {m : Nat} {Rb : Nat → Option RX} {w : World} {g : Nat} {op lo hi mn mx : Int} {l : List RX} (h : SpR m Rb w g (.mk op lo hi mn mx l)) :
  ∃ (ca av rv : Value) (gs : Nat → Nat), BoxS g ⟨op, lo, hi, mn, mx, ca⟩ av rv w ∧ Rb g = none ∧ SlX w av l.length 1 (fun i => [ptrS (gs i)]) ∧ (∀ x o n cap, av = .slice (some ⟨x, o, none⟩) n cap → 0 < l.length → Rb x = none) ∧ (∀ i (hi : i < l.length), SpR m Rb w (gs i) l[i]) ∧ (op = 6 ∨ op = 7 → ∃ r, rv = svB r m ∧ Rb r = some (.mk op lo hi mn mx l) ∧ r < w.heap.size) := by
 cases h with
 | mk _ _ _ _ _ _ _ ca av rv gs hb hN ha hNa hk hr => exact ⟨ca, av, rv, gs, hb, hN, ha, hNa, hk, hr⟩
end Go.Proofs.YtpkecepelcppiaaGreatDoor
