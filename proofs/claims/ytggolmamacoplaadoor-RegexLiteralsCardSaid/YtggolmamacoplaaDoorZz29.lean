/- The law RegexLiterals walked; printed by gen_rzm.py. Conditions: the value of strconv.ErrSyntax. -/
import Derived.Test.YtggolmamacoplaaDoorZz25
import Derived.Test.YtggolmamacoplaaDoorZz15
import Derived.Test.YtggolmamacoplaaDoorZz27
import Derived.Test.YtggolmamacoplaaDoorZz28
namespace Go.Proofs.YtggolmamacoplaaDoor
open Go.RowKit Go.Shelf
set_option maxHeartbeats 4000000
set_option maxRecDepth 100000

/-- What stands behind the boxes of two arguments. -/
structure SmS (c1 c2 : PC) (w wr : World) : Prop where
  b1 : BoxP w.heap.size c1 wr
  b2 : BoxP (w.heap.size + 1) c2 wr
  bel : Below w.heap.size w wr
theorem SmS.stay {c1 c2 : PC} {w wr wx : World} (h : SmS c1 c2 w wr) (hb : Below wr.heap.size wr wx) : SmS c1 c2 w wx := ⟨h.b1.below hb, h.b2.below hb, h.bel.trans (hb.mono h.bel.size)⟩
theorem SmS.start {c1 c2 : PC} {w w1 w2 : World} {X Y : Obj} (hW : w.alloc X = w1) (hW2 : w1.alloc Y = w2) (hX : X = .cells c1.cells.toArray 24 (0, 0)) (hY : Y = .cells c2.cells.toArray 24 (0, 0)) : SmS c1 c2 w w2 := by
  obtain ⟨ha, -, hz1, hb1⟩ := alloc_of hW
  obtain ⟨ha2, -, hz2, hb2⟩ := alloc_of hW2
  rw [hz1] at ha2
  exact ⟨(hb2.block _ (by omega)).trans (ha.trans (by rw [hX])), ha2.trans (by rw [hY]), hb1.trans (hb2.mono hb1.size)⟩
theorem same_any : ∀ (d : Nat) (p : RX) (c1 c2 : PC) (w : World), d ≤ 48 → sndR d p = true → RdP w c1 p → RdP w c2 p →
    Calls Tryd.prog 40 #[aggP c1, aggP c2, .int .i64 (d : Int)] w (Ret (.bool true) w) := by
  intro d
  induction d with
  | zero => intro p c1 c2 w _ h; cases h
  | succ d ih =>
    intro p c1 c2 w hd hs hr1 hr2
    have IH := Lib.hid ih
    clear ih
    have H1 := Lib.hid hr1
    have H2 := Lib.hid hr2
    obtain ⟨op, lo, hi, mn, mx, l⟩ := p
    have HKS := Lib.hid (snd_node hs).2
    obtain ⟨a1, cap1, e1⟩ := hr1.forms
    obtain ⟨a2, cap2, e2⟩ := hr2.forms
    have h1 : c1.op = op ∧ c1.lo = lo ∧ c1.hi = hi ∧ c1.mn = mn ∧ c1.mx = mx := by cases hr1; exact ⟨rfl, rfl, rfl, rfl, rfl⟩
    have h2 : c2.op = op ∧ c2.lo = lo ∧ c2.hi = hi ∧ c2.mn = mn ∧ c2.mx = mx := by cases hr2; exact ⟨rfl, rfl, rfl, rfl, rfl⟩
    obtain ⟨p0, p1, p2, p3, p4, p5⟩ := c1
    obtain ⟨q0, q1, q2, q3, q4, q5⟩ := c2
    simp only at h1 h2 e1 e2
    obtain ⟨rfl, rfl, rfl, rfl, rfl⟩ := h1
    obtain ⟨rfl, rfl, rfl, rfl, rfl⟩ := h2
    rw [show (RX.mk q0 q1 q2 q3 q4 l).args = l from rfl] at e1 e2
    subst e1 e2
    have hm : (l.length : Int) ≤ 9223372036854775807 := by
      cases hr1 with
      | mk _ _ _ _ _ _ _ cs hl hL =>
      obtain ⟨a', cap', he, h1, h2, h0, h3⟩ := hl
      cases he
      simp only [maxLen] at h2
      omega
    have hdi : ¬ ((d + 1 : Nat) : Int) < 1 := by omega
    simp only [aggP]
    clear hr1 hr2 hs
    go_enter Tryd.func40, Tryd.ntmps40
    go_upto_region 1 with fail
    generalize hW : World.alloc w _ = w1
    generalize hW2 : World.alloc w1 _ = w2
    have HS := Lib.hid (SmS.start (c1 := ⟨q0, q1, q2, q3, q4, .slice a1 l.length cap1⟩) (c2 := ⟨q0, q1, q2, q3, q4, .slice a2 l.length cap2⟩) hW hW2 rfl rfl)
    clear hW hW2
    obtain ⟨t0, t1, t2, t3, t4, t5⟩ := HS.out.b1.cells
    obtain ⟨u0, u1, u2, u3, u4, u5⟩ := HS.out.b2.cells
    simp only at t0 t1 t2 t3 t4 t5 u0 u1 u2 u3 u4 u5
    go_wp2_with fail
    go_loopw [6, 7] (fun _ iv wr => ∃ (k : Nat), k ≤ l.length ∧ iv = .int .i64 k ∧ Hid (SmS ⟨q0, q1, q2, q3, q4, .slice a1 l.length cap1⟩ ⟨q0, q1, q2, q3, q4, .slice a2 l.length cap2⟩ w wr)) (fun _ iv _ => l.length - (intOf iv).toNat)
    case atStart => exact ⟨0, Nat.zero_le _, rfl, HS.out⟩
    case round =>
      clear HS t0 t1 t2 t3 t4 t5 u0 u1 u2 u3 u4 u5
      obtain ⟨k, hk, rfl, HS⟩ := hrel
      obtain ⟨t0, t1, t2, t3, t4, t5⟩ := HS.out.b1.cells
      obtain ⟨u0, u1, u2, u3, u4, u5⟩ := HS.out.b2.cells
      simp only at t0 t1 t2 t3 t4 t5 u0 u1 u2 u3 u4 u5
      by_cases hlt : k < l.length
      case neg =>
        have hge : ¬ (k : Int) < l.length := by omega
        clear hlt
        go_wp2_with fail
        go_ret
        exact ⟨rfl, HS.out.bel⟩
      case pos =>
        have hlti : (k : Int) < l.length := by omega
        obtain ⟨g, o, c, rfl, hc6, hrq⟩ := RdP.part H1.out HS.out.bel k hlt
        obtain ⟨g2, o2, c', rfl, hc6', hrq'⟩ := RdP.part H2.out HS.out.bel k hlt
        have HR1 := Lib.hid (hrq.stays (below_drewN (Below.refl _ _) 1))
        have HR2 := Lib.hid (hrq'.stays (below_drewN (Below.refl _ _) 1))
        have HSQ := Lib.hid (HKS.out _ (List.getElem_mem hlt))
        generalize l[k] = q at *
        obtain ⟨pa, pcap, hpa⟩ := hrq.forms
        obtain ⟨qa, qcap, hqa⟩ := hrq'.forms
        generalize q.args.length = pn at *
        obtain ⟨p0, p1, p2, p3, p4, p5⟩ := c
        obtain ⟨r0, r1, r2, r3, r4, r5⟩ := c'
        simp only at hpa hqa
        subst hpa hqa
        obtain ⟨b0, b1, b2, b3, b4, b5⟩ := cells6 hc6
        obtain ⟨v0, v1, v2, v3, v4, v5⟩ := cells6 hc6'
        simp only at b0 b1 b2 b3 b4 b5 v0 v1 v2 v3 v4 v5
        have HC1 : Hid (∀ j, j < 6 → wr.drew.cell? ⟨g, o + k * 6 + j, none⟩ = (PC.cells ⟨p0, p1, p2, p3, p4, .slice pa pn pcap⟩)[j]?) := hc6
        have HC2 : Hid (∀ j, j < 6 → wr.drew.cell? ⟨g2, o2 + k * 6 + j, none⟩ = (PC.cells ⟨r0, r1, r2, r3, r4, .slice qa pn qcap⟩)[j]?) := hc6'
        have HG : Hid (g < w.heap.size ∧ g2 < w.heap.size) := by
          have f : ∀ {c : PC} {gg oo nn cc : Nat}, RdP w ⟨q0, q1, q2, q3, q4, .slice (some ⟨gg, oo, none⟩) nn cc⟩ (.mk q0 q1 q2 q3 q4 l) → gg < w.heap.size := by
            intro c gg oo nn cc h
            cases h with
            | mk _ _ _ _ _ _ _ cs hl hL =>
            obtain ⟨_, _, he, _, _, _, h3⟩ := hl
            cases he
            obtain ⟨_, _, e, h, _⟩ := h3 (by omega)
            cases e
            exact h
          exact ⟨f (c := ⟨0, 0, 0, 0, 0, .nilIface⟩) H1.out, f (c := ⟨0, 0, 0, 0, 0, .nilIface⟩) H2.out⟩
        clear hc6 hc6' hrq hrq'
        have HIH := Lib.hid (IH.out q ⟨p0, p1, p2, p3, p4, .slice pa pn pcap⟩ ⟨r0, r1, r2, r3, r4, .slice qa pn qcap⟩ (wr.drewN 1) (by omega) HSQ.out HR1.out HR2.out)
        have hwr : IntKind.i64.wrap (((d + 1 : Nat) : Int) - 1) = (d : Int) := (IntWalk.i64_in _ (by omega)).trans (by omega)
        have hwr2 : IntKind.i64.wrap ((d : Int) + 1 - 1) = (d : Int) := (IntWalk.i64_in _ (by omega)).trans (by omega)
        have hwr3 : IntKind.i64.wrap (d : Int) = (d : Int) := IntWalk.i64_in _ (by omega)
        have HSD := Lib.hid (HS.out.stay (below_drewN (Below.refl _ _) 1))
        go_upto_region 6 with fail
        have hS0 : SmS ⟨q0, q1, q2, q3, q4, .slice (some ⟨g, o, none⟩) l.length cap1⟩ ⟨q0, q1, q2, q3, q4, .slice (some ⟨g2, o2, none⟩) l.length cap2⟩ w wr.drew := HSD.out
        refine wpq_region (fun w' => SmS ⟨q0, q1, q2, q3, q4, .slice (some ⟨g, o, none⟩) l.length cap1⟩ ⟨q0, q1, q2, q3, q4, .slice (some ⟨g2, o2, none⟩) l.length cap2⟩ w w' ∧ Hid (∀ j, j < 6 → w'.cell? ⟨g, o + k * 6 + j, none⟩ = (PC.cells ⟨p0, p1, p2, p3, p4, .slice pa pn pcap⟩)[j]?) ∧ Hid (∀ j, j < 6 → w'.cell? ⟨g2, o2 + k * 6 + j, none⟩ = (PC.cells ⟨r0, r1, r2, r3, r4, .slice qa pn qcap⟩)[j]?)) 13 (by kernel_rfl) ⟨hS0, HC1, HC2⟩ (fun hHeld => ?_)
        have HD : wr.drewN 1 = wr.drew := rfl
        rw [HD] at HIH HR1 HR2
        clear hS0 HC1 HC2 HSD HD HS b0 b1 b2 b3 b4 b5 v0 v1 v2 v3 v4 v5 t0 t1 t2 t3 t4 t5 u0 u1 u2 u3 u4 u5
        generalize wr.drew = wd at *
        refine wpq_take 0 (some 61) [1, 3, 4, 12, 13] rfl rfl (by kernel_rfl) (by kernel_rfl) (by kernel_rfl) (by kernel_rfl) (fun _ _ _ h => h) (Or.inl ⟨by rfl, fun w hSw => by (obtain ⟨x0, x1, x2, x3, x4, x5⟩ := BoxP.cells hSw.1.b1; obtain ⟨y0, y1, y2, y3, y4, y5⟩ := BoxP.cells hSw.1.b2; obtain ⟨z0, z1, z2, z3, z4, z5⟩ := cells6 hSw.2.1.out; obtain ⟨s0, s1, s2, s3, s4, s5⟩ := cells6 hSw.2.2.out; simp only at x0 x1 x2 x3 x4 x5 y0 y1 y2 y3 y4 y5 z0 z1 z2 z3 z4 z5 s0 s1 s2 s3 s4 s5; go_simp; with_reducible rfl)⟩) hHeld ?_
        simp only [Act.put, List.setIfInBounds_toArray, List.set_cons_zero, List.set_cons_succ]
        refine wpq_take 1 (some 62) [3, 4, 12, 13] rfl rfl (by kernel_rfl) (by kernel_rfl) (by kernel_rfl) (by kernel_rfl) (fun _ _ _ h => h) (Or.inl ⟨by rfl, fun w hSw => by (obtain ⟨x0, x1, x2, x3, x4, x5⟩ := BoxP.cells hSw.1.b1; obtain ⟨y0, y1, y2, y3, y4, y5⟩ := BoxP.cells hSw.1.b2; obtain ⟨z0, z1, z2, z3, z4, z5⟩ := cells6 hSw.2.1.out; obtain ⟨s0, s1, s2, s3, s4, s5⟩ := cells6 hSw.2.2.out; simp only at x0 x1 x2 x3 x4 x5 y0 y1 y2 y3 y4 y5 z0 z1 z2 z3 z4 z5 s0 s1 s2 s3 s4 s5; go_simp; with_reducible rfl)⟩) hHeld ?_
        simp only [Act.put, List.setIfInBounds_toArray, List.set_cons_zero, List.set_cons_succ]
        refine wpq_take 2 (some 63) [3, 4, 12, 13] rfl rfl (by kernel_rfl) (by kernel_rfl) (by kernel_rfl) (by kernel_rfl) (fun _ _ _ h => h) (Or.inl ⟨by rfl, fun w hSw => by (obtain ⟨x0, x1, x2, x3, x4, x5⟩ := BoxP.cells hSw.1.b1; obtain ⟨y0, y1, y2, y3, y4, y5⟩ := BoxP.cells hSw.1.b2; obtain ⟨z0, z1, z2, z3, z4, z5⟩ := cells6 hSw.2.1.out; obtain ⟨s0, s1, s2, s3, s4, s5⟩ := cells6 hSw.2.2.out; simp only at x0 x1 x2 x3 x4 x5 y0 y1 y2 y3 y4 y5 z0 z1 z2 z3 z4 z5 s0 s1 s2 s3 s4 s5; go_simp; with_reducible rfl)⟩) hHeld ?_
        simp only [Act.put, List.setIfInBounds_toArray, List.set_cons_zero, List.set_cons_succ]
        refine wpq_take 3 (some 64) [4, 12, 13] rfl rfl (by kernel_rfl) (by kernel_rfl) (by kernel_rfl) (by kernel_rfl) (fun _ _ _ h => h) (Or.inl ⟨by rfl, fun w hSw => by (obtain ⟨x0, x1, x2, x3, x4, x5⟩ := BoxP.cells hSw.1.b1; obtain ⟨y0, y1, y2, y3, y4, y5⟩ := BoxP.cells hSw.1.b2; obtain ⟨z0, z1, z2, z3, z4, z5⟩ := cells6 hSw.2.1.out; obtain ⟨s0, s1, s2, s3, s4, s5⟩ := cells6 hSw.2.2.out; simp only at x0 x1 x2 x3 x4 x5 y0 y1 y2 y3 y4 y5 z0 z1 z2 z3 z4 z5 s0 s1 s2 s3 s4 s5; go_simp; with_reducible rfl)⟩) hHeld ?_
        simp only [Act.put, List.setIfInBounds_toArray, List.set_cons_zero, List.set_cons_succ]
        refine wpq_take 4 (some 65) [12, 13] rfl rfl (by kernel_rfl) (by kernel_rfl) (by kernel_rfl) (by kernel_rfl) (fun _ _ _ h => h) (Or.inl ⟨by rfl, fun w hSw => by (obtain ⟨x0, x1, x2, x3, x4, x5⟩ := BoxP.cells hSw.1.b1; obtain ⟨y0, y1, y2, y3, y4, y5⟩ := BoxP.cells hSw.1.b2; obtain ⟨z0, z1, z2, z3, z4, z5⟩ := cells6 hSw.2.1.out; obtain ⟨s0, s1, s2, s3, s4, s5⟩ := cells6 hSw.2.2.out; simp only at x0 x1 x2 x3 x4 x5 y0 y1 y2 y3 y4 y5 z0 z1 z2 z3 z4 z5 s0 s1 s2 s3 s4 s5; go_simp; with_reducible rfl)⟩) hHeld ?_
        simp only [Act.put, List.setIfInBounds_toArray, List.set_cons_zero, List.set_cons_succ]
        refine wpq_take 5 (some 66) [6, 8, 9, 12, 13] rfl rfl (by kernel_rfl) (by kernel_rfl) (by kernel_rfl) (by kernel_rfl) (fun _ _ _ h => h) (Or.inl ⟨by rfl, fun w hSw => by (obtain ⟨x0, x1, x2, x3, x4, x5⟩ := BoxP.cells hSw.1.b1; obtain ⟨y0, y1, y2, y3, y4, y5⟩ := BoxP.cells hSw.1.b2; obtain ⟨z0, z1, z2, z3, z4, z5⟩ := cells6 hSw.2.1.out; obtain ⟨s0, s1, s2, s3, s4, s5⟩ := cells6 hSw.2.2.out; simp only at x0 x1 x2 x3 x4 x5 y0 y1 y2 y3 y4 y5 z0 z1 z2 z3 z4 z5 s0 s1 s2 s3 s4 s5; go_simp; with_reducible rfl)⟩) hHeld ?_
        simp only [Act.put, List.setIfInBounds_toArray, List.set_cons_zero, List.set_cons_succ]
        refine wpq_take 6 (some 67) [8, 9, 12, 13] rfl rfl (by kernel_rfl) (by kernel_rfl) (by kernel_rfl) (by kernel_rfl) (fun _ _ _ h => h) (Or.inl ⟨by rfl, fun w hSw => by (obtain ⟨x0, x1, x2, x3, x4, x5⟩ := BoxP.cells hSw.1.b1; obtain ⟨y0, y1, y2, y3, y4, y5⟩ := BoxP.cells hSw.1.b2; obtain ⟨z0, z1, z2, z3, z4, z5⟩ := cells6 hSw.2.1.out; obtain ⟨s0, s1, s2, s3, s4, s5⟩ := cells6 hSw.2.2.out; simp only at x0 x1 x2 x3 x4 x5 y0 y1 y2 y3 y4 y5 z0 z1 z2 z3 z4 z5 s0 s1 s2 s3 s4 s5; go_simp; with_reducible rfl)⟩) hHeld ?_
        simp only [Act.put, List.setIfInBounds_toArray, List.set_cons_zero, List.set_cons_succ]
        refine wpq_take 7 (some 68) [8, 9, 12, 13] rfl rfl (by kernel_rfl) (by kernel_rfl) (by kernel_rfl) (by kernel_rfl) (fun _ _ _ h => h) (Or.inl ⟨by rfl, fun w hSw => by (obtain ⟨x0, x1, x2, x3, x4, x5⟩ := BoxP.cells hSw.1.b1; obtain ⟨y0, y1, y2, y3, y4, y5⟩ := BoxP.cells hSw.1.b2; obtain ⟨z0, z1, z2, z3, z4, z5⟩ := cells6 hSw.2.1.out; obtain ⟨s0, s1, s2, s3, s4, s5⟩ := cells6 hSw.2.2.out; simp only at x0 x1 x2 x3 x4 x5 y0 y1 y2 y3 y4 y5 z0 z1 z2 z3 z4 z5 s0 s1 s2 s3 s4 s5; go_simp; with_reducible rfl)⟩) hHeld ?_
        simp only [Act.put, List.setIfInBounds_toArray, List.set_cons_zero, List.set_cons_succ]
        refine wpq_take 8 (some 69) [9, 12, 13] rfl rfl (by kernel_rfl) (by kernel_rfl) (by kernel_rfl) (by kernel_rfl) (fun _ _ _ h => h) (Or.inl ⟨by rfl, fun w hSw => by (obtain ⟨x0, x1, x2, x3, x4, x5⟩ := BoxP.cells hSw.1.b1; obtain ⟨y0, y1, y2, y3, y4, y5⟩ := BoxP.cells hSw.1.b2; obtain ⟨z0, z1, z2, z3, z4, z5⟩ := cells6 hSw.2.1.out; obtain ⟨s0, s1, s2, s3, s4, s5⟩ := cells6 hSw.2.2.out; simp only at x0 x1 x2 x3 x4 x5 y0 y1 y2 y3 y4 y5 z0 z1 z2 z3 z4 z5 s0 s1 s2 s3 s4 s5; go_simp; with_reducible rfl)⟩) hHeld ?_
        simp only [Act.put, List.setIfInBounds_toArray, List.set_cons_zero, List.set_cons_succ]
        refine wpq_take 9 (some 70) [12, 13] rfl rfl (by kernel_rfl) (by kernel_rfl) (by kernel_rfl) (by kernel_rfl) (fun _ _ _ h => h) (Or.inl ⟨by rfl, fun w hSw => by (obtain ⟨x0, x1, x2, x3, x4, x5⟩ := BoxP.cells hSw.1.b1; obtain ⟨y0, y1, y2, y3, y4, y5⟩ := BoxP.cells hSw.1.b2; obtain ⟨z0, z1, z2, z3, z4, z5⟩ := cells6 hSw.2.1.out; obtain ⟨s0, s1, s2, s3, s4, s5⟩ := cells6 hSw.2.2.out; simp only at x0 x1 x2 x3 x4 x5 y0 y1 y2 y3 y4 y5 z0 z1 z2 z3 z4 z5 s0 s1 s2 s3 s4 s5; go_simp; with_reducible rfl)⟩) hHeld ?_
        simp only [Act.put, List.setIfInBounds_toArray, List.set_cons_zero, List.set_cons_succ]
        refine wpq_take 10 (some 71) [11, 12, 13] rfl rfl (by kernel_rfl) (by kernel_rfl) (by kernel_rfl) (by kernel_rfl) (fun _ _ _ h => h) (Or.inl ⟨by rfl, fun w hSw => by (obtain ⟨x0, x1, x2, x3, x4, x5⟩ := BoxP.cells hSw.1.b1; obtain ⟨y0, y1, y2, y3, y4, y5⟩ := BoxP.cells hSw.1.b2; obtain ⟨z0, z1, z2, z3, z4, z5⟩ := cells6 hSw.2.1.out; obtain ⟨s0, s1, s2, s3, s4, s5⟩ := cells6 hSw.2.2.out; simp only at x0 x1 x2 x3 x4 x5 y0 y1 y2 y3 y4 y5 z0 z1 z2 z3 z4 z5 s0 s1 s2 s3 s4 s5; go_simp; with_reducible rfl)⟩) hHeld ?_
        simp only [Act.put, List.setIfInBounds_toArray, List.set_cons_zero, List.set_cons_succ]
        refine wpq_take 11 (some 72) [12, 13] rfl rfl (by kernel_rfl) (by kernel_rfl) (by kernel_rfl) (by kernel_rfl) (fun _ _ _ h => h) (Or.inl ⟨by rfl, fun w hSw => by (obtain ⟨x0, x1, x2, x3, x4, x5⟩ := BoxP.cells hSw.1.b1; obtain ⟨y0, y1, y2, y3, y4, y5⟩ := BoxP.cells hSw.1.b2; obtain ⟨z0, z1, z2, z3, z4, z5⟩ := cells6 hSw.2.1.out; obtain ⟨s0, s1, s2, s3, s4, s5⟩ := cells6 hSw.2.2.out; simp only at x0 x1 x2 x3 x4 x5 y0 y1 y2 y3 y4 y5 z0 z1 z2 z3 z4 z5 s0 s1 s2 s3 s4 s5; go_simp; with_reducible rfl)⟩) hHeld ?_
        simp only [Act.put, List.setIfInBounds_toArray, List.set_cons_zero, List.set_cons_succ]
        refine wpq_one 12 (by kernel_rfl) rfl (fun K hK => ?_)
        go_simp
        refine HIH.out.mono ?_
        rintro e w6 ⟨rfl, hb6⟩
        have HS6 := Lib.hid (hHeld.1.stay hb6)
        have hbw := hHeld.1.bel
        have HC1 : Hid (∀ j, j < 6 → w6.cell? ⟨g, o + k * 6 + j, none⟩ = (PC.cells ⟨p0, p1, p2, p3, p4, .slice pa pn pcap⟩)[j]?) := fun j hj => (hb6.cell (p := ⟨g, o + k * 6 + j, none⟩) (by have := HG.out.1; have := hbw.size; show g < wd.heap.size; omega)).trans (hHeld.2.1.out j hj)
        have HC2 : Hid (∀ j, j < 6 → w6.cell? ⟨g2, o2 + k * 6 + j, none⟩ = (PC.cells ⟨r0, r1, r2, r3, r4, .slice qa pn qcap⟩)[j]?) := fun j hj => (hb6.cell (p := ⟨g2, o2 + k * 6 + j, none⟩) (by have := HG.out.2; have := hbw.size; show g2 < wd.heap.size; omega)).trans (hHeld.2.2.out j hj)
        clear hHeld hb6 hbw HIH
        refine hK.out _ _ ⟨HS6.out, HC1, HC2⟩ (fun hHeld => ?_)
        clear hK K hHeld
        refine wpq_end 13 (by kernel_rfl) rfl (by kernel_rfl) (fun K hK => ?_)
        go_simp
        refine hK.out _ _ ?_
        clear hK K
        refine wpq_done (by kernel_rfl) ?_ _
        go_simp
        go_wp2_with fail
        exact ⟨⟨k + 1, by omega, by go_num, HS6.out⟩, by simp [intOf]; omega⟩
theorem Same_any (p : RX) (c1 c2 : PC) (w : World) (hs : sndR 48 p = true) (hr1 : RdP w c1 p) (hr2 : RdP w c2 p) :
    Calls Tryd.prog 20 #[aggP c1, aggP c2] w (Ret (.bool true) w) := by
  have HS := Lib.hid hs
  obtain ⟨a1, cap1, e1⟩ := hr1.forms
  obtain ⟨a2, cap2, e2⟩ := hr2.forms
  have HC := Lib.hid (fun w' (hb : Below w.heap.size w w') => same_any 48 p c1 c2 w' (Nat.le_refl _) hs (hr1.stays hb) (hr2.stays hb))
  generalize p.args.length = n at *
  obtain ⟨p0, p1, p2, p3, p4, p5⟩ := c1
  obtain ⟨q0, q1, q2, q3, q4, q5⟩ := c2
  simp only at e1 e2
  subst e1 e2
  simp only [aggP] at *
  clear hr1 hr2 hs HS
  go_enter Tryd.func20, Tryd.ntmps20
  go_upto_region 1 with fail
  generalize hW : World.alloc w _ = w1
  generalize hW2 : World.alloc w1 _ = w2
  have HS := Lib.hid (SmS.start (c1 := ⟨p0, p1, p2, p3, p4, .slice a1 n cap1⟩) (c2 := ⟨q0, q1, q2, q3, q4, .slice a2 n cap2⟩) hW hW2 rfl rfl)
  clear hW hW2
  obtain ⟨t0, t1, t2, t3, t4, t5⟩ := HS.out.b1.cells
  obtain ⟨u0, u1, u2, u3, u4, u5⟩ := HS.out.b2.cells
  simp only at t0 t1 t2 t3 t4 t5 u0 u1 u2 u3 u4 u5
  go_wp2_with fail
  refine (HC.out _ HS.out.bel).mono ?_
  rintro e w3 ⟨rfl, hb⟩
  have HS3 := Lib.hid (HS.out.stay hb)
  clear hb
  go_wp2_with fail
  go_ret
  exact ⟨rfl, HS3.out.bel⟩
end Go.Proofs.YtggolmamacoplaaDoor

namespace Go.Proofs.YtggolmamacoplaaDoor
open Go.RowKit Go.Shelf
set_option maxHeartbeats 4000000
set_option maxRecDepth 100000

theorem lit_snd (l : List UInt8) : sndR 48 (litR l) = true := by
  match l with
  | [] => exact snd_le (show 1 ≤ 48 by omega) (show sndR 1 empR = true from rfl)
  | [a] => exact snd_le (show 1 ≤ 48 by omega) (rng_snd 0 a)
  | a :: b :: t =>
    rw [lit_many]
    unfold sndR
    rw [Bool.and_eq_true, List.all_eq_true]
    refine ⟨by simp [formR], fun q hq => ?_⟩
    obtain ⟨c, hc, rfl⟩ := List.mem_map.1 hq
    exact snd_le (show 1 ≤ 47 by omega) (rng_snd 0 c)
theorem Literals_long (s t : ByteArray) (w : World) (hE : Env w) (hs : s.size ≤ 600 ∧ t.size ≤ 600) (h5 : ¬ s.size < 512) :
    Calls Tryd.prog 8 #[.string s, .string t] w fun e w' => e = .returned (.bool true) ∧ Below w.heap.size w w' := by
  have HS := Lib.hid hs
  have HE := Lib.hid hE
  have hsi : (s.size : Int) ≤ 600 := by omega
  have hti : (t.size : Int) ≤ 600 := by omega
  have HSN := Lib.hid (lit_snd (L s))
  have h5i : ((s.size : Int) < 512) = False := eq_false (by omega)
  have hv : valR (litR (L s)) = false := by
    rw [lit_val _ (by rw [L_len]; omega), L_len]
    exact decide_eq_false h5
  have hm1 : matR (litR (L s)) (L s) = false := by
    rw [lit_mat _ _ (by rw [L_len]; omega), L_len]
    simp [h5]
  have hm2 : matR (litR (L s)) (L t) = false := by
    rw [lit_mat _ _ (by rw [L_len]; omega), L_len]
    simp [h5]
  have HV := Lib.hid (fun c w' (h : RdP w' c (litR (L s))) => show Calls Tryd.prog 21 #[aggP c] w' fun e w'' => e = .returned (.bool false) ∧ Below w'.heap.size w' w'' from by
    have := PValid_any _ c w' h
    rw [hv] at this
    exact this)
  have HM1 := Lib.hid (fun c w' (h : RdP w' c (litR (L s))) => show Calls Tryd.prog 15 #[aggP c, .string s] w' fun e w'' => e = .returned (.bool false) ∧ Below w'.heap.size w' w'' from by
    have := Match_any s (by omega) _ c w' h
    rw [hm1] at this
    exact this)
  have HM2 := Lib.hid (fun c w' (h : RdP w' c (litR (L s))) => show Calls Tryd.prog 15 #[aggP c, .string t] w' fun e w'' => e = .returned (.bool false) ∧ Below w'.heap.size w' w'' from by
    have := Match_any t (by omega) _ c w' h
    rw [hm2] at this
    exact this)
  clear hE hs hv hm1 hm2 h5
  go_enter Tryd.func8, Tryd.ntmps8
  go_wp2_with fail
  refine (Literal_any s (by have := HS.out.1; omega) w).mono ?_
  rintro e w3 ⟨cq, rfl, hq, hb⟩
  obtain ⟨fa, fcap, hfa⟩ := hq.forms
  obtain ⟨q0, q1, q2, q3, q4, q5⟩ := cq
  simp only at hfa
  subst hfa
  have HQ := Lib.hid hq
  have HB := Lib.hid hb
  replace HV := Lib.hid (HV.out ⟨q0, q1, q2, q3, q4, .slice fa (litR (L s)).args.length fcap⟩)
  replace HM1 := Lib.hid (HM1.out ⟨q0, q1, q2, q3, q4, .slice fa (litR (L s)).args.length fcap⟩)
  replace HM2 := Lib.hid (HM2.out ⟨q0, q1, q2, q3, q4, .slice fa (litR (L s)).args.length fcap⟩)
  have HRL := Lib.hid (fun w' => RLiteral_any s (by have := HS.out.1; omega) w')
  generalize litR (L s) = Q at *
  generalize Q.args.length = qn at *
  clear hb hq
  go_upto_region 4 with fail
  generalize hW : World.alloc w3 _ = w4
  obtain ⟨ha, -, -, hb⟩ := alloc_of hW
  have HX := Lib.hid (show LwS w3.heap.size ⟨q0, q1, q2, q3, q4, .slice fa qn fcap⟩ Q w w4 from ⟨ha, HQ.out.stays hb, HE.out.below (HB.out.trans (hb.mono HB.out.size)), HB.out.trans (hb.mono HB.out.size)⟩)
  clear hW ha hb HQ HB
  have hS0 : LwS w3.heap.size ⟨q0, q1, q2, q3, q4, .slice fa qn fcap⟩ Q w w4.drew := HX.out.stay (below_drewN (Below.refl _ _) 1)
  refine wpq_region (fun w' => LwS w3.heap.size ⟨q0, q1, q2, q3, q4, .slice fa qn fcap⟩ Q w w') 12 (by kernel_rfl) hS0 (fun hHeld => ?_)
  clear HX hS0
  generalize w4.drew = wd at *
  refine wpq_take 0 (some 17) [3, 5, 12] rfl rfl (by kernel_rfl) (by kernel_rfl) (by kernel_rfl) (by kernel_rfl) (fun _ _ _ h => h) (Or.inl ⟨by rfl, fun w hSw => by (obtain ⟨x0, x1, x2, x3, x4, x5⟩ := BoxP.cells hSw.1; simp only at x0 x1 x2 x3 x4 x5; go_simp; with_reducible rfl)⟩) hHeld ?_
  simp only [Act.put, List.setIfInBounds_toArray, List.set_cons_zero, List.set_cons_succ]
  refine wpq_take 1 (some 18) [2, 3, 5, 12] rfl rfl (by kernel_rfl) (by kernel_rfl) (by kernel_rfl) (by kernel_rfl) (fun _ _ _ h => h) (Or.inl ⟨by rfl, fun w hSw => by (obtain ⟨x0, x1, x2, x3, x4, x5⟩ := BoxP.cells hSw.1; simp only at x0 x1 x2 x3 x4 x5; go_simp; with_reducible rfl)⟩) hHeld ?_
  simp only [Act.put, List.setIfInBounds_toArray, List.set_cons_zero, List.set_cons_succ]
  refine wpq_one 2 (by kernel_rfl) rfl (fun K hK => ?_)
  go_simp
  refine (HRL.out _).mono ?_
  rintro e wd2 ⟨c2, rfl, hq2, hb⟩
  obtain ⟨fa2, fcap2, hfa2⟩ := hq2.forms
  obtain ⟨r0, r1, r2, r3, r4, r5⟩ := c2
  simp only at hfa2
  subst hfa2
  have HQ2 := Lib.hid hq2
  replace hHeld := hHeld.stay hb
  clear hb hq2
  generalize wd2 = wd at *
  simp only [aggP]
  refine hK.out _ _ hHeld (fun hHeld => ?_)
  clear hK K
  refine wpq_one 3 (by kernel_rfl) rfl (fun K hK => ?_)
  go_simp
  refine (Same_any _ _ _ _ HSN.out hHeld.2.out.1 HQ2.out).mono ?_
  rintro e wd2 ⟨rfl, hb⟩
  clear HQ2
  replace hHeld := hHeld.stay hb
  clear hb
  generalize wd2 = wd at *
  refine hK.out _ _ hHeld (fun hHeld => ?_)
  clear hK K
  refine wpq_take 4 (some 21) [5, 12] rfl rfl (by kernel_rfl) (by kernel_rfl) (by kernel_rfl) (by kernel_rfl) (fun _ _ _ h => h) (Or.inl ⟨by rfl, fun w hSw => by (obtain ⟨x0, x1, x2, x3, x4, x5⟩ := BoxP.cells hSw.1; simp only at x0 x1 x2 x3 x4 x5; go_simp; with_reducible rfl)⟩) hHeld ?_
  simp only [Act.put, List.setIfInBounds_toArray, List.set_cons_zero, List.set_cons_succ]
  refine wpq_take 5 (some 22) [12] rfl rfl (by kernel_rfl) (by kernel_rfl) (by kernel_rfl) (by kernel_rfl) (fun _ _ _ h => h) (Or.inl ⟨by rfl, fun w hSw => by (obtain ⟨x0, x1, x2, x3, x4, x5⟩ := BoxP.cells hSw.1; simp only at x0 x1 x2 x3 x4 x5; go_simp; with_reducible rfl)⟩) hHeld ?_
  simp only [Act.put, List.setIfInBounds_toArray, List.set_cons_zero, List.set_cons_succ]
  refine wpq_take 6 (some 23) [7, 11, 12] rfl rfl (by kernel_rfl) (by kernel_rfl) (by kernel_rfl) (by kernel_rfl) (fun _ _ _ h => h) (Or.inl ⟨by rfl, fun w hSw => by (obtain ⟨x0, x1, x2, x3, x4, x5⟩ := BoxP.cells hSw.1; simp only at x0 x1 x2 x3 x4 x5; go_simp; with_reducible rfl)⟩) hHeld ?_
  simp only [Act.put, List.setIfInBounds_toArray, List.set_cons_zero, List.set_cons_succ]
  refine wpq_take 8 (some 25) [9, 10, 11, 12] rfl rfl (by kernel_rfl) (by kernel_rfl) (by kernel_rfl) (by kernel_rfl) (fun _ _ _ h => h) (Or.inl ⟨by rfl, fun w hSw => by (obtain ⟨x0, x1, x2, x3, x4, x5⟩ := BoxP.cells hSw.1; simp only at x0 x1 x2 x3 x4 x5; go_simp; with_reducible rfl)⟩) hHeld ?_
  simp only [Act.put, List.setIfInBounds_toArray, List.set_cons_zero, List.set_cons_succ]
  refine wpq_take 9 (some 26) [10, 11, 12] rfl rfl (by kernel_rfl) (by kernel_rfl) (by kernel_rfl) (by kernel_rfl) (fun _ _ _ h => h) (Or.inl ⟨by rfl, fun w hSw => by (obtain ⟨x0, x1, x2, x3, x4, x5⟩ := BoxP.cells hSw.1; simp only at x0 x1 x2 x3 x4 x5; go_simp; with_reducible rfl)⟩) hHeld ?_
  simp only [Act.put, List.setIfInBounds_toArray, List.set_cons_zero, List.set_cons_succ]
  refine wpq_take 10 (some 27) [11, 12] rfl rfl (by kernel_rfl) (by kernel_rfl) (by kernel_rfl) (by kernel_rfl) (fun _ _ _ h => h) (Or.inl ⟨by rfl, fun w hSw => by (obtain ⟨x0, x1, x2, x3, x4, x5⟩ := BoxP.cells hSw.1; simp only at x0 x1 x2 x3 x4 x5; go_simp; with_reducible rfl)⟩) hHeld ?_
  simp only [Act.put, List.setIfInBounds_toArray, List.set_cons_zero, List.set_cons_succ]
  refine wpq_one 7 (by kernel_rfl) rfl (fun K hK => ?_)
  go_simp
  refine (HV.out _ hHeld.2.out.1).mono ?_
  rintro e wd2 ⟨rfl, hb⟩
  replace hHeld := hHeld.stay hb
  clear hb
  generalize wd2 = wd at *
  refine hK.out _ _ hHeld (fun hHeld => ?_)
  clear hK K
  refine wpq_take 11 (some 28) [12] rfl rfl (by kernel_rfl) (by kernel_rfl) (by kernel_rfl) (by kernel_rfl) (fun _ _ _ h => h) (Or.inl ⟨by rfl, fun w hSw => by (obtain ⟨x0, x1, x2, x3, x4, x5⟩ := BoxP.cells hSw.1; simp only at x0 x1 x2 x3 x4 x5; go_simp; with_reducible rfl)⟩) hHeld ?_
  simp only [Act.put, List.setIfInBounds_toArray, List.set_cons_zero, List.set_cons_succ]
  refine wpq_end 12 (by kernel_rfl) rfl (by kernel_rfl) (fun K hK => ?_)
  go_simp
  refine hK.out _ _ ?_
  clear hK K
  refine wpq_done (by kernel_rfl) ?_ _
  go_simp
  have HX := Lib.hid hHeld
  clear hHeld
  obtain ⟨t0, t1, t2, t3, t4, t5⟩ := HX.out.1.cells
  simp only at t0 t1 t2 t3 t4 t5
  go_wp2_with fail
  refine (HM1.out _ HX.out.2.out.1).mono ?_
  rintro e w6 ⟨rfl, hb⟩
  replace HX := Lib.hid (HX.out.stay hb)
  clear hb t0 t1 t2 t3 t4 t5
  obtain ⟨t0, t1, t2, t3, t4, t5⟩ := HX.out.1.cells
  simp only at t0 t1 t2 t3 t4 t5
  go_wp2_with fail
  refine (HM2.out _ HX.out.2.out.1).mono ?_
  rintro e w7 ⟨rfl, hb⟩
  replace HX := Lib.hid (HX.out.stay hb)
  clear hb t0 t1 t2 t3 t4 t5
  go_wp2_with fail
  refine (awake15_any w7 HX.out.2.out.2.1).mono ?_
  rintro e w8 ⟨rfl, hb⟩
  replace HX := Lib.hid (HX.out.stay hb)
  clear hb
  go_wp2_with fail
  go_ret
  exact ⟨rfl, HX.out.2.out.2.2⟩
theorem Literals_same (s t : ByteArray) (w : World) (hE : Env w) (hs : s.size ≤ 600 ∧ t.size ≤ 600) (h5 : s.size < 512) (h : s = t) :
    Calls Tryd.prog 8 #[.string s, .string t] w fun e w' => e = .returned (.bool true) ∧ Below w.heap.size w w' := by
  have HS := Lib.hid hs
  have HE := Lib.hid hE
  have hsi : (s.size : Int) ≤ 600 := by omega
  have hti : (t.size : Int) ≤ 600 := by omega
  have HSN := Lib.hid (lit_snd (L s))
  subst h
  have h5i : ((s.size : Int) < 512) = True := eq_true (by omega)
  have hv : valR (litR (L s)) = true := by
    rw [lit_val _ (by rw [L_len]; omega), L_len]
    exact decide_eq_true h5
  have hm1 : matR (litR (L s)) (L s) = true := by
    rw [lit_mat _ _ (by rw [L_len]; omega), L_len]
    simp [h5]
  have hm2 : matR (litR (L s)) (L s) = true := by
    rw [lit_mat _ _ (by rw [L_len]; omega), L_len]
    simp [h5]
  have HV := Lib.hid (fun c w' (h : RdP w' c (litR (L s))) => show Calls Tryd.prog 21 #[aggP c] w' fun e w'' => e = .returned (.bool true) ∧ Below w'.heap.size w' w'' from by
    have := PValid_any _ c w' h
    rw [hv] at this
    exact this)
  have HM1 := Lib.hid (fun c w' (h : RdP w' c (litR (L s))) => show Calls Tryd.prog 15 #[aggP c, .string s] w' fun e w'' => e = .returned (.bool true) ∧ Below w'.heap.size w' w'' from by
    have := Match_any s (by omega) _ c w' h
    rw [hm1] at this
    exact this)
  have HM2 := Lib.hid (fun c w' (h : RdP w' c (litR (L s))) => show Calls Tryd.prog 15 #[aggP c, .string s] w' fun e w'' => e = .returned (.bool true) ∧ Below w'.heap.size w' w'' from by
    have := Match_any s (by omega) _ c w' h
    rw [hm2] at this
    exact this)
  clear hE hs hv hm1 hm2 h5
  go_enter Tryd.func8, Tryd.ntmps8
  go_wp2_with fail
  refine (Literal_any s (by have := HS.out.1; omega) w).mono ?_
  rintro e w3 ⟨cq, rfl, hq, hb⟩
  obtain ⟨fa, fcap, hfa⟩ := hq.forms
  obtain ⟨q0, q1, q2, q3, q4, q5⟩ := cq
  simp only at hfa
  subst hfa
  have HQ := Lib.hid hq
  have HB := Lib.hid hb
  replace HV := Lib.hid (HV.out ⟨q0, q1, q2, q3, q4, .slice fa (litR (L s)).args.length fcap⟩)
  replace HM1 := Lib.hid (HM1.out ⟨q0, q1, q2, q3, q4, .slice fa (litR (L s)).args.length fcap⟩)
  replace HM2 := Lib.hid (HM2.out ⟨q0, q1, q2, q3, q4, .slice fa (litR (L s)).args.length fcap⟩)
  have HRL := Lib.hid (fun w' => RLiteral_any s (by have := HS.out.1; omega) w')
  generalize litR (L s) = Q at *
  generalize Q.args.length = qn at *
  clear hb hq
  go_upto_region 4 with fail
  generalize hW : World.alloc w3 _ = w4
  obtain ⟨ha, -, -, hb⟩ := alloc_of hW
  have HX := Lib.hid (show LwS w3.heap.size ⟨q0, q1, q2, q3, q4, .slice fa qn fcap⟩ Q w w4 from ⟨ha, HQ.out.stays hb, HE.out.below (HB.out.trans (hb.mono HB.out.size)), HB.out.trans (hb.mono HB.out.size)⟩)
  clear hW ha hb HQ HB
  have hS0 : LwS w3.heap.size ⟨q0, q1, q2, q3, q4, .slice fa qn fcap⟩ Q w w4.drew := HX.out.stay (below_drewN (Below.refl _ _) 1)
  refine wpq_region (fun w' => LwS w3.heap.size ⟨q0, q1, q2, q3, q4, .slice fa qn fcap⟩ Q w w') 12 (by kernel_rfl) hS0 (fun hHeld => ?_)
  clear HX hS0
  generalize w4.drew = wd at *
  refine wpq_take 0 (some 17) [3, 5, 12] rfl rfl (by kernel_rfl) (by kernel_rfl) (by kernel_rfl) (by kernel_rfl) (fun _ _ _ h => h) (Or.inl ⟨by rfl, fun w hSw => by (obtain ⟨x0, x1, x2, x3, x4, x5⟩ := BoxP.cells hSw.1; simp only at x0 x1 x2 x3 x4 x5; go_simp; with_reducible rfl)⟩) hHeld ?_
  simp only [Act.put, List.setIfInBounds_toArray, List.set_cons_zero, List.set_cons_succ]
  refine wpq_take 1 (some 18) [2, 3, 5, 12] rfl rfl (by kernel_rfl) (by kernel_rfl) (by kernel_rfl) (by kernel_rfl) (fun _ _ _ h => h) (Or.inl ⟨by rfl, fun w hSw => by (obtain ⟨x0, x1, x2, x3, x4, x5⟩ := BoxP.cells hSw.1; simp only at x0 x1 x2 x3 x4 x5; go_simp; with_reducible rfl)⟩) hHeld ?_
  simp only [Act.put, List.setIfInBounds_toArray, List.set_cons_zero, List.set_cons_succ]
  refine wpq_one 2 (by kernel_rfl) rfl (fun K hK => ?_)
  go_simp
  refine (HRL.out _).mono ?_
  rintro e wd2 ⟨c2, rfl, hq2, hb⟩
  obtain ⟨fa2, fcap2, hfa2⟩ := hq2.forms
  obtain ⟨r0, r1, r2, r3, r4, r5⟩ := c2
  simp only at hfa2
  subst hfa2
  have HQ2 := Lib.hid hq2
  replace hHeld := hHeld.stay hb
  clear hb hq2
  generalize wd2 = wd at *
  simp only [aggP]
  refine hK.out _ _ hHeld (fun hHeld => ?_)
  clear hK K
  refine wpq_one 3 (by kernel_rfl) rfl (fun K hK => ?_)
  go_simp
  refine (Same_any _ _ _ _ HSN.out hHeld.2.out.1 HQ2.out).mono ?_
  rintro e wd2 ⟨rfl, hb⟩
  clear HQ2
  replace hHeld := hHeld.stay hb
  clear hb
  generalize wd2 = wd at *
  refine hK.out _ _ hHeld (fun hHeld => ?_)
  clear hK K
  refine wpq_take 4 (some 21) [5, 12] rfl rfl (by kernel_rfl) (by kernel_rfl) (by kernel_rfl) (by kernel_rfl) (fun _ _ _ h => h) (Or.inl ⟨by rfl, fun w hSw => by (obtain ⟨x0, x1, x2, x3, x4, x5⟩ := BoxP.cells hSw.1; simp only at x0 x1 x2 x3 x4 x5; go_simp; with_reducible rfl)⟩) hHeld ?_
  simp only [Act.put, List.setIfInBounds_toArray, List.set_cons_zero, List.set_cons_succ]
  refine wpq_take 5 (some 22) [12] rfl rfl (by kernel_rfl) (by kernel_rfl) (by kernel_rfl) (by kernel_rfl) (fun _ _ _ h => h) (Or.inl ⟨by rfl, fun w hSw => by (obtain ⟨x0, x1, x2, x3, x4, x5⟩ := BoxP.cells hSw.1; simp only at x0 x1 x2 x3 x4 x5; go_simp; with_reducible rfl)⟩) hHeld ?_
  simp only [Act.put, List.setIfInBounds_toArray, List.set_cons_zero, List.set_cons_succ]
  refine wpq_take 6 (some 23) [7, 11, 12] rfl rfl (by kernel_rfl) (by kernel_rfl) (by kernel_rfl) (by kernel_rfl) (fun _ _ _ h => h) (Or.inl ⟨by rfl, fun w hSw => by (obtain ⟨x0, x1, x2, x3, x4, x5⟩ := BoxP.cells hSw.1; simp only at x0 x1 x2 x3 x4 x5; go_simp; with_reducible rfl)⟩) hHeld ?_
  simp only [Act.put, List.setIfInBounds_toArray, List.set_cons_zero, List.set_cons_succ]
  refine wpq_take 8 (some 25) [9, 10, 11, 12] rfl rfl (by kernel_rfl) (by kernel_rfl) (by kernel_rfl) (by kernel_rfl) (fun _ _ _ h => h) (Or.inl ⟨by rfl, fun w hSw => by (obtain ⟨x0, x1, x2, x3, x4, x5⟩ := BoxP.cells hSw.1; simp only at x0 x1 x2 x3 x4 x5; go_simp; with_reducible rfl)⟩) hHeld ?_
  simp only [Act.put, List.setIfInBounds_toArray, List.set_cons_zero, List.set_cons_succ]
  refine wpq_take 9 (some 26) [10, 11, 12] rfl rfl (by kernel_rfl) (by kernel_rfl) (by kernel_rfl) (by kernel_rfl) (fun _ _ _ h => h) (Or.inl ⟨by rfl, fun w hSw => by (obtain ⟨x0, x1, x2, x3, x4, x5⟩ := BoxP.cells hSw.1; simp only at x0 x1 x2 x3 x4 x5; go_simp; with_reducible rfl)⟩) hHeld ?_
  simp only [Act.put, List.setIfInBounds_toArray, List.set_cons_zero, List.set_cons_succ]
  refine wpq_take 10 (some 27) [11, 12] rfl rfl (by kernel_rfl) (by kernel_rfl) (by kernel_rfl) (by kernel_rfl) (fun _ _ _ h => h) (Or.inl ⟨by rfl, fun w hSw => by (obtain ⟨x0, x1, x2, x3, x4, x5⟩ := BoxP.cells hSw.1; simp only at x0 x1 x2 x3 x4 x5; go_simp; with_reducible rfl)⟩) hHeld ?_
  simp only [Act.put, List.setIfInBounds_toArray, List.set_cons_zero, List.set_cons_succ]
  refine wpq_one 7 (by kernel_rfl) rfl (fun K hK => ?_)
  go_simp
  refine (HV.out _ hHeld.2.out.1).mono ?_
  rintro e wd2 ⟨rfl, hb⟩
  replace hHeld := hHeld.stay hb
  clear hb
  generalize wd2 = wd at *
  refine hK.out _ _ hHeld (fun hHeld => ?_)
  clear hK K
  refine wpq_take 11 (some 28) [12] rfl rfl (by kernel_rfl) (by kernel_rfl) (by kernel_rfl) (by kernel_rfl) (fun _ _ _ h => h) (Or.inl ⟨by rfl, fun w hSw => by (obtain ⟨x0, x1, x2, x3, x4, x5⟩ := BoxP.cells hSw.1; simp only at x0 x1 x2 x3 x4 x5; go_simp; with_reducible rfl)⟩) hHeld ?_
  simp only [Act.put, List.setIfInBounds_toArray, List.set_cons_zero, List.set_cons_succ]
  refine wpq_end 12 (by kernel_rfl) rfl (by kernel_rfl) (fun K hK => ?_)
  go_simp
  refine hK.out _ _ ?_
  clear hK K
  refine wpq_done (by kernel_rfl) ?_ _
  go_simp
  have HX := Lib.hid hHeld
  clear hHeld
  obtain ⟨t0, t1, t2, t3, t4, t5⟩ := HX.out.1.cells
  simp only at t0 t1 t2 t3 t4 t5
  go_wp2_with fail
  refine (HM1.out _ HX.out.2.out.1).mono ?_
  rintro e w6 ⟨rfl, hb⟩
  replace HX := Lib.hid (HX.out.stay hb)
  clear hb t0 t1 t2 t3 t4 t5
  obtain ⟨t0, t1, t2, t3, t4, t5⟩ := HX.out.1.cells
  simp only at t0 t1 t2 t3 t4 t5
  go_wp2_with fail
  refine (HM2.out _ HX.out.2.out.1).mono ?_
  rintro e w7 ⟨rfl, hb⟩
  replace HX := Lib.hid (HX.out.stay hb)
  clear hb t0 t1 t2 t3 t4 t5
  go_wp2_with fail
  refine (awake15_any w7 HX.out.2.out.2.1).mono ?_
  rintro e w8 ⟨rfl, hb⟩
  replace HX := Lib.hid (HX.out.stay hb)
  clear hb
  go_wp2_with fail
  go_ret
  exact ⟨rfl, HX.out.2.out.2.2⟩
theorem Literals_other (s t : ByteArray) (w : World) (hE : Env w) (hs : s.size ≤ 600 ∧ t.size ≤ 600) (h5 : s.size < 512) (hst : s ≠ t) :
    Calls Tryd.prog 8 #[.string s, .string t] w fun e w' => e = .returned (.bool true) ∧ Below w.heap.size w w' := by
  have HS := Lib.hid hs
  have HE := Lib.hid hE
  have hsi : (s.size : Int) ≤ 600 := by omega
  have hti : (t.size : Int) ≤ 600 := by omega
  have HSN := Lib.hid (lit_snd (L s))
  have h5i : ((s.size : Int) < 512) = True := eq_true (by omega)
  have hlt : ¬ L s = L t := fun h => hst (L_inj h)
  have hsl : (s.toList == t.toList) = false := beq_false (by rw [toList_L, toList_L]; exact hlt)
  have hv : valR (litR (L s)) = true := by
    rw [lit_val _ (by rw [L_len]; omega), L_len]
    exact decide_eq_true h5
  have hm1 : matR (litR (L s)) (L s) = true := by
    rw [lit_mat _ _ (by rw [L_len]; omega), L_len]
    simp [h5]
  have hm2 : matR (litR (L s)) (L t) = false := by
    rw [lit_mat _ _ (by rw [L_len]; omega), L_len]
    simp [h5, hlt]
  have HV := Lib.hid (fun c w' (h : RdP w' c (litR (L s))) => show Calls Tryd.prog 21 #[aggP c] w' fun e w'' => e = .returned (.bool true) ∧ Below w'.heap.size w' w'' from by
    have := PValid_any _ c w' h
    rw [hv] at this
    exact this)
  have HM1 := Lib.hid (fun c w' (h : RdP w' c (litR (L s))) => show Calls Tryd.prog 15 #[aggP c, .string s] w' fun e w'' => e = .returned (.bool true) ∧ Below w'.heap.size w' w'' from by
    have := Match_any s (by omega) _ c w' h
    rw [hm1] at this
    exact this)
  have HM2 := Lib.hid (fun c w' (h : RdP w' c (litR (L s))) => show Calls Tryd.prog 15 #[aggP c, .string t] w' fun e w'' => e = .returned (.bool false) ∧ Below w'.heap.size w' w'' from by
    have := Match_any t (by omega) _ c w' h
    rw [hm2] at this
    exact this)
  clear hE hs hv hm1 hm2 h5 hlt hst
  go_enter Tryd.func8, Tryd.ntmps8
  go_wp2_with fail
  refine (Literal_any s (by have := HS.out.1; omega) w).mono ?_
  rintro e w3 ⟨cq, rfl, hq, hb⟩
  obtain ⟨fa, fcap, hfa⟩ := hq.forms
  obtain ⟨q0, q1, q2, q3, q4, q5⟩ := cq
  simp only at hfa
  subst hfa
  have HQ := Lib.hid hq
  have HB := Lib.hid hb
  replace HV := Lib.hid (HV.out ⟨q0, q1, q2, q3, q4, .slice fa (litR (L s)).args.length fcap⟩)
  replace HM1 := Lib.hid (HM1.out ⟨q0, q1, q2, q3, q4, .slice fa (litR (L s)).args.length fcap⟩)
  replace HM2 := Lib.hid (HM2.out ⟨q0, q1, q2, q3, q4, .slice fa (litR (L s)).args.length fcap⟩)
  have HRL := Lib.hid (fun w' => RLiteral_any s (by have := HS.out.1; omega) w')
  generalize litR (L s) = Q at *
  generalize Q.args.length = qn at *
  clear hb hq
  go_upto_region 4 with fail
  generalize hW : World.alloc w3 _ = w4
  obtain ⟨ha, -, -, hb⟩ := alloc_of hW
  have HX := Lib.hid (show LwS w3.heap.size ⟨q0, q1, q2, q3, q4, .slice fa qn fcap⟩ Q w w4 from ⟨ha, HQ.out.stays hb, HE.out.below (HB.out.trans (hb.mono HB.out.size)), HB.out.trans (hb.mono HB.out.size)⟩)
  clear hW ha hb HQ HB
  have hS0 : LwS w3.heap.size ⟨q0, q1, q2, q3, q4, .slice fa qn fcap⟩ Q w w4.drew := HX.out.stay (below_drewN (Below.refl _ _) 1)
  refine wpq_region (fun w' => LwS w3.heap.size ⟨q0, q1, q2, q3, q4, .slice fa qn fcap⟩ Q w w') 12 (by kernel_rfl) hS0 (fun hHeld => ?_)
  clear HX hS0
  generalize w4.drew = wd at *
  refine wpq_take 0 (some 17) [3, 5, 12] rfl rfl (by kernel_rfl) (by kernel_rfl) (by kernel_rfl) (by kernel_rfl) (fun _ _ _ h => h) (Or.inl ⟨by rfl, fun w hSw => by (obtain ⟨x0, x1, x2, x3, x4, x5⟩ := BoxP.cells hSw.1; simp only at x0 x1 x2 x3 x4 x5; go_simp; with_reducible rfl)⟩) hHeld ?_
  simp only [Act.put, List.setIfInBounds_toArray, List.set_cons_zero, List.set_cons_succ]
  refine wpq_take 1 (some 18) [2, 3, 5, 12] rfl rfl (by kernel_rfl) (by kernel_rfl) (by kernel_rfl) (by kernel_rfl) (fun _ _ _ h => h) (Or.inl ⟨by rfl, fun w hSw => by (obtain ⟨x0, x1, x2, x3, x4, x5⟩ := BoxP.cells hSw.1; simp only at x0 x1 x2 x3 x4 x5; go_simp; with_reducible rfl)⟩) hHeld ?_
  simp only [Act.put, List.setIfInBounds_toArray, List.set_cons_zero, List.set_cons_succ]
  refine wpq_one 2 (by kernel_rfl) rfl (fun K hK => ?_)
  go_simp
  refine (HRL.out _).mono ?_
  rintro e wd2 ⟨c2, rfl, hq2, hb⟩
  obtain ⟨fa2, fcap2, hfa2⟩ := hq2.forms
  obtain ⟨r0, r1, r2, r3, r4, r5⟩ := c2
  simp only at hfa2
  subst hfa2
  have HQ2 := Lib.hid hq2
  replace hHeld := hHeld.stay hb
  clear hb hq2
  generalize wd2 = wd at *
  simp only [aggP]
  refine hK.out _ _ hHeld (fun hHeld => ?_)
  clear hK K
  refine wpq_one 3 (by kernel_rfl) rfl (fun K hK => ?_)
  go_simp
  refine (Same_any _ _ _ _ HSN.out hHeld.2.out.1 HQ2.out).mono ?_
  rintro e wd2 ⟨rfl, hb⟩
  clear HQ2
  replace hHeld := hHeld.stay hb
  clear hb
  generalize wd2 = wd at *
  refine hK.out _ _ hHeld (fun hHeld => ?_)
  clear hK K
  refine wpq_take 4 (some 21) [5, 12] rfl rfl (by kernel_rfl) (by kernel_rfl) (by kernel_rfl) (by kernel_rfl) (fun _ _ _ h => h) (Or.inl ⟨by rfl, fun w hSw => by (obtain ⟨x0, x1, x2, x3, x4, x5⟩ := BoxP.cells hSw.1; simp only at x0 x1 x2 x3 x4 x5; go_simp; with_reducible rfl)⟩) hHeld ?_
  simp only [Act.put, List.setIfInBounds_toArray, List.set_cons_zero, List.set_cons_succ]
  refine wpq_take 5 (some 22) [12] rfl rfl (by kernel_rfl) (by kernel_rfl) (by kernel_rfl) (by kernel_rfl) (fun _ _ _ h => h) (Or.inl ⟨by rfl, fun w hSw => by (obtain ⟨x0, x1, x2, x3, x4, x5⟩ := BoxP.cells hSw.1; simp only at x0 x1 x2 x3 x4 x5; go_simp; with_reducible rfl)⟩) hHeld ?_
  simp only [Act.put, List.setIfInBounds_toArray, List.set_cons_zero, List.set_cons_succ]
  refine wpq_take 6 (some 23) [7, 11, 12] rfl rfl (by kernel_rfl) (by kernel_rfl) (by kernel_rfl) (by kernel_rfl) (fun _ _ _ h => h) (Or.inl ⟨by rfl, fun w hSw => by (obtain ⟨x0, x1, x2, x3, x4, x5⟩ := BoxP.cells hSw.1; simp only at x0 x1 x2 x3 x4 x5; go_simp; with_reducible rfl)⟩) hHeld ?_
  simp only [Act.put, List.setIfInBounds_toArray, List.set_cons_zero, List.set_cons_succ]
  refine wpq_take 8 (some 25) [9, 10, 11, 12] rfl rfl (by kernel_rfl) (by kernel_rfl) (by kernel_rfl) (by kernel_rfl) (fun _ _ _ h => h) (Or.inl ⟨by rfl, fun w hSw => by (obtain ⟨x0, x1, x2, x3, x4, x5⟩ := BoxP.cells hSw.1; simp only at x0 x1 x2 x3 x4 x5; go_simp; with_reducible rfl)⟩) hHeld ?_
  simp only [Act.put, List.setIfInBounds_toArray, List.set_cons_zero, List.set_cons_succ]
  refine wpq_take 9 (some 26) [10, 11, 12] rfl rfl (by kernel_rfl) (by kernel_rfl) (by kernel_rfl) (by kernel_rfl) (fun _ _ _ h => h) (Or.inl ⟨by rfl, fun w hSw => by (obtain ⟨x0, x1, x2, x3, x4, x5⟩ := BoxP.cells hSw.1; simp only at x0 x1 x2 x3 x4 x5; go_simp; with_reducible rfl)⟩) hHeld ?_
  simp only [Act.put, List.setIfInBounds_toArray, List.set_cons_zero, List.set_cons_succ]
  refine wpq_take 10 (some 27) [11, 12] rfl rfl (by kernel_rfl) (by kernel_rfl) (by kernel_rfl) (by kernel_rfl) (fun _ _ _ h => h) (Or.inl ⟨by rfl, fun w hSw => by (obtain ⟨x0, x1, x2, x3, x4, x5⟩ := BoxP.cells hSw.1; simp only at x0 x1 x2 x3 x4 x5; go_simp; with_reducible rfl)⟩) hHeld ?_
  simp only [Act.put, List.setIfInBounds_toArray, List.set_cons_zero, List.set_cons_succ]
  refine wpq_one 7 (by kernel_rfl) rfl (fun K hK => ?_)
  go_simp
  refine (HV.out _ hHeld.2.out.1).mono ?_
  rintro e wd2 ⟨rfl, hb⟩
  replace hHeld := hHeld.stay hb
  clear hb
  generalize wd2 = wd at *
  refine hK.out _ _ hHeld (fun hHeld => ?_)
  clear hK K
  refine wpq_take 11 (some 28) [12] rfl rfl (by kernel_rfl) (by kernel_rfl) (by kernel_rfl) (by kernel_rfl) (fun _ _ _ h => h) (Or.inl ⟨by rfl, fun w hSw => by (obtain ⟨x0, x1, x2, x3, x4, x5⟩ := BoxP.cells hSw.1; simp only at x0 x1 x2 x3 x4 x5; go_simp; with_reducible rfl)⟩) hHeld ?_
  simp only [Act.put, List.setIfInBounds_toArray, List.set_cons_zero, List.set_cons_succ]
  refine wpq_end 12 (by kernel_rfl) rfl (by kernel_rfl) (fun K hK => ?_)
  go_simp
  refine hK.out _ _ ?_
  clear hK K
  refine wpq_done (by kernel_rfl) ?_ _
  go_simp
  have HX := Lib.hid hHeld
  clear hHeld
  obtain ⟨t0, t1, t2, t3, t4, t5⟩ := HX.out.1.cells
  simp only at t0 t1 t2 t3 t4 t5
  go_wp2_with fail
  refine (HM1.out _ HX.out.2.out.1).mono ?_
  rintro e w6 ⟨rfl, hb⟩
  replace HX := Lib.hid (HX.out.stay hb)
  clear hb t0 t1 t2 t3 t4 t5
  obtain ⟨t0, t1, t2, t3, t4, t5⟩ := HX.out.1.cells
  simp only at t0 t1 t2 t3 t4 t5
  go_wp2_with fail
  refine (HM2.out _ HX.out.2.out.1).mono ?_
  rintro e w7 ⟨rfl, hb⟩
  replace HX := Lib.hid (HX.out.stay hb)
  clear hb t0 t1 t2 t3 t4 t5
  go_wp2_with fail
  refine (awake15_any w7 HX.out.2.out.2.1).mono ?_
  rintro e w8 ⟨rfl, hb⟩
  replace HX := Lib.hid (HX.out.stay hb)
  clear hb
  go_wp2_with fail
  go_ret
  exact ⟨rfl, HX.out.2.out.2.2⟩
theorem LiteralsX_any (s t : ByteArray) (w : World) (hE : Env w) :
    Calls Tryd.prog 8 #[.string s, .string t] w fun e w' => e = .returned (.bool true) ∧ Below w.heap.size w w' := by
  by_cases hs : s.size ≤ 600 ∧ t.size ≤ 600
  · by_cases h5 : s.size < 512
    · by_cases h : s = t
      · exact Literals_same s t w hE hs h5 h
      · exact Literals_other s t w hE hs h5 h
    · exact Literals_long s t w hE hs h5
  have HE := Lib.hid hE
  by_cases h1 : (600 : Int) < s.size
  · clear hs hE
    go_enter Tryd.func8, Tryd.ntmps8
    go_wp2_with fail
    refine (awake15_any w HE.out).mono ?_
    rintro e w3 ⟨rfl, hb⟩
    have HB := Lib.hid hb
    clear hb
    go_wp2_with fail
    go_ret
    exact ⟨rfl, HB.out⟩
  · have h2 : (600 : Int) < t.size := by omega
    clear hs hE
    go_enter Tryd.func8, Tryd.ntmps8
    go_wp2_with fail
    refine (awake15_any w HE.out).mono ?_
    rintro e w3 ⟨rfl, hb⟩
    have HB := Lib.hid hb
    clear hb
    go_wp2_with fail
    go_ret
    exact ⟨rfl, HB.out⟩
end Go.Proofs.YtggolmamacoplaaDoor
