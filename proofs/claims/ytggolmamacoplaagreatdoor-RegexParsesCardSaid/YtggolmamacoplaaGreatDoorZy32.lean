/- The law RegexParses walked. Conditions: the value of strconv.ErrSyntax. -/
import Derived.Test.YtggolmamacoplaaGreatDoorZy25
import Derived.Test.YtggolmamacoplaaGreatDoorZy15
import Derived.Test.YtggolmamacoplaaGreatDoorZy28
import Derived.Test.YtggolmamacoplaaGreatDoorZy31
import Derived.Test.YtggolmamacoplaaGreatDoorZy2
namespace Go.Proofs.YtggolmamacoplaaGreatDoor
open Go.RowKit Go.Shelf
set_option maxHeartbeats 4000000
set_option maxRecDepth 100000

/-- What stands behind the boxes of two arguments. -/
structure SmS (c1 c2 : PC) (w wr : World) : Prop where
  b1 : BoxP w.heap.size c1 wr
  b2 : BoxP (w.heap.size + 1) c2 wr
  bel : Below w.heap.size w wr
theorem SmS.stay {c1 c2 : PC} {w wr wx : World} (h : SmS c1 c2 w wr) (hb : Below wr.heap.size wr wx) : SmS c1 c2 w wx := ⟨h.b1.below hb, h.b2.below hb, h.bel.trans (hb.mono h.bel.size)⟩
theorem SmS.start {c1 c2 : PC} {w w1 w2 : World} {X Y : Obj} (hW : w.alloc X = w1) (hW2 : w1.alloc Y = w2) (hX : X = .cells c1.cells.toArray 25 (0, 0)) (hY : Y = .cells c2.cells.toArray 25 (0, 0)) : SmS c1 c2 w w2 := by
  obtain ⟨ha, -, hz1, hb1⟩ := alloc_of hW
  obtain ⟨ha2, -, hz2, hb2⟩ := alloc_of hW2
  rw [hz1] at ha2
  exact ⟨(hb2.block _ (by omega)).trans (ha.trans (by rw [hX])), ha2.trans (by rw [hY]), hb1.trans (hb2.mono hb1.size)⟩
theorem same_any : ∀ (d : Nat) (p : RX) (c1 c2 : PC) (w : World), d ≤ 48 → sndR d p = true → RdP w c1 p → RdP w c2 p →
    Calls Tryz.prog 15 #[aggP c1, aggP c2, .int .i64 (d : Int)] w (Ret (.bool true) w) := by
  intro d
  induction d with
  | zero => intro p c1 c2 w _ h; cases h
  | succ d ih =>
    intro p c1 c2 w hd hs hr1 hr2
    have IH := Lib.hid ih
    clear ih
    have H1 := Lib.hid hr1
    have H2 := Lib.hid hr2
    obtain ⟨op, lo, hi, mn, mx, l⟩ := p
    have HKS := Lib.hid (snd_node hs).2
    obtain ⟨a1, cap1, e1⟩ := hr1.forms
    obtain ⟨a2, cap2, e2⟩ := hr2.forms
    have h1 : c1.op = op ∧ c1.lo = lo ∧ c1.hi = hi ∧ c1.mn = mn ∧ c1.mx = mx := by cases hr1; exact ⟨rfl, rfl, rfl, rfl, rfl⟩
    have h2 : c2.op = op ∧ c2.lo = lo ∧ c2.hi = hi ∧ c2.mn = mn ∧ c2.mx = mx := by cases hr2; exact ⟨rfl, rfl, rfl, rfl, rfl⟩
    obtain ⟨p0, p1, p2, p3, p4, p5⟩ := c1
    obtain ⟨q0, q1, q2, q3, q4, q5⟩ := c2
    simp only at h1 h2 e1 e2
    obtain ⟨rfl, rfl, rfl, rfl, rfl⟩ := h1
    obtain ⟨rfl, rfl, rfl, rfl, rfl⟩ := h2
    rw [show (RX.mk q0 q1 q2 q3 q4 l).args = l from rfl] at e1 e2
    subst e1 e2
    have hm : (l.length : Int) ≤ 9223372036854775807 := by
      cases hr1 with
      | mk _ _ _ _ _ _ _ cs hl hL =>
      obtain ⟨a', cap', he, h1, h2, h0, h3⟩ := hl
      cases he
      simp only [maxLen] at h2
      omega
    have hdi : ¬ ((d + 1 : Nat) : Int) < 1 := by omega
    simp only [aggP]
    clear hr1 hr2 hs
    go_enter Tryz.func15, Tryz.ntmps15
    go_upto_region 1 with fail
    generalize hW : World.alloc w _ = w1
    generalize hW2 : World.alloc w1 _ = w2
    have HS := Lib.hid (SmS.start (c1 := ⟨q0, q1, q2, q3, q4, .slice a1 l.length cap1⟩) (c2 := ⟨q0, q1, q2, q3, q4, .slice a2 l.length cap2⟩) hW hW2 rfl rfl)
    clear hW hW2
    obtain ⟨t0, t1, t2, t3, t4, t5⟩ := HS.out.b1.cells
    obtain ⟨u0, u1, u2, u3, u4, u5⟩ := HS.out.b2.cells
    simp only at t0 t1 t2 t3 t4 t5 u0 u1 u2 u3 u4 u5
    go_wp2_with fail
    go_loopw [6, 7] (fun _ iv wr => ∃ (k : Nat), k ≤ l.length ∧ iv = .int .i64 k ∧ Hid (SmS ⟨q0, q1, q2, q3, q4, .slice a1 l.length cap1⟩ ⟨q0, q1, q2, q3, q4, .slice a2 l.length cap2⟩ w wr)) (fun _ iv _ => l.length - (intOf iv).toNat)
    case atStart => exact ⟨0, Nat.zero_le _, rfl, HS.out⟩
    case round =>
      clear HS t0 t1 t2 t3 t4 t5 u0 u1 u2 u3 u4 u5
      obtain ⟨k, hk, rfl, HS⟩ := hrel
      obtain ⟨t0, t1, t2, t3, t4, t5⟩ := HS.out.b1.cells
      obtain ⟨u0, u1, u2, u3, u4, u5⟩ := HS.out.b2.cells
      simp only at t0 t1 t2 t3 t4 t5 u0 u1 u2 u3 u4 u5
      by_cases hlt : k < l.length
      case neg =>
        have hge : ¬ (k : Int) < l.length := by omega
        clear hlt
        go_wp2_with fail
        go_ret
        exact ⟨rfl, HS.out.bel⟩
      case pos =>
        have hlti : (k : Int) < l.length := by omega
        obtain ⟨g, o, c, rfl, hc6, hrq⟩ := RdP.part H1.out HS.out.bel k hlt
        obtain ⟨g2, o2, c', rfl, hc6', hrq'⟩ := RdP.part H2.out HS.out.bel k hlt
        have HR1 := Lib.hid (hrq.stays (below_drewN (Below.refl _ _) 1))
        have HR2 := Lib.hid (hrq'.stays (below_drewN (Below.refl _ _) 1))
        have HSQ := Lib.hid (HKS.out _ (List.getElem_mem hlt))
        generalize l[k] = q at *
        obtain ⟨pa, pcap, hpa⟩ := hrq.forms
        obtain ⟨qa, qcap, hqa⟩ := hrq'.forms
        generalize q.args.length = pn at *
        obtain ⟨p0, p1, p2, p3, p4, p5⟩ := c
        obtain ⟨r0, r1, r2, r3, r4, r5⟩ := c'
        simp only at hpa hqa
        subst hpa hqa
        obtain ⟨b0, b1, b2, b3, b4, b5⟩ := cells6 hc6
        obtain ⟨v0, v1, v2, v3, v4, v5⟩ := cells6 hc6'
        simp only at b0 b1 b2 b3 b4 b5 v0 v1 v2 v3 v4 v5
        have HC1 : Hid (∀ j, j < 6 → wr.drew.cell? ⟨g, o + k * 6 + j, none⟩ = (PC.cells ⟨p0, p1, p2, p3, p4, .slice pa pn pcap⟩)[j]?) := hc6
        have HC2 : Hid (∀ j, j < 6 → wr.drew.cell? ⟨g2, o2 + k * 6 + j, none⟩ = (PC.cells ⟨r0, r1, r2, r3, r4, .slice qa pn qcap⟩)[j]?) := hc6'
        have HG : Hid (g < w.heap.size ∧ g2 < w.heap.size) := by
          have f : ∀ {c : PC} {gg oo nn cc : Nat}, RdP w ⟨q0, q1, q2, q3, q4, .slice (some ⟨gg, oo, none⟩) nn cc⟩ (.mk q0 q1 q2 q3 q4 l) → gg < w.heap.size := by
            intro c gg oo nn cc h
            cases h with
            | mk _ _ _ _ _ _ _ cs hl hL =>
            obtain ⟨_, _, he, _, _, _, h3⟩ := hl
            cases he
            obtain ⟨_, _, e, h, _⟩ := h3 (by omega)
            cases e
            exact h
          exact ⟨f (c := ⟨0, 0, 0, 0, 0, .nilIface⟩) H1.out, f (c := ⟨0, 0, 0, 0, 0, .nilIface⟩) H2.out⟩
        clear hc6 hc6' hrq hrq'
        have HIH := Lib.hid (IH.out q ⟨p0, p1, p2, p3, p4, .slice pa pn pcap⟩ ⟨r0, r1, r2, r3, r4, .slice qa pn qcap⟩ (wr.drewN 1) (by omega) HSQ.out HR1.out HR2.out)
        have hwr : IntKind.i64.wrap (((d + 1 : Nat) : Int) - 1) = (d : Int) := (IntWalk.i64_in _ (by omega)).trans (by omega)
        have hwr2 : IntKind.i64.wrap ((d : Int) + 1 - 1) = (d : Int) := (IntWalk.i64_in _ (by omega)).trans (by omega)
        have hwr3 : IntKind.i64.wrap (d : Int) = (d : Int) := IntWalk.i64_in _ (by omega)
        have HSD := Lib.hid (HS.out.stay (below_drewN (Below.refl _ _) 1))
        go_upto_region 6 with fail
        have hS0 : SmS ⟨q0, q1, q2, q3, q4, .slice (some ⟨g, o, none⟩) l.length cap1⟩ ⟨q0, q1, q2, q3, q4, .slice (some ⟨g2, o2, none⟩) l.length cap2⟩ w wr.drew := HSD.out
        refine wpq_region (fun w' => SmS ⟨q0, q1, q2, q3, q4, .slice (some ⟨g, o, none⟩) l.length cap1⟩ ⟨q0, q1, q2, q3, q4, .slice (some ⟨g2, o2, none⟩) l.length cap2⟩ w w' ∧ Hid (∀ j, j < 6 → w'.cell? ⟨g, o + k * 6 + j, none⟩ = (PC.cells ⟨p0, p1, p2, p3, p4, .slice pa pn pcap⟩)[j]?) ∧ Hid (∀ j, j < 6 → w'.cell? ⟨g2, o2 + k * 6 + j, none⟩ = (PC.cells ⟨r0, r1, r2, r3, r4, .slice qa pn qcap⟩)[j]?)) 13 (by kernel_rfl) ⟨hS0, HC1, HC2⟩ (fun hHeld => ?_)
        have HD : wr.drewN 1 = wr.drew := rfl
        rw [HD] at HIH HR1 HR2
        clear hS0 HC1 HC2 HSD HD HS b0 b1 b2 b3 b4 b5 v0 v1 v2 v3 v4 v5 t0 t1 t2 t3 t4 t5 u0 u1 u2 u3 u4 u5
        generalize wr.drew = wd at *
        refine wpq_take 0 (some 61) [1, 3, 4, 12, 13] rfl rfl (by kernel_rfl) (by kernel_rfl) (by kernel_rfl) (by kernel_rfl) (fun _ _ _ h => h) (Or.inl ⟨by rfl, fun w hSw => by (obtain ⟨x0, x1, x2, x3, x4, x5⟩ := BoxP.cells hSw.1.b1; obtain ⟨y0, y1, y2, y3, y4, y5⟩ := BoxP.cells hSw.1.b2; obtain ⟨z0, z1, z2, z3, z4, z5⟩ := cells6 hSw.2.1.out; obtain ⟨s0, s1, s2, s3, s4, s5⟩ := cells6 hSw.2.2.out; simp only at x0 x1 x2 x3 x4 x5 y0 y1 y2 y3 y4 y5 z0 z1 z2 z3 z4 z5 s0 s1 s2 s3 s4 s5; go_simp; with_reducible rfl)⟩) hHeld ?_
        simp only [Act.put, List.setIfInBounds_toArray, List.set_cons_zero, List.set_cons_succ]
        refine wpq_take 1 (some 62) [3, 4, 12, 13] rfl rfl (by kernel_rfl) (by kernel_rfl) (by kernel_rfl) (by kernel_rfl) (fun _ _ _ h => h) (Or.inl ⟨by rfl, fun w hSw => by (obtain ⟨x0, x1, x2, x3, x4, x5⟩ := BoxP.cells hSw.1.b1; obtain ⟨y0, y1, y2, y3, y4, y5⟩ := BoxP.cells hSw.1.b2; obtain ⟨z0, z1, z2, z3, z4, z5⟩ := cells6 hSw.2.1.out; obtain ⟨s0, s1, s2, s3, s4, s5⟩ := cells6 hSw.2.2.out; simp only at x0 x1 x2 x3 x4 x5 y0 y1 y2 y3 y4 y5 z0 z1 z2 z3 z4 z5 s0 s1 s2 s3 s4 s5; go_simp; with_reducible rfl)⟩) hHeld ?_
        simp only [Act.put, List.setIfInBounds_toArray, List.set_cons_zero, List.set_cons_succ]
        refine wpq_take 2 (some 63) [3, 4, 12, 13] rfl rfl (by kernel_rfl) (by kernel_rfl) (by kernel_rfl) (by kernel_rfl) (fun _ _ _ h => h) (Or.inl ⟨by rfl, fun w hSw => by (obtain ⟨x0, x1, x2, x3, x4, x5⟩ := BoxP.cells hSw.1.b1; obtain ⟨y0, y1, y2, y3, y4, y5⟩ := BoxP.cells hSw.1.b2; obtain ⟨z0, z1, z2, z3, z4, z5⟩ := cells6 hSw.2.1.out; obtain ⟨s0, s1, s2, s3, s4, s5⟩ := cells6 hSw.2.2.out; simp only at x0 x1 x2 x3 x4 x5 y0 y1 y2 y3 y4 y5 z0 z1 z2 z3 z4 z5 s0 s1 s2 s3 s4 s5; go_simp; with_reducible rfl)⟩) hHeld ?_
        simp only [Act.put, List.setIfInBounds_toArray, List.set_cons_zero, List.set_cons_succ]
        refine wpq_take 3 (some 64) [4, 12, 13] rfl rfl (by kernel_rfl) (by kernel_rfl) (by kernel_rfl) (by kernel_rfl) (fun _ _ _ h => h) (Or.inl ⟨by rfl, fun w hSw => by (obtain ⟨x0, x1, x2, x3, x4, x5⟩ := BoxP.cells hSw.1.b1; obtain ⟨y0, y1, y2, y3, y4, y5⟩ := BoxP.cells hSw.1.b2; obtain ⟨z0, z1, z2, z3, z4, z5⟩ := cells6 hSw.2.1.out; obtain ⟨s0, s1, s2, s3, s4, s5⟩ := cells6 hSw.2.2.out; simp only at x0 x1 x2 x3 x4 x5 y0 y1 y2 y3 y4 y5 z0 z1 z2 z3 z4 z5 s0 s1 s2 s3 s4 s5; go_simp; with_reducible rfl)⟩) hHeld ?_
        simp only [Act.put, List.setIfInBounds_toArray, List.set_cons_zero, List.set_cons_succ]
        refine wpq_take 4 (some 65) [12, 13] rfl rfl (by kernel_rfl) (by kernel_rfl) (by kernel_rfl) (by kernel_rfl) (fun _ _ _ h => h) (Or.inl ⟨by rfl, fun w hSw => by (obtain ⟨x0, x1, x2, x3, x4, x5⟩ := BoxP.cells hSw.1.b1; obtain ⟨y0, y1, y2, y3, y4, y5⟩ := BoxP.cells hSw.1.b2; obtain ⟨z0, z1, z2, z3, z4, z5⟩ := cells6 hSw.2.1.out; obtain ⟨s0, s1, s2, s3, s4, s5⟩ := cells6 hSw.2.2.out; simp only at x0 x1 x2 x3 x4 x5 y0 y1 y2 y3 y4 y5 z0 z1 z2 z3 z4 z5 s0 s1 s2 s3 s4 s5; go_simp; with_reducible rfl)⟩) hHeld ?_
        simp only [Act.put, List.setIfInBounds_toArray, List.set_cons_zero, List.set_cons_succ]
        refine wpq_take 5 (some 66) [6, 8, 9, 12, 13] rfl rfl (by kernel_rfl) (by kernel_rfl) (by kernel_rfl) (by kernel_rfl) (fun _ _ _ h => h) (Or.inl ⟨by rfl, fun w hSw => by (obtain ⟨x0, x1, x2, x3, x4, x5⟩ := BoxP.cells hSw.1.b1; obtain ⟨y0, y1, y2, y3, y4, y5⟩ := BoxP.cells hSw.1.b2; obtain ⟨z0, z1, z2, z3, z4, z5⟩ := cells6 hSw.2.1.out; obtain ⟨s0, s1, s2, s3, s4, s5⟩ := cells6 hSw.2.2.out; simp only at x0 x1 x2 x3 x4 x5 y0 y1 y2 y3 y4 y5 z0 z1 z2 z3 z4 z5 s0 s1 s2 s3 s4 s5; go_simp; with_reducible rfl)⟩) hHeld ?_
        simp only [Act.put, List.setIfInBounds_toArray, List.set_cons_zero, List.set_cons_succ]
        refine wpq_take 6 (some 67) [8, 9, 12, 13] rfl rfl (by kernel_rfl) (by kernel_rfl) (by kernel_rfl) (by kernel_rfl) (fun _ _ _ h => h) (Or.inl ⟨by rfl, fun w hSw => by (obtain ⟨x0, x1, x2, x3, x4, x5⟩ := BoxP.cells hSw.1.b1; obtain ⟨y0, y1, y2, y3, y4, y5⟩ := BoxP.cells hSw.1.b2; obtain ⟨z0, z1, z2, z3, z4, z5⟩ := cells6 hSw.2.1.out; obtain ⟨s0, s1, s2, s3, s4, s5⟩ := cells6 hSw.2.2.out; simp only at x0 x1 x2 x3 x4 x5 y0 y1 y2 y3 y4 y5 z0 z1 z2 z3 z4 z5 s0 s1 s2 s3 s4 s5; go_simp; with_reducible rfl)⟩) hHeld ?_
        simp only [Act.put, List.setIfInBounds_toArray, List.set_cons_zero, List.set_cons_succ]
        refine wpq_take 7 (some 68) [8, 9, 12, 13] rfl rfl (by kernel_rfl) (by kernel_rfl) (by kernel_rfl) (by kernel_rfl) (fun _ _ _ h => h) (Or.inl ⟨by rfl, fun w hSw => by (obtain ⟨x0, x1, x2, x3, x4, x5⟩ := BoxP.cells hSw.1.b1; obtain ⟨y0, y1, y2, y3, y4, y5⟩ := BoxP.cells hSw.1.b2; obtain ⟨z0, z1, z2, z3, z4, z5⟩ := cells6 hSw.2.1.out; obtain ⟨s0, s1, s2, s3, s4, s5⟩ := cells6 hSw.2.2.out; simp only at x0 x1 x2 x3 x4 x5 y0 y1 y2 y3 y4 y5 z0 z1 z2 z3 z4 z5 s0 s1 s2 s3 s4 s5; go_simp; with_reducible rfl)⟩) hHeld ?_
        simp only [Act.put, List.setIfInBounds_toArray, List.set_cons_zero, List.set_cons_succ]
        refine wpq_take 8 (some 69) [9, 12, 13] rfl rfl (by kernel_rfl) (by kernel_rfl) (by kernel_rfl) (by kernel_rfl) (fun _ _ _ h => h) (Or.inl ⟨by rfl, fun w hSw => by (obtain ⟨x0, x1, x2, x3, x4, x5⟩ := BoxP.cells hSw.1.b1; obtain ⟨y0, y1, y2, y3, y4, y5⟩ := BoxP.cells hSw.1.b2; obtain ⟨z0, z1, z2, z3, z4, z5⟩ := cells6 hSw.2.1.out; obtain ⟨s0, s1, s2, s3, s4, s5⟩ := cells6 hSw.2.2.out; simp only at x0 x1 x2 x3 x4 x5 y0 y1 y2 y3 y4 y5 z0 z1 z2 z3 z4 z5 s0 s1 s2 s3 s4 s5; go_simp; with_reducible rfl)⟩) hHeld ?_
        simp only [Act.put, List.setIfInBounds_toArray, List.set_cons_zero, List.set_cons_succ]
        refine wpq_take 9 (some 70) [12, 13] rfl rfl (by kernel_rfl) (by kernel_rfl) (by kernel_rfl) (by kernel_rfl) (fun _ _ _ h => h) (Or.inl ⟨by rfl, fun w hSw => by (obtain ⟨x0, x1, x2, x3, x4, x5⟩ := BoxP.cells hSw.1.b1; obtain ⟨y0, y1, y2, y3, y4, y5⟩ := BoxP.cells hSw.1.b2; obtain ⟨z0, z1, z2, z3, z4, z5⟩ := cells6 hSw.2.1.out; obtain ⟨s0, s1, s2, s3, s4, s5⟩ := cells6 hSw.2.2.out; simp only at x0 x1 x2 x3 x4 x5 y0 y1 y2 y3 y4 y5 z0 z1 z2 z3 z4 z5 s0 s1 s2 s3 s4 s5; go_simp; with_reducible rfl)⟩) hHeld ?_
        simp only [Act.put, List.setIfInBounds_toArray, List.set_cons_zero, List.set_cons_succ]
        refine wpq_take 10 (some 71) [11, 12, 13] rfl rfl (by kernel_rfl) (by kernel_rfl) (by kernel_rfl) (by kernel_rfl) (fun _ _ _ h => h) (Or.inl ⟨by rfl, fun w hSw => by (obtain ⟨x0, x1, x2, x3, x4, x5⟩ := BoxP.cells hSw.1.b1; obtain ⟨y0, y1, y2, y3, y4, y5⟩ := BoxP.cells hSw.1.b2; obtain ⟨z0, z1, z2, z3, z4, z5⟩ := cells6 hSw.2.1.out; obtain ⟨s0, s1, s2, s3, s4, s5⟩ := cells6 hSw.2.2.out; simp only at x0 x1 x2 x3 x4 x5 y0 y1 y2 y3 y4 y5 z0 z1 z2 z3 z4 z5 s0 s1 s2 s3 s4 s5; go_simp; with_reducible rfl)⟩) hHeld ?_
        simp only [Act.put, List.setIfInBounds_toArray, List.set_cons_zero, List.set_cons_succ]
        refine wpq_take 11 (some 72) [12, 13] rfl rfl (by kernel_rfl) (by kernel_rfl) (by kernel_rfl) (by kernel_rfl) (fun _ _ _ h => h) (Or.inl ⟨by rfl, fun w hSw => by (obtain ⟨x0, x1, x2, x3, x4, x5⟩ := BoxP.cells hSw.1.b1; obtain ⟨y0, y1, y2, y3, y4, y5⟩ := BoxP.cells hSw.1.b2; obtain ⟨z0, z1, z2, z3, z4, z5⟩ := cells6 hSw.2.1.out; obtain ⟨s0, s1, s2, s3, s4, s5⟩ := cells6 hSw.2.2.out; simp only at x0 x1 x2 x3 x4 x5 y0 y1 y2 y3 y4 y5 z0 z1 z2 z3 z4 z5 s0 s1 s2 s3 s4 s5; go_simp; with_reducible rfl)⟩) hHeld ?_
        simp only [Act.put, List.setIfInBounds_toArray, List.set_cons_zero, List.set_cons_succ]
        refine wpq_one 12 (by kernel_rfl) rfl (fun K hK => ?_)
        go_simp
        refine HIH.out.mono ?_
        rintro e w6 ⟨rfl, hb6⟩
        have HS6 := Lib.hid (hHeld.1.stay hb6)
        have hbw := hHeld.1.bel
        have HC1 : Hid (∀ j, j < 6 → w6.cell? ⟨g, o + k * 6 + j, none⟩ = (PC.cells ⟨p0, p1, p2, p3, p4, .slice pa pn pcap⟩)[j]?) := fun j hj => (hb6.cell (p := ⟨g, o + k * 6 + j, none⟩) (by have := HG.out.1; have := hbw.size; show g < wd.heap.size; omega)).trans (hHeld.2.1.out j hj)
        have HC2 : Hid (∀ j, j < 6 → w6.cell? ⟨g2, o2 + k * 6 + j, none⟩ = (PC.cells ⟨r0, r1, r2, r3, r4, .slice qa pn qcap⟩)[j]?) := fun j hj => (hb6.cell (p := ⟨g2, o2 + k * 6 + j, none⟩) (by have := HG.out.2; have := hbw.size; show g2 < wd.heap.size; omega)).trans (hHeld.2.2.out j hj)
        clear hHeld hb6 hbw HIH
        refine hK.out _ _ ⟨HS6.out, HC1, HC2⟩ (fun hHeld => ?_)
        clear hK K hHeld
        refine wpq_end 13 (by kernel_rfl) rfl (by kernel_rfl) (fun K hK => ?_)
        go_simp
        refine hK.out _ _ ?_
        clear hK K
        refine wpq_done (by kernel_rfl) ?_ _
        go_simp
        go_wp2_with fail
        exact ⟨⟨k + 1, by omega, by go_num, HS6.out⟩, by simp [intOf]; omega⟩
theorem Same_any (p : RX) (c1 c2 : PC) (w : World) (hs : sndR 48 p = true) (hr1 : RdP w c1 p) (hr2 : RdP w c2 p) :
    Calls Tryz.prog 7 #[aggP c1, aggP c2] w (Ret (.bool true) w) := by
  have HS := Lib.hid hs
  obtain ⟨a1, cap1, e1⟩ := hr1.forms
  obtain ⟨a2, cap2, e2⟩ := hr2.forms
  have HC := Lib.hid (fun w' (hb : Below w.heap.size w w') => same_any 48 p c1 c2 w' (Nat.le_refl _) hs (hr1.stays hb) (hr2.stays hb))
  generalize p.args.length = n at *
  obtain ⟨p0, p1, p2, p3, p4, p5⟩ := c1
  obtain ⟨q0, q1, q2, q3, q4, q5⟩ := c2
  simp only at e1 e2
  subst e1 e2
  simp only [aggP] at *
  clear hr1 hr2 hs HS
  go_enter Tryz.func7, Tryz.ntmps7
  go_upto_region 1 with fail
  generalize hW : World.alloc w _ = w1
  generalize hW2 : World.alloc w1 _ = w2
  have HS := Lib.hid (SmS.start (c1 := ⟨p0, p1, p2, p3, p4, .slice a1 n cap1⟩) (c2 := ⟨q0, q1, q2, q3, q4, .slice a2 n cap2⟩) hW hW2 rfl rfl)
  clear hW hW2
  obtain ⟨t0, t1, t2, t3, t4, t5⟩ := HS.out.b1.cells
  obtain ⟨u0, u1, u2, u3, u4, u5⟩ := HS.out.b2.cells
  simp only at t0 t1 t2 t3 t4 t5 u0 u1 u2 u3 u4 u5
  go_wp2_with fail
  refine (HC.out _ HS.out.bel).mono ?_
  rintro e w3 ⟨rfl, hb⟩
  have HS3 := Lib.hid (HS.out.stay hb)
  clear hb
  go_wp2_with fail
  go_ret
  exact ⟨rfl, HS3.out.bel⟩
end Go.Proofs.YtggolmamacoplaaGreatDoor

namespace Go.Proofs.YtggolmamacoplaaGreatDoor
open Go.RowKit Go.Shelf
set_option maxHeartbeats 4000000
set_option maxRecDepth 100000

/-- What stands while the law looks. -/
def LwS (b : Nat) (c : PC) (p : RX) (w0 w : World) : Prop := BoxP b c w ∧ Hid (RdP w c p ∧ Env w ∧ Below w0.heap.size w0 w)
theorem LwS.stay {b : Nat} {c : PC} {p : RX} {w0 w w' : World} (h : LwS b c p w0 w) (hb : Below w.heap.size w w') : LwS b c p w0 w' := ⟨h.1.below hb, h.2.out.1.stays hb, h.2.out.2.1.below hb, h.2.out.2.2.trans (hb.mono h.2.out.2.2.size)⟩
end Go.Proofs.YtggolmamacoplaaGreatDoor

namespace Go.Proofs.YtggolmamacoplaaGreatDoor
open Go.RowKit Go.Shelf
set_option maxHeartbeats 4000000
set_option maxRecDepth 100000

theorem val_snd {p : RX} (h : valR p = true) : sndR 48 p = true := by
  unfold valR at h
  rw [Bool.and_eq_true] at h
  exact h.1
end Go.Proofs.YtggolmamacoplaaGreatDoor

namespace Go.Proofs.YtggolmamacoplaaGreatDoor
open Go.RowKit Go.Shelf
set_option maxHeartbeats 4000000
set_option maxRecDepth 100000

/-- What Parse hands back, and its error's number. -/
def gotP (O : Option RX) : RX := O.getD (.mk 0 0 0 0 0 [])
def gotE (O : Option RX) : Int := match O with
  | some _ => 0
  | none => 3
def GotO (O : Option RX) (w : World) (e : Ending) (w' : World) : Prop :=
  ∃ c, e = .returned (.tuple #[aggP c, .int .i64 (gotE O)]) ∧ RdP w' c (gotP O) ∧ Below w.heap.size w w'
theorem got_snd (l : List UInt8) : sndR 48 (gotP (parseR l)) = true := by
  cases h : parseR l with
  | none => exact snd_le (show 1 ≤ 48 by omega) (show sndR 1 (.mk 0 0 0 0 0 []) = true from rfl)
  | some p => exact val_snd (parse_text h).2
theorem got_main (s : ByteArray) (w : World) (hs : s.size ≤ 100000000) (he : Env w) : Calls Tryz.prog 5 #[.string s] w (GotO (parseR (L s)) w) := by
  refine (Parse_any s w hs he).mono ?_
  rintro e w' ⟨hb, hm⟩
  cases h : parseR (L s) with
  | none =>
    rw [h] at hm
    exact ⟨_, hm, (leaf_rdq (fun _ => True) w' 0 0 0).rd, hb⟩
  | some p =>
    rw [h] at hm
    obtain ⟨c, rfl, hq⟩ := hm
    exact ⟨c, rfl, hq.rd, hb⟩
theorem got_ref (s : ByteArray) (w : World) (hs : s.size ≤ 100000000) : Calls Tryz.prog 6 #[.string s] w (GotO (parseR (L s)) w) := by
  refine (RParse_any s w hs).mono ?_
  rintro e w' ⟨hb, hm⟩
  rw [← parse_same] at hm
  cases h : parseR (L s) with
  | none =>
    rw [h] at hm
    exact ⟨_, hm, (leaf_rdq (fun _ => True) w' 0 0 0).rd, hb⟩
  | some p =>
    rw [h] at hm
    obtain ⟨c, rfl, hq⟩ := hm
    exact ⟨c, rfl, hq.rd, hb⟩
theorem ParsesX_any (s : ByteArray) (w : World) (hE : Env w) :
    Calls Tryz.prog 3 #[.string s] w fun e w' => e = .returned (.bool true) ∧ Below w.heap.size w w' := by
  have HE := Lib.hid hE
  have HAW := Lib.hid (fun w' h => awake15_any w' h)
  have HG1 := Lib.hid (fun w' hs h => got_main s w' hs h)
  have HG2 := Lib.hid (fun w' hs => got_ref s w' hs)
  have HSN := Lib.hid (got_snd (L s))
  clear hE
  generalize parseR (L s) = O at *
  by_cases hlen : (400 : Int) < s.size
  · go_enter Tryz.func3, Tryz.ntmps3
    go_wp2_with fail
    refine (HAW.out w HE.out).mono ?_
    rintro e w3 ⟨rfl, hb⟩
    have HB := Lib.hid hb
    clear hb
    go_wp2_with fail
    go_ret
    exact ⟨rfl, HB.out⟩
  have HS : Hid (s.size ≤ 100000000) := by unfold Hid; omega
  obtain ⟨x, hx⟩ : ∃ x, gotE O = x := ⟨_, rfl⟩
  have HXE : Hid (IntKind.i64.wrap x = x) := by unfold Hid; rw [← hx]; cases O <;> rfl
  have HXX := Lib.hid hx
  clear hx
  go_enter Tryz.func3, Tryz.ntmps3
  go_wp2_with fail
  refine (HG1.out w HS.out HE.out).mono ?_
  rintro e w3 ⟨c, rfl, hq, hb⟩
  rw [HXX.out]
  have HQ := Lib.hid hq
  have HB := Lib.hid hb
  obtain ⟨pa, pcap, hpa⟩ := hq.forms
  generalize (gotP O).args.length = pn at *
  obtain ⟨p0, p1, p2, p3, p4, p5⟩ := c
  simp only at hpa
  subst hpa
  clear hq hb
  simp only [aggP]
  go_upto_region 4 with fail
  generalize hW : World.alloc w3 _ = w4
  obtain ⟨ha, -, -, hb⟩ := alloc_of hW
  have HX := Lib.hid (show BoxP w3.heap.size ⟨p0, p1, p2, p3, p4, .slice pa pn pcap⟩ w4 from ha)
  replace HQ := Lib.hid (HQ.out.stays hb)
  replace HB := Lib.hid (HB.out.trans (hb.mono HB.out.size))
  clear hW ha hb
  go_wp2_with fail
  refine (HG2.out w4 HS.out).mono ?_
  rintro e w5 ⟨c, rfl, hq, hb⟩
  rw [HXX.out]
  replace HX := Lib.hid (HX.out.below hb)
  replace HQ := Lib.hid (HQ.out.stays hb)
  replace HB := Lib.hid (HB.out.trans (hb.mono HB.out.size))
  have HR := Lib.hid hq
  obtain ⟨qa, qcap, hqa⟩ := hq.forms
  generalize (gotP O).args.length = qn at *
  obtain ⟨q0, q1, q2, q3, q4, q5⟩ := c
  simp only at hqa
  subst hqa
  clear hq hb
  simp only [aggP]
  go_upto_region 5 with fail
  generalize hW : World.alloc w5 _ = w6
  obtain ⟨ha, -, -, hb⟩ := alloc_of hW
  have HY := Lib.hid (show BoxP w5.heap.size ⟨q0, q1, q2, q3, q4, .slice qa qn qcap⟩ w6 from ha)
  replace HX := Lib.hid (HX.out.below hb)
  replace HQ := Lib.hid (HQ.out.stays hb)
  replace HR := Lib.hid (HR.out.stays hb)
  replace HB := Lib.hid (HB.out.trans (hb.mono HB.out.size))
  have HSA := Lib.hid (Same_any _ _ _ _ HSN.out HQ.out HR.out)
  simp only [aggP] at HSA
  clear hW ha hb
  obtain ⟨z0, z1, z2, z3, z4, z5⟩ := HX.out.cells
  obtain ⟨x0, x1, x2, x3, x4, x5⟩ := HY.out.cells
  simp only at z0 z1 z2 z3 z4 z5 x0 x1 x2 x3 x4 x5
  have hwr := HXE.out
  go_wp2_with fail
  refine HSA.out.mono ?_
  rintro e w7 ⟨rfl, hb⟩
  replace HB := Lib.hid (HB.out.trans (hb.mono HB.out.size))
  clear hb
  go_wp2_with fail
  refine (HAW.out w7 (HE.out.below HB.out)).mono ?_
  rintro e w8 ⟨rfl, hb⟩
  replace HB := Lib.hid (HB.out.trans (hb.mono HB.out.size))
  clear hb
  go_wp2_with fail
  go_ret
  exact ⟨rfl, HB.out⟩
end Go.Proofs.YtggolmamacoplaaGreatDoor
