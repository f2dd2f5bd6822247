/- regex.derive walked at cat; printed by gen_ryd.py. Conditions: fewer than 10^6 nodes. -/
import Derived.Test.YtggolmamacoplaaGreatDoorZy27
import Derived.Test.YtggolmamacoplaaGreatDoorZy2
namespace Go.Proofs.YtggolmamacoplaaGreatDoor
open Go.RowKit Go.Shelf
set_option maxHeartbeats 4000000
set_option maxRecDepth 100000

/-- regex.derive at depth d. -/
def DerC (b : Int) (d : Nat) : Prop := ∀ (N : Nat → Prop) (p : RX) (c : PC) (w : World), RdQ N w c p → sndR d p = true → cntN d p ≤ 1000000 → Calls Tryz.prog 19 #[aggP c, .int .i64 b] w (RetP N (derR b d p) w)
theorem RetP.fin2 {N : Nat → Prop} {w0 w w4 : World} {d z : PC} {p : RX} (hx : BoxP (w0.heap.size + 1) z w) (hb : Below w0.heap.size w0 w) (hd : RdQ (fun g => (N g ∧ g < w0.heap.size) ∨ w0.heap.size + 2 ≤ g) w d p)
    (he : ((((((w.setCell ⟨w0.heap.size + 1, 0, none⟩ (.int .i64 d.op)).setCell ⟨w0.heap.size + 1, 1, none⟩ (.int .i64 d.lo)).setCell ⟨w0.heap.size + 1, 2, none⟩ (.int .i64 d.hi)).setCell ⟨w0.heap.size + 1, 3, none⟩ (.int .i64 d.mn)).setCell ⟨w0.heap.size + 1, 4, none⟩ (.int .i64 d.mx)).setCell ⟨w0.heap.size + 1, 5, none⟩ d.a) = w4) :
    BoxP (w0.heap.size + 1) d w4 ∧ RetP N p w0 (.returned (aggP d)) w4 := by
  obtain ⟨b1, b2⟩ := hx.set he
  have ho := set6_other he
  exact ⟨b1, d, rfl, (hd.keep (fun x hx _ => ho x (by omega))).mono (fun g hg _ => by rcases hg with hg | hg; exact .inl hg.1; exact .inr (by omega)), hb.trans (b2.mono (by omega))⟩
/-- What stands behind the two first blocks. -/
structure DerS (c : PC) (w wr : World) : Prop where
  box : BoxP w.heap.size c wr
  ret : BoxP (w.heap.size + 1) ⟨0, 0, 0, 0, 0, .slice none 0 0⟩ wr
  bel : Below w.heap.size w wr
theorem DerS.stay {c : PC} {w wr wx : World} (h : DerS c w wr) (hb : Below wr.heap.size wr wx) : DerS c w wx := ⟨h.box.below hb, h.ret.below hb, h.bel.trans (hb.mono h.bel.size)⟩
theorem cnt_part {d : Nat} {op lo hi mn mx : Int} {l : List RX} {q : RX} (h : cntN (d + 1) (.mk op lo hi mn mx l) ≤ 1000000) (hq : q ∈ l) : cntN d q ≤ 1000000 := by
  rw [cntN] at h
  have := sum_le_of_mem (g := cntN d) hq
  omega
theorem cnt_len {d : Nat} {op lo hi mn mx : Int} {l : List RX} (hs : sndR (d + 1) (.mk op lo hi mn mx l) = true) (h : cntN (d + 1) (.mk op lo hi mn mx l) ≤ 1000000) : l.length ≤ 1000000 := by
  rw [cntN] at h
  have hk := (snd_node hs).2
  have : ∀ l : List RX, (∀ q ∈ l, sndR d q = true) → l.length ≤ (l.map (cntN d)).sum := by
    intro l
    induction l with
    | nil => intro _; simp
    | cons a t ih =>
      intro hl
      have h1 := snd_pos (hl a (by simp))
      have h2 := cnt_pos (p := a) h1
      have h3 := ih (fun q hq => hl q (by simp [hq]))
      simp only [List.map_cons, List.sum_cons, List.length_cons]
      omega
  have := this l hk
  omega
theorem der_op0 (b : Int) (d : Nat) (N : Nat → Prop) (lo hi mn mx : Int) (l : List RX) (c : PC) (w : World) (hp : RdQ N w c (.mk 0 lo hi mn mx l)) (hsn : sndR (d + 1) (.mk 0 lo hi mn mx l) = true) (hcn : cntN (d + 1) (.mk 0 lo hi mn mx l) ≤ 1000000) :
    Calls Tryz.prog 19 #[aggP c, .int .i64 b] w (RetP N (derR b (d + 1) (.mk 0 lo hi mn mx l)) w) := by
  have HSN := Lib.hid hsn
  have HCN := Lib.hid hcn
  have HP := Lib.hid hp
  have HLN := Lib.hid (cnt_len hsn hcn)
  obtain ⟨la, lcap, hla⟩ := hp.rd.forms
  have hop : c.op = 0 ∧ c.lo = lo ∧ c.hi = hi ∧ c.mn = mn ∧ c.mx = mx := by cases hp; exact ⟨rfl, rfl, rfl, rfl, rfl⟩
  obtain ⟨c0, c1, c2, c3, c4, c5⟩ := c
  simp only at hop hla
  obtain ⟨rfl, rfl, rfl, rfl, rfl⟩ := hop
  rw [show (RX.mk 0 c1 c2 c3 c4 l).args = l from rfl] at hla
  subst hla
  have hll : (l.length : Int) ≤ 1000000 := by have := HLN.out; omega
  simp only [aggP]
  clear hp hsn hcn
  go_enter Tryz.func19, Tryz.ntmps19
  go_upto_region 1 with fail
  generalize hW : World.alloc w _ = w1
  obtain ⟨ha, -, hz1, hb1⟩ := alloc_of hW
  generalize hW2 : World.alloc w1 _ = w2
  obtain ⟨ha2, -, hz2, hb2⟩ := alloc_of hW2
  rw [hz1] at ha2
  have HD := Lib.hid (show DerS ⟨0, c1, c2, c3, c4, .slice la l.length lcap⟩ w w2 from ⟨(hb2.block _ (by omega)).trans ha, ha2, hb1.trans (hb2.mono hb1.size)⟩)
  clear hW ha hz1 hb1 hW2 ha2 hz2 hb2
  obtain ⟨t0, t1, t2, t3, t4, t5⟩ := HD.out.box.cells
  simp only at t0 t1 t2 t3 t4 t5
  have HQ := Lib.hid (show derR b (d + 1) (.mk 0 c1 c2 c3 c4 l) = nonR from by simp [derR])
  go_wp2_with fail
  refine (none_any w2).mono ?_
  rintro e w8 ⟨rfl, hb8⟩
  have HD8 := Lib.hid (HD.out.stay hb8)
  clear hb8
  obtain ⟨z0, z1, z2, z3, z4, z5⟩ := HD8.out.ret.cells
  obtain ⟨y0, y1, y2, y3, y4, y5⟩ := HD8.out.ret.free
  simp only at z0 z1 z2 z3 z4 z5
  simp only [aggP, zeroP]
  go_wp2_with fail
  generalize hW : World.setCell _ _ _ = w9
  obtain ⟨hbx, hok⟩ := RetP.fin2 (N := N) (d := zeroP 0) HD8.out.ret HD8.out.bel (zero_rd _ 0 _) hW
  obtain ⟨s0, s1, s2, s3, s4, s5⟩ := hbx.cells
  refine bodyPost_ret (v := aggP (zeroP 0)) (by simp only [zeroP] at s0 s1 s2 s3 s4 s5; simp [results, Tryz.results19, go_sem, zeroP, s0, s1, s2, s3, s4, s5]) rfl ?_
  rw [HQ.out]
  exact hok
theorem der_op1 (b : Int) (d : Nat) (N : Nat → Prop) (lo hi mn mx : Int) (l : List RX) (c : PC) (w : World) (hp : RdQ N w c (.mk 1 lo hi mn mx l)) (hsn : sndR (d + 1) (.mk 1 lo hi mn mx l) = true) (hcn : cntN (d + 1) (.mk 1 lo hi mn mx l) ≤ 1000000) :
    Calls Tryz.prog 19 #[aggP c, .int .i64 b] w (RetP N (derR b (d + 1) (.mk 1 lo hi mn mx l)) w) := by
  have HSN := Lib.hid hsn
  have HCN := Lib.hid hcn
  have HP := Lib.hid hp
  have HLN := Lib.hid (cnt_len hsn hcn)
  obtain ⟨la, lcap, hla⟩ := hp.rd.forms
  have hop : c.op = 1 ∧ c.lo = lo ∧ c.hi = hi ∧ c.mn = mn ∧ c.mx = mx := by cases hp; exact ⟨rfl, rfl, rfl, rfl, rfl⟩
  obtain ⟨c0, c1, c2, c3, c4, c5⟩ := c
  simp only at hop hla
  obtain ⟨rfl, rfl, rfl, rfl, rfl⟩ := hop
  rw [show (RX.mk 1 c1 c2 c3 c4 l).args = l from rfl] at hla
  subst hla
  have hll : (l.length : Int) ≤ 1000000 := by have := HLN.out; omega
  simp only [aggP]
  clear hp hsn hcn
  go_enter Tryz.func19, Tryz.ntmps19
  go_upto_region 1 with fail
  generalize hW : World.alloc w _ = w1
  obtain ⟨ha, -, hz1, hb1⟩ := alloc_of hW
  generalize hW2 : World.alloc w1 _ = w2
  obtain ⟨ha2, -, hz2, hb2⟩ := alloc_of hW2
  rw [hz1] at ha2
  have HD := Lib.hid (show DerS ⟨1, c1, c2, c3, c4, .slice la l.length lcap⟩ w w2 from ⟨(hb2.block _ (by omega)).trans ha, ha2, hb1.trans (hb2.mono hb1.size)⟩)
  clear hW ha hz1 hb1 hW2 ha2 hz2 hb2
  obtain ⟨t0, t1, t2, t3, t4, t5⟩ := HD.out.box.cells
  simp only at t0 t1 t2 t3 t4 t5
  have HQ := Lib.hid (show derR b (d + 1) (.mk 1 c1 c2 c3 c4 l) = nonR from by simp [derR])
  go_wp2_with fail
  refine (none_any w2).mono ?_
  rintro e w8 ⟨rfl, hb8⟩
  have HD8 := Lib.hid (HD.out.stay hb8)
  clear hb8
  obtain ⟨z0, z1, z2, z3, z4, z5⟩ := HD8.out.ret.cells
  obtain ⟨y0, y1, y2, y3, y4, y5⟩ := HD8.out.ret.free
  simp only at z0 z1 z2 z3 z4 z5
  simp only [aggP, zeroP]
  go_wp2_with fail
  generalize hW : World.setCell _ _ _ = w9
  obtain ⟨hbx, hok⟩ := RetP.fin2 (N := N) (d := zeroP 0) HD8.out.ret HD8.out.bel (zero_rd _ 0 _) hW
  obtain ⟨s0, s1, s2, s3, s4, s5⟩ := hbx.cells
  refine bodyPost_ret (v := aggP (zeroP 0)) (by simp only [zeroP] at s0 s1 s2 s3 s4 s5; simp [results, Tryz.results19, go_sem, zeroP, s0, s1, s2, s3, s4, s5]) rfl ?_
  rw [HQ.out]
  exact hok
theorem der_op2 (b : Int) (d : Nat) (N : Nat → Prop) (lo hi mn mx : Int) (l : List RX) (c : PC) (w : World) (hp : RdQ N w c (.mk 2 lo hi mn mx l)) (hsn : sndR (d + 1) (.mk 2 lo hi mn mx l) = true) (hcn : cntN (d + 1) (.mk 2 lo hi mn mx l) ≤ 1000000) :
    Calls Tryz.prog 19 #[aggP c, .int .i64 b] w (RetP N (derR b (d + 1) (.mk 2 lo hi mn mx l)) w) := by
  have HSN := Lib.hid hsn
  have HCN := Lib.hid hcn
  have HP := Lib.hid hp
  have HLN := Lib.hid (cnt_len hsn hcn)
  obtain ⟨la, lcap, hla⟩ := hp.rd.forms
  have hop : c.op = 2 ∧ c.lo = lo ∧ c.hi = hi ∧ c.mn = mn ∧ c.mx = mx := by cases hp; exact ⟨rfl, rfl, rfl, rfl, rfl⟩
  obtain ⟨c0, c1, c2, c3, c4, c5⟩ := c
  simp only at hop hla
  obtain ⟨rfl, rfl, rfl, rfl, rfl⟩ := hop
  rw [show (RX.mk 2 c1 c2 c3 c4 l).args = l from rfl] at hla
  subst hla
  have hll : (l.length : Int) ≤ 1000000 := by have := HLN.out; omega
  simp only [aggP]
  clear hp hsn hcn
  go_enter Tryz.func19, Tryz.ntmps19
  go_upto_region 1 with fail
  generalize hW : World.alloc w _ = w1
  obtain ⟨ha, -, hz1, hb1⟩ := alloc_of hW
  generalize hW2 : World.alloc w1 _ = w2
  obtain ⟨ha2, -, hz2, hb2⟩ := alloc_of hW2
  rw [hz1] at ha2
  have HD := Lib.hid (show DerS ⟨2, c1, c2, c3, c4, .slice la l.length lcap⟩ w w2 from ⟨(hb2.block _ (by omega)).trans ha, ha2, hb1.trans (hb2.mono hb1.size)⟩)
  clear hW ha hz1 hb1 hW2 ha2 hz2 hb2
  obtain ⟨t0, t1, t2, t3, t4, t5⟩ := HD.out.box.cells
  simp only at t0 t1 t2 t3 t4 t5
  by_cases h1 : c1 ≤ b
  · by_cases h2 : b ≤ c2
    · have HQ := Lib.hid (show derR b (d + 1) (.mk 2 c1 c2 c3 c4 l) = empR from by simp [derR, h1, h2])
      go_wp2_with fail
      refine (empty_any w2).mono ?_
      rintro e w8 ⟨rfl, hb8⟩
      have HD8 := Lib.hid (HD.out.stay hb8)
      clear hb8
      obtain ⟨z0, z1, z2, z3, z4, z5⟩ := HD8.out.ret.cells
      obtain ⟨y0, y1, y2, y3, y4, y5⟩ := HD8.out.ret.free
      simp only at z0 z1 z2 z3 z4 z5
      simp only [aggP, zeroP]
      go_wp2_with fail
      generalize hW : World.setCell _ _ _ = w9
      obtain ⟨hbx, hok⟩ := RetP.fin2 (N := N) (d := zeroP 1) HD8.out.ret HD8.out.bel (zero_rd _ 1 _) hW
      obtain ⟨s0, s1, s2, s3, s4, s5⟩ := hbx.cells
      refine bodyPost_ret (v := aggP (zeroP 1)) (by simp only [zeroP] at s0 s1 s2 s3 s4 s5; simp [results, Tryz.results19, go_sem, zeroP, s0, s1, s2, s3, s4, s5]) rfl ?_
      rw [HQ.out]
      exact hok
    · have HQ := Lib.hid (show derR b (d + 1) (.mk 2 c1 c2 c3 c4 l) = nonR from by simp [derR, h2])
      go_wp2_with fail
      refine (none_any w2).mono ?_
      rintro e w8 ⟨rfl, hb8⟩
      have HD8 := Lib.hid (HD.out.stay hb8)
      clear hb8
      obtain ⟨z0, z1, z2, z3, z4, z5⟩ := HD8.out.ret.cells
      obtain ⟨y0, y1, y2, y3, y4, y5⟩ := HD8.out.ret.free
      simp only at z0 z1 z2 z3 z4 z5
      simp only [aggP, zeroP]
      go_wp2_with fail
      generalize hW : World.setCell _ _ _ = w9
      obtain ⟨hbx, hok⟩ := RetP.fin2 (N := N) (d := zeroP 0) HD8.out.ret HD8.out.bel (zero_rd _ 0 _) hW
      obtain ⟨s0, s1, s2, s3, s4, s5⟩ := hbx.cells
      refine bodyPost_ret (v := aggP (zeroP 0)) (by simp only [zeroP] at s0 s1 s2 s3 s4 s5; simp [results, Tryz.results19, go_sem, zeroP, s0, s1, s2, s3, s4, s5]) rfl ?_
      rw [HQ.out]
      exact hok
  · have HQ := Lib.hid (show derR b (d + 1) (.mk 2 c1 c2 c3 c4 l) = nonR from by simp [derR, h1])
    go_wp2_with fail
    refine (none_any w2).mono ?_
    rintro e w8 ⟨rfl, hb8⟩
    have HD8 := Lib.hid (HD.out.stay hb8)
    clear hb8
    obtain ⟨z0, z1, z2, z3, z4, z5⟩ := HD8.out.ret.cells
    obtain ⟨y0, y1, y2, y3, y4, y5⟩ := HD8.out.ret.free
    simp only at z0 z1 z2 z3 z4 z5
    simp only [aggP, zeroP]
    go_wp2_with fail
    generalize hW : World.setCell _ _ _ = w9
    obtain ⟨hbx, hok⟩ := RetP.fin2 (N := N) (d := zeroP 0) HD8.out.ret HD8.out.bel (zero_rd _ 0 _) hW
    obtain ⟨s0, s1, s2, s3, s4, s5⟩ := hbx.cells
    refine bodyPost_ret (v := aggP (zeroP 0)) (by simp only [zeroP] at s0 s1 s2 s3 s4 s5; simp [results, Tryz.results19, go_sem, zeroP, s0, s1, s2, s3, s4, s5]) rfl ?_
    rw [HQ.out]
    exact hok
theorem der_op7 (b : Int) (d : Nat) (IH : DerC b d) (N : Nat → Prop) (lo hi mn mx : Int) (l : List RX) (c : PC) (w : World) (hp : RdQ N w c (.mk 7 lo hi mn mx l)) (hsn : sndR (d + 1) (.mk 7 lo hi mn mx l) = true) (hcn : cntN (d + 1) (.mk 7 lo hi mn mx l) ≤ 1000000) :
    Calls Tryz.prog 19 #[aggP c, .int .i64 b] w (RetP N (derR b (d + 1) (.mk 7 lo hi mn mx l)) w) := by
  have HSN := Lib.hid hsn
  have HCN := Lib.hid hcn
  have HP := Lib.hid hp
  have HLN := Lib.hid (cnt_len hsn hcn)
  obtain ⟨la, lcap, hla⟩ := hp.rd.forms
  have hop : c.op = 7 ∧ c.lo = lo ∧ c.hi = hi ∧ c.mn = mn ∧ c.mx = mx := by cases hp; exact ⟨rfl, rfl, rfl, rfl, rfl⟩
  obtain ⟨c0, c1, c2, c3, c4, c5⟩ := c
  simp only at hop hla
  obtain ⟨rfl, rfl, rfl, rfl, rfl⟩ := hop
  rw [show (RX.mk 7 c1 c2 c3 c4 l).args = l from rfl] at hla
  subst hla
  have hll : (l.length : Int) ≤ 1000000 := by have := HLN.out; omega
  simp only [aggP]
  clear hp hsn hcn
  go_enter Tryz.func19, Tryz.ntmps19
  go_upto_region 1 with fail
  generalize hW : World.alloc w _ = w1
  obtain ⟨ha, -, hz1, hb1⟩ := alloc_of hW
  generalize hW2 : World.alloc w1 _ = w2
  obtain ⟨ha2, -, hz2, hb2⟩ := alloc_of hW2
  rw [hz1] at ha2
  have HD := Lib.hid (show DerS ⟨7, c1, c2, c3, c4, .slice la l.length lcap⟩ w w2 from ⟨(hb2.block _ (by omega)).trans ha, ha2, hb1.trans (hb2.mono hb1.size)⟩)
  clear hW ha hz1 hb1 hW2 ha2 hz2 hb2
  obtain ⟨t0, t1, t2, t3, t4, t5⟩ := HD.out.box.cells
  simp only at t0 t1 t2 t3 t4 t5
  obtain ⟨q, rfl⟩ : ∃ q, l = [q] := by
    have h1 : l.length = 1 := by
      have := (snd_node HSN.out).1
      simp only [formR] at this
      simp at this
      omega
    match l, h1 with
    | [q], _ => exact ⟨q, rfl⟩
  have HQ := Lib.hid (show derR b (d + 1) (.mk 7 c1 c2 c3 c4 [q]) = .mk 7 0 0 0 0 [derR b d q] from by simp [derR])
  obtain ⟨g, o, c, rfl, hc6, hrq⟩ := RdL.part HP.out.list HD.out.bel 0 (by simp)
  have HRD := Lib.hid (show RdQ (fun g => N g ∧ g < w.heap.size) w2 c q from hrq)
  have HC := Lib.hid (IH _ q c w2 HRD.out ((snd_node HSN.out).2 q (by simp)) (cnt_part HCN.out (by simp)))
  obtain ⟨pa, pcap, hpa⟩ := HRD.out.rd.forms
  generalize q.args.length = pn at *
  obtain ⟨p0, p1, p2, p3, p4, p5⟩ := c
  simp only at hpa
  subst hpa
  obtain ⟨b0, b1, b2, b3, b4, b5⟩ := cells6 hc6
  simp only [Nat.zero_mul, Nat.add_zero] at b0 b1 b2 b3 b4 b5
  clear hc6 hrq IH
  go_wp2_with fail
  refine HC.out.mono ?_
  rintro e w5 ⟨c8, rfl, hq8, hb8⟩
  have HD5 := Lib.hid (HD.out.stay hb8)
  have HZ2 : Hid (w.heap.size + 2 ≤ w2.heap.size) := HD.out.ret.lt
  have HQ5 := Lib.hid (hq8.mono (M := fun g => (N g ∧ g < w.heap.size) ∨ w.heap.size + 2 ≤ g) (fun g hg _ => by have := HZ2.out; rcases hg with hg | hg; exact .inl hg; exact .inr (by omega)))
  obtain ⟨fa, fcap, hfa⟩ := hq8.rd.forms
  obtain ⟨q0, q1, q2, q3, q4, q5⟩ := c8
  simp only at hfa
  generalize (derR b d q).args.length = fl at *
  subst hfa
  simp only [aggP]
  clear hq8 hb8 HC b0 b1 b2 b3 b4 b5 t0 t1 t2 t3 t4 t5
  obtain ⟨z0, z1, z2, z3, z4, z5⟩ := HD5.out.ret.cells
  obtain ⟨y0, y1, y2, y3, y4, y5⟩ := HD5.out.ret.free
  simp only at z0 z1 z2 z3 z4 z5
  have HZ5 := Lib.hid HD5.out.ret.lt
  clear z0 z1 z2 z3 z4 z5 y0 y1 y2 y3 y4 y5
  have z0 : ∀ X, (w5.alloc X).cell? ⟨w.heap.size + 1, 0, none⟩ = some (.int .i64 0) := fun X => (HD5.out.stay (below_alloc w5 X)).ret.cells.1
  have z1 : ∀ X, (w5.alloc X).cell? ⟨w.heap.size + 1, 1, none⟩ = some (.int .i64 0) := fun X => (HD5.out.stay (below_alloc w5 X)).ret.cells.2.1
  have z2 : ∀ X, (w5.alloc X).cell? ⟨w.heap.size + 1, 2, none⟩ = some (.int .i64 0) := fun X => (HD5.out.stay (below_alloc w5 X)).ret.cells.2.2.1
  have z3 : ∀ X, (w5.alloc X).cell? ⟨w.heap.size + 1, 3, none⟩ = some (.int .i64 0) := fun X => (HD5.out.stay (below_alloc w5 X)).ret.cells.2.2.2.1
  have z4 : ∀ X, (w5.alloc X).cell? ⟨w.heap.size + 1, 4, none⟩ = some (.int .i64 0) := fun X => (HD5.out.stay (below_alloc w5 X)).ret.cells.2.2.2.2.1
  have z5 : ∀ X, (w5.alloc X).cell? ⟨w.heap.size + 1, 5, none⟩ = some (.slice none 0 0) := fun X => (HD5.out.stay (below_alloc w5 X)).ret.cells.2.2.2.2.2
  have y0 : ∀ X, (w5.alloc X).frozen? ⟨w.heap.size + 1, 0, none⟩ = false := fun X => (HD5.out.stay (below_alloc w5 X)).ret.free.1
  have y1 : ∀ X, (w5.alloc X).frozen? ⟨w.heap.size + 1, 1, none⟩ = false := fun X => (HD5.out.stay (below_alloc w5 X)).ret.free.2.1
  have y2 : ∀ X, (w5.alloc X).frozen? ⟨w.heap.size + 1, 2, none⟩ = false := fun X => (HD5.out.stay (below_alloc w5 X)).ret.free.2.2.1
  have y3 : ∀ X, (w5.alloc X).frozen? ⟨w.heap.size + 1, 3, none⟩ = false := fun X => (HD5.out.stay (below_alloc w5 X)).ret.free.2.2.2.1
  have y4 : ∀ X, (w5.alloc X).frozen? ⟨w.heap.size + 1, 4, none⟩ = false := fun X => (HD5.out.stay (below_alloc w5 X)).ret.free.2.2.2.2.1
  have y5 : ∀ X, (w5.alloc X).frozen? ⟨w.heap.size + 1, 5, none⟩ = false := fun X => (HD5.out.stay (below_alloc w5 X)).ret.free.2.2.2.2.2
  go_wp2_with fail
  generalize hWa : World.alloc w5 _ = w6
  obtain ⟨ha, -, -, hb6⟩ := alloc_of hWa
  have HM := Lib.hid (show BoxP w5.heap.size ⟨q0, q1, q2, q3, q4, .slice fa fl fcap⟩ w6 from ha)
  have HD6 := Lib.hid (HD5.out.stay hb6)
  have HQ6 := Lib.hid (HQ5.out.stay hb6)
  generalize hW : World.setCell _ _ _ = w9
  obtain ⟨hbx, hok⟩ := RetP.fin2 (N := N) (d := ⟨7, 0, 0, 0, 0, .slice (some ⟨w5.heap.size, 0, none⟩) 1 1⟩) HD6.out.ret HD6.out.bel (sng_rd HQ6.out HM.out (.inr (by have := HZ5.out; omega))) hW
  obtain ⟨s0, s1, s2, s3, s4, s5⟩ := hbx.cells
  refine bodyPost_ret (v := aggP ⟨7, 0, 0, 0, 0, .slice (some ⟨w5.heap.size, 0, none⟩) 1 1⟩) (by simp only at s0 s1 s2 s3 s4 s5; simp [results, Tryz.results19, go_sem, s0, s1, s2, s3, s4, s5]) rfl ?_
  rw [HQ.out]
  exact hok
theorem der_op4 (b : Int) (d : Nat) (IH : DerC b d) (N : Nat → Prop) (lo hi mn mx : Int) (l : List RX) (c : PC) (w : World) (hp : RdQ N w c (.mk 4 lo hi mn mx l)) (hsn : sndR (d + 1) (.mk 4 lo hi mn mx l) = true) (hcn : cntN (d + 1) (.mk 4 lo hi mn mx l) ≤ 1000000) :
    Calls Tryz.prog 19 #[aggP c, .int .i64 b] w (RetP N (derR b (d + 1) (.mk 4 lo hi mn mx l)) w) := by
  have HSN := Lib.hid hsn
  have HCN := Lib.hid hcn
  have HP := Lib.hid hp
  have HLN := Lib.hid (cnt_len hsn hcn)
  obtain ⟨la, lcap, hla⟩ := hp.rd.forms
  have hop : c.op = 4 ∧ c.lo = lo ∧ c.hi = hi ∧ c.mn = mn ∧ c.mx = mx := by cases hp; exact ⟨rfl, rfl, rfl, rfl, rfl⟩
  obtain ⟨c0, c1, c2, c3, c4, c5⟩ := c
  simp only at hop hla
  obtain ⟨rfl, rfl, rfl, rfl, rfl⟩ := hop
  rw [show (RX.mk 4 c1 c2 c3 c4 l).args = l from rfl] at hla
  subst hla
  have hll : (l.length : Int) ≤ 1000000 := by have := HLN.out; omega
  simp only [aggP]
  clear hp hsn hcn
  go_enter Tryz.func19, Tryz.ntmps19
  go_upto_region 1 with fail
  generalize hW : World.alloc w _ = w1
  obtain ⟨ha, -, hz1, hb1⟩ := alloc_of hW
  generalize hW2 : World.alloc w1 _ = w2
  obtain ⟨ha2, -, hz2, hb2⟩ := alloc_of hW2
  rw [hz1] at ha2
  have HD := Lib.hid (show DerS ⟨4, c1, c2, c3, c4, .slice la l.length lcap⟩ w w2 from ⟨(hb2.block _ (by omega)).trans ha, ha2, hb1.trans (hb2.mono hb1.size)⟩)
  clear hW ha hz1 hb1 hW2 ha2 hz2 hb2
  obtain ⟨t0, t1, t2, t3, t4, t5⟩ := HD.out.box.cells
  simp only at t0 t1 t2 t3 t4 t5
  have HQ := Lib.hid (show derR b (d + 1) (.mk 4 c1 c2 c3 c4 l) = altD (l.map (derR b d)) from by simp [derR])
  have HIH := Lib.hid IH
  have HKS := Lib.hid (snd_node HSN.out).2
  clear IH
  go_wp2_with fail
  go_loopw [8, 10, 63] (fun ov _ iv wr => ∃ (k : Nat) (A : Option Addr) (n cap : Nat) (cs : List PC), k ≤ l.length ∧ iv = .int .i64 (k : Int) ∧ ov = .slice A n cap ∧ Hid (n = cs.length ∧ cs.length = k) ∧ Hid (DerS ⟨4, c1, c2, c3, c4, .slice la l.length lcap⟩ w wr) ∧ Hid (OwnP (fun g => (N g ∧ g < w.heap.size) ∨ w.heap.size + 2 ≤ g) (w.heap.size + 2) wr (.slice A n cap) cs ((l.take k).map (derR b d)))) (fun _ _ iv _ => l.length - (intOf iv).toNat)
  case atStart => exact ⟨0, none, 0, 0, [], Nat.zero_le _, rfl, rfl, ⟨rfl, rfl⟩, HD.out, by rw [List.take_zero]; exact OwnP.nil _ _ _⟩
  case round =>
    clear HD t0 t1 t2 t3 t4 t5
    obtain ⟨k, A, n, cap, cs, hk, rfl, rfl, HC, HD, HW⟩ := hrel
    obtain ⟨t0, t1, t2, t3, t4, t5⟩ := HD.out.box.cells
    simp only at t0 t1 t2 t3 t4 t5
    by_cases hlt : k < l.length
    case neg =>
      have hge : ¬ (k : Int) < l.length := by omega
      have HF : Hid (RdL (fun g => (N g ∧ g < w.heap.size) ∨ w.heap.size + 2 ≤ g) wr (.slice A n cap) (l.map (derR b d))) := by
        have := HW.out
        rw [List.take_of_length_le (by omega)] at this
        exact this.node2 (fun x hx => .inr (this.1.lt x hx).1) 0 0 0 0 0
      have HC2 := Lib.hid (alt_any _ _ _ wr HF.out (by have := HLN.out; rw [List.length_map]; omega))
      have HZ2 : Hid (w.heap.size + 2 ≤ wr.heap.size) := HD.out.ret.lt
      clear hlt
      go_wp2_with fail
      refine HC2.out.mono ?_
      rintro e w8 ⟨c8, rfl, hq8, hb8⟩
      have HD8 := Lib.hid (HD.out.stay hb8)
      have HQ8 := Lib.hid (hq8.mono (M := fun g => (N g ∧ g < w.heap.size) ∨ w.heap.size + 2 ≤ g) (fun g hg _ => by have := HZ2.out; rcases hg with hg | hg; exact hg; exact .inr (by omega)))
      obtain ⟨fa, fcap, hfa⟩ := hq8.rd.forms
      obtain ⟨q0, q1, q2, q3, q4, q5⟩ := c8
      simp only at hfa
      subst hfa
      simp only [aggP]
      clear hq8 hb8
      obtain ⟨z0, z1, z2, z3, z4, z5⟩ := HD8.out.ret.cells
      obtain ⟨y0, y1, y2, y3, y4, y5⟩ := HD8.out.ret.free
      simp only at z0 z1 z2 z3 z4 z5
      go_wp2_with fail
      generalize hW : World.setCell _ _ _ = w9
      obtain ⟨hbx, hok⟩ := RetP.fin2 (N := N) HD8.out.ret HD8.out.bel HQ8.out hW
      obtain ⟨s0, s1, s2, s3, s4, s5⟩ := hbx.cells
      refine bodyPost_ret (v := aggP ⟨q0, q1, q2, q3, q4, .slice fa _ fcap⟩) (by simp only at s0 s1 s2 s3 s4 s5; simp [results, Tryz.results19, go_sem, s0, s1, s2, s3, s4, s5]; try rfl) rfl ?_
      rw [HQ.out]
      exact hok
    case pos =>
      have hlti : (k : Int) < l.length := by omega
      obtain ⟨g, o, c, rfl, hc6, hrq⟩ := RdL.part HP.out.list HD.out.bel k hlt
      have HTK : Hid ((l.take (k + 1)).map (derR b d) = (l.take k).map (derR b d) ++ [derR b d l[k]]) := by
        unfold Hid
        rw [List.take_succ_eq_append_getElem hlt, List.map_append]
        rfl
      have HRD := Lib.hid hrq
      have HSQ := Lib.hid (HKS.out _ (List.getElem_mem hlt))
      have HCQ := Lib.hid (cnt_part HCN.out (List.getElem_mem hlt))
      generalize l[k] = q at *
      obtain ⟨pa, pcap, hpa⟩ := HRD.out.rd.forms
      generalize q.args.length = pn at *
      obtain ⟨p0, p1, p2, p3, p4, p5⟩ := c
      simp only at hpa
      subst hpa
      obtain ⟨b0, b1, b2, b3, b4, b5⟩ := cells6 hc6
      simp only at b0 b1 b2 b3 b4 b5
      clear hc6 hrq
      go_upto_region 20 with fail
      generalize hW : World.alloc wr _ = w5
      obtain ⟨ha, -, -, hb5⟩ := alloc_of hW
      have HB5 := Lib.hid (show BoxP wr.heap.size ⟨p0, p1, p2, p3, p4, .slice pa pn pcap⟩ w5 from ha)
      have HD5 := Lib.hid (HD.out.stay hb5)
      have HW5 := Lib.hid (HW.out.keep2 (w' := w5) (fun x _ hx => hb5.block x hx))
      have HZ5 : Hid (w.heap.size + 2 ≤ w5.heap.size) := HD5.out.ret.lt
      have HC5 := Lib.hid (HIH.out _ q ⟨p0, p1, p2, p3, p4, .slice pa pn pcap⟩ w5 (HRD.out.stay hb5) HSQ.out HCQ.out)
      clear hW ha hb5 b0 b1 b2 b3 b4 b5 HD HW t0 t1 t2 t3 t4 t5 HRD
      obtain ⟨b0, b1, b2, b3, b4, b5⟩ := HB5.out.cells
      simp only at b0 b1 b2 b3 b4 b5
      go_wp2_with fail
      refine HC5.out.mono ?_
      rintro e w6 ⟨c6, rfl, hq6, hb6⟩
      have HD6 := Lib.hid (HD5.out.stay hb6)
      have HW6 := Lib.hid (HW5.out.keep2 (w' := w6) (fun x _ hx => hb6.block x hx))
      have HQ6 := Lib.hid (hq6.mono (M := fun g => ((N g ∧ g < w.heap.size) ∨ w.heap.size + 2 ≤ g) ∧ some g ≠ (Value.slice A n cap).ownBlock) (fun g hg hl => ⟨by have := HZ5.out; rcases hg with hg | hg; exact .inl hg; exact .inr (by omega), fun he => by
        have h1 := HW5.out.1.lt g he.symm
        rcases hg with hg | hg
        · omega
        · omega⟩))
      obtain ⟨fa, fcap, hfa⟩ := hq6.rd.forms
      obtain ⟨q0, q1, q2, q3, q4, q5⟩ := c6
      simp only at hfa
      generalize hdq : derR b d q = dq at *
      generalize dq.args.length = fl at *
      subst hfa
      simp only [aggP]
      clear hq6 hb6 HC5 b0 b1 b2 b3 b4 b5 hdq
      go_wp2_with (at_builtin; refine wpl_pushP (N := fun g => (N g ∧ g < w.heap.size) ∨ w.heap.size + 2 ≤ g) (B := w.heap.size + 2) (c := ⟨q0, q1, q2, q3, q4, .slice fa fl fcap⟩) (p := dq) (v := .slice A n cap) (cs := cs) (ps := (l.take k).map (derR b d)) _ _ rfl rfl HW6.out HQ6.out rfl rfl rfl (by have := HC.out; have := HLN.out; omega) (by have := HD6.out.ret.lt; omega) ?_; intro v3 w3 hown3 hg3 hfm3 hat3; obtain ⟨A3, cap3, rfl⟩ := hfm3; have HOW3 := Lib.hid hown3; have HG3 := Lib.hid hg3; clear hown3 hg3 hat3)
      have hlo : ∀ x, x < w.heap.size + 2 → x < w6.heap.size → w3.heap[x]? = w6.heap[x]? := fun x h1 h2 => HG3.out.block x h2 (fun he => by have := (HW6.out.1.lt x he.symm).1; omega)
      have hb3 : Below (w.heap.size + 2) w6 w3 := ⟨HG3.out.os, HG3.out.tape, HG3.out.output, HG3.out.size, fun x hx => hlo x hx (by have := HD6.out.ret.lt; omega)⟩
      exact ⟨⟨k + 1, A3, _, cap3, cs ++ [_], by omega, rfl, rfl, ⟨by simp, by have := HC.out; simp; omega⟩, ⟨(hlo _ (by omega) HD6.out.box.lt).trans HD6.out.box, (hlo _ (by omega) HD6.out.ret.lt).trans HD6.out.ret, HD6.out.bel.trans (hb3.mono (by omega))⟩, by rw [HTK.out]; exact HOW3.out⟩, by simp [intOf]; omega⟩
theorem der_op6 (b : Int) (d : Nat) (IH : DerC b d) (N : Nat → Prop) (lo hi mn mx : Int) (l : List RX) (c : PC) (w : World) (hp : RdQ N w c (.mk 6 lo hi mn mx l)) (hsn : sndR (d + 1) (.mk 6 lo hi mn mx l) = true) (hcn : cntN (d + 1) (.mk 6 lo hi mn mx l) ≤ 1000000) :
    Calls Tryz.prog 19 #[aggP c, .int .i64 b] w (RetP N (derR b (d + 1) (.mk 6 lo hi mn mx l)) w) := by
  have HSN := Lib.hid hsn
  have HCN := Lib.hid hcn
  have HP := Lib.hid hp
  have HLN := Lib.hid (cnt_len hsn hcn)
  obtain ⟨la, lcap, hla⟩ := hp.rd.forms
  have hop : c.op = 6 ∧ c.lo = lo ∧ c.hi = hi ∧ c.mn = mn ∧ c.mx = mx := by cases hp; exact ⟨rfl, rfl, rfl, rfl, rfl⟩
  obtain ⟨c0, c1, c2, c3, c4, c5⟩ := c
  simp only at hop hla
  obtain ⟨rfl, rfl, rfl, rfl, rfl⟩ := hop
  rw [show (RX.mk 6 c1 c2 c3 c4 l).args = l from rfl] at hla
  subst hla
  have hll : (l.length : Int) ≤ 1000000 := by have := HLN.out; omega
  simp only [aggP]
  clear hp hsn hcn
  go_enter Tryz.func19, Tryz.ntmps19
  go_upto_region 1 with fail
  generalize hW : World.alloc w _ = w1
  obtain ⟨ha, -, hz1, hb1⟩ := alloc_of hW
  generalize hW2 : World.alloc w1 _ = w2
  obtain ⟨ha2, -, hz2, hb2⟩ := alloc_of hW2
  rw [hz1] at ha2
  have HD := Lib.hid (show DerS ⟨6, c1, c2, c3, c4, .slice la l.length lcap⟩ w w2 from ⟨(hb2.block _ (by omega)).trans ha, ha2, hb1.trans (hb2.mono hb1.size)⟩)
  clear hW ha hz1 hb1 hW2 ha2 hz2 hb2
  obtain ⟨t0, t1, t2, t3, t4, t5⟩ := HD.out.box.cells
  simp only at t0 t1 t2 t3 t4 t5
  have HQ := Lib.hid (show derR b (d + 1) (.mk 6 c1 c2 c3 c4 l) = andD (l.map (derR b d)) from by simp [derR])
  have HIH := Lib.hid IH
  have HKS := Lib.hid (snd_node HSN.out).2
  clear IH
  go_wp2_with fail
  go_loopw [8, 10, 63] (fun ov _ iv wr => ∃ (k : Nat) (A : Option Addr) (n cap : Nat) (cs : List PC), k ≤ l.length ∧ iv = .int .i64 (k : Int) ∧ ov = .slice A n cap ∧ Hid (n = cs.length ∧ cs.length = k) ∧ Hid (DerS ⟨6, c1, c2, c3, c4, .slice la l.length lcap⟩ w wr) ∧ Hid (OwnP (fun g => (N g ∧ g < w.heap.size) ∨ w.heap.size + 2 ≤ g) (w.heap.size + 2) wr (.slice A n cap) cs ((l.take k).map (derR b d)))) (fun _ _ iv _ => l.length - (intOf iv).toNat)
  case atStart => exact ⟨0, none, 0, 0, [], Nat.zero_le _, rfl, rfl, ⟨rfl, rfl⟩, HD.out, by rw [List.take_zero]; exact OwnP.nil _ _ _⟩
  case round =>
    clear HD t0 t1 t2 t3 t4 t5
    obtain ⟨k, A, n, cap, cs, hk, rfl, rfl, HC, HD, HW⟩ := hrel
    obtain ⟨t0, t1, t2, t3, t4, t5⟩ := HD.out.box.cells
    simp only at t0 t1 t2 t3 t4 t5
    by_cases hlt : k < l.length
    case neg =>
      have hge : ¬ (k : Int) < l.length := by omega
      have HF : Hid (RdL (fun g => (N g ∧ g < w.heap.size) ∨ w.heap.size + 2 ≤ g) wr (.slice A n cap) (l.map (derR b d))) := by
        have := HW.out
        rw [List.take_of_length_le (by omega)] at this
        exact this.node2 (fun x hx => .inr (this.1.lt x hx).1) 0 0 0 0 0
      have HC2 := Lib.hid (and_any _ _ _ wr HF.out)
      have HZ2 : Hid (w.heap.size + 2 ≤ wr.heap.size) := HD.out.ret.lt
      clear hlt
      go_wp2_with fail
      refine HC2.out.mono ?_
      rintro e w8 ⟨c8, rfl, hq8, hb8⟩
      have HD8 := Lib.hid (HD.out.stay hb8)
      have HQ8 := Lib.hid (hq8.mono (M := fun g => (N g ∧ g < w.heap.size) ∨ w.heap.size + 2 ≤ g) (fun g hg _ => by have := HZ2.out; rcases hg with hg | hg; exact hg; exact .inr (by omega)))
      obtain ⟨fa, fcap, hfa⟩ := hq8.rd.forms
      obtain ⟨q0, q1, q2, q3, q4, q5⟩ := c8
      simp only at hfa
      subst hfa
      simp only [aggP]
      clear hq8 hb8
      obtain ⟨z0, z1, z2, z3, z4, z5⟩ := HD8.out.ret.cells
      obtain ⟨y0, y1, y2, y3, y4, y5⟩ := HD8.out.ret.free
      simp only at z0 z1 z2 z3 z4 z5
      go_wp2_with fail
      generalize hW : World.setCell _ _ _ = w9
      obtain ⟨hbx, hok⟩ := RetP.fin2 (N := N) HD8.out.ret HD8.out.bel HQ8.out hW
      obtain ⟨s0, s1, s2, s3, s4, s5⟩ := hbx.cells
      refine bodyPost_ret (v := aggP ⟨q0, q1, q2, q3, q4, .slice fa _ fcap⟩) (by simp only at s0 s1 s2 s3 s4 s5; simp [results, Tryz.results19, go_sem, s0, s1, s2, s3, s4, s5]; try rfl) rfl ?_
      rw [HQ.out]
      exact hok
    case pos =>
      have hlti : (k : Int) < l.length := by omega
      obtain ⟨g, o, c, rfl, hc6, hrq⟩ := RdL.part HP.out.list HD.out.bel k hlt
      have HTK : Hid ((l.take (k + 1)).map (derR b d) = (l.take k).map (derR b d) ++ [derR b d l[k]]) := by
        unfold Hid
        rw [List.take_succ_eq_append_getElem hlt, List.map_append]
        rfl
      have HRD := Lib.hid hrq
      have HSQ := Lib.hid (HKS.out _ (List.getElem_mem hlt))
      have HCQ := Lib.hid (cnt_part HCN.out (List.getElem_mem hlt))
      generalize l[k] = q at *
      obtain ⟨pa, pcap, hpa⟩ := HRD.out.rd.forms
      generalize q.args.length = pn at *
      obtain ⟨p0, p1, p2, p3, p4, p5⟩ := c
      simp only at hpa
      subst hpa
      obtain ⟨b0, b1, b2, b3, b4, b5⟩ := cells6 hc6
      simp only at b0 b1 b2 b3 b4 b5
      clear hc6 hrq
      go_upto_region 20 with fail
      generalize hW : World.alloc wr _ = w5
      obtain ⟨ha, -, -, hb5⟩ := alloc_of hW
      have HB5 := Lib.hid (show BoxP wr.heap.size ⟨p0, p1, p2, p3, p4, .slice pa pn pcap⟩ w5 from ha)
      have HD5 := Lib.hid (HD.out.stay hb5)
      have HW5 := Lib.hid (HW.out.keep2 (w' := w5) (fun x _ hx => hb5.block x hx))
      have HZ5 : Hid (w.heap.size + 2 ≤ w5.heap.size) := HD5.out.ret.lt
      have HC5 := Lib.hid (HIH.out _ q ⟨p0, p1, p2, p3, p4, .slice pa pn pcap⟩ w5 (HRD.out.stay hb5) HSQ.out HCQ.out)
      clear hW ha hb5 b0 b1 b2 b3 b4 b5 HD HW t0 t1 t2 t3 t4 t5 HRD
      obtain ⟨b0, b1, b2, b3, b4, b5⟩ := HB5.out.cells
      simp only at b0 b1 b2 b3 b4 b5
      go_wp2_with fail
      refine HC5.out.mono ?_
      rintro e w6 ⟨c6, rfl, hq6, hb6⟩
      have HD6 := Lib.hid (HD5.out.stay hb6)
      have HW6 := Lib.hid (HW5.out.keep2 (w' := w6) (fun x _ hx => hb6.block x hx))
      have HQ6 := Lib.hid (hq6.mono (M := fun g => ((N g ∧ g < w.heap.size) ∨ w.heap.size + 2 ≤ g) ∧ some g ≠ (Value.slice A n cap).ownBlock) (fun g hg hl => ⟨by have := HZ5.out; rcases hg with hg | hg; exact .inl hg; exact .inr (by omega), fun he => by
        have h1 := HW5.out.1.lt g he.symm
        rcases hg with hg | hg
        · omega
        · omega⟩))
      obtain ⟨fa, fcap, hfa⟩ := hq6.rd.forms
      obtain ⟨q0, q1, q2, q3, q4, q5⟩ := c6
      simp only at hfa
      generalize hdq : derR b d q = dq at *
      generalize dq.args.length = fl at *
      subst hfa
      simp only [aggP]
      clear hq6 hb6 HC5 b0 b1 b2 b3 b4 b5 hdq
      go_wp2_with (at_builtin; refine wpl_pushP (N := fun g => (N g ∧ g < w.heap.size) ∨ w.heap.size + 2 ≤ g) (B := w.heap.size + 2) (c := ⟨q0, q1, q2, q3, q4, .slice fa fl fcap⟩) (p := dq) (v := .slice A n cap) (cs := cs) (ps := (l.take k).map (derR b d)) _ _ rfl rfl HW6.out HQ6.out rfl rfl rfl (by have := HC.out; have := HLN.out; omega) (by have := HD6.out.ret.lt; omega) ?_; intro v3 w3 hown3 hg3 hfm3 hat3; obtain ⟨A3, cap3, rfl⟩ := hfm3; have HOW3 := Lib.hid hown3; have HG3 := Lib.hid hg3; clear hown3 hg3 hat3)
      have hlo : ∀ x, x < w.heap.size + 2 → x < w6.heap.size → w3.heap[x]? = w6.heap[x]? := fun x h1 h2 => HG3.out.block x h2 (fun he => by have := (HW6.out.1.lt x he.symm).1; omega)
      have hb3 : Below (w.heap.size + 2) w6 w3 := ⟨HG3.out.os, HG3.out.tape, HG3.out.output, HG3.out.size, fun x hx => hlo x hx (by have := HD6.out.ret.lt; omega)⟩
      exact ⟨⟨k + 1, A3, _, cap3, cs ++ [_], by omega, rfl, rfl, ⟨by simp, by have := HC.out; simp; omega⟩, ⟨(hlo _ (by omega) HD6.out.box.lt).trans HD6.out.box, (hlo _ (by omega) HD6.out.ret.lt).trans HD6.out.ret, HD6.out.bel.trans (hb3.mono (by omega))⟩, by rw [HTK.out]; exact HOW3.out⟩, by simp [intOf]; omega⟩
end Go.Proofs.YtggolmamacoplaaGreatDoor

namespace Go.Proofs.YtggolmamacoplaaGreatDoor
open Go.RowKit Go.Shelf
set_option maxHeartbeats 4000000
set_option maxRecDepth 100000

/-- append lays several more. -/
theorem OwnP.pushAll {N : Nat → Prop} {B : Nat} {w w' : World} {v v' : Value} {cs cr : List PC} {ps pr : List RX} (h : OwnP N B w v cs ps) (hl : cr.length = pr.length) (hc : ∀ i (h1 : i < cr.length) (h2 : i < pr.length), RdQ (fun g => N g ∧ some g ≠ v.ownBlock) w cr[i] pr[i])
    (hg : w.grownBy w' v.ownBlock) (hown : w'.ownsRow B 25 6 v' (cs.length + cr.length) (cs.flatMap PC.cells ++ cr.flatMap PC.cells)) (hat : v'.ownBlock = v.ownBlock ∨ ∃ k, w.heap.size ≤ k ∧ v'.ownBlock = some k) : OwnP N B w' v' (cs ++ cr) (ps ++ pr) := by
  have hst : ∀ (c : PC) (p : RX), RdQ (fun g => N g ∧ some g ≠ v.ownBlock) w c p → RdQ (fun g => N g ∧ some g ≠ v'.ownBlock) w' c p := by
    intro c p hq
    have h2 : RdQ (fun g => (N g ∧ some g ≠ v.ownBlock) ∧ g < w.heap.size) w c p := hq.mono (fun g h1 h2 => ⟨h1, h2⟩)
    refine (h2.keep (fun g h1 h3 => hg.block g h3 h1.1.2)).mono (fun g h1 _ => ⟨h1.1.1, ?_⟩)
    rcases hat with he | ⟨k, hk, he⟩
    · rw [he]
      exact h1.1.2
    · rw [he]
      intro h4
      cases h4
      have := h1.2
      omega
  refine ⟨?_, by rw [List.length_append, List.length_append, h.2.1, hl], fun i h1 h2 => ?_⟩
  · rw [List.length_append, List.flatMap_append]
    exact hown
  · by_cases hi : i < cs.length
    · have h3 : i < ps.length := by rw [← h.2.1]; exact hi
      rw [List.getElem_append_left hi, List.getElem_append_left h3]
      exact hst _ _ (h.2.2 i hi h3)
    · rw [List.getElem_append_right (by omega), List.getElem_append_right (by have := h.2.1; omega)]
      rw [List.length_append] at h1 h2
      have h5 : i - cs.length < cr.length := by omega
      have h6 : i - ps.length < pr.length := by have := h.2.1; omega
      have h7 : pr[i - ps.length] = pr[i - cs.length]'(by omega) := by congr 1; rw [h.2.1]
      rw [h7]
      exact hst _ _ (hc (i - cs.length) h5 (by omega))
theorem flat_get (cr : List PC) (n : Nat) (u : Value) (h : (cr.flatMap PC.cells)[n]? = some u) : ∃ (i : Nat) (hi : i < cr.length), n = i * 6 + n % 6 ∧ cr[i].cells[n % 6]? = some u := by
  have hl := flat_len cr
  have hn : n < cr.length * 6 := by
    rw [← hl]
    exact (List.getElem?_eq_some_iff.1 h).1
  refine ⟨n / 6, by omega, by omega, ?_⟩
  have := flat_at cr (n / 6) (by omega) (n % 6) (by omega)
  rw [show n / 6 * 6 + n % 6 = n by omega] at this
  rw [← this, h]
theorem step_appendL {ops : Array Oper} {o : Oper} {a : Act} {w : World} {K : Act → World → Prop} {Q : Exit → Act → World → Prop} {E : Prop} {N : Nat → Prop} {B : Nat} {v : Value} {cs cr : List PC} {ps pr : List RX} (hgd : o.guard = none) (s x : Operand)
    (ho : o.op = .call { callee := .builtin .append, args := #[s, x], argTypes := #[23, 23] })
    (hown : OwnP N B w v cs ps) (hl : cr.length = pr.length) (hc : ∀ i (h1 : i < cr.length) (h2 : i < pr.length), RdQ (fun g => N g ∧ some g ≠ v.ownBlock) w cr[i] pr[i]) (hs : a.eval s = v) (ad : Addr) (m cap : Nat) (hx : a.eval x = .slice (some ad) m cap) (hm : m = cr.length)
    (hcell : ∀ i (hi : i < cr.length) j, j < 6 → w.cell? (ad.add (i * 6 + j)) = cr[i].cells[j]?) (hn : cs.length + cr.length < 1000000000) (hbase : B ≤ w.heap.size)
    (h : ∀ v' w', OwnP N B w' v' (cs ++ cr) (ps ++ pr) → w.grownBy w' v.ownBlock → (v'.ownBlock = v.ownBlock ∨ v'.ownBlock = some w.heap.size) → K (a.put o.dst v') w') :
    if Region.wanted o (yielded ops a.tmps) = true then o.wp Tryz.prog a w K Q else E := by
  have hw : Region.wanted o (yielded ops a.tmps) = true := by simp [Region.wanted, hgd]
  rw [if_pos hw]
  subst hm
  obtain ⟨ht, hsz, i, z, hi, hz, hsi, hby, hzs⟩ := elemP
  refine wp_append_at s x _ ho B _ i z 6 i.bytes ht hi hz hsi rfl hzs hsz v cs.length _ hs hown.1 ad cr.length cap (cr.flatMap PC.cells) hx (flat_len cr) ?_ ?_ (by simp only [maxLen]; omega) (Nat.le_trans (Nat.mul_le_mul (show cs.length + cr.length ≤ 1000000000 by omega) hby) (by decide)) hbase ?_
  · intro j u hu
    obtain ⟨i', hi', e1, e2⟩ := flat_get cr j u hu
    rw [e1, hcell i' hi' (j % 6) (by omega)]
    exact e2
  · intro u hu
    obtain ⟨c, hcm, hu⟩ := List.mem_flatMap.1 hu
    obtain ⟨i', hi', rfl⟩ := List.getElem_of_mem hcm
    obtain ⟨A, pc, hca⟩ := (hc i' hi' (by omega)).rd.forms
    unfold PC.cells at hu
    rw [hca] at hu
    simp only [List.mem_cons, List.not_mem_nil, or_false] at hu
    rcases hu with rfl | rfl | rfl | rfl | rfl | rfl <;> rfl
  · intro v' w' hown' hg hat
    exact h v' w' (hown.pushAll hl hc hg hown' (by rcases hat with h | h; exact .inl h; exact .inr ⟨_, Nat.le_refl _, h⟩)) hg hat
/-- The parts of an argument behind the k-th. -/
theorem RdL.rest {N : Nat → Prop} {w w' : World} {l : List RX} {g o n cap : Nat} (h : RdL N w (.slice (some ⟨g, o, none⟩) n cap) l) (hb : Below w.heap.size w w') (k : Nat) (hk : k < l.length) :
    ∃ cr : List PC, cr.length = (l.drop (k + 1)).length ∧ (∀ i (h1 : i < cr.length) (h2 : i < (l.drop (k + 1)).length), RdQ (fun g => N g ∧ g < w.heap.size) w' cr[i] (l.drop (k + 1))[i]) ∧ ∀ i (hi : i < cr.length) j, j < 6 → w'.cell? ⟨g, o + (k + 1) * 6 + (i * 6 + j), none⟩ = cr[i].cells[j]? := by
  cases h with
  | mk _ _ _ _ _ _ _ cs hl hN hL =>
  obtain ⟨a', cap', he, h1, h2, h0, h3⟩ := hl
  cases he
  obtain ⟨g', o', e, hg, hc⟩ := h3 (by omega)
  cases e
  refine ⟨(List.range (l.drop (k + 1)).length).map (fun i => cs (k + 1 + i)), by simp, fun i h1 h2 => ?_, fun i hi j hj => ?_⟩
  · have hi : k + 1 + i < l.length := by rw [List.length_drop] at h2; omega
    have e1 : (l.drop (k + 1))[i] = l[k + 1 + i] := by simp
    rw [e1]
    simp only [List.getElem_map, List.getElem_range]
    exact ((hL (k + 1 + i) hi).mono (fun g h1 h2 => ⟨h1, h2⟩)).stay hb
  · simp only [List.length_map, List.length_range, List.length_drop] at hi
    simp only [List.getElem_map, List.getElem_range]
    rw [← hc (k + 1 + i) (by omega) j hj]
    have := hb.cell (p := ⟨g, o + (k + 1 + i) * 6 + j, none⟩) hg
    rw [← this]
    congr 2
    omega
theorem der_op3 (b : Int) (d : Nat) (IH : DerC b d) (N : Nat → Prop) (lo hi mn mx : Int) (l : List RX) (c : PC) (w : World) (hp : RdQ N w c (.mk 3 lo hi mn mx l)) (hsn : sndR (d + 1) (.mk 3 lo hi mn mx l) = true) (hcn : cntN (d + 1) (.mk 3 lo hi mn mx l) ≤ 1000000) :
    Calls Tryz.prog 19 #[aggP c, .int .i64 b] w (RetP N (derR b (d + 1) (.mk 3 lo hi mn mx l)) w) := by
  have HSN := Lib.hid hsn
  have HCN := Lib.hid hcn
  have HP := Lib.hid hp
  have HLN := Lib.hid (cnt_len hsn hcn)
  obtain ⟨la, lcap, hla⟩ := hp.rd.forms
  have hop : c.op = 3 ∧ c.lo = lo ∧ c.hi = hi ∧ c.mn = mn ∧ c.mx = mx := by cases hp; exact ⟨rfl, rfl, rfl, rfl, rfl⟩
  obtain ⟨c0, c1, c2, c3, c4, c5⟩ := c
  simp only at hop hla
  obtain ⟨rfl, rfl, rfl, rfl, rfl⟩ := hop
  rw [show (RX.mk 3 c1 c2 c3 c4 l).args = l from rfl] at hla
  subst hla
  have hll : (l.length : Int) ≤ 1000000 := by have := HLN.out; omega
  simp only [aggP]
  clear hp hsn hcn
  go_enter Tryz.func19, Tryz.ntmps19
  go_upto_region 1 with fail
  generalize hW : World.alloc w _ = w1
  obtain ⟨ha, -, hz1, hb1⟩ := alloc_of hW
  generalize hW2 : World.alloc w1 _ = w2
  obtain ⟨ha2, -, hz2, hb2⟩ := alloc_of hW2
  rw [hz1] at ha2
  have HD := Lib.hid (show DerS ⟨3, c1, c2, c3, c4, .slice la l.length lcap⟩ w w2 from ⟨(hb2.block _ (by omega)).trans ha, ha2, hb1.trans (hb2.mono hb1.size)⟩)
  clear hW ha hz1 hb1 hW2 ha2 hz2 hb2
  obtain ⟨t0, t1, t2, t3, t4, t5⟩ := HD.out.box.cells
  simp only at t0 t1 t2 t3 t4 t5
  have HQ0 := Lib.hid (show derR b (d + 1) (.mk 3 c1 c2 c3 c4 l) = altD (waysD (fun a => matR a []) (derR b d) l) from by simp [derR])
  have HIH := Lib.hid IH
  have HKS := Lib.hid (snd_node HSN.out).2
  clear IH
  go_wp2_with fail
  go_loopw [5, 6, 7, 32] (fun ov _ _ iv wr => ∃ (k : Nat) (A : Option Addr) (n cap : Nat) (cs : List PC) (acc : List RX), k ≤ l.length ∧ iv = .int .i64 (k : Int) ∧ ov = .slice A n cap ∧ Hid (n = cs.length ∧ cs.length = acc.length ∧ acc.length = k) ∧ Hid (DerS ⟨3, c1, c2, c3, c4, .slice la l.length lcap⟩ w wr) ∧ Hid (OwnP (fun g => (N g ∧ g < w.heap.size) ∨ w.heap.size + 2 ≤ g) (w.heap.size + 2) wr (.slice A n cap) cs acc) ∧ Hid (waysD (fun a => matR a []) (derR b d) l = acc ++ waysD (fun a => matR a []) (derR b d) (l.drop k))) (fun _ _ _ iv _ => l.length - (intOf iv).toNat)
  case atStart => exact ⟨0, none, 0, 0, [], [], Nat.zero_le _, rfl, rfl, ⟨rfl, rfl, rfl⟩, HD.out, OwnP.nil _ _ _, by unfold Hid; simp⟩
  case round =>
    clear HD t0 t1 t2 t3 t4 t5
    obtain ⟨k, A, n, cap, cs, acc, hk, rfl, rfl, HC, HD, HW, HWS⟩ := hrel
    obtain ⟨t0, t1, t2, t3, t4, t5⟩ := HD.out.box.cells
    simp only at t0 t1 t2 t3 t4 t5
    by_cases hlt : k < l.length
    case neg =>
      have hge : ¬ (k : Int) < l.length := by omega
      have HQ : Hid (derR b (d + 1) (.mk 3 c1 c2 c3 c4 l) = altD acc) := by
        unfold Hid
        rw [HQ0.out, HWS.out, List.drop_of_length_le (by omega), waysD, List.append_nil]
      have HDX := HD
      have HF : Hid (RdL (fun g => (N g ∧ g < w.heap.size) ∨ w.heap.size + 2 ≤ g) wr (.slice A n cap) (acc)) := HW.out.node2 (fun x hx => .inr (HW.out.1.lt x hx).1) 0 0 0 0 0
      have HC2 := Lib.hid (alt_any _ _ _ wr HF.out (by have := HLN.out; have := HC.out; omega))
      have HZ2 : Hid (w.heap.size + 2 ≤ wr.heap.size) := HDX.out.ret.lt
      clear hlt
      go_wp2_with fail
      refine HC2.out.mono ?_
      rintro e w8 ⟨c8, rfl, hq8, hb8⟩
      have HD8 := Lib.hid (HDX.out.stay hb8)
      have HQ8 := Lib.hid (hq8.mono (M := fun g => (N g ∧ g < w.heap.size) ∨ w.heap.size + 2 ≤ g) (fun g hg _ => by have := HZ2.out; rcases hg with hg | hg; exact hg; exact .inr (by omega)))
      obtain ⟨fa, fcap, hfa⟩ := hq8.rd.forms
      obtain ⟨q0, q1, q2, q3, q4, q5⟩ := c8
      simp only at hfa
      subst hfa
      simp only [aggP]
      clear hq8 hb8
      obtain ⟨z0, z1, z2, z3, z4, z5⟩ := HD8.out.ret.cells
      obtain ⟨y0, y1, y2, y3, y4, y5⟩ := HD8.out.ret.free
      simp only at z0 z1 z2 z3 z4 z5
      go_wp2_with fail
      generalize hW : World.setCell _ _ _ = w9
      obtain ⟨hbx, hok⟩ := RetP.fin2 (N := N) HD8.out.ret HD8.out.bel HQ8.out hW
      obtain ⟨s0, s1, s2, s3, s4, s5⟩ := hbx.cells
      refine bodyPost_ret (v := aggP ⟨q0, q1, q2, q3, q4, .slice fa _ fcap⟩) (by simp only at s0 s1 s2 s3 s4 s5; simp [results, Tryz.results19, go_sem, s0, s1, s2, s3, s4, s5]; try rfl) rfl ?_
      rw [HQ.out]
      exact hok
    case pos =>
      have hlti : (k : Int) < l.length := by omega
      obtain ⟨g, o, c, rfl, hc6, hrq⟩ := RdL.part HP.out.list HD.out.bel k hlt
      have HDR : Hid (l.drop k = l[k] :: l.drop (k + 1)) := List.drop_eq_getElem_cons hlt
      have HRD := Lib.hid hrq
      have HSQ := Lib.hid (HKS.out _ (List.getElem_mem hlt))
      have HCQ := Lib.hid (cnt_part HCN.out (List.getElem_mem hlt))
      generalize l[k] = q at *
      obtain ⟨pa, pcap, hpa⟩ := HRD.out.rd.forms
      generalize q.args.length = pn at *
      obtain ⟨p0, p1, p2, p3, p4, p5⟩ := c
      simp only at hpa
      subst hpa
      obtain ⟨b0, b1, b2, b3, b4, b5⟩ := cells6 hc6
      simp only at b0 b1 b2 b3 b4 b5
      clear hc6 hrq
      go_upto_region 10 with fail
      generalize hW : World.alloc wr _ = w5
      obtain ⟨ha, -, -, hb5⟩ := alloc_of hW
      have HB5 := Lib.hid (show BoxP wr.heap.size ⟨p0, p1, p2, p3, p4, .slice pa pn pcap⟩ w5 from ha)
      have HD5 := Lib.hid (HD.out.stay hb5)
      have HW5 := Lib.hid (HW.out.keep2 (w' := w5) (fun x _ hx => hb5.block x hx))
      have HZ5 : Hid (w.heap.size + 2 ≤ w5.heap.size) := HD5.out.ret.lt
      have HOWR : Hid (∀ x, (Value.slice A n cap).ownBlock = some x → x < wr.heap.size) := fun x hx => (HW.out.1.lt x hx).2
      replace HRD := Lib.hid (HRD.out.stay hb5)
      clear hW ha hb5 b0 b1 b2 b3 b4 b5 HD HW t0 t1 t2 t3 t4 t5
      have hwr : IntKind.i64.wrap ((k : Int) + 1) = (k : Int) + 1 := IntWalk.i64_in _ (by omega)
      have q0 : (0 : Int) ≤ (k : Int) + 1 := by omega
      have q1 : ((k : Int) + 1).toNat = k + 1 := by omega
      have q2 : (k : Int) + 1 ≤ l.length := by omega
      have HOWB : Hid (∀ x, (Value.slice A n cap).ownBlock = some x → w.heap.size + 2 ≤ x) := fun x hx => (HW5.out.1.lt x hx).1
      have hlc : l.length ≤ lcap ∧ lcap ≤ maxLen := by
        obtain ⟨_, _, he, h1, h2⟩ := HP.out.list.form
        cases he
        exact ⟨h1, h2⟩
      obtain ⟨hlc1, hlc2⟩ := hlc
      have q3 : (l.length : Int) ≤ (lcap : Int) := by omega
      have q4 : (lcap : Int) ≤ 9223372036854775807 := by simp only [maxLen] at hlc2; omega
      have q5 : (k : Int) + 1 ≤ lcap := by omega
      have hbd : Below w5.heap.size w5 w5.drew := below_drewN (Below.refl _ _) 1
      replace HB5 := Lib.hid (HB5.out.below hbd)
      replace HD5 := Lib.hid (HD5.out.stay hbd)
      replace HW5 := Lib.hid (HW5.out.keep2 (w' := w5.drew) (fun x _ _ => rfl))
      replace HRD := Lib.hid (HRD.out.stay hbd)
      replace HZ5 : Hid (w.heap.size + 2 ≤ w5.drew.heap.size) := HZ5.out
      clear hbd hlc2
      by_cases hcap : k + 1 = lcap
      · subst hcap
        refine wpq_region (fun w' => BoxP wr.heap.size ⟨p0, p1, p2, p3, p4, .slice pa pn pcap⟩ w' ∧ BoxP w.heap.size ⟨3, c1, c2, c3, c4, .slice (some ⟨g, o, none⟩) l.length (k + 1)⟩ w') 14 (by kernel_rfl) ⟨HB5.out, HD5.out.box⟩ (fun hHeld => ?_)
        generalize w5.drew = wd at *
        refine wpq_take 0 (some 37) [13, 14] rfl rfl (by kernel_rfl) (by kernel_rfl) (by kernel_rfl) (by kernel_rfl) (fun _ _ _ h => h) (Or.inl ⟨by rfl, fun w hSw => by (obtain ⟨x0, x1, x2, x3, x4, x5⟩ := BoxP.cells hSw.1; obtain ⟨y0, y1, y2, y3, y4, y5⟩ := BoxP.cells hSw.2; go_simp; with_reducible rfl)⟩) hHeld ?_
        simp only [Act.put, List.setIfInBounds_toArray, List.set_cons_zero, List.set_cons_succ]
        refine wpq_take 1 (some 38) [3, 4, 10, 11, 12, 13, 14] rfl rfl (by kernel_rfl) (by kernel_rfl) (by kernel_rfl) (by kernel_rfl) (fun _ _ _ h => h) (Or.inl ⟨by rfl, fun w hSw => by (obtain ⟨x0, x1, x2, x3, x4, x5⟩ := BoxP.cells hSw.1; obtain ⟨y0, y1, y2, y3, y4, y5⟩ := BoxP.cells hSw.2; go_simp; with_reducible rfl)⟩) hHeld ?_
        simp only [Act.put, List.setIfInBounds_toArray, List.set_cons_zero, List.set_cons_succ]
        refine wpq_take 2 (some 39) [3, 4, 10, 11, 12, 13, 14] rfl rfl (by kernel_rfl) (by kernel_rfl) (by kernel_rfl) (by kernel_rfl) (fun _ _ _ h => h) (Or.inl ⟨by rfl, fun w hSw => by (obtain ⟨x0, x1, x2, x3, x4, x5⟩ := BoxP.cells hSw.1; obtain ⟨y0, y1, y2, y3, y4, y5⟩ := BoxP.cells hSw.2; go_simp; with_reducible rfl)⟩) hHeld ?_
        simp only [Act.put, List.setIfInBounds_toArray, List.set_cons_zero, List.set_cons_succ]
        refine wpq_take 5 (some 42) [6, 9, 10, 11, 12, 13, 14] rfl rfl (by kernel_rfl) (by kernel_rfl) (by kernel_rfl) (by kernel_rfl) (fun _ _ _ h => h) (Or.inl ⟨by rfl, fun w hSw => by (obtain ⟨x0, x1, x2, x3, x4, x5⟩ := BoxP.cells hSw.1; obtain ⟨y0, y1, y2, y3, y4, y5⟩ := BoxP.cells hSw.2; go_simp; with_reducible rfl)⟩) hHeld ?_
        simp only [Act.put, List.setIfInBounds_toArray, List.set_cons_zero, List.set_cons_succ]
        refine wpq_take 6 (some 43) [9, 10, 11, 12, 13, 14] rfl rfl (by kernel_rfl) (by kernel_rfl) (by kernel_rfl) (by kernel_rfl) (fun _ _ _ h => h) (Or.inl ⟨by rfl, fun w hSw => by (obtain ⟨x0, x1, x2, x3, x4, x5⟩ := BoxP.cells hSw.1; obtain ⟨y0, y1, y2, y3, y4, y5⟩ := BoxP.cells hSw.2; go_simp; with_reducible rfl)⟩) hHeld ?_
        simp only [Act.put, List.setIfInBounds_toArray, List.set_cons_zero, List.set_cons_succ]
        refine wpq_take 7 (some 44) [8, 9, 10, 11, 12, 13, 14] rfl rfl (by kernel_rfl) (by kernel_rfl) (by kernel_rfl) (by kernel_rfl) (fun _ _ _ h => h) (Or.inl ⟨by rfl, fun w hSw => by (obtain ⟨x0, x1, x2, x3, x4, x5⟩ := BoxP.cells hSw.1; obtain ⟨y0, y1, y2, y3, y4, y5⟩ := BoxP.cells hSw.2; go_simp; with_reducible rfl)⟩) hHeld ?_
        simp only [Act.put, List.setIfInBounds_toArray, List.set_cons_zero, List.set_cons_succ]
        refine wpq_take 8 (some 45) [9, 10, 11, 12, 13, 14] rfl rfl (by kernel_rfl) (by kernel_rfl) (by kernel_rfl) (by kernel_rfl) (fun _ _ _ h => h) (Or.inl ⟨by rfl, fun w hSw => by (obtain ⟨x0, x1, x2, x3, x4, x5⟩ := BoxP.cells hSw.1; obtain ⟨y0, y1, y2, y3, y4, y5⟩ := BoxP.cells hSw.2; go_simp; with_reducible rfl)⟩) hHeld ?_
        simp only [Act.put, List.setIfInBounds_toArray, List.set_cons_zero, List.set_cons_succ]
        refine wpq_take 9 (some 46) [10, 11, 12, 13, 14] rfl rfl (by kernel_rfl) (by kernel_rfl) (by kernel_rfl) (by kernel_rfl) (fun _ _ _ h => h) (Or.inl ⟨by rfl, fun w hSw => by (obtain ⟨x0, x1, x2, x3, x4, x5⟩ := BoxP.cells hSw.1; obtain ⟨y0, y1, y2, y3, y4, y5⟩ := BoxP.cells hSw.2; go_simp; with_reducible rfl)⟩) hHeld ?_
        simp only [Act.put, List.setIfInBounds_toArray, List.set_cons_zero, List.set_cons_succ]
        refine wpq_one 3 (by kernel_rfl) rfl (fun K hK => ?_)
        go_simp
        refine (HIH.out _ q ⟨p0, p1, p2, p3, p4, .slice pa pn pcap⟩ wd HRD.out HSQ.out HCQ.out).mono ?_
        rintro e w6 ⟨c6, rfl, hq6, hb6⟩
        have HB6 := Lib.hid (HB5.out.below hb6)
        have HD6 := Lib.hid (HD5.out.stay hb6)
        have HW6 := Lib.hid (HW5.out.keep2 (w' := w6) (fun x _ hx => hb6.block x hx))
        have HR6 := Lib.hid (HRD.out.stay hb6)
        have HQ6 := Lib.hid (hq6.mono (M := fun g => (((N g ∧ g < w.heap.size) ∨ w.heap.size + 2 ≤ g) ∧ some g ≠ (Value.slice A n cap).ownBlock) ∧ g ≠ w6.heap.size) (fun g hg hl => by
          have hz5 := HZ5.out
          refine ⟨⟨?_, fun he => ?_⟩, by omega⟩
          · rcases hg with hg | hg
            · exact .inl hg
            · exact .inr (by omega)
          · have h1 := HW5.out.1.lt g he.symm
            rcases hg with hg | hg <;> omega))
        have HZ6 : Hid (w.heap.size + 2 ≤ w6.heap.size ∧ ∀ x, (Value.slice A n cap).ownBlock = some x → x < wr.heap.size ∧ x < w6.heap.size) := ⟨HD6.out.ret.lt, fun x hx => ⟨HOWR.out x hx, (HW6.out.1.lt x hx).2⟩⟩
        generalize hdq : derR b d q = dq at *
        clear hq6 hHeld HB5 HD5 HW5 HRD
        refine hK.out _ _ ⟨HB6.out, HD6.out.box⟩ (fun hHeld => ?_)
        clear hK K
        refine wpq_one 4 (by kernel_rfl) rfl (fun K hK => ?_)
        go_simp
        generalize hW : World.alloc w6 _ = w7
        obtain ⟨ha, -, hz7, hb7⟩ := alloc_of hW
        have HOne := Lib.hid (OwnP.one (N := fun g => ((N g ∧ g < w.heap.size) ∨ w.heap.size + 2 ≤ g) ∧ some g ≠ (Value.slice A n cap).ownBlock) (show BoxP w6.heap.size c6 w7 from ha) (HQ6.out.stay hb7))
        have HBW7 := Lib.hid (HD6.out.bel.trans (hb7.mono HD6.out.bel.size))
        clear hHeld
        refine hK.out _ _ ⟨HB6.out.below hb7, HD6.out.box.below hb7⟩ (fun hHeld => ?_)
        clear hK K hHeld
        obtain ⟨cr, r1, r2, r3⟩ := HP.out.list.rest HBW7.out k hlt
        refine wpq_one 10 (by kernel_rfl) rfl (fun K hK => ?_)
        refine step_appendL (N := fun g => ((N g ∧ g < w.heap.size) ∨ w.heap.size + 2 ≤ g) ∧ some g ≠ (Value.slice A n cap).ownBlock) (B := 0) (v := .slice (some ⟨w6.heap.size, 0, none⟩) 1 1) (cs := [c6]) (cr := cr) (ps := [dq]) (pr := l.drop (k + 1)) rfl _ _ rfl HOne.out r1 (fun i h1 h2 => (r2 i h1 h2).mono (fun g hg _ => ⟨⟨.inl hg, fun he => by have := HOWB.out g he.symm; omega⟩, fun he => by have := own_one he.symm; have := HZ6.out.1; omega⟩)) rfl ⟨g, o, none⟩ _ _ rfl ?hm ?hcell ?hn (Nat.zero_le _) ?_
        case hm =>
          rw [r1, List.length_drop]
          omega
        case hcell =>
          intro i hi
          rw [r1, List.length_drop] at hi
          omega
        case hn =>
          rw [r1, List.length_drop]
          have := HLN.out
          simp only [List.length_cons, List.length_nil]
          omega
        intro v8 w8 hown8 hg8 hat8
        have hb78 : Below w6.heap.size w7 w8 := ⟨hg8.os, hg8.tape, hg8.output, hg8.size, fun x hx => hg8.block x (by omega) (fun he => by have := own_one he.symm; omega)⟩
        have hb68 := hb7.trans hb78
        have HL8 := Lib.hid (show RdL (fun g => ((N g ∧ g < w.heap.size) ∨ w.heap.size + 2 ≤ g) ∧ some g ≠ (Value.slice A n cap).ownBlock) w8 v8 (dq :: l.drop (k + 1)) from hown8.node2 (fun x hx => by
          have hz6 := HZ6.out.1
          have hx6 : w6.heap.size ≤ x := by
            rcases hat8 with h | h
            · rw [h] at hx
              have := own_one hx
              omega
            · rw [h] at hx
              cases hx
              omega
          exact ⟨.inr (by omega), fun he => by have := (HZ6.out.2 x he.symm).2; omega⟩) 0 0 0 0 0)
        have HB8 := Lib.hid (HB6.out.below hb68)
        have HD8 := Lib.hid (HD6.out.stay hb68)
        have HW8 := Lib.hid (HW6.out.keep2 (w' := w8) (fun x _ hx => hb68.block x hx))
        have HR8 := Lib.hid (HR6.out.stay hb68)
        clear r1 r2 r3 hown8 hg8 hat8 hb78 hb68 hW ha hb7 hz7 HOne HBW7 HB6 HD6 HW6 HR6 HQ6
        refine hK.out _ _ ⟨HB8.out, HD8.out.box⟩ (fun hHeld => ?_)
        clear hK K hHeld
        refine wpq_one 11 (by kernel_rfl) rfl (fun K hK => ?_)
        go_simp
        refine (cat_any _ (dq :: l.drop (k + 1)) v8 w8 HL8.out (by have := HLN.out; rw [List.length_cons, List.length_drop]; omega)).mono ?_
        rintro e w9 ⟨c9, rfl, hq9, hb9⟩
        have HB9 := Lib.hid (HB8.out.below hb9)
        have HD9 := Lib.hid (HD8.out.stay hb9)
        have HW9 := Lib.hid (HW8.out.keep2 (w' := w9) (fun x _ hx => hb9.block x hx))
        have HR9 := Lib.hid (HR8.out.stay hb9)
        have HZ8 : Hid (w.heap.size + 2 ≤ w8.heap.size) := HD8.out.ret.lt
        have HQ9 := Lib.hid (hq9.mono (M := fun g => ((N g ∧ g < w.heap.size) ∨ w.heap.size + 2 ≤ g) ∧ some g ≠ (Value.slice A n cap).ownBlock) (fun g hg hl => by
          have hz8 := HZ8.out
          rcases hg with hg | hg
          · exact hg
          · exact ⟨.inr (by omega), fun he => by have := (HW8.out.1.lt g he.symm).2; omega⟩))
        generalize hcd : catD (dq :: l.drop (k + 1)) [] = cd at *
        clear hq9 HB8 HD8 HW8 HR8 HL8
        refine hK.out _ _ ⟨HB9.out, HD9.out.box⟩ (fun hHeld => ?_)
        clear hK K hHeld hb9
        refine wpq_one 12 (by kernel_rfl) rfl (fun K hK => ?_)
        go_simp
        have hb10 : Below w9.heap.size w9 (w9.alloc (.cells c9.cells.toArray 25)) := (Below.refl _ _).alloc (Nat.le_refl _) _
        refine hK.out _ _ ⟨HB9.out.below hb10, HD9.out.box.below hb10⟩ (fun hHeld => ?_)
        clear hK K hHeld hb10
        refine wpq_one 13 (by kernel_rfl) rfl (fun K hK => ?_)
        refine step_pushP (N := fun g => (N g ∧ g < w.heap.size) ∨ w.heap.size + 2 ≤ g) (B := w.heap.size + 2) (c := c9) (p := cd) (v := .slice A n cap) (cs := cs) (ps := acc) rfl _ _ rfl HW9.out HQ9.out rfl rfl rfl ?hn2 ?hb2 ?_
        case hn2 =>
          have := HC.out
          have := HLN.out
          omega
        case hb2 => exact HD9.out.ret.lt
        rintro v' w11 hown hg ⟨A11, cap11, rfl⟩ hat
        have hlo : ∀ x, x < w.heap.size + 2 → x < w9.heap.size → w11.heap[x]? = w9.heap[x]? := fun x h1 h2 => hg.block x h2 (fun he => by have := HOWB.out x he.symm; omega)
        have hb11 : Below (w.heap.size + 2) w9 w11 := ⟨hg.os, hg.tape, hg.output, hg.size, fun x hx => hlo x hx (by have := HD9.out.ret.lt; omega)⟩
        have HB11 := Lib.hid (show BoxP wr.heap.size ⟨p0, p1, p2, p3, p4, .slice pa pn pcap⟩ w11 from (hg.block _ HB9.out.lt (fun he => by have := HOWR.out _ he.symm; omega)).trans HB9.out)
        have HD11 := Lib.hid (show DerS ⟨3, c1, c2, c3, c4, .slice (some ⟨g, o, none⟩) l.length (k + 1)⟩ w w11 from ⟨(hlo _ (by omega) HD9.out.box.lt).trans HD9.out.box, (hlo _ (by omega) HD9.out.ret.lt).trans HD9.out.ret, HD9.out.bel.trans (hb11.mono (by omega))⟩)
        have HOW := Lib.hid hown
        have HR11 := Lib.hid ((HR9.out.mono (M := fun g => (N g ∧ g < w.heap.size)) (fun g h _ => h)).keep (w' := w11) (fun x hx hl => hlo x (by omega) hl))
        clear hown hlo hb11 hg hat HB9 HD9 HW9 HR9 HQ9
        refine hK.out _ _ ⟨HB11.out, HD11.out.box⟩ (fun hHeld => ?_)
        clear hK K hHeld
        refine wpq_end 14 (by kernel_rfl) rfl (by kernel_rfl) (fun K hK => ?_)
        go_simp
        refine hK.out _ _ ?_
        clear hK K
        refine wpq_done (by kernel_rfl) ?_ _
        go_simp
        have HCAT : Hid (cd = catD (derR b d q :: l.drop (k + 1)) []) := by unfold Hid; rw [hdq, hcd]
        have HWN : Hid (waysD (fun a => matR a []) (derR b d) l = (acc ++ [cd]) ++ (if matR q [] then waysD (fun a => matR a []) (derR b d) (l.drop (k + 1)) else [])) := by
          unfold Hid
          rw [HWS.out, HDR.out, waysD, HCAT.out]
          simp
        clear hdq hcd HCAT
        have HNU := Lib.hid (Nullable_any q ⟨p0, p1, p2, p3, p4, .slice pa pn pcap⟩ w11 HR11.out.rd)
        obtain ⟨b0, b1, b2, b3, b4, b5⟩ := HB11.out.cells
        simp only at b0 b1 b2 b3 b4 b5
        go_wp2_with fail
        refine HNU.out.mono ?_
        rintro e w12 ⟨rfl, hb12⟩
        have HD12 := Lib.hid (HD11.out.stay hb12)
        have HW12 := Lib.hid (HOW.out.keep2 (w' := w12) (fun x _ hx => hb12.block x hx))
        clear hb12 HNU HB11 HD11 HOW HR11 b0 b1 b2 b3 b4 b5
        cases hnu : matR q [] with
        | true =>
          rw [hnu, if_pos rfl] at HWN
          clear hnu
          go_wp2_with fail
          exact ⟨⟨k + 1, A11, _, cap11, cs ++ [c9], acc ++ [cd], by omega, rfl, rfl, ⟨by simp, by have := HC.out; simp; omega, by have := HC.out; simp; omega⟩, HD12.out, HW12.out, HWN.out⟩, by simp [intOf]; omega⟩
        | false =>
          rw [hnu, if_neg (by simp), List.append_nil] at HWN
          clear hnu
          have HQ : Hid (derR b (d + 1) (.mk 3 c1 c2 c3 c4 l) = altD (acc ++ [cd])) := by
            unfold Hid
            rw [HQ0.out, HWN.out]
          have HDX := HD12
          have HF : Hid (RdL (fun g => (N g ∧ g < w.heap.size) ∨ w.heap.size + 2 ≤ g) w12 (.slice A11 (cs.length + 1) cap11) (acc ++ [cd])) := HW12.out.node2 (fun x hx => .inr (HW12.out.1.lt x hx).1) 0 0 0 0 0
          have HC2 := Lib.hid (alt_any _ _ _ w12 HF.out (by have := HLN.out; have := HC.out; rw [List.length_append, List.length_cons, List.length_nil]; omega))
          have HZ2 : Hid (w.heap.size + 2 ≤ w12.heap.size) := HDX.out.ret.lt
          go_wp2_with fail
          refine HC2.out.mono ?_
          rintro e w8 ⟨c8, rfl, hq8, hb8⟩
          have HD8 := Lib.hid (HDX.out.stay hb8)
          have HQ8 := Lib.hid (hq8.mono (M := fun g => (N g ∧ g < w.heap.size) ∨ w.heap.size + 2 ≤ g) (fun g hg _ => by have := HZ2.out; rcases hg with hg | hg; exact hg; exact .inr (by omega)))
          obtain ⟨fa, fcap, hfa⟩ := hq8.rd.forms
          obtain ⟨q0, q1, q2, q3, q4, q5⟩ := c8
          simp only at hfa
          subst hfa
          simp only [aggP]
          clear hq8 hb8
          obtain ⟨z0, z1, z2, z3, z4, z5⟩ := HD8.out.ret.cells
          obtain ⟨y0, y1, y2, y3, y4, y5⟩ := HD8.out.ret.free
          simp only at z0 z1 z2 z3 z4 z5
          go_wp2_with fail
          generalize hW : World.setCell _ _ _ = w9
          obtain ⟨hbx, hok⟩ := RetP.fin2 (N := N) HD8.out.ret HD8.out.bel HQ8.out hW
          obtain ⟨s0, s1, s2, s3, s4, s5⟩ := hbx.cells
          refine bodyPost_ret (v := aggP ⟨q0, q1, q2, q3, q4, .slice fa _ fcap⟩) (by simp only at s0 s1 s2 s3 s4 s5; simp [results, Tryz.results19, go_sem, s0, s1, s2, s3, s4, s5]; try rfl) rfl ?_
          rw [HQ.out]
          exact hok
      · have q6 : (k : Int) + 1 < lcap := by omega
        refine wpq_region (fun w' => BoxP wr.heap.size ⟨p0, p1, p2, p3, p4, .slice pa pn pcap⟩ w' ∧ BoxP w.heap.size ⟨3, c1, c2, c3, c4, .slice (some ⟨g, o, none⟩) l.length lcap⟩ w') 14 (by kernel_rfl) ⟨HB5.out, HD5.out.box⟩ (fun hHeld => ?_)
        generalize w5.drew = wd at *
        refine wpq_take 0 (some 37) [13, 14] rfl rfl (by kernel_rfl) (by kernel_rfl) (by kernel_rfl) (by kernel_rfl) (fun _ _ _ h => h) (Or.inl ⟨by rfl, fun w hSw => by (obtain ⟨x0, x1, x2, x3, x4, x5⟩ := BoxP.cells hSw.1; obtain ⟨y0, y1, y2, y3, y4, y5⟩ := BoxP.cells hSw.2; go_simp; with_reducible rfl)⟩) hHeld ?_
        simp only [Act.put, List.setIfInBounds_toArray, List.set_cons_zero, List.set_cons_succ]
        refine wpq_take 1 (some 38) [3, 4, 10, 11, 12, 13, 14] rfl rfl (by kernel_rfl) (by kernel_rfl) (by kernel_rfl) (by kernel_rfl) (fun _ _ _ h => h) (Or.inl ⟨by rfl, fun w hSw => by (obtain ⟨x0, x1, x2, x3, x4, x5⟩ := BoxP.cells hSw.1; obtain ⟨y0, y1, y2, y3, y4, y5⟩ := BoxP.cells hSw.2; go_simp; with_reducible rfl)⟩) hHeld ?_
        simp only [Act.put, List.setIfInBounds_toArray, List.set_cons_zero, List.set_cons_succ]
        refine wpq_take 2 (some 39) [3, 4, 10, 11, 12, 13, 14] rfl rfl (by kernel_rfl) (by kernel_rfl) (by kernel_rfl) (by kernel_rfl) (fun _ _ _ h => h) (Or.inl ⟨by rfl, fun w hSw => by (obtain ⟨x0, x1, x2, x3, x4, x5⟩ := BoxP.cells hSw.1; obtain ⟨y0, y1, y2, y3, y4, y5⟩ := BoxP.cells hSw.2; go_simp; with_reducible rfl)⟩) hHeld ?_
        simp only [Act.put, List.setIfInBounds_toArray, List.set_cons_zero, List.set_cons_succ]
        refine wpq_take 5 (some 42) [6, 9, 10, 11, 12, 13, 14] rfl rfl (by kernel_rfl) (by kernel_rfl) (by kernel_rfl) (by kernel_rfl) (fun _ _ _ h => h) (Or.inl ⟨by rfl, fun w hSw => by (obtain ⟨x0, x1, x2, x3, x4, x5⟩ := BoxP.cells hSw.1; obtain ⟨y0, y1, y2, y3, y4, y5⟩ := BoxP.cells hSw.2; go_simp; with_reducible rfl)⟩) hHeld ?_
        simp only [Act.put, List.setIfInBounds_toArray, List.set_cons_zero, List.set_cons_succ]
        refine wpq_take 6 (some 43) [9, 10, 11, 12, 13, 14] rfl rfl (by kernel_rfl) (by kernel_rfl) (by kernel_rfl) (by kernel_rfl) (fun _ _ _ h => h) (Or.inl ⟨by rfl, fun w hSw => by (obtain ⟨x0, x1, x2, x3, x4, x5⟩ := BoxP.cells hSw.1; obtain ⟨y0, y1, y2, y3, y4, y5⟩ := BoxP.cells hSw.2; go_simp; with_reducible rfl)⟩) hHeld ?_
        simp only [Act.put, List.setIfInBounds_toArray, List.set_cons_zero, List.set_cons_succ]
        refine wpq_take 7 (some 44) [8, 9, 10, 11, 12, 13, 14] rfl rfl (by kernel_rfl) (by kernel_rfl) (by kernel_rfl) (by kernel_rfl) (fun _ _ _ h => h) (Or.inl ⟨by rfl, fun w hSw => by (obtain ⟨x0, x1, x2, x3, x4, x5⟩ := BoxP.cells hSw.1; obtain ⟨y0, y1, y2, y3, y4, y5⟩ := BoxP.cells hSw.2; go_simp; with_reducible rfl)⟩) hHeld ?_
        simp only [Act.put, List.setIfInBounds_toArray, List.set_cons_zero, List.set_cons_succ]
        refine wpq_take 8 (some 45) [9, 10, 11, 12, 13, 14] rfl rfl (by kernel_rfl) (by kernel_rfl) (by kernel_rfl) (by kernel_rfl) (fun _ _ _ h => h) (Or.inl ⟨by rfl, fun w hSw => by (obtain ⟨x0, x1, x2, x3, x4, x5⟩ := BoxP.cells hSw.1; obtain ⟨y0, y1, y2, y3, y4, y5⟩ := BoxP.cells hSw.2; go_simp; with_reducible rfl)⟩) hHeld ?_
        simp only [Act.put, List.setIfInBounds_toArray, List.set_cons_zero, List.set_cons_succ]
        refine wpq_take 9 (some 46) [10, 11, 12, 13, 14] rfl rfl (by kernel_rfl) (by kernel_rfl) (by kernel_rfl) (by kernel_rfl) (fun _ _ _ h => h) (Or.inl ⟨by rfl, fun w hSw => by (obtain ⟨x0, x1, x2, x3, x4, x5⟩ := BoxP.cells hSw.1; obtain ⟨y0, y1, y2, y3, y4, y5⟩ := BoxP.cells hSw.2; go_simp; with_reducible rfl)⟩) hHeld ?_
        simp only [Act.put, List.setIfInBounds_toArray, List.set_cons_zero, List.set_cons_succ]
        refine wpq_one 3 (by kernel_rfl) rfl (fun K hK => ?_)
        go_simp
        refine (HIH.out _ q ⟨p0, p1, p2, p3, p4, .slice pa pn pcap⟩ wd HRD.out HSQ.out HCQ.out).mono ?_
        rintro e w6 ⟨c6, rfl, hq6, hb6⟩
        have HB6 := Lib.hid (HB5.out.below hb6)
        have HD6 := Lib.hid (HD5.out.stay hb6)
        have HW6 := Lib.hid (HW5.out.keep2 (w' := w6) (fun x _ hx => hb6.block x hx))
        have HR6 := Lib.hid (HRD.out.stay hb6)
        have HQ6 := Lib.hid (hq6.mono (M := fun g => (((N g ∧ g < w.heap.size) ∨ w.heap.size + 2 ≤ g) ∧ some g ≠ (Value.slice A n cap).ownBlock) ∧ g ≠ w6.heap.size) (fun g hg hl => by
          have hz5 := HZ5.out
          refine ⟨⟨?_, fun he => ?_⟩, by omega⟩
          · rcases hg with hg | hg
            · exact .inl hg
            · exact .inr (by omega)
          · have h1 := HW5.out.1.lt g he.symm
            rcases hg with hg | hg <;> omega))
        have HZ6 : Hid (w.heap.size + 2 ≤ w6.heap.size ∧ ∀ x, (Value.slice A n cap).ownBlock = some x → x < wr.heap.size ∧ x < w6.heap.size) := ⟨HD6.out.ret.lt, fun x hx => ⟨HOWR.out x hx, (HW6.out.1.lt x hx).2⟩⟩
        generalize hdq : derR b d q = dq at *
        clear hq6 hHeld HB5 HD5 HW5 HRD
        refine hK.out _ _ ⟨HB6.out, HD6.out.box⟩ (fun hHeld => ?_)
        clear hK K
        refine wpq_one 4 (by kernel_rfl) rfl (fun K hK => ?_)
        go_simp
        generalize hW : World.alloc w6 _ = w7
        obtain ⟨ha, -, hz7, hb7⟩ := alloc_of hW
        have HOne := Lib.hid (OwnP.one (N := fun g => ((N g ∧ g < w.heap.size) ∨ w.heap.size + 2 ≤ g) ∧ some g ≠ (Value.slice A n cap).ownBlock) (show BoxP w6.heap.size c6 w7 from ha) (HQ6.out.stay hb7))
        have HBW7 := Lib.hid (HD6.out.bel.trans (hb7.mono HD6.out.bel.size))
        clear hHeld
        refine hK.out _ _ ⟨HB6.out.below hb7, HD6.out.box.below hb7⟩ (fun hHeld => ?_)
        clear hK K hHeld
        obtain ⟨cr, r1, r2, r3⟩ := HP.out.list.rest HBW7.out k hlt
        refine wpq_one 10 (by kernel_rfl) rfl (fun K hK => ?_)
        rw [if_neg (show ¬ lcap = k + 1 from fun h => hcap h.symm)]
        refine step_appendL (N := fun g => ((N g ∧ g < w.heap.size) ∨ w.heap.size + 2 ≤ g) ∧ some g ≠ (Value.slice A n cap).ownBlock) (B := 0) (v := .slice (some ⟨w6.heap.size, 0, none⟩) 1 1) (cs := [c6]) (cr := cr) (ps := [dq]) (pr := l.drop (k + 1)) rfl _ _ rfl HOne.out r1 (fun i h1 h2 => (r2 i h1 h2).mono (fun g hg _ => ⟨⟨.inl hg, fun he => by have := HOWB.out g he.symm; omega⟩, fun he => by have := own_one he.symm; have := HZ6.out.1; omega⟩)) rfl ⟨g, o + (k + 1) * 6, none⟩ _ _ rfl ?hm ?hcell ?hn (Nat.zero_le _) ?_
        case hm =>
          rw [r1, List.length_drop]

        case hcell =>
          intro i hi j hj
          have hadd : (⟨g, o + (k + 1) * 6, none⟩ : Addr).add (i * 6 + j) = ⟨g, o + (k + 1) * 6 + (i * 6 + j), none⟩ := by unfold Addr.add; split <;> simp_all
          rw [hadd]
          exact r3 i hi j hj
        case hn =>
          rw [r1, List.length_drop]
          have := HLN.out
          simp only [List.length_cons, List.length_nil]
          omega
        intro v8 w8 hown8 hg8 hat8
        have hb78 : Below w6.heap.size w7 w8 := ⟨hg8.os, hg8.tape, hg8.output, hg8.size, fun x hx => hg8.block x (by omega) (fun he => by have := own_one he.symm; omega)⟩
        have hb68 := hb7.trans hb78
        have HL8 := Lib.hid (show RdL (fun g => ((N g ∧ g < w.heap.size) ∨ w.heap.size + 2 ≤ g) ∧ some g ≠ (Value.slice A n cap).ownBlock) w8 v8 (dq :: l.drop (k + 1)) from hown8.node2 (fun x hx => by
          have hz6 := HZ6.out.1
          have hx6 : w6.heap.size ≤ x := by
            rcases hat8 with h | h
            · rw [h] at hx
              have := own_one hx
              omega
            · rw [h] at hx
              cases hx
              omega
          exact ⟨.inr (by omega), fun he => by have := (HZ6.out.2 x he.symm).2; omega⟩) 0 0 0 0 0)
        have HB8 := Lib.hid (HB6.out.below hb68)
        have HD8 := Lib.hid (HD6.out.stay hb68)
        have HW8 := Lib.hid (HW6.out.keep2 (w' := w8) (fun x _ hx => hb68.block x hx))
        have HR8 := Lib.hid (HR6.out.stay hb68)
        clear r1 r2 r3 hown8 hg8 hat8 hb78 hb68 hW ha hb7 hz7 HOne HBW7 HB6 HD6 HW6 HR6 HQ6
        refine hK.out _ _ ⟨HB8.out, HD8.out.box⟩ (fun hHeld => ?_)
        clear hK K hHeld
        refine wpq_one 11 (by kernel_rfl) rfl (fun K hK => ?_)
        go_simp
        refine (cat_any _ (dq :: l.drop (k + 1)) v8 w8 HL8.out (by have := HLN.out; rw [List.length_cons, List.length_drop]; omega)).mono ?_
        rintro e w9 ⟨c9, rfl, hq9, hb9⟩
        have HB9 := Lib.hid (HB8.out.below hb9)
        have HD9 := Lib.hid (HD8.out.stay hb9)
        have HW9 := Lib.hid (HW8.out.keep2 (w' := w9) (fun x _ hx => hb9.block x hx))
        have HR9 := Lib.hid (HR8.out.stay hb9)
        have HZ8 : Hid (w.heap.size + 2 ≤ w8.heap.size) := HD8.out.ret.lt
        have HQ9 := Lib.hid (hq9.mono (M := fun g => ((N g ∧ g < w.heap.size) ∨ w.heap.size + 2 ≤ g) ∧ some g ≠ (Value.slice A n cap).ownBlock) (fun g hg hl => by
          have hz8 := HZ8.out
          rcases hg with hg | hg
          · exact hg
          · exact ⟨.inr (by omega), fun he => by have := (HW8.out.1.lt g he.symm).2; omega⟩))
        generalize hcd : catD (dq :: l.drop (k + 1)) [] = cd at *
        clear hq9 HB8 HD8 HW8 HR8 HL8
        refine hK.out _ _ ⟨HB9.out, HD9.out.box⟩ (fun hHeld => ?_)
        clear hK K hHeld hb9
        refine wpq_one 12 (by kernel_rfl) rfl (fun K hK => ?_)
        go_simp
        have hb10 : Below w9.heap.size w9 (w9.alloc (.cells c9.cells.toArray 25)) := (Below.refl _ _).alloc (Nat.le_refl _) _
        refine hK.out _ _ ⟨HB9.out.below hb10, HD9.out.box.below hb10⟩ (fun hHeld => ?_)
        clear hK K hHeld hb10
        refine wpq_one 13 (by kernel_rfl) rfl (fun K hK => ?_)
        refine step_pushP (N := fun g => (N g ∧ g < w.heap.size) ∨ w.heap.size + 2 ≤ g) (B := w.heap.size + 2) (c := c9) (p := cd) (v := .slice A n cap) (cs := cs) (ps := acc) rfl _ _ rfl HW9.out HQ9.out rfl rfl rfl ?hn2 ?hb2 ?_
        case hn2 =>
          have := HC.out
          have := HLN.out
          omega
        case hb2 => exact HD9.out.ret.lt
        rintro v' w11 hown hg ⟨A11, cap11, rfl⟩ hat
        have hlo : ∀ x, x < w.heap.size + 2 → x < w9.heap.size → w11.heap[x]? = w9.heap[x]? := fun x h1 h2 => hg.block x h2 (fun he => by have := HOWB.out x he.symm; omega)
        have hb11 : Below (w.heap.size + 2) w9 w11 := ⟨hg.os, hg.tape, hg.output, hg.size, fun x hx => hlo x hx (by have := HD9.out.ret.lt; omega)⟩
        have HB11 := Lib.hid (show BoxP wr.heap.size ⟨p0, p1, p2, p3, p4, .slice pa pn pcap⟩ w11 from (hg.block _ HB9.out.lt (fun he => by have := HOWR.out _ he.symm; omega)).trans HB9.out)
        have HD11 := Lib.hid (show DerS ⟨3, c1, c2, c3, c4, .slice (some ⟨g, o, none⟩) l.length lcap⟩ w w11 from ⟨(hlo _ (by omega) HD9.out.box.lt).trans HD9.out.box, (hlo _ (by omega) HD9.out.ret.lt).trans HD9.out.ret, HD9.out.bel.trans (hb11.mono (by omega))⟩)
        have HOW := Lib.hid hown
        have HR11 := Lib.hid ((HR9.out.mono (M := fun g => (N g ∧ g < w.heap.size)) (fun g h _ => h)).keep (w' := w11) (fun x hx hl => hlo x (by omega) hl))
        clear hown hlo hb11 hg hat HB9 HD9 HW9 HR9 HQ9
        refine hK.out _ _ ⟨HB11.out, HD11.out.box⟩ (fun hHeld => ?_)
        clear hK K hHeld
        refine wpq_end 14 (by kernel_rfl) rfl (by kernel_rfl) (fun K hK => ?_)
        go_simp
        refine hK.out _ _ ?_
        clear hK K
        refine wpq_done (by kernel_rfl) ?_ _
        go_simp
        have HCAT : Hid (cd = catD (derR b d q :: l.drop (k + 1)) []) := by unfold Hid; rw [hdq, hcd]
        have HWN : Hid (waysD (fun a => matR a []) (derR b d) l = (acc ++ [cd]) ++ (if matR q [] then waysD (fun a => matR a []) (derR b d) (l.drop (k + 1)) else [])) := by
          unfold Hid
          rw [HWS.out, HDR.out, waysD, HCAT.out]
          simp
        clear hdq hcd HCAT
        have HNU := Lib.hid (Nullable_any q ⟨p0, p1, p2, p3, p4, .slice pa pn pcap⟩ w11 HR11.out.rd)
        obtain ⟨b0, b1, b2, b3, b4, b5⟩ := HB11.out.cells
        simp only at b0 b1 b2 b3 b4 b5
        go_wp2_with fail
        refine HNU.out.mono ?_
        rintro e w12 ⟨rfl, hb12⟩
        have HD12 := Lib.hid (HD11.out.stay hb12)
        have HW12 := Lib.hid (HOW.out.keep2 (w' := w12) (fun x _ hx => hb12.block x hx))
        clear hb12 HNU HB11 HD11 HOW HR11 b0 b1 b2 b3 b4 b5
        cases hnu : matR q [] with
        | true =>
          rw [hnu, if_pos rfl] at HWN
          clear hnu
          go_wp2_with fail
          exact ⟨⟨k + 1, A11, _, cap11, cs ++ [c9], acc ++ [cd], by omega, rfl, rfl, ⟨by simp, by have := HC.out; simp; omega, by have := HC.out; simp; omega⟩, HD12.out, HW12.out, HWN.out⟩, by simp [intOf]; omega⟩
        | false =>
          rw [hnu, if_neg (by simp), List.append_nil] at HWN
          clear hnu
          have HQ : Hid (derR b (d + 1) (.mk 3 c1 c2 c3 c4 l) = altD (acc ++ [cd])) := by
            unfold Hid
            rw [HQ0.out, HWN.out]
          have HDX := HD12
          have HF : Hid (RdL (fun g => (N g ∧ g < w.heap.size) ∨ w.heap.size + 2 ≤ g) w12 (.slice A11 (cs.length + 1) cap11) (acc ++ [cd])) := HW12.out.node2 (fun x hx => .inr (HW12.out.1.lt x hx).1) 0 0 0 0 0
          have HC2 := Lib.hid (alt_any _ _ _ w12 HF.out (by have := HLN.out; have := HC.out; rw [List.length_append, List.length_cons, List.length_nil]; omega))
          have HZ2 : Hid (w.heap.size + 2 ≤ w12.heap.size) := HDX.out.ret.lt
          go_wp2_with fail
          refine HC2.out.mono ?_
          rintro e w8 ⟨c8, rfl, hq8, hb8⟩
          have HD8 := Lib.hid (HDX.out.stay hb8)
          have HQ8 := Lib.hid (hq8.mono (M := fun g => (N g ∧ g < w.heap.size) ∨ w.heap.size + 2 ≤ g) (fun g hg _ => by have := HZ2.out; rcases hg with hg | hg; exact hg; exact .inr (by omega)))
          obtain ⟨fa, fcap, hfa⟩ := hq8.rd.forms
          obtain ⟨q0, q1, q2, q3, q4, q5⟩ := c8
          simp only at hfa
          subst hfa
          simp only [aggP]
          clear hq8 hb8
          obtain ⟨z0, z1, z2, z3, z4, z5⟩ := HD8.out.ret.cells
          obtain ⟨y0, y1, y2, y3, y4, y5⟩ := HD8.out.ret.free
          simp only at z0 z1 z2 z3 z4 z5
          go_wp2_with fail
          generalize hW : World.setCell _ _ _ = w9
          obtain ⟨hbx, hok⟩ := RetP.fin2 (N := N) HD8.out.ret HD8.out.bel HQ8.out hW
          obtain ⟨s0, s1, s2, s3, s4, s5⟩ := hbx.cells
          refine bodyPost_ret (v := aggP ⟨q0, q1, q2, q3, q4, .slice fa _ fcap⟩) (by simp only at s0 s1 s2 s3 s4 s5; simp [results, Tryz.results19, go_sem, s0, s1, s2, s3, s4, s5]; try rfl) rfl ?_
          rw [HQ.out]
          exact hok
end Go.Proofs.YtggolmamacoplaaGreatDoor
