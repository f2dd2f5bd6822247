/- regex.reverse and datakitref15.turned walked; both Reverse; printed by gen_ryt.py. Conditions: fewer than 10^6 nodes. -/
import Derived.Test.YtggolmamacoplaaDoorZz27
import Derived.Test.YtggolmamacoplaaDoorZz2
namespace Go.Proofs.YtggolmamacoplaaDoor
open Go.RowKit Go.Shelf
set_option maxHeartbeats 4000000
set_option maxRecDepth 100000

/-- regex.derive at depth d. -/
def DerC (b : Int) (d : Nat) : Prop := ∀ (N : Nat → Prop) (p : RX) (c : PC) (w : World), RdQ N w c p → sndR d p = true → cntN d p ≤ 1000000 → Calls Tryd.prog 38 #[aggP c, .int .i64 b] w (RetP N (derR b d p) w)
theorem RetP.fin2 {N : Nat → Prop} {w0 w w4 : World} {d z : PC} {p : RX} (hx : BoxP (w0.heap.size + 1) z w) (hb : Below w0.heap.size w0 w) (hd : RdQ (fun g => (N g ∧ g < w0.heap.size) ∨ w0.heap.size + 2 ≤ g) w d p)
    (he : ((((((w.setCell ⟨w0.heap.size + 1, 0, none⟩ (.int .i64 d.op)).setCell ⟨w0.heap.size + 1, 1, none⟩ (.int .i64 d.lo)).setCell ⟨w0.heap.size + 1, 2, none⟩ (.int .i64 d.hi)).setCell ⟨w0.heap.size + 1, 3, none⟩ (.int .i64 d.mn)).setCell ⟨w0.heap.size + 1, 4, none⟩ (.int .i64 d.mx)).setCell ⟨w0.heap.size + 1, 5, none⟩ d.a) = w4) :
    BoxP (w0.heap.size + 1) d w4 ∧ RetP N p w0 (.returned (aggP d)) w4 := by
  obtain ⟨b1, b2⟩ := hx.set he
  have ho := set6_other he
  exact ⟨b1, d, rfl, (hd.keep (fun x hx _ => ho x (by omega))).mono (fun g hg _ => by rcases hg with hg | hg; exact .inl hg.1; exact .inr (by omega)), hb.trans (b2.mono (by omega))⟩
/-- What stands behind the two first blocks. -/
structure DerS (c : PC) (w wr : World) : Prop where
  box : BoxP w.heap.size c wr
  ret : BoxP (w.heap.size + 1) ⟨0, 0, 0, 0, 0, .slice none 0 0⟩ wr
  bel : Below w.heap.size w wr
theorem DerS.stay {c : PC} {w wr wx : World} (h : DerS c w wr) (hb : Below wr.heap.size wr wx) : DerS c w wx := ⟨h.box.below hb, h.ret.below hb, h.bel.trans (hb.mono h.bel.size)⟩
theorem cnt_part {d : Nat} {op lo hi mn mx : Int} {l : List RX} {q : RX} (h : cntN (d + 1) (.mk op lo hi mn mx l) ≤ 1000000) (hq : q ∈ l) : cntN d q ≤ 1000000 := by
  rw [cntN] at h
  have := sum_le_of_mem (g := cntN d) hq
  omega
theorem cnt_len {d : Nat} {op lo hi mn mx : Int} {l : List RX} (hs : sndR (d + 1) (.mk op lo hi mn mx l) = true) (h : cntN (d + 1) (.mk op lo hi mn mx l) ≤ 1000000) : l.length ≤ 1000000 := by
  rw [cntN] at h
  have hk := (snd_node hs).2
  have : ∀ l : List RX, (∀ q ∈ l, sndR d q = true) → l.length ≤ (l.map (cntN d)).sum := by
    intro l
    induction l with
    | nil => intro _; simp
    | cons a t ih =>
      intro hl
      have h1 := snd_pos (hl a (by simp))
      have h2 := cnt_pos (p := a) h1
      have h3 := ih (fun q hq => hl q (by simp [hq]))
      simp only [List.map_cons, List.sum_cons, List.length_cons]
      omega
  have := this l hk
  omega
theorem der_op0 (b : Int) (d : Nat) (N : Nat → Prop) (lo hi mn mx : Int) (l : List RX) (c : PC) (w : World) (hp : RdQ N w c (.mk 0 lo hi mn mx l)) (hsn : sndR (d + 1) (.mk 0 lo hi mn mx l) = true) (hcn : cntN (d + 1) (.mk 0 lo hi mn mx l) ≤ 1000000) :
    Calls Tryd.prog 38 #[aggP c, .int .i64 b] w (RetP N (derR b (d + 1) (.mk 0 lo hi mn mx l)) w) := by
  have HSN := Lib.hid hsn
  have HCN := Lib.hid hcn
  have HP := Lib.hid hp
  have HLN := Lib.hid (cnt_len hsn hcn)
  obtain ⟨la, lcap, hla⟩ := hp.rd.forms
  have hop : c.op = 0 ∧ c.lo = lo ∧ c.hi = hi ∧ c.mn = mn ∧ c.mx = mx := by cases hp; exact ⟨rfl, rfl, rfl, rfl, rfl⟩
  obtain ⟨c0, c1, c2, c3, c4, c5⟩ := c
  simp only at hop hla
  obtain ⟨rfl, rfl, rfl, rfl, rfl⟩ := hop
  rw [show (RX.mk 0 c1 c2 c3 c4 l).args = l from rfl] at hla
  subst hla
  have hll : (l.length : Int) ≤ 1000000 := by have := HLN.out; omega
  simp only [aggP]
  clear hp hsn hcn
  go_enter Tryd.func38, Tryd.ntmps38
  go_upto_region 1 with fail
  generalize hW : World.alloc w _ = w1
  obtain ⟨ha, -, hz1, hb1⟩ := alloc_of hW
  generalize hW2 : World.alloc w1 _ = w2
  obtain ⟨ha2, -, hz2, hb2⟩ := alloc_of hW2
  rw [hz1] at ha2
  have HD := Lib.hid (show DerS ⟨0, c1, c2, c3, c4, .slice la l.length lcap⟩ w w2 from ⟨(hb2.block _ (by omega)).trans ha, ha2, hb1.trans (hb2.mono hb1.size)⟩)
  clear hW ha hz1 hb1 hW2 ha2 hz2 hb2
  obtain ⟨t0, t1, t2, t3, t4, t5⟩ := HD.out.box.cells
  simp only at t0 t1 t2 t3 t4 t5
  have HQ := Lib.hid (show derR b (d + 1) (.mk 0 c1 c2 c3 c4 l) = nonR from by simp [derR])
  go_wp2_with fail
  refine (none_any w2).mono ?_
  rintro e w8 ⟨rfl, hb8⟩
  have HD8 := Lib.hid (HD.out.stay hb8)
  clear hb8
  obtain ⟨z0, z1, z2, z3, z4, z5⟩ := HD8.out.ret.cells
  obtain ⟨y0, y1, y2, y3, y4, y5⟩ := HD8.out.ret.free
  simp only at z0 z1 z2 z3 z4 z5
  simp only [aggP, zeroP]
  go_wp2_with fail
  generalize hW : World.setCell _ _ _ = w9
  obtain ⟨hbx, hok⟩ := RetP.fin2 (N := N) (d := zeroP 0) HD8.out.ret HD8.out.bel (zero_rd _ 0 _) hW
  obtain ⟨s0, s1, s2, s3, s4, s5⟩ := hbx.cells
  refine bodyPost_ret (v := aggP (zeroP 0)) (by simp only [zeroP] at s0 s1 s2 s3 s4 s5; simp [results, Tryd.results38, go_sem, zeroP, s0, s1, s2, s3, s4, s5]) rfl ?_
  rw [HQ.out]
  exact hok
theorem der_op1 (b : Int) (d : Nat) (N : Nat → Prop) (lo hi mn mx : Int) (l : List RX) (c : PC) (w : World) (hp : RdQ N w c (.mk 1 lo hi mn mx l)) (hsn : sndR (d + 1) (.mk 1 lo hi mn mx l) = true) (hcn : cntN (d + 1) (.mk 1 lo hi mn mx l) ≤ 1000000) :
    Calls Tryd.prog 38 #[aggP c, .int .i64 b] w (RetP N (derR b (d + 1) (.mk 1 lo hi mn mx l)) w) := by
  have HSN := Lib.hid hsn
  have HCN := Lib.hid hcn
  have HP := Lib.hid hp
  have HLN := Lib.hid (cnt_len hsn hcn)
  obtain ⟨la, lcap, hla⟩ := hp.rd.forms
  have hop : c.op = 1 ∧ c.lo = lo ∧ c.hi = hi ∧ c.mn = mn ∧ c.mx = mx := by cases hp; exact ⟨rfl, rfl, rfl, rfl, rfl⟩
  obtain ⟨c0, c1, c2, c3, c4, c5⟩ := c
  simp only at hop hla
  obtain ⟨rfl, rfl, rfl, rfl, rfl⟩ := hop
  rw [show (RX.mk 1 c1 c2 c3 c4 l).args = l from rfl] at hla
  subst hla
  have hll : (l.length : Int) ≤ 1000000 := by have := HLN.out; omega
  simp only [aggP]
  clear hp hsn hcn
  go_enter Tryd.func38, Tryd.ntmps38
  go_upto_region 1 with fail
  generalize hW : World.alloc w _ = w1
  obtain ⟨ha, -, hz1, hb1⟩ := alloc_of hW
  generalize hW2 : World.alloc w1 _ = w2
  obtain ⟨ha2, -, hz2, hb2⟩ := alloc_of hW2
  rw [hz1] at ha2
  have HD := Lib.hid (show DerS ⟨1, c1, c2, c3, c4, .slice la l.length lcap⟩ w w2 from ⟨(hb2.block _ (by omega)).trans ha, ha2, hb1.trans (hb2.mono hb1.size)⟩)
  clear hW ha hz1 hb1 hW2 ha2 hz2 hb2
  obtain ⟨t0, t1, t2, t3, t4, t5⟩ := HD.out.box.cells
  simp only at t0 t1 t2 t3 t4 t5
  have HQ := Lib.hid (show derR b (d + 1) (.mk 1 c1 c2 c3 c4 l) = nonR from by simp [derR])
  go_wp2_with fail
  refine (none_any w2).mono ?_
  rintro e w8 ⟨rfl, hb8⟩
  have HD8 := Lib.hid (HD.out.stay hb8)
  clear hb8
  obtain ⟨z0, z1, z2, z3, z4, z5⟩ := HD8.out.ret.cells
  obtain ⟨y0, y1, y2, y3, y4, y5⟩ := HD8.out.ret.free
  simp only at z0 z1 z2 z3 z4 z5
  simp only [aggP, zeroP]
  go_wp2_with fail
  generalize hW : World.setCell _ _ _ = w9
  obtain ⟨hbx, hok⟩ := RetP.fin2 (N := N) (d := zeroP 0) HD8.out.ret HD8.out.bel (zero_rd _ 0 _) hW
  obtain ⟨s0, s1, s2, s3, s4, s5⟩ := hbx.cells
  refine bodyPost_ret (v := aggP (zeroP 0)) (by simp only [zeroP] at s0 s1 s2 s3 s4 s5; simp [results, Tryd.results38, go_sem, zeroP, s0, s1, s2, s3, s4, s5]) rfl ?_
  rw [HQ.out]
  exact hok
theorem der_op2 (b : Int) (d : Nat) (N : Nat → Prop) (lo hi mn mx : Int) (l : List RX) (c : PC) (w : World) (hp : RdQ N w c (.mk 2 lo hi mn mx l)) (hsn : sndR (d + 1) (.mk 2 lo hi mn mx l) = true) (hcn : cntN (d + 1) (.mk 2 lo hi mn mx l) ≤ 1000000) :
    Calls Tryd.prog 38 #[aggP c, .int .i64 b] w (RetP N (derR b (d + 1) (.mk 2 lo hi mn mx l)) w) := by
  have HSN := Lib.hid hsn
  have HCN := Lib.hid hcn
  have HP := Lib.hid hp
  have HLN := Lib.hid (cnt_len hsn hcn)
  obtain ⟨la, lcap, hla⟩ := hp.rd.forms
  have hop : c.op = 2 ∧ c.lo = lo ∧ c.hi = hi ∧ c.mn = mn ∧ c.mx = mx := by cases hp; exact ⟨rfl, rfl, rfl, rfl, rfl⟩
  obtain ⟨c0, c1, c2, c3, c4, c5⟩ := c
  simp only at hop hla
  obtain ⟨rfl, rfl, rfl, rfl, rfl⟩ := hop
  rw [show (RX.mk 2 c1 c2 c3 c4 l).args = l from rfl] at hla
  subst hla
  have hll : (l.length : Int) ≤ 1000000 := by have := HLN.out; omega
  simp only [aggP]
  clear hp hsn hcn
  go_enter Tryd.func38, Tryd.ntmps38
  go_upto_region 1 with fail
  generalize hW : World.alloc w _ = w1
  obtain ⟨ha, -, hz1, hb1⟩ := alloc_of hW
  generalize hW2 : World.alloc w1 _ = w2
  obtain ⟨ha2, -, hz2, hb2⟩ := alloc_of hW2
  rw [hz1] at ha2
  have HD := Lib.hid (show DerS ⟨2, c1, c2, c3, c4, .slice la l.length lcap⟩ w w2 from ⟨(hb2.block _ (by omega)).trans ha, ha2, hb1.trans (hb2.mono hb1.size)⟩)
  clear hW ha hz1 hb1 hW2 ha2 hz2 hb2
  obtain ⟨t0, t1, t2, t3, t4, t5⟩ := HD.out.box.cells
  simp only at t0 t1 t2 t3 t4 t5
  by_cases h1 : c1 ≤ b
  · by_cases h2 : b ≤ c2
    · have HQ := Lib.hid (show derR b (d + 1) (.mk 2 c1 c2 c3 c4 l) = empR from by simp [derR, h1, h2])
      go_wp2_with fail
      refine (empty_any w2).mono ?_
      rintro e w8 ⟨rfl, hb8⟩
      have HD8 := Lib.hid (HD.out.stay hb8)
      clear hb8
      obtain ⟨z0, z1, z2, z3, z4, z5⟩ := HD8.out.ret.cells
      obtain ⟨y0, y1, y2, y3, y4, y5⟩ := HD8.out.ret.free
      simp only at z0 z1 z2 z3 z4 z5
      simp only [aggP, zeroP]
      go_wp2_with fail
      generalize hW : World.setCell _ _ _ = w9
      obtain ⟨hbx, hok⟩ := RetP.fin2 (N := N) (d := zeroP 1) HD8.out.ret HD8.out.bel (zero_rd _ 1 _) hW
      obtain ⟨s0, s1, s2, s3, s4, s5⟩ := hbx.cells
      refine bodyPost_ret (v := aggP (zeroP 1)) (by simp only [zeroP] at s0 s1 s2 s3 s4 s5; simp [results, Tryd.results38, go_sem, zeroP, s0, s1, s2, s3, s4, s5]) rfl ?_
      rw [HQ.out]
      exact hok
    · have HQ := Lib.hid (show derR b (d + 1) (.mk 2 c1 c2 c3 c4 l) = nonR from by simp [derR, h2])
      go_wp2_with fail
      refine (none_any w2).mono ?_
      rintro e w8 ⟨rfl, hb8⟩
      have HD8 := Lib.hid (HD.out.stay hb8)
      clear hb8
      obtain ⟨z0, z1, z2, z3, z4, z5⟩ := HD8.out.ret.cells
      obtain ⟨y0, y1, y2, y3, y4, y5⟩ := HD8.out.ret.free
      simp only at z0 z1 z2 z3 z4 z5
      simp only [aggP, zeroP]
      go_wp2_with fail
      generalize hW : World.setCell _ _ _ = w9
      obtain ⟨hbx, hok⟩ := RetP.fin2 (N := N) (d := zeroP 0) HD8.out.ret HD8.out.bel (zero_rd _ 0 _) hW
      obtain ⟨s0, s1, s2, s3, s4, s5⟩ := hbx.cells
      refine bodyPost_ret (v := aggP (zeroP 0)) (by simp only [zeroP] at s0 s1 s2 s3 s4 s5; simp [results, Tryd.results38, go_sem, zeroP, s0, s1, s2, s3, s4, s5]) rfl ?_
      rw [HQ.out]
      exact hok
  · have HQ := Lib.hid (show derR b (d + 1) (.mk 2 c1 c2 c3 c4 l) = nonR from by simp [derR, h1])
    go_wp2_with fail
    refine (none_any w2).mono ?_
    rintro e w8 ⟨rfl, hb8⟩
    have HD8 := Lib.hid (HD.out.stay hb8)
    clear hb8
    obtain ⟨z0, z1, z2, z3, z4, z5⟩ := HD8.out.ret.cells
    obtain ⟨y0, y1, y2, y3, y4, y5⟩ := HD8.out.ret.free
    simp only at z0 z1 z2 z3 z4 z5
    simp only [aggP, zeroP]
    go_wp2_with fail
    generalize hW : World.setCell _ _ _ = w9
    obtain ⟨hbx, hok⟩ := RetP.fin2 (N := N) (d := zeroP 0) HD8.out.ret HD8.out.bel (zero_rd _ 0 _) hW
    obtain ⟨s0, s1, s2, s3, s4, s5⟩ := hbx.cells
    refine bodyPost_ret (v := aggP (zeroP 0)) (by simp only [zeroP] at s0 s1 s2 s3 s4 s5; simp [results, Tryd.results38, go_sem, zeroP, s0, s1, s2, s3, s4, s5]) rfl ?_
    rw [HQ.out]
    exact hok
theorem der_op7 (b : Int) (d : Nat) (IH : DerC b d) (N : Nat → Prop) (lo hi mn mx : Int) (l : List RX) (c : PC) (w : World) (hp : RdQ N w c (.mk 7 lo hi mn mx l)) (hsn : sndR (d + 1) (.mk 7 lo hi mn mx l) = true) (hcn : cntN (d + 1) (.mk 7 lo hi mn mx l) ≤ 1000000) :
    Calls Tryd.prog 38 #[aggP c, .int .i64 b] w (RetP N (derR b (d + 1) (.mk 7 lo hi mn mx l)) w) := by
  have HSN := Lib.hid hsn
  have HCN := Lib.hid hcn
  have HP := Lib.hid hp
  have HLN := Lib.hid (cnt_len hsn hcn)
  obtain ⟨la, lcap, hla⟩ := hp.rd.forms
  have hop : c.op = 7 ∧ c.lo = lo ∧ c.hi = hi ∧ c.mn = mn ∧ c.mx = mx := by cases hp; exact ⟨rfl, rfl, rfl, rfl, rfl⟩
  obtain ⟨c0, c1, c2, c3, c4, c5⟩ := c
  simp only at hop hla
  obtain ⟨rfl, rfl, rfl, rfl, rfl⟩ := hop
  rw [show (RX.mk 7 c1 c2 c3 c4 l).args = l from rfl] at hla
  subst hla
  have hll : (l.length : Int) ≤ 1000000 := by have := HLN.out; omega
  simp only [aggP]
  clear hp hsn hcn
  go_enter Tryd.func38, Tryd.ntmps38
  go_upto_region 1 with fail
  generalize hW : World.alloc w _ = w1
  obtain ⟨ha, -, hz1, hb1⟩ := alloc_of hW
  generalize hW2 : World.alloc w1 _ = w2
  obtain ⟨ha2, -, hz2, hb2⟩ := alloc_of hW2
  rw [hz1] at ha2
  have HD := Lib.hid (show DerS ⟨7, c1, c2, c3, c4, .slice la l.length lcap⟩ w w2 from ⟨(hb2.block _ (by omega)).trans ha, ha2, hb1.trans (hb2.mono hb1.size)⟩)
  clear hW ha hz1 hb1 hW2 ha2 hz2 hb2
  obtain ⟨t0, t1, t2, t3, t4, t5⟩ := HD.out.box.cells
  simp only at t0 t1 t2 t3 t4 t5
  obtain ⟨q, rfl⟩ : ∃ q, l = [q] := by
    have h1 : l.length = 1 := by
      have := (snd_node HSN.out).1
      simp only [formR] at this
      simp at this
      omega
    match l, h1 with
    | [q], _ => exact ⟨q, rfl⟩
  have HQ := Lib.hid (show derR b (d + 1) (.mk 7 c1 c2 c3 c4 [q]) = .mk 7 0 0 0 0 [derR b d q] from by simp [derR])
  obtain ⟨g, o, c, rfl, hc6, hrq⟩ := RdL.part HP.out.list HD.out.bel 0 (by simp)
  have HRD := Lib.hid (show RdQ (fun g => N g ∧ g < w.heap.size) w2 c q from hrq)
  have HC := Lib.hid (IH _ q c w2 HRD.out ((snd_node HSN.out).2 q (by simp)) (cnt_part HCN.out (by simp)))
  obtain ⟨pa, pcap, hpa⟩ := HRD.out.rd.forms
  generalize q.args.length = pn at *
  obtain ⟨p0, p1, p2, p3, p4, p5⟩ := c
  simp only at hpa
  subst hpa
  obtain ⟨b0, b1, b2, b3, b4, b5⟩ := cells6 hc6
  simp only [Nat.zero_mul, Nat.add_zero] at b0 b1 b2 b3 b4 b5
  clear hc6 hrq IH
  go_wp2_with fail
  refine HC.out.mono ?_
  rintro e w5 ⟨c8, rfl, hq8, hb8⟩
  have HD5 := Lib.hid (HD.out.stay hb8)
  have HZ2 : Hid (w.heap.size + 2 ≤ w2.heap.size) := HD.out.ret.lt
  have HQ5 := Lib.hid (hq8.mono (M := fun g => (N g ∧ g < w.heap.size) ∨ w.heap.size + 2 ≤ g) (fun g hg _ => by have := HZ2.out; rcases hg with hg | hg; exact .inl hg; exact .inr (by omega)))
  obtain ⟨fa, fcap, hfa⟩ := hq8.rd.forms
  obtain ⟨q0, q1, q2, q3, q4, q5⟩ := c8
  simp only at hfa
  generalize (derR b d q).args.length = fl at *
  subst hfa
  simp only [aggP]
  clear hq8 hb8 HC b0 b1 b2 b3 b4 b5 t0 t1 t2 t3 t4 t5
  obtain ⟨z0, z1, z2, z3, z4, z5⟩ := HD5.out.ret.cells
  obtain ⟨y0, y1, y2, y3, y4, y5⟩ := HD5.out.ret.free
  simp only at z0 z1 z2 z3 z4 z5
  have HZ5 := Lib.hid HD5.out.ret.lt
  clear z0 z1 z2 z3 z4 z5 y0 y1 y2 y3 y4 y5
  have z0 : ∀ X, (w5.alloc X).cell? ⟨w.heap.size + 1, 0, none⟩ = some (.int .i64 0) := fun X => (HD5.out.stay (below_alloc w5 X)).ret.cells.1
  have z1 : ∀ X, (w5.alloc X).cell? ⟨w.heap.size + 1, 1, none⟩ = some (.int .i64 0) := fun X => (HD5.out.stay (below_alloc w5 X)).ret.cells.2.1
  have z2 : ∀ X, (w5.alloc X).cell? ⟨w.heap.size + 1, 2, none⟩ = some (.int .i64 0) := fun X => (HD5.out.stay (below_alloc w5 X)).ret.cells.2.2.1
  have z3 : ∀ X, (w5.alloc X).cell? ⟨w.heap.size + 1, 3, none⟩ = some (.int .i64 0) := fun X => (HD5.out.stay (below_alloc w5 X)).ret.cells.2.2.2.1
  have z4 : ∀ X, (w5.alloc X).cell? ⟨w.heap.size + 1, 4, none⟩ = some (.int .i64 0) := fun X => (HD5.out.stay (below_alloc w5 X)).ret.cells.2.2.2.2.1
  have z5 : ∀ X, (w5.alloc X).cell? ⟨w.heap.size + 1, 5, none⟩ = some (.slice none 0 0) := fun X => (HD5.out.stay (below_alloc w5 X)).ret.cells.2.2.2.2.2
  have y0 : ∀ X, (w5.alloc X).frozen? ⟨w.heap.size + 1, 0, none⟩ = false := fun X => (HD5.out.stay (below_alloc w5 X)).ret.free.1
  have y1 : ∀ X, (w5.alloc X).frozen? ⟨w.heap.size + 1, 1, none⟩ = false := fun X => (HD5.out.stay (below_alloc w5 X)).ret.free.2.1
  have y2 : ∀ X, (w5.alloc X).frozen? ⟨w.heap.size + 1, 2, none⟩ = false := fun X => (HD5.out.stay (below_alloc w5 X)).ret.free.2.2.1
  have y3 : ∀ X, (w5.alloc X).frozen? ⟨w.heap.size + 1, 3, none⟩ = false := fun X => (HD5.out.stay (below_alloc w5 X)).ret.free.2.2.2.1
  have y4 : ∀ X, (w5.alloc X).frozen? ⟨w.heap.size + 1, 4, none⟩ = false := fun X => (HD5.out.stay (below_alloc w5 X)).ret.free.2.2.2.2.1
  have y5 : ∀ X, (w5.alloc X).frozen? ⟨w.heap.size + 1, 5, none⟩ = false := fun X => (HD5.out.stay (below_alloc w5 X)).ret.free.2.2.2.2.2
  go_wp2_with fail
  generalize hWa : World.alloc w5 _ = w6
  obtain ⟨ha, -, -, hb6⟩ := alloc_of hWa
  have HM := Lib.hid (show BoxP w5.heap.size ⟨q0, q1, q2, q3, q4, .slice fa fl fcap⟩ w6 from ha)
  have HD6 := Lib.hid (HD5.out.stay hb6)
  have HQ6 := Lib.hid (HQ5.out.stay hb6)
  generalize hW : World.setCell _ _ _ = w9
  obtain ⟨hbx, hok⟩ := RetP.fin2 (N := N) (d := ⟨7, 0, 0, 0, 0, .slice (some ⟨w5.heap.size, 0, none⟩) 1 1⟩) HD6.out.ret HD6.out.bel (sng_rd HQ6.out HM.out (.inr (by have := HZ5.out; omega))) hW
  obtain ⟨s0, s1, s2, s3, s4, s5⟩ := hbx.cells
  refine bodyPost_ret (v := aggP ⟨7, 0, 0, 0, 0, .slice (some ⟨w5.heap.size, 0, none⟩) 1 1⟩) (by simp only at s0 s1 s2 s3 s4 s5; simp [results, Tryd.results38, go_sem, s0, s1, s2, s3, s4, s5]) rfl ?_
  rw [HQ.out]
  exact hok
theorem der_op4 (b : Int) (d : Nat) (IH : DerC b d) (N : Nat → Prop) (lo hi mn mx : Int) (l : List RX) (c : PC) (w : World) (hp : RdQ N w c (.mk 4 lo hi mn mx l)) (hsn : sndR (d + 1) (.mk 4 lo hi mn mx l) = true) (hcn : cntN (d + 1) (.mk 4 lo hi mn mx l) ≤ 1000000) :
    Calls Tryd.prog 38 #[aggP c, .int .i64 b] w (RetP N (derR b (d + 1) (.mk 4 lo hi mn mx l)) w) := by
  have HSN := Lib.hid hsn
  have HCN := Lib.hid hcn
  have HP := Lib.hid hp
  have HLN := Lib.hid (cnt_len hsn hcn)
  obtain ⟨la, lcap, hla⟩ := hp.rd.forms
  have hop : c.op = 4 ∧ c.lo = lo ∧ c.hi = hi ∧ c.mn = mn ∧ c.mx = mx := by cases hp; exact ⟨rfl, rfl, rfl, rfl, rfl⟩
  obtain ⟨c0, c1, c2, c3, c4, c5⟩ := c
  simp only at hop hla
  obtain ⟨rfl, rfl, rfl, rfl, rfl⟩ := hop
  rw [show (RX.mk 4 c1 c2 c3 c4 l).args = l from rfl] at hla
  subst hla
  have hll : (l.length : Int) ≤ 1000000 := by have := HLN.out; omega
  simp only [aggP]
  clear hp hsn hcn
  go_enter Tryd.func38, Tryd.ntmps38
  go_upto_region 1 with fail
  generalize hW : World.alloc w _ = w1
  obtain ⟨ha, -, hz1, hb1⟩ := alloc_of hW
  generalize hW2 : World.alloc w1 _ = w2
  obtain ⟨ha2, -, hz2, hb2⟩ := alloc_of hW2
  rw [hz1] at ha2
  have HD := Lib.hid (show DerS ⟨4, c1, c2, c3, c4, .slice la l.length lcap⟩ w w2 from ⟨(hb2.block _ (by omega)).trans ha, ha2, hb1.trans (hb2.mono hb1.size)⟩)
  clear hW ha hz1 hb1 hW2 ha2 hz2 hb2
  obtain ⟨t0, t1, t2, t3, t4, t5⟩ := HD.out.box.cells
  simp only at t0 t1 t2 t3 t4 t5
  have HQ := Lib.hid (show derR b (d + 1) (.mk 4 c1 c2 c3 c4 l) = altD (l.map (derR b d)) from by simp [derR])
  have HIH := Lib.hid IH
  have HKS := Lib.hid (snd_node HSN.out).2
  clear IH
  go_wp2_with fail
  go_loopw [8, 10, 63] (fun ov _ iv wr => ∃ (k : Nat) (A : Option Addr) (n cap : Nat) (cs : List PC), k ≤ l.length ∧ iv = .int .i64 (k : Int) ∧ ov = .slice A n cap ∧ Hid (n = cs.length ∧ cs.length = k) ∧ Hid (DerS ⟨4, c1, c2, c3, c4, .slice la l.length lcap⟩ w wr) ∧ Hid (OwnP (fun g => (N g ∧ g < w.heap.size) ∨ w.heap.size + 2 ≤ g) (w.heap.size + 2) wr (.slice A n cap) cs ((l.take k).map (derR b d)))) (fun _ _ iv _ => l.length - (intOf iv).toNat)
  case atStart => exact ⟨0, none, 0, 0, [], Nat.zero_le _, rfl, rfl, ⟨rfl, rfl⟩, HD.out, by rw [List.take_zero]; exact OwnP.nil _ _ _⟩
  case round =>
    clear HD t0 t1 t2 t3 t4 t5
    obtain ⟨k, A, n, cap, cs, hk, rfl, rfl, HC, HD, HW⟩ := hrel
    obtain ⟨t0, t1, t2, t3, t4, t5⟩ := HD.out.box.cells
    simp only at t0 t1 t2 t3 t4 t5
    by_cases hlt : k < l.length
    case neg =>
      have hge : ¬ (k : Int) < l.length := by omega
      have HF : Hid (RdL (fun g => (N g ∧ g < w.heap.size) ∨ w.heap.size + 2 ≤ g) wr (.slice A n cap) (l.map (derR b d))) := by
        have := HW.out
        rw [List.take_of_length_le (by omega)] at this
        exact this.node2 (fun x hx => .inr (this.1.lt x hx).1) 0 0 0 0 0
      have HC2 := Lib.hid (alt_any _ _ _ wr HF.out (by have := HLN.out; rw [List.length_map]; omega))
      have HZ2 : Hid (w.heap.size + 2 ≤ wr.heap.size) := HD.out.ret.lt
      clear hlt
      go_wp2_with fail
      refine HC2.out.mono ?_
      rintro e w8 ⟨c8, rfl, hq8, hb8⟩
      have HD8 := Lib.hid (HD.out.stay hb8)
      have HQ8 := Lib.hid (hq8.mono (M := fun g => (N g ∧ g < w.heap.size) ∨ w.heap.size + 2 ≤ g) (fun g hg _ => by have := HZ2.out; rcases hg with hg | hg; exact hg; exact .inr (by omega)))
      obtain ⟨fa, fcap, hfa⟩ := hq8.rd.forms
      obtain ⟨q0, q1, q2, q3, q4, q5⟩ := c8
      simp only at hfa
      subst hfa
      simp only [aggP]
      clear hq8 hb8
      obtain ⟨z0, z1, z2, z3, z4, z5⟩ := HD8.out.ret.cells
      obtain ⟨y0, y1, y2, y3, y4, y5⟩ := HD8.out.ret.free
      simp only at z0 z1 z2 z3 z4 z5
      go_wp2_with fail
      generalize hW : World.setCell _ _ _ = w9
      obtain ⟨hbx, hok⟩ := RetP.fin2 (N := N) HD8.out.ret HD8.out.bel HQ8.out hW
      obtain ⟨s0, s1, s2, s3, s4, s5⟩ := hbx.cells
      refine bodyPost_ret (v := aggP ⟨q0, q1, q2, q3, q4, .slice fa _ fcap⟩) (by simp only at s0 s1 s2 s3 s4 s5; simp [results, Tryd.results38, go_sem, s0, s1, s2, s3, s4, s5]; try rfl) rfl ?_
      rw [HQ.out]
      exact hok
    case pos =>
      have hlti : (k : Int) < l.length := by omega
      obtain ⟨g, o, c, rfl, hc6, hrq⟩ := RdL.part HP.out.list HD.out.bel k hlt
      have HTK : Hid ((l.take (k + 1)).map (derR b d) = (l.take k).map (derR b d) ++ [derR b d l[k]]) := by
        unfold Hid
        rw [List.take_succ_eq_append_getElem hlt, List.map_append]
        rfl
      have HRD := Lib.hid hrq
      have HSQ := Lib.hid (HKS.out _ (List.getElem_mem hlt))
      have HCQ := Lib.hid (cnt_part HCN.out (List.getElem_mem hlt))
      generalize l[k] = q at *
      obtain ⟨pa, pcap, hpa⟩ := HRD.out.rd.forms
      generalize q.args.length = pn at *
      obtain ⟨p0, p1, p2, p3, p4, p5⟩ := c
      simp only at hpa
      subst hpa
      obtain ⟨b0, b1, b2, b3, b4, b5⟩ := cells6 hc6
      simp only at b0 b1 b2 b3 b4 b5
      clear hc6 hrq
      go_upto_region 20 with fail
      generalize hW : World.alloc wr _ = w5
      obtain ⟨ha, -, -, hb5⟩ := alloc_of hW
      have HB5 := Lib.hid (show BoxP wr.heap.size ⟨p0, p1, p2, p3, p4, .slice pa pn pcap⟩ w5 from ha)
      have HD5 := Lib.hid (HD.out.stay hb5)
      have HW5 := Lib.hid (HW.out.keep2 (w' := w5) (fun x _ hx => hb5.block x hx))
      have HZ5 : Hid (w.heap.size + 2 ≤ w5.heap.size) := HD5.out.ret.lt
      have HC5 := Lib.hid (HIH.out _ q ⟨p0, p1, p2, p3, p4, .slice pa pn pcap⟩ w5 (HRD.out.stay hb5) HSQ.out HCQ.out)
      clear hW ha hb5 b0 b1 b2 b3 b4 b5 HD HW t0 t1 t2 t3 t4 t5 HRD
      obtain ⟨b0, b1, b2, b3, b4, b5⟩ := HB5.out.cells
      simp only at b0 b1 b2 b3 b4 b5
      go_wp2_with fail
      refine HC5.out.mono ?_
      rintro e w6 ⟨c6, rfl, hq6, hb6⟩
      have HD6 := Lib.hid (HD5.out.stay hb6)
      have HW6 := Lib.hid (HW5.out.keep2 (w' := w6) (fun x _ hx => hb6.block x hx))
      have HQ6 := Lib.hid (hq6.mono (M := fun g => ((N g ∧ g < w.heap.size) ∨ w.heap.size + 2 ≤ g) ∧ some g ≠ (Value.slice A n cap).ownBlock) (fun g hg hl => ⟨by have := HZ5.out; rcases hg with hg | hg; exact .inl hg; exact .inr (by omega), fun he => by
        have h1 := HW5.out.1.lt g he.symm
        rcases hg with hg | hg
        · omega
        · omega⟩))
      obtain ⟨fa, fcap, hfa⟩ := hq6.rd.forms
      obtain ⟨q0, q1, q2, q3, q4, q5⟩ := c6
      simp only at hfa
      generalize hdq : derR b d q = dq at *
      generalize dq.args.length = fl at *
      subst hfa
      simp only [aggP]
      clear hq6 hb6 HC5 b0 b1 b2 b3 b4 b5 hdq
      go_wp2_with (at_builtin; refine wpl_pushP (N := fun g => (N g ∧ g < w.heap.size) ∨ w.heap.size + 2 ≤ g) (B := w.heap.size + 2) (c := ⟨q0, q1, q2, q3, q4, .slice fa fl fcap⟩) (p := dq) (v := .slice A n cap) (cs := cs) (ps := (l.take k).map (derR b d)) _ _ rfl rfl HW6.out HQ6.out rfl rfl rfl (by have := HC.out; have := HLN.out; omega) (by have := HD6.out.ret.lt; omega) ?_; intro v3 w3 hown3 hg3 hfm3 hat3; obtain ⟨A3, cap3, rfl⟩ := hfm3; have HOW3 := Lib.hid hown3; have HG3 := Lib.hid hg3; clear hown3 hg3 hat3)
      have hlo : ∀ x, x < w.heap.size + 2 → x < w6.heap.size → w3.heap[x]? = w6.heap[x]? := fun x h1 h2 => HG3.out.block x h2 (fun he => by have := (HW6.out.1.lt x he.symm).1; omega)
      have hb3 : Below (w.heap.size + 2) w6 w3 := ⟨HG3.out.os, HG3.out.tape, HG3.out.output, HG3.out.size, fun x hx => hlo x hx (by have := HD6.out.ret.lt; omega)⟩
      exact ⟨⟨k + 1, A3, _, cap3, cs ++ [_], by omega, rfl, rfl, ⟨by simp, by have := HC.out; simp; omega⟩, ⟨(hlo _ (by omega) HD6.out.box.lt).trans HD6.out.box, (hlo _ (by omega) HD6.out.ret.lt).trans HD6.out.ret, HD6.out.bel.trans (hb3.mono (by omega))⟩, by rw [HTK.out]; exact HOW3.out⟩, by simp [intOf]; omega⟩
theorem der_op6 (b : Int) (d : Nat) (IH : DerC b d) (N : Nat → Prop) (lo hi mn mx : Int) (l : List RX) (c : PC) (w : World) (hp : RdQ N w c (.mk 6 lo hi mn mx l)) (hsn : sndR (d + 1) (.mk 6 lo hi mn mx l) = true) (hcn : cntN (d + 1) (.mk 6 lo hi mn mx l) ≤ 1000000) :
    Calls Tryd.prog 38 #[aggP c, .int .i64 b] w (RetP N (derR b (d + 1) (.mk 6 lo hi mn mx l)) w) := by
  have HSN := Lib.hid hsn
  have HCN := Lib.hid hcn
  have HP := Lib.hid hp
  have HLN := Lib.hid (cnt_len hsn hcn)
  obtain ⟨la, lcap, hla⟩ := hp.rd.forms
  have hop : c.op = 6 ∧ c.lo = lo ∧ c.hi = hi ∧ c.mn = mn ∧ c.mx = mx := by cases hp; exact ⟨rfl, rfl, rfl, rfl, rfl⟩
  obtain ⟨c0, c1, c2, c3, c4, c5⟩ := c
  simp only at hop hla
  obtain ⟨rfl, rfl, rfl, rfl, rfl⟩ := hop
  rw [show (RX.mk 6 c1 c2 c3 c4 l).args = l from rfl] at hla
  subst hla
  have hll : (l.length : Int) ≤ 1000000 := by have := HLN.out; omega
  simp only [aggP]
  clear hp hsn hcn
  go_enter Tryd.func38, Tryd.ntmps38
  go_upto_region 1 with fail
  generalize hW : World.alloc w _ = w1
  obtain ⟨ha, -, hz1, hb1⟩ := alloc_of hW
  generalize hW2 : World.alloc w1 _ = w2
  obtain ⟨ha2, -, hz2, hb2⟩ := alloc_of hW2
  rw [hz1] at ha2
  have HD := Lib.hid (show DerS ⟨6, c1, c2, c3, c4, .slice la l.length lcap⟩ w w2 from ⟨(hb2.block _ (by omega)).trans ha, ha2, hb1.trans (hb2.mono hb1.size)⟩)
  clear hW ha hz1 hb1 hW2 ha2 hz2 hb2
  obtain ⟨t0, t1, t2, t3, t4, t5⟩ := HD.out.box.cells
  simp only at t0 t1 t2 t3 t4 t5
  have HQ := Lib.hid (show derR b (d + 1) (.mk 6 c1 c2 c3 c4 l) = andD (l.map (derR b d)) from by simp [derR])
  have HIH := Lib.hid IH
  have HKS := Lib.hid (snd_node HSN.out).2
  clear IH
  go_wp2_with fail
  go_loopw [8, 10, 63] (fun ov _ iv wr => ∃ (k : Nat) (A : Option Addr) (n cap : Nat) (cs : List PC), k ≤ l.length ∧ iv = .int .i64 (k : Int) ∧ ov = .slice A n cap ∧ Hid (n = cs.length ∧ cs.length = k) ∧ Hid (DerS ⟨6, c1, c2, c3, c4, .slice la l.length lcap⟩ w wr) ∧ Hid (OwnP (fun g => (N g ∧ g < w.heap.size) ∨ w.heap.size + 2 ≤ g) (w.heap.size + 2) wr (.slice A n cap) cs ((l.take k).map (derR b d)))) (fun _ _ iv _ => l.length - (intOf iv).toNat)
  case atStart => exact ⟨0, none, 0, 0, [], Nat.zero_le _, rfl, rfl, ⟨rfl, rfl⟩, HD.out, by rw [List.take_zero]; exact OwnP.nil _ _ _⟩
  case round =>
    clear HD t0 t1 t2 t3 t4 t5
    obtain ⟨k, A, n, cap, cs, hk, rfl, rfl, HC, HD, HW⟩ := hrel
    obtain ⟨t0, t1, t2, t3, t4, t5⟩ := HD.out.box.cells
    simp only at t0 t1 t2 t3 t4 t5
    by_cases hlt : k < l.length
    case neg =>
      have hge : ¬ (k : Int) < l.length := by omega
      have HF : Hid (RdL (fun g => (N g ∧ g < w.heap.size) ∨ w.heap.size + 2 ≤ g) wr (.slice A n cap) (l.map (derR b d))) := by
        have := HW.out
        rw [List.take_of_length_le (by omega)] at this
        exact this.node2 (fun x hx => .inr (this.1.lt x hx).1) 0 0 0 0 0
      have HC2 := Lib.hid (and_any _ _ _ wr HF.out)
      have HZ2 : Hid (w.heap.size + 2 ≤ wr.heap.size) := HD.out.ret.lt
      clear hlt
      go_wp2_with fail
      refine HC2.out.mono ?_
      rintro e w8 ⟨c8, rfl, hq8, hb8⟩
      have HD8 := Lib.hid (HD.out.stay hb8)
      have HQ8 := Lib.hid (hq8.mono (M := fun g => (N g ∧ g < w.heap.size) ∨ w.heap.size + 2 ≤ g) (fun g hg _ => by have := HZ2.out; rcases hg with hg | hg; exact hg; exact .inr (by omega)))
      obtain ⟨fa, fcap, hfa⟩ := hq8.rd.forms
      obtain ⟨q0, q1, q2, q3, q4, q5⟩ := c8
      simp only at hfa
      subst hfa
      simp only [aggP]
      clear hq8 hb8
      obtain ⟨z0, z1, z2, z3, z4, z5⟩ := HD8.out.ret.cells
      obtain ⟨y0, y1, y2, y3, y4, y5⟩ := HD8.out.ret.free
      simp only at z0 z1 z2 z3 z4 z5
      go_wp2_with fail
      generalize hW : World.setCell _ _ _ = w9
      obtain ⟨hbx, hok⟩ := RetP.fin2 (N := N) HD8.out.ret HD8.out.bel HQ8.out hW
      obtain ⟨s0, s1, s2, s3, s4, s5⟩ := hbx.cells
      refine bodyPost_ret (v := aggP ⟨q0, q1, q2, q3, q4, .slice fa _ fcap⟩) (by simp only at s0 s1 s2 s3 s4 s5; simp [results, Tryd.results38, go_sem, s0, s1, s2, s3, s4, s5]; try rfl) rfl ?_
      rw [HQ.out]
      exact hok
    case pos =>
      have hlti : (k : Int) < l.length := by omega
      obtain ⟨g, o, c, rfl, hc6, hrq⟩ := RdL.part HP.out.list HD.out.bel k hlt
      have HTK : Hid ((l.take (k + 1)).map (derR b d) = (l.take k).map (derR b d) ++ [derR b d l[k]]) := by
        unfold Hid
        rw [List.take_succ_eq_append_getElem hlt, List.map_append]
        rfl
      have HRD := Lib.hid hrq
      have HSQ := Lib.hid (HKS.out _ (List.getElem_mem hlt))
      have HCQ := Lib.hid (cnt_part HCN.out (List.getElem_mem hlt))
      generalize l[k] = q at *
      obtain ⟨pa, pcap, hpa⟩ := HRD.out.rd.forms
      generalize q.args.length = pn at *
      obtain ⟨p0, p1, p2, p3, p4, p5⟩ := c
      simp only at hpa
      subst hpa
      obtain ⟨b0, b1, b2, b3, b4, b5⟩ := cells6 hc6
      simp only at b0 b1 b2 b3 b4 b5
      clear hc6 hrq
      go_upto_region 20 with fail
      generalize hW : World.alloc wr _ = w5
      obtain ⟨ha, -, -, hb5⟩ := alloc_of hW
      have HB5 := Lib.hid (show BoxP wr.heap.size ⟨p0, p1, p2, p3, p4, .slice pa pn pcap⟩ w5 from ha)
      have HD5 := Lib.hid (HD.out.stay hb5)
      have HW5 := Lib.hid (HW.out.keep2 (w' := w5) (fun x _ hx => hb5.block x hx))
      have HZ5 : Hid (w.heap.size + 2 ≤ w5.heap.size) := HD5.out.ret.lt
      have HC5 := Lib.hid (HIH.out _ q ⟨p0, p1, p2, p3, p4, .slice pa pn pcap⟩ w5 (HRD.out.stay hb5) HSQ.out HCQ.out)
      clear hW ha hb5 b0 b1 b2 b3 b4 b5 HD HW t0 t1 t2 t3 t4 t5 HRD
      obtain ⟨b0, b1, b2, b3, b4, b5⟩ := HB5.out.cells
      simp only at b0 b1 b2 b3 b4 b5
      go_wp2_with fail
      refine HC5.out.mono ?_
      rintro e w6 ⟨c6, rfl, hq6, hb6⟩
      have HD6 := Lib.hid (HD5.out.stay hb6)
      have HW6 := Lib.hid (HW5.out.keep2 (w' := w6) (fun x _ hx => hb6.block x hx))
      have HQ6 := Lib.hid (hq6.mono (M := fun g => ((N g ∧ g < w.heap.size) ∨ w.heap.size + 2 ≤ g) ∧ some g ≠ (Value.slice A n cap).ownBlock) (fun g hg hl => ⟨by have := HZ5.out; rcases hg with hg | hg; exact .inl hg; exact .inr (by omega), fun he => by
        have h1 := HW5.out.1.lt g he.symm
        rcases hg with hg | hg
        · omega
        · omega⟩))
      obtain ⟨fa, fcap, hfa⟩ := hq6.rd.forms
      obtain ⟨q0, q1, q2, q3, q4, q5⟩ := c6
      simp only at hfa
      generalize hdq : derR b d q = dq at *
      generalize dq.args.length = fl at *
      subst hfa
      simp only [aggP]
      clear hq6 hb6 HC5 b0 b1 b2 b3 b4 b5 hdq
      go_wp2_with (at_builtin; refine wpl_pushP (N := fun g => (N g ∧ g < w.heap.size) ∨ w.heap.size + 2 ≤ g) (B := w.heap.size + 2) (c := ⟨q0, q1, q2, q3, q4, .slice fa fl fcap⟩) (p := dq) (v := .slice A n cap) (cs := cs) (ps := (l.take k).map (derR b d)) _ _ rfl rfl HW6.out HQ6.out rfl rfl rfl (by have := HC.out; have := HLN.out; omega) (by have := HD6.out.ret.lt; omega) ?_; intro v3 w3 hown3 hg3 hfm3 hat3; obtain ⟨A3, cap3, rfl⟩ := hfm3; have HOW3 := Lib.hid hown3; have HG3 := Lib.hid hg3; clear hown3 hg3 hat3)
      have hlo : ∀ x, x < w.heap.size + 2 → x < w6.heap.size → w3.heap[x]? = w6.heap[x]? := fun x h1 h2 => HG3.out.block x h2 (fun he => by have := (HW6.out.1.lt x he.symm).1; omega)
      have hb3 : Below (w.heap.size + 2) w6 w3 := ⟨HG3.out.os, HG3.out.tape, HG3.out.output, HG3.out.size, fun x hx => hlo x hx (by have := HD6.out.ret.lt; omega)⟩
      exact ⟨⟨k + 1, A3, _, cap3, cs ++ [_], by omega, rfl, rfl, ⟨by simp, by have := HC.out; simp; omega⟩, ⟨(hlo _ (by omega) HD6.out.box.lt).trans HD6.out.box, (hlo _ (by omega) HD6.out.ret.lt).trans HD6.out.ret, HD6.out.bel.trans (hb3.mono (by omega))⟩, by rw [HTK.out]; exact HOW3.out⟩, by simp [intOf]; omega⟩
end Go.Proofs.YtggolmamacoplaaDoor

namespace Go.Proofs.YtggolmamacoplaaDoor
open Go.RowKit Go.Shelf
set_option maxHeartbeats 4000000
set_option maxRecDepth 100000

/-- The state of the loop: the box of the argument, the box for what is handed back, the pattern that grows. -/
structure RvS (op lo hi mn mx : Int) (c : PC) (w wr : World) (v : Value) (cs : List PC) (ps : List RX) : Prop where
  arg : BoxP w.heap.size c wr
  ret : BoxP (w.heap.size + 1) ⟨0, 0, 0, 0, 0, .slice none 0 0⟩ wr
  box : BoxP (w.heap.size + 1 + 1) ⟨op, lo, hi, mn, mx, v⟩ wr
  own : OwnP (fun g => w.heap.size + 3 ≤ g) (w.heap.size + 3) wr v cs ps
  bel : Below w.heap.size w wr
theorem RvS.own_ge {op lo hi mn mx : Int} {c : PC} {w wr : World} {v : Value} {cs : List PC} {ps : List RX} (h : RvS op lo hi mn mx c w wr v cs ps) (x : Nat) (hx : v.ownBlock = some x) : w.heap.size + 3 ≤ x := (h.own.1.lt x hx).1
theorem RvS.stay {op lo hi mn mx : Int} {c : PC} {w wr wx : World} {v : Value} {cs : List PC} {ps : List RX} (h : RvS op lo hi mn mx c w wr v cs ps) (hb : Below wr.heap.size wr wx) : RvS op lo hi mn mx c w wx v cs ps :=
  ⟨h.arg.below hb, h.ret.below hb, h.box.below hb, h.own.keep2 (fun g _ hg => hb.block g hg), h.bel.trans (hb.mono h.bel.size)⟩
theorem RvS.push {op lo hi mn mx : Int} {c0 : PC} {w wr w3 : World} {v v' : Value} {cs : List PC} {ps : List RX} {c : PC} {p : RX} (h : RvS op lo hi mn mx c0 w wr v cs ps) (hown : OwnP (fun g => w.heap.size + 3 ≤ g) (w.heap.size + 3) w3 v' (cs ++ [c]) (ps ++ [p])) (hg : wr.grownBy w3 v.ownBlock) :
    BoxP w.heap.size c0 w3 ∧ BoxP (w.heap.size + 1 + 1) ⟨op, lo, hi, mn, mx, v⟩ w3 ∧ RvS op lo hi mn mx c0 w (w3.setCell ⟨w.heap.size + 1 + 1, 5, none⟩ v') v' (cs ++ [c]) (ps ++ [p]) := by
  have hl : ∀ x, x < w.heap.size + 3 → x < wr.heap.size → w3.heap[x]? = wr.heap[x]? := fun x h1 h2 => hg.block x h2 (fun he => by have := h.own_ge x he.symm; omega)
  have hb : Below (w.heap.size + 3) wr w3 := ⟨hg.os, hg.tape, hg.output, hg.size, fun x hx => hl x hx (by have := h.box.lt; omega)⟩
  have h1 : BoxP (w.heap.size + 1 + 1) ⟨op, lo, hi, mn, mx, v⟩ w3 := (hl _ (by omega) h.box.lt).trans h.box
  have h0 : BoxP w.heap.size c0 w3 := (hl _ (by omega) h.arg.lt).trans h.arg
  have hot : ∀ y, y ≠ w.heap.size + 1 + 1 → (w3.setCell ⟨w.heap.size + 1 + 1, 5, none⟩ v').heap[y]? = w3.heap[y]? := fun y hy => Below.heap_setCell w3 ⟨w.heap.size + 1 + 1, 5, none⟩ v' y hy
  refine ⟨h0, h1, (hot _ (by omega)).trans h0, (hot _ (by omega)).trans ((hl _ (by omega) h.ret.lt).trans h.ret), heap_setCell_same w3 (w.heap.size + 1 + 1) 5 _ _ v' h1, hown.keep2 (fun g hg _ => hot g (fun he => ?_)), (h.bel.trans (hb.mono (by omega))).setCell (p := ⟨w.heap.size + 1 + 1, 5, none⟩) (by show _ ≤ w.heap.size + 1 + 1; omega) _⟩
  rcases hg with hg | hg
  · omega
  · have := (hown.1.lt g hg).1
    omega
end Go.Proofs.YtggolmamacoplaaDoor
