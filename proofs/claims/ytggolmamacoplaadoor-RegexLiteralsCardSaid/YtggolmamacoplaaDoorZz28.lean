/- The law RegexValids walked; printed by gen_ryh.py. Conditions: the value of strconv.ErrSyntax. -/
import Derived.Test.YtggolmamacoplaaDoorZz27
import Derived.Test.YtggolmamacoplaaDoorZz19
import Derived.Test.YtggolmamacoplaaDoorZz15
import Derived.Test.YtggolmamacoplaaDoorZz2
import Derived.Test.YtggolmamacoplaaDoorZz24
import Derived.Test.YtggolmamacoplaaDoorZz18
import Derived.Test.YtggolmamacoplaaDoorZz1
namespace Go.Proofs.YtggolmamacoplaaDoor
open Go.RowKit Go.Shelf
set_option maxHeartbeats 4000000
set_option maxRecDepth 100000

theorem BoxP.set3 {b : Nat} {o l h mn mx : Int} {a : Value} {w w4 : World} (hx : BoxP b ⟨o, l, h, mn, mx, a⟩ w) (v : Int) (he : w.setCell ⟨b, 3, none⟩ (.int .i64 v) = w4) : BoxP b ⟨o, l, h, v, mx, a⟩ w4 ∧ Below b w w4 ∧ ∀ x, x ≠ b → w4.heap[x]? = w.heap[x]? := by
  subst he
  exact ⟨heap_setCell_same w b 3 _ _ (.int .i64 v) hx, (Below.refl _ _).setCell (p := ⟨b, 3, none⟩) (Nat.le_refl _) _, fun x hx => Below.heap_setCell _ _ _ _ (by show x ≠ b; exact hx)⟩
theorem BoxP.set4 {b : Nat} {o l h mn mx : Int} {a : Value} {w w4 : World} (hx : BoxP b ⟨o, l, h, mn, mx, a⟩ w) (v : Int) (he : w.setCell ⟨b, 4, none⟩ (.int .i64 v) = w4) : BoxP b ⟨o, l, h, mn, v, a⟩ w4 ∧ Below b w w4 ∧ ∀ x, x ≠ b → w4.heap[x]? = w.heap[x]? := by
  subst he
  exact ⟨heap_setCell_same w b 4 _ _ (.int .i64 v) hx, (Below.refl _ _).setCell (p := ⟨b, 4, none⟩) (Nat.le_refl _) _, fun x hx => Below.heap_setCell _ _ _ _ (by show x ≠ b; exact hx)⟩
theorem pair_rd {N : Nat → Prop} {w : World} {c1 c2 : PC} {p1 p2 : RX} {m : Nat} (h1 : RdQ N w c1 p1) (h2 : RdQ N w c2 p2) (hb : w.heap[m]? = some (.cells (c1.cells ++ c2.cells).toArray 24 (0, 0))) (hN : N m) : RdL N w (.slice (some ⟨m, 0, none⟩) 2 2) [p1, p2] := by
  show RdQ N w ⟨0, 0, 0, 0, 0, .slice (some ⟨m, 0, none⟩) 2 2⟩ (.mk 0 0 0 0 0 [p1, p2])
  refine .mk 0 0 0 0 0 [p1, p2] _ (fun i => if i = 0 then c1 else c2) ⟨some ⟨m, 0, none⟩, 2, rfl, Nat.le_refl _, by decide, (fun h => by cases h), fun _ => ⟨m, 0, rfl, (Array.getElem?_eq_some_iff.1 hb).1, fun i hi j hj => ?_⟩⟩ (fun _ => ⟨m, 0, 2, 2, rfl, hN⟩) (fun i hi => ?_)
  · have := cell_of_row w m (0 + i * 6 + j) _ _ (0, 0) hb
    rw [this, List.getElem?_toArray]
    have h01 : i = 0 ∨ i = 1 := by simp only [List.length_cons, List.length_nil] at hi; omega
    rcases h01 with rfl | rfl
    · rw [List.getElem?_append_left (by rw [PC.len]; omega)]
      simp
    · rw [List.getElem?_append_right (by rw [PC.len]; omega), PC.len]
      simp
  · have h01 : i = 0 ∨ i = 1 := by simp only [List.length_cons, List.length_nil] at hi; omega
    rcases h01 with rfl | rfl
    · exact h1
    · exact h2
theorem der_op5 (b : Int) (d : Nat) (IH : DerC b d) (N : Nat → Prop) (lo hi mn mx : Int) (l : List RX) (c : PC) (w : World) (hp : RdQ N w c (.mk 5 lo hi mn mx l)) (hsn : sndR (d + 1) (.mk 5 lo hi mn mx l) = true) (hcn : cntN (d + 1) (.mk 5 lo hi mn mx l) ≤ 1000000) :
    Calls Tryd.prog 38 #[aggP c, .int .i64 b] w (RetP N (derR b (d + 1) (.mk 5 lo hi mn mx l)) w) := by
  have HSN := Lib.hid hsn
  have HCN := Lib.hid hcn
  have HP := Lib.hid hp
  have HLN := Lib.hid (cnt_len hsn hcn)
  obtain ⟨la, lcap, hla⟩ := hp.rd.forms
  have hop : c.op = 5 ∧ c.lo = lo ∧ c.hi = hi ∧ c.mn = mn ∧ c.mx = mx := by cases hp; exact ⟨rfl, rfl, rfl, rfl, rfl⟩
  obtain ⟨c0, c1, c2, c3, c4, c5⟩ := c
  simp only at hop hla
  obtain ⟨rfl, rfl, rfl, rfl, rfl⟩ := hop
  rw [show (RX.mk 5 c1 c2 c3 c4 l).args = l from rfl] at hla
  subst hla
  have hll : (l.length : Int) ≤ 1000000 := by have := HLN.out; omega
  simp only [aggP]
  clear hp hsn hcn
  go_enter Tryd.func38, Tryd.ntmps38
  go_upto_region 1 with fail
  generalize hW : World.alloc w _ = w1
  obtain ⟨ha, -, hz1, hb1⟩ := alloc_of hW
  generalize hW2 : World.alloc w1 _ = w2
  obtain ⟨ha2, -, hz2, hb2⟩ := alloc_of hW2
  rw [hz1] at ha2
  have HD := Lib.hid (show DerS ⟨5, c1, c2, c3, c4, .slice la l.length lcap⟩ w w2 from ⟨(hb2.block _ (by omega)).trans ha, ha2, hb1.trans (hb2.mono hb1.size)⟩)
  clear hW ha hz1 hb1 hW2 ha2 hz2 hb2
  obtain ⟨t0, t1, t2, t3, t4, t5⟩ := HD.out.box.cells
  simp only at t0 t1 t2 t3 t4 t5
  have hfm : l.length = 1 ∧ 0 ≤ c3 ∧ c3 ≤ 64 ∧ (c4 = -1 ∨ (c3 ≤ c4 ∧ c4 ≤ 64)) := by
    have := (snd_node HSN.out).1
    simp only [formR] at this
    simp at this
    omega
  obtain ⟨hl1, hc3, hc3', hc4⟩ := hfm
  obtain ⟨q, rfl⟩ : ∃ q, l = [q] := by
    match l, hl1 with
    | [q], _ => exact ⟨q, rfl⟩
  clear hl1 hll HLN
  simp only [List.length_cons, List.length_nil, Nat.zero_add] at *
  have HIH := Lib.hid IH
  clear IH
  have HSQ := Lib.hid ((snd_node HSN.out).2 q (by simp))
  have HCQ := Lib.hid (cnt_part HCN.out (show q ∈ [q] by simp))
  go_upto_region 29 with fail
  generalize hW : World.alloc w2 _ = w3
  obtain ⟨ha, -, -, hb3⟩ := alloc_of hW
  have HB := Lib.hid (show BoxP w2.heap.size ⟨5, c1, c2, c3, c4, .slice la 1 lcap⟩ w3 from ha)
  have HD3 := Lib.hid (HD.out.stay hb3)
  have HD2 := HD
  clear hW ha hb3 HD t0 t1 t2 t3 t4 t5
  obtain ⟨t0, t1, t2, t3, t4, t5⟩ := HD3.out.box.cells
  obtain ⟨x0, x1, x2, x3, x4, x5⟩ := HB.out.free
  simp only at t0 t1 t2 t3 t4 t5
  have hwr : IntKind.i64.wrap (c3 - 1) = c3 - 1 := IntWalk.i64_in _ (by omega)
  obtain ⟨y0, y1, y2, y3, y4, y5⟩ := HB.out.cells
  simp only at y0 y1 y2 y3 y4 y5
  go_upto_region 30 with fail
  generalize hW : World.setCell w3 _ _ = w4
  have hmx : (max 0 (c3 - 1) : Int) = if c3 - 1 < 0 then 0 else c3 - 1 := by split <;> omega
  generalize (max 0 (c3 - 1) : Int) = m3 at *
  have HMX := Lib.hid hmx
  clear hmx
  clear x0 x1 x2 x3 x4 x5 y0 y1 y2 y3 y4 y5 t0 t1 t2 t3 t4 t5
  obtain ⟨hx1, hx2, hx3⟩ := HB.out.set3 m3 hW
  have HB4 := Lib.hid hx1
  have hlt2 : w.heap.size + 2 ≤ w2.heap.size := HD2.out.ret.lt
  have HD4 := Lib.hid (show DerS ⟨5, c1, c2, c3, c4, .slice la 1 lcap⟩ w w4 from ⟨(hx3 _ (by omega)).trans HD3.out.box, (hx3 _ (by omega)).trans HD3.out.ret, HD3.out.bel.trans (hx2.mono (by omega))⟩)
  have HZ := Lib.hid hlt2
  clear hW hx1 hx2 hx3 hlt2 HB HD3 HD2
  obtain ⟨g, o, c, rfl, hc6, hrq⟩ := RdL.part HP.out.list HD4.out.bel 0 (by simp)
  have HRD := Lib.hid (show RdQ (fun g => N g ∧ g < w.heap.size) w4 c q from hrq)
  have HP6 := Lib.hid (show ∀ j, j < 6 → w4.cell? ⟨g, o + j, none⟩ = (PC.cells c)[j]? from fun j hj => by have := hc6 j hj; simpa using this)
  have HGS : Hid (g < w.heap.size) := by
    cases HP.out with
    | mk _ _ _ _ _ _ _ cs hl hN hL =>
    obtain ⟨_, _, he, _, _, _, h3⟩ := hl
    cases he
    obtain ⟨_, _, e, h, _⟩ := h3 (by simp)
    cases e
    exact h
  have HRL := Lib.hid (HP.out.list.stays HD4.out.bel)
  have HLL := Lib.hid (show RdL (fun g => N g ∧ g < w.heap.size) w (.slice (some ⟨g, o, none⟩) 1 lcap) [q] from RdQ.mono HP.out.list (fun g h1 h2 => ⟨h1, h2⟩))
  clear hc6 hrq HRL
  obtain ⟨t0, t1, t2, t3, t4, t5⟩ := HD4.out.box.cells
  obtain ⟨x0, x1, x2, x3, x4, x5⟩ := HB4.out.free
  obtain ⟨y0, y1, y2, y3, y4, y5⟩ := HB4.out.cells
  simp only at t0 t1 t2 t3 t4 t5 y0 y1 y2 y3 y4 y5
  by_cases h0 : c4 = 0
  · subst h0
    have HQ := Lib.hid (show derR b (d + 1) (.mk 5 c1 c2 c3 0 [q]) = nonR from by simp [derR, repD])
    go_wp2_with fail
    refine (none_any w4).mono ?_
    rintro e w8 ⟨rfl, hb8⟩
    have HD8 := Lib.hid (HD4.out.stay hb8)
    clear hb8
    obtain ⟨z0, z1, z2, z3, z4, z5⟩ := HD8.out.ret.cells
    obtain ⟨y0, y1, y2, y3, y4, y5⟩ := HD8.out.ret.free
    simp only at z0 z1 z2 z3 z4 z5
    simp only [aggP, zeroP]
    go_wp2_with fail
    generalize hW : World.setCell _ _ _ = w9
    obtain ⟨hbx, hok⟩ := RetP.fin2 (N := N) (d := zeroP 0) HD8.out.ret HD8.out.bel (zero_rd _ 0 _) hW
    obtain ⟨s0, s1, s2, s3, s4, s5⟩ := hbx.cells
    refine bodyPost_ret (v := aggP (zeroP 0)) (by simp only [zeroP] at s0 s1 s2 s3 s4 s5; simp [results, Tryd.results38, go_sem, zeroP, s0, s1, s2, s3, s4, s5]) rfl ?_
    rw [HQ.out]
    exact hok
  obtain ⟨pa, pcap, hpa⟩ := HRD.out.rd.forms
  generalize q.args.length = pn at *
  obtain ⟨p0, p1, p2, p3, p4, p5⟩ := c
  simp only at hpa
  subst hpa
  by_cases h1 : c4 = 1
  · subst h1
    have HQ := Lib.hid (show derR b (d + 1) (.mk 5 c1 c2 c3 1 [q]) = catD [derR b d q, .mk 1 0 0 0 0 []] [] from by simp [derR, repD, empR])
    go_wp2_with fail
    refine (empty_any w4).mono ?_
    rintro e w8 ⟨rfl, hb8⟩
    have HB8 := Lib.hid (HB4.out.below hb8)
    have HD8 := Lib.hid (HD4.out.stay hb8)
    have HR8 := Lib.hid (HRD.out.stay hb8)
    have HP8 : Hid (∀ j, j < 6 → w8.cell? ⟨g, o + j, none⟩ = (PC.cells ⟨p0, p1, p2, p3, p4, .slice pa pn pcap⟩)[j]?) := fun j hj => (hb8.cell (p := ⟨g, o + j, none⟩) (by have := HGS.out; have := HD4.out.bel.size; show g < w4.heap.size; omega)).trans (HP6.out j hj)
    clear hb8 HB4 HD4 HRD HP6 t0 t1 t2 t3 t4 t5 x0 x1 x2 x3 x4 x5 y0 y1 y2 y3 y4 y5
    obtain ⟨t0, t1, t2, t3, t4, t5⟩ := HD8.out.box.cells
    obtain ⟨x0, x1, x2, x3, x4, x5⟩ := HB8.out.free
    obtain ⟨y0, y1, y2, y3, y4, y5⟩ := HB8.out.cells
    simp only at t0 t1 t2 t3 t4 t5 y0 y1 y2 y3 y4 y5
    simp only [aggP, zeroP]
    go_upto_region 34 with fail
    generalize hW : World.setCell _ _ _ = w5
    have hot := set6_other hW
    obtain ⟨hx1, hx2⟩ := HB8.out.set (d := ⟨1, 0, 0, 0, 0, .slice none 0 0⟩) hW
    have HBX := Lib.hid hx1
    have hz := HZ.out
    have hgs := HGS.out
    have HDX := Lib.hid (show DerS ⟨5, c1, c2, c3, 1, .slice (some ⟨g, o, none⟩) 1 lcap⟩ w w5 from ⟨(hot _ (by omega)).trans HD8.out.box, (hot _ (by omega)).trans HD8.out.ret, HD8.out.bel.trans (hx2.mono (by omega))⟩)
    have HRX := Lib.hid (HR8.out.keep (w' := w5) (fun x hx _ => hot x (by omega)))
    have HPX : Hid (∀ j, j < 6 → w5.cell? ⟨g, o + j, none⟩ = (PC.cells ⟨p0, p1, p2, p3, p4, .slice pa pn pcap⟩)[j]?) := fun j hj => (hx2.cell (p := ⟨g, o + j, none⟩) (by show g < w2.heap.size; omega)).trans (HP8.out j hj)
    have HRRX := Lib.hid (zero_rd (fun g => (N g ∧ g < w.heap.size) ∨ w.heap.size + 2 ≤ g) 1 w5)
    clear hW hot hx1 hx2 HB8 HD8 HR8 HP8 t0 t1 t2 t3 t4 t5 x0 x1 x2 x3 x4 x5 y0 y1 y2 y3 y4 y5 hz hgs HLL
    go_upto_region 36 with fail
    refine wpq_region (fun w' => (BoxP w.heap.size ⟨5, c1, c2, c3, 1, .slice (some ⟨g, o, none⟩) 1 lcap⟩ w' ∧ BoxP w2.heap.size ⟨1, 0, 0, 0, 0, .slice none 0 0⟩ w') ∧ Hid (∀ j, j < 6 → w'.cell? ⟨g, o + j, none⟩ = (PC.cells ⟨p0, p1, p2, p3, p4, .slice pa pn pcap⟩)[j]?)) 9 (by kernel_rfl) ⟨⟨HDX.out.box, HBX.out⟩, HPX⟩ (fun hHeld => ?_)
    have hbd : Below w5.heap.size w5 w5.drew := below_drewN (Below.refl _ _) 1
    replace HBX := Lib.hid (HBX.out.below hbd)
    replace HDX := Lib.hid (HDX.out.stay hbd)
    replace HRX := Lib.hid (HRX.out.stay hbd)
    replace HRRX := Lib.hid (HRRX.out.stay hbd)
    clear hbd HPX
    generalize w5.drew = wd at *
    refine wpq_take 0 (some 117) [1, 2, 3, 5, 7, 8, 9] rfl rfl (by kernel_rfl) (by kernel_rfl) (by kernel_rfl) (by kernel_rfl) (fun _ _ _ h => h) (Or.inl ⟨by rfl, fun w hSw => by (obtain ⟨x0, x1, x2, x3, x4, x5⟩ := BoxP.cells hSw.1.1; obtain ⟨y0, y1, y2, y3, y4, y5⟩ := BoxP.cells hSw.1.2; obtain ⟨z0, z1, z2, z3, z4, z5⟩ := cells6 hSw.2.out; simp only at x0 x1 x2 x3 x4 x5 y0 y1 y2 y3 y4 y5 z0 z1 z2 z3 z4 z5; go_simp; with_reducible rfl)⟩) hHeld ?_
    simp only [Act.put, List.setIfInBounds_toArray, List.set_cons_zero, List.set_cons_succ]
    refine wpq_take 1 (some 118) [2, 3, 5, 7, 8, 9] rfl rfl (by kernel_rfl) (by kernel_rfl) (by kernel_rfl) (by kernel_rfl) (fun _ _ _ h => h) (Or.inl ⟨by rfl, fun w hSw => by (obtain ⟨x0, x1, x2, x3, x4, x5⟩ := BoxP.cells hSw.1.1; obtain ⟨y0, y1, y2, y3, y4, y5⟩ := BoxP.cells hSw.1.2; obtain ⟨z0, z1, z2, z3, z4, z5⟩ := cells6 hSw.2.out; simp only at x0 x1 x2 x3 x4 x5 y0 y1 y2 y3 y4 y5 z0 z1 z2 z3 z4 z5; go_simp; with_reducible rfl)⟩) hHeld ?_
    simp only [Act.put, List.setIfInBounds_toArray, List.set_cons_zero, List.set_cons_succ]
    refine wpq_take 2 (some 119) [3, 5, 7, 8, 9] rfl rfl (by kernel_rfl) (by kernel_rfl) (by kernel_rfl) (by kernel_rfl) (fun _ _ _ h => h) (Or.inl ⟨by rfl, fun w hSw => by (obtain ⟨x0, x1, x2, x3, x4, x5⟩ := BoxP.cells hSw.1.1; obtain ⟨y0, y1, y2, y3, y4, y5⟩ := BoxP.cells hSw.1.2; obtain ⟨z0, z1, z2, z3, z4, z5⟩ := cells6 hSw.2.out; simp only at x0 x1 x2 x3 x4 x5 y0 y1 y2 y3 y4 y5 z0 z1 z2 z3 z4 z5; go_simp; with_reducible rfl)⟩) hHeld ?_
    simp only [Act.put, List.setIfInBounds_toArray, List.set_cons_zero, List.set_cons_succ]
    refine wpq_take 3 (some 120) [5, 7, 8, 9] rfl rfl (by kernel_rfl) (by kernel_rfl) (by kernel_rfl) (by kernel_rfl) (fun _ _ _ h => h) (Or.inl ⟨by rfl, fun w hSw => by (obtain ⟨x0, x1, x2, x3, x4, x5⟩ := BoxP.cells hSw.1.1; obtain ⟨y0, y1, y2, y3, y4, y5⟩ := BoxP.cells hSw.1.2; obtain ⟨z0, z1, z2, z3, z4, z5⟩ := cells6 hSw.2.out; simp only at x0 x1 x2 x3 x4 x5 y0 y1 y2 y3 y4 y5 z0 z1 z2 z3 z4 z5; go_simp; with_reducible rfl)⟩) hHeld ?_
    simp only [Act.put, List.setIfInBounds_toArray, List.set_cons_zero, List.set_cons_succ]
    refine wpq_take 4 (some 121) [5, 7, 8, 9] rfl rfl (by kernel_rfl) (by kernel_rfl) (by kernel_rfl) (by kernel_rfl) (fun _ _ _ h => h) (Or.inl ⟨by rfl, fun w hSw => by (obtain ⟨x0, x1, x2, x3, x4, x5⟩ := BoxP.cells hSw.1.1; obtain ⟨y0, y1, y2, y3, y4, y5⟩ := BoxP.cells hSw.1.2; obtain ⟨z0, z1, z2, z3, z4, z5⟩ := cells6 hSw.2.out; simp only at x0 x1 x2 x3 x4 x5 y0 y1 y2 y3 y4 y5 z0 z1 z2 z3 z4 z5; go_simp; with_reducible rfl)⟩) hHeld ?_
    simp only [Act.put, List.setIfInBounds_toArray, List.set_cons_zero, List.set_cons_succ]
    refine wpq_take 6 (some 123) [7, 8, 9] rfl rfl (by kernel_rfl) (by kernel_rfl) (by kernel_rfl) (by kernel_rfl) (fun _ _ _ h => h) (Or.inl ⟨by rfl, fun w hSw => by (obtain ⟨x0, x1, x2, x3, x4, x5⟩ := BoxP.cells hSw.1.1; obtain ⟨y0, y1, y2, y3, y4, y5⟩ := BoxP.cells hSw.1.2; obtain ⟨z0, z1, z2, z3, z4, z5⟩ := cells6 hSw.2.out; simp only at x0 x1 x2 x3 x4 x5 y0 y1 y2 y3 y4 y5 z0 z1 z2 z3 z4 z5; go_simp; with_reducible rfl)⟩) hHeld ?_
    simp only [Act.put, List.setIfInBounds_toArray, List.set_cons_zero, List.set_cons_succ]
    refine wpq_one 5 (by kernel_rfl) rfl (fun K hK => ?_)
    go_simp
    refine (HIH.out _ q ⟨p0, p1, p2, p3, p4, .slice pa pn pcap⟩ wd HRX.out HSQ.out HCQ.out).mono ?_
    rintro e w6 ⟨c6, rfl, hq6, hb6⟩
    have hz5 := HDX.out.ret.lt
    have HB6 := Lib.hid (HBX.out.below hb6)
    have HD6 := Lib.hid (HDX.out.stay hb6)
    have HR6 := Lib.hid (HRRX.out.stay hb6)
    have HQ6 := Lib.hid (hq6.mono (M := fun g => (N g ∧ g < w.heap.size) ∨ w.heap.size + 2 ≤ g) (fun g hg _ => by rcases hg with hg | hg; exact .inl hg; exact .inr (by omega)))
    have HP6 : Hid (∀ j, j < 6 → w6.cell? ⟨g, o + j, none⟩ = (PC.cells ⟨p0, p1, p2, p3, p4, .slice pa pn pcap⟩)[j]?) := fun j hj => (hb6.cell (p := ⟨g, o + j, none⟩) (by have := HGS.out; show g < wd.heap.size; omega)).trans (hHeld.2.out j hj)
    generalize hdq : derR b d q = dq at *
    clear hq6 hHeld HBX HDX HRRX HRX hz5
    refine hK.out _ _ ⟨⟨HD6.out.box, HB6.out⟩, HP6⟩ (fun hHeld => ?_)
    clear hK K hHeld
    refine wpq_one 7 (by kernel_rfl) rfl (fun K hK => ?_)
    go_simp
    generalize hW : World.alloc w6 _ = w7
    obtain ⟨ha, -, hz7, hb7⟩ := alloc_of hW
    have hz6 : w.heap.size + 2 ≤ w6.heap.size := HD6.out.ret.lt
    have HL7 := Lib.hid (pair_rd (N := fun g => (N g ∧ g < w.heap.size) ∨ w.heap.size + 2 ≤ g) (m := w6.heap.size) (HQ6.out.stay hb7) (HR6.out.stay hb7) (show w7.heap[w6.heap.size]? = some (.cells (c6.cells ++ PC.cells ⟨1, 0, 0, 0, 0, .slice none 0 0⟩).toArray 24 (0, 0)) from ha) (.inr (by omega)))
    have HB7 := Lib.hid (HB6.out.below hb7)
    have HD7 := Lib.hid (HD6.out.stay hb7)
    have HP7 : Hid (∀ j, j < 6 → w7.cell? ⟨g, o + j, none⟩ = (PC.cells ⟨p0, p1, p2, p3, p4, .slice pa pn pcap⟩)[j]?) := fun j hj => (hb7.cell (p := ⟨g, o + j, none⟩) (by have := HGS.out; show g < w6.heap.size; omega)).trans (HP6.out j hj)
    clear hW ha hz7 hb7 hz6 HQ6 HR6 HB6 HD6 HP6
    refine hK.out _ _ ⟨⟨HD7.out.box, HB7.out⟩, HP7⟩ (fun hHeld => ?_)
    clear hK K hHeld
    refine wpq_one 8 (by kernel_rfl) rfl (fun K hK => ?_)
    go_simp
    refine (cat_any _ [dq, .mk 1 0 0 0 0 []] _ w7 HL7.out (by simp)).mono ?_
    rintro e w8 ⟨c8, rfl, hq8, hb8⟩
    have hz7 : w.heap.size + 2 ≤ w7.heap.size := HD7.out.ret.lt
    have HD8 := Lib.hid (HD7.out.stay hb8)
    have HB8 := Lib.hid (HB7.out.below hb8)
    have HP8 : Hid (∀ j, j < 6 → w8.cell? ⟨g, o + j, none⟩ = (PC.cells ⟨p0, p1, p2, p3, p4, .slice pa pn pcap⟩)[j]?) := fun j hj => (hb8.cell (p := ⟨g, o + j, none⟩) (by have := HGS.out; show g < w7.heap.size; omega)).trans (HP7.out j hj)
    have HQ8 := Lib.hid (hq8.mono (M := fun g => (N g ∧ g < w.heap.size) ∨ w.heap.size + 2 ≤ g) (fun g hg _ => by rcases hg with hg | hg; exact hg; exact .inr (by omega)))
    obtain ⟨fa, fcap, hfa⟩ := hq8.rd.forms
    rw [← HQ.out] at HQ8
    generalize (catD [dq, .mk 1 0 0 0 0 []] []).args.length = fl at *
    obtain ⟨q0, q1, q2, q3, q4, q5⟩ := c8
    simp only at hfa
    subst hfa
    clear hq8 hb8 hz7 hdq HL7 HB7 HD7 HP7
    refine hK.out _ _ ⟨⟨HD8.out.box, HB8.out⟩, HP8⟩ (fun hHeld => ?_)
    clear hK K hHeld HB8 HP8
    refine wpq_end 9 (by kernel_rfl) rfl (by kernel_rfl) (fun K hK => ?_)
    obtain ⟨z0, z1, z2, z3, z4, z5⟩ := HD8.out.ret.cells
    obtain ⟨y0, y1, y2, y3, y4, y5⟩ := HD8.out.ret.free
    simp only at z0 z1 z2 z3 z4 z5
    simp only [aggP]
    go_simp
    generalize hW : World.setCell _ _ _ = w9
    obtain ⟨hbx, hok⟩ := RetP.fin2 (N := N) HD8.out.ret HD8.out.bel HQ8.out hW
    clear hW
    refine hK.out _ _ ?_
    clear hK K
    refine wpq_done (by kernel_rfl) ?_ _
    go_simp
    go_wp2_with fail
    obtain ⟨s0, s1, s2, s3, s4, s5⟩ := hbx.cells
    refine bodyPost_ret (v := aggP ⟨q0, q1, q2, q3, q4, .slice fa fl fcap⟩) (by simp only at s0 s1 s2 s3 s4 s5; simp [results, Tryd.results38, go_sem, s0, s1, s2, s3, s4, s5]; try rfl) rfl ?_
    exact hok
  by_cases h2 : 1 < c4
  · have HQ := Lib.hid (show derR b (d + 1) (.mk 5 c1 c2 c3 c4 [q]) = catD [derR b d q, .mk 5 c1 c2 m3 (c4 - 1) [q]] [] from by simp [derR, repD, h0, h1, h2, HMX.out])
    have hwr2 : IntKind.i64.wrap (c4 - 1) = c4 - 1 := IntWalk.i64_in _ (by omega)
    go_upto_region 36 with fail
    generalize hW : World.setCell w4 _ _ = w5
    obtain ⟨hx1, hx2, hot⟩ := HB4.out.set4 (c4 - 1) hW
    have HBX := Lib.hid hx1
    have hz := HZ.out
    have hgs := HGS.out
    have HDX := Lib.hid (show DerS ⟨5, c1, c2, c3, c4, .slice (some ⟨g, o, none⟩) 1 lcap⟩ w w5 from ⟨(hot _ (by omega)).trans HD4.out.box, (hot _ (by omega)).trans HD4.out.ret, HD4.out.bel.trans (hx2.mono (by omega))⟩)
    have HRX := Lib.hid (HRD.out.keep (w' := w5) (fun x hx _ => hot x (by omega)))
    have HPX : Hid (∀ j, j < 6 → w5.cell? ⟨g, o + j, none⟩ = (PC.cells ⟨p0, p1, p2, p3, p4, .slice pa pn pcap⟩)[j]?) := fun j hj => (hx2.cell (p := ⟨g, o + j, none⟩) (by show g < w2.heap.size; omega)).trans (HP6.out j hj)
    have HRRX := Lib.hid (((HLL.out.node 5 c1 c2 m3 (c4 - 1)).stay HDX.out.bel).mono (M := fun g => (N g ∧ g < w.heap.size) ∨ w.heap.size + 2 ≤ g) (fun g h _ => .inl h))
    clear hW hot hx1 hx2 HB4 HD4 HRD HP6 t0 t1 t2 t3 t4 t5 x0 x1 x2 x3 x4 x5 y0 y1 y2 y3 y4 y5 hz hgs HLL
    refine wpq_region (fun w' => (BoxP w.heap.size ⟨5, c1, c2, c3, c4, .slice (some ⟨g, o, none⟩) 1 lcap⟩ w' ∧ BoxP w2.heap.size ⟨5, c1, c2, m3, c4 - 1, .slice (some ⟨g, o, none⟩) 1 lcap⟩ w') ∧ Hid (∀ j, j < 6 → w'.cell? ⟨g, o + j, none⟩ = (PC.cells ⟨p0, p1, p2, p3, p4, .slice pa pn pcap⟩)[j]?)) 9 (by kernel_rfl) ⟨⟨HDX.out.box, HBX.out⟩, HPX⟩ (fun hHeld => ?_)
    have hbd : Below w5.heap.size w5 w5.drew := below_drewN (Below.refl _ _) 1
    replace HBX := Lib.hid (HBX.out.below hbd)
    replace HDX := Lib.hid (HDX.out.stay hbd)
    replace HRX := Lib.hid (HRX.out.stay hbd)
    replace HRRX := Lib.hid (HRRX.out.stay hbd)
    clear hbd HPX
    generalize w5.drew = wd at *
    refine wpq_take 0 (some 117) [1, 2, 3, 5, 7, 8, 9] rfl rfl (by kernel_rfl) (by kernel_rfl) (by kernel_rfl) (by kernel_rfl) (fun _ _ _ h => h) (Or.inl ⟨by rfl, fun w hSw => by (obtain ⟨x0, x1, x2, x3, x4, x5⟩ := BoxP.cells hSw.1.1; obtain ⟨y0, y1, y2, y3, y4, y5⟩ := BoxP.cells hSw.1.2; obtain ⟨z0, z1, z2, z3, z4, z5⟩ := cells6 hSw.2.out; simp only at x0 x1 x2 x3 x4 x5 y0 y1 y2 y3 y4 y5 z0 z1 z2 z3 z4 z5; go_simp; with_reducible rfl)⟩) hHeld ?_
    simp only [Act.put, List.setIfInBounds_toArray, List.set_cons_zero, List.set_cons_succ]
    refine wpq_take 1 (some 118) [2, 3, 5, 7, 8, 9] rfl rfl (by kernel_rfl) (by kernel_rfl) (by kernel_rfl) (by kernel_rfl) (fun _ _ _ h => h) (Or.inl ⟨by rfl, fun w hSw => by (obtain ⟨x0, x1, x2, x3, x4, x5⟩ := BoxP.cells hSw.1.1; obtain ⟨y0, y1, y2, y3, y4, y5⟩ := BoxP.cells hSw.1.2; obtain ⟨z0, z1, z2, z3, z4, z5⟩ := cells6 hSw.2.out; simp only at x0 x1 x2 x3 x4 x5 y0 y1 y2 y3 y4 y5 z0 z1 z2 z3 z4 z5; go_simp; with_reducible rfl)⟩) hHeld ?_
    simp only [Act.put, List.setIfInBounds_toArray, List.set_cons_zero, List.set_cons_succ]
    refine wpq_take 2 (some 119) [3, 5, 7, 8, 9] rfl rfl (by kernel_rfl) (by kernel_rfl) (by kernel_rfl) (by kernel_rfl) (fun _ _ _ h => h) (Or.inl ⟨by rfl, fun w hSw => by (obtain ⟨x0, x1, x2, x3, x4, x5⟩ := BoxP.cells hSw.1.1; obtain ⟨y0, y1, y2, y3, y4, y5⟩ := BoxP.cells hSw.1.2; obtain ⟨z0, z1, z2, z3, z4, z5⟩ := cells6 hSw.2.out; simp only at x0 x1 x2 x3 x4 x5 y0 y1 y2 y3 y4 y5 z0 z1 z2 z3 z4 z5; go_simp; with_reducible rfl)⟩) hHeld ?_
    simp only [Act.put, List.setIfInBounds_toArray, List.set_cons_zero, List.set_cons_succ]
    refine wpq_take 3 (some 120) [5, 7, 8, 9] rfl rfl (by kernel_rfl) (by kernel_rfl) (by kernel_rfl) (by kernel_rfl) (fun _ _ _ h => h) (Or.inl ⟨by rfl, fun w hSw => by (obtain ⟨x0, x1, x2, x3, x4, x5⟩ := BoxP.cells hSw.1.1; obtain ⟨y0, y1, y2, y3, y4, y5⟩ := BoxP.cells hSw.1.2; obtain ⟨z0, z1, z2, z3, z4, z5⟩ := cells6 hSw.2.out; simp only at x0 x1 x2 x3 x4 x5 y0 y1 y2 y3 y4 y5 z0 z1 z2 z3 z4 z5; go_simp; with_reducible rfl)⟩) hHeld ?_
    simp only [Act.put, List.setIfInBounds_toArray, List.set_cons_zero, List.set_cons_succ]
    refine wpq_take 4 (some 121) [5, 7, 8, 9] rfl rfl (by kernel_rfl) (by kernel_rfl) (by kernel_rfl) (by kernel_rfl) (fun _ _ _ h => h) (Or.inl ⟨by rfl, fun w hSw => by (obtain ⟨x0, x1, x2, x3, x4, x5⟩ := BoxP.cells hSw.1.1; obtain ⟨y0, y1, y2, y3, y4, y5⟩ := BoxP.cells hSw.1.2; obtain ⟨z0, z1, z2, z3, z4, z5⟩ := cells6 hSw.2.out; simp only at x0 x1 x2 x3 x4 x5 y0 y1 y2 y3 y4 y5 z0 z1 z2 z3 z4 z5; go_simp; with_reducible rfl)⟩) hHeld ?_
    simp only [Act.put, List.setIfInBounds_toArray, List.set_cons_zero, List.set_cons_succ]
    refine wpq_take 6 (some 123) [7, 8, 9] rfl rfl (by kernel_rfl) (by kernel_rfl) (by kernel_rfl) (by kernel_rfl) (fun _ _ _ h => h) (Or.inl ⟨by rfl, fun w hSw => by (obtain ⟨x0, x1, x2, x3, x4, x5⟩ := BoxP.cells hSw.1.1; obtain ⟨y0, y1, y2, y3, y4, y5⟩ := BoxP.cells hSw.1.2; obtain ⟨z0, z1, z2, z3, z4, z5⟩ := cells6 hSw.2.out; simp only at x0 x1 x2 x3 x4 x5 y0 y1 y2 y3 y4 y5 z0 z1 z2 z3 z4 z5; go_simp; with_reducible rfl)⟩) hHeld ?_
    simp only [Act.put, List.setIfInBounds_toArray, List.set_cons_zero, List.set_cons_succ]
    refine wpq_one 5 (by kernel_rfl) rfl (fun K hK => ?_)
    go_simp
    refine (HIH.out _ q ⟨p0, p1, p2, p3, p4, .slice pa pn pcap⟩ wd HRX.out HSQ.out HCQ.out).mono ?_
    rintro e w6 ⟨c6, rfl, hq6, hb6⟩
    have hz5 := HDX.out.ret.lt
    have HB6 := Lib.hid (HBX.out.below hb6)
    have HD6 := Lib.hid (HDX.out.stay hb6)
    have HR6 := Lib.hid (HRRX.out.stay hb6)
    have HQ6 := Lib.hid (hq6.mono (M := fun g => (N g ∧ g < w.heap.size) ∨ w.heap.size + 2 ≤ g) (fun g hg _ => by rcases hg with hg | hg; exact .inl hg; exact .inr (by omega)))
    have HP6 : Hid (∀ j, j < 6 → w6.cell? ⟨g, o + j, none⟩ = (PC.cells ⟨p0, p1, p2, p3, p4, .slice pa pn pcap⟩)[j]?) := fun j hj => (hb6.cell (p := ⟨g, o + j, none⟩) (by have := HGS.out; show g < wd.heap.size; omega)).trans (hHeld.2.out j hj)
    generalize hdq : derR b d q = dq at *
    clear hq6 hHeld HBX HDX HRRX HRX hz5
    refine hK.out _ _ ⟨⟨HD6.out.box, HB6.out⟩, HP6⟩ (fun hHeld => ?_)
    clear hK K hHeld
    refine wpq_one 7 (by kernel_rfl) rfl (fun K hK => ?_)
    go_simp
    generalize hW : World.alloc w6 _ = w7
    obtain ⟨ha, -, hz7, hb7⟩ := alloc_of hW
    have hz6 : w.heap.size + 2 ≤ w6.heap.size := HD6.out.ret.lt
    have HL7 := Lib.hid (pair_rd (N := fun g => (N g ∧ g < w.heap.size) ∨ w.heap.size + 2 ≤ g) (m := w6.heap.size) (HQ6.out.stay hb7) (HR6.out.stay hb7) (show w7.heap[w6.heap.size]? = some (.cells (c6.cells ++ PC.cells ⟨5, c1, c2, m3, c4 - 1, .slice (some ⟨g, o, none⟩) 1 lcap⟩).toArray 24 (0, 0)) from ha) (.inr (by omega)))
    have HB7 := Lib.hid (HB6.out.below hb7)
    have HD7 := Lib.hid (HD6.out.stay hb7)
    have HP7 : Hid (∀ j, j < 6 → w7.cell? ⟨g, o + j, none⟩ = (PC.cells ⟨p0, p1, p2, p3, p4, .slice pa pn pcap⟩)[j]?) := fun j hj => (hb7.cell (p := ⟨g, o + j, none⟩) (by have := HGS.out; show g < w6.heap.size; omega)).trans (HP6.out j hj)
    clear hW ha hz7 hb7 hz6 HQ6 HR6 HB6 HD6 HP6
    refine hK.out _ _ ⟨⟨HD7.out.box, HB7.out⟩, HP7⟩ (fun hHeld => ?_)
    clear hK K hHeld
    refine wpq_one 8 (by kernel_rfl) rfl (fun K hK => ?_)
    go_simp
    refine (cat_any _ [dq, .mk 5 c1 c2 m3 (c4 - 1) [q]] _ w7 HL7.out (by simp)).mono ?_
    rintro e w8 ⟨c8, rfl, hq8, hb8⟩
    have hz7 : w.heap.size + 2 ≤ w7.heap.size := HD7.out.ret.lt
    have HD8 := Lib.hid (HD7.out.stay hb8)
    have HB8 := Lib.hid (HB7.out.below hb8)
    have HP8 : Hid (∀ j, j < 6 → w8.cell? ⟨g, o + j, none⟩ = (PC.cells ⟨p0, p1, p2, p3, p4, .slice pa pn pcap⟩)[j]?) := fun j hj => (hb8.cell (p := ⟨g, o + j, none⟩) (by have := HGS.out; show g < w7.heap.size; omega)).trans (HP7.out j hj)
    have HQ8 := Lib.hid (hq8.mono (M := fun g => (N g ∧ g < w.heap.size) ∨ w.heap.size + 2 ≤ g) (fun g hg _ => by rcases hg with hg | hg; exact hg; exact .inr (by omega)))
    obtain ⟨fa, fcap, hfa⟩ := hq8.rd.forms
    rw [← HQ.out] at HQ8
    generalize (catD [dq, .mk 5 c1 c2 m3 (c4 - 1) [q]] []).args.length = fl at *
    obtain ⟨q0, q1, q2, q3, q4, q5⟩ := c8
    simp only at hfa
    subst hfa
    clear hq8 hb8 hz7 hdq HL7 HB7 HD7 HP7
    refine hK.out _ _ ⟨⟨HD8.out.box, HB8.out⟩, HP8⟩ (fun hHeld => ?_)
    clear hK K hHeld HB8 HP8
    refine wpq_end 9 (by kernel_rfl) rfl (by kernel_rfl) (fun K hK => ?_)
    obtain ⟨z0, z1, z2, z3, z4, z5⟩ := HD8.out.ret.cells
    obtain ⟨y0, y1, y2, y3, y4, y5⟩ := HD8.out.ret.free
    simp only at z0 z1 z2 z3 z4 z5
    simp only [aggP]
    go_simp
    generalize hW : World.setCell _ _ _ = w9
    obtain ⟨hbx, hok⟩ := RetP.fin2 (N := N) HD8.out.ret HD8.out.bel HQ8.out hW
    clear hW
    refine hK.out _ _ ?_
    clear hK K
    refine wpq_done (by kernel_rfl) ?_ _
    go_simp
    go_wp2_with fail
    obtain ⟨s0, s1, s2, s3, s4, s5⟩ := hbx.cells
    refine bodyPost_ret (v := aggP ⟨q0, q1, q2, q3, q4, .slice fa fl fcap⟩) (by simp only at s0 s1 s2 s3 s4 s5; simp [results, Tryd.results38, go_sem, s0, s1, s2, s3, s4, s5]; try rfl) rfl ?_
    exact hok
  · have h3 : c4 = -1 := by omega
    subst h3
    have HQ := Lib.hid (show derR b (d + 1) (.mk 5 c1 c2 c3 (-1) [q]) = catD [derR b d q, .mk 5 c1 c2 m3 (-1) [q]] [] from by simp [derR, repD, HMX.out])
    have HBX := HB4
    have HDX := HD4
    have HRX := HRD
    have HPX := HP6
    have HRRX := Lib.hid (((HLL.out.node 5 c1 c2 m3 (-1)).stay HDX.out.bel).mono (M := fun g => (N g ∧ g < w.heap.size) ∨ w.heap.size + 2 ≤ g) (fun g h _ => .inl h))
    clear HB4 HD4 HRD HP6 HLL
    go_upto_region 36 with fail
    refine wpq_region (fun w' => (BoxP w.heap.size ⟨5, c1, c2, c3, (-1), .slice (some ⟨g, o, none⟩) 1 lcap⟩ w' ∧ BoxP w2.heap.size ⟨5, c1, c2, m3, -1, .slice (some ⟨g, o, none⟩) 1 lcap⟩ w') ∧ Hid (∀ j, j < 6 → w'.cell? ⟨g, o + j, none⟩ = (PC.cells ⟨p0, p1, p2, p3, p4, .slice pa pn pcap⟩)[j]?)) 9 (by kernel_rfl) ⟨⟨HDX.out.box, HBX.out⟩, HPX⟩ (fun hHeld => ?_)
    have hbd : Below w4.heap.size w4 w4.drew := below_drewN (Below.refl _ _) 1
    replace HBX := Lib.hid (HBX.out.below hbd)
    replace HDX := Lib.hid (HDX.out.stay hbd)
    replace HRX := Lib.hid (HRX.out.stay hbd)
    replace HRRX := Lib.hid (HRRX.out.stay hbd)
    clear hbd HPX
    generalize w4.drew = wd at *
    refine wpq_take 0 (some 117) [1, 2, 3, 5, 7, 8, 9] rfl rfl (by kernel_rfl) (by kernel_rfl) (by kernel_rfl) (by kernel_rfl) (fun _ _ _ h => h) (Or.inl ⟨by rfl, fun w hSw => by (obtain ⟨x0, x1, x2, x3, x4, x5⟩ := BoxP.cells hSw.1.1; obtain ⟨y0, y1, y2, y3, y4, y5⟩ := BoxP.cells hSw.1.2; obtain ⟨z0, z1, z2, z3, z4, z5⟩ := cells6 hSw.2.out; simp only at x0 x1 x2 x3 x4 x5 y0 y1 y2 y3 y4 y5 z0 z1 z2 z3 z4 z5; go_simp; with_reducible rfl)⟩) hHeld ?_
    simp only [Act.put, List.setIfInBounds_toArray, List.set_cons_zero, List.set_cons_succ]
    refine wpq_take 1 (some 118) [2, 3, 5, 7, 8, 9] rfl rfl (by kernel_rfl) (by kernel_rfl) (by kernel_rfl) (by kernel_rfl) (fun _ _ _ h => h) (Or.inl ⟨by rfl, fun w hSw => by (obtain ⟨x0, x1, x2, x3, x4, x5⟩ := BoxP.cells hSw.1.1; obtain ⟨y0, y1, y2, y3, y4, y5⟩ := BoxP.cells hSw.1.2; obtain ⟨z0, z1, z2, z3, z4, z5⟩ := cells6 hSw.2.out; simp only at x0 x1 x2 x3 x4 x5 y0 y1 y2 y3 y4 y5 z0 z1 z2 z3 z4 z5; go_simp; with_reducible rfl)⟩) hHeld ?_
    simp only [Act.put, List.setIfInBounds_toArray, List.set_cons_zero, List.set_cons_succ]
    refine wpq_take 2 (some 119) [3, 5, 7, 8, 9] rfl rfl (by kernel_rfl) (by kernel_rfl) (by kernel_rfl) (by kernel_rfl) (fun _ _ _ h => h) (Or.inl ⟨by rfl, fun w hSw => by (obtain ⟨x0, x1, x2, x3, x4, x5⟩ := BoxP.cells hSw.1.1; obtain ⟨y0, y1, y2, y3, y4, y5⟩ := BoxP.cells hSw.1.2; obtain ⟨z0, z1, z2, z3, z4, z5⟩ := cells6 hSw.2.out; simp only at x0 x1 x2 x3 x4 x5 y0 y1 y2 y3 y4 y5 z0 z1 z2 z3 z4 z5; go_simp; with_reducible rfl)⟩) hHeld ?_
    simp only [Act.put, List.setIfInBounds_toArray, List.set_cons_zero, List.set_cons_succ]
    refine wpq_take 3 (some 120) [5, 7, 8, 9] rfl rfl (by kernel_rfl) (by kernel_rfl) (by kernel_rfl) (by kernel_rfl) (fun _ _ _ h => h) (Or.inl ⟨by rfl, fun w hSw => by (obtain ⟨x0, x1, x2, x3, x4, x5⟩ := BoxP.cells hSw.1.1; obtain ⟨y0, y1, y2, y3, y4, y5⟩ := BoxP.cells hSw.1.2; obtain ⟨z0, z1, z2, z3, z4, z5⟩ := cells6 hSw.2.out; simp only at x0 x1 x2 x3 x4 x5 y0 y1 y2 y3 y4 y5 z0 z1 z2 z3 z4 z5; go_simp; with_reducible rfl)⟩) hHeld ?_
    simp only [Act.put, List.setIfInBounds_toArray, List.set_cons_zero, List.set_cons_succ]
    refine wpq_take 4 (some 121) [5, 7, 8, 9] rfl rfl (by kernel_rfl) (by kernel_rfl) (by kernel_rfl) (by kernel_rfl) (fun _ _ _ h => h) (Or.inl ⟨by rfl, fun w hSw => by (obtain ⟨x0, x1, x2, x3, x4, x5⟩ := BoxP.cells hSw.1.1; obtain ⟨y0, y1, y2, y3, y4, y5⟩ := BoxP.cells hSw.1.2; obtain ⟨z0, z1, z2, z3, z4, z5⟩ := cells6 hSw.2.out; simp only at x0 x1 x2 x3 x4 x5 y0 y1 y2 y3 y4 y5 z0 z1 z2 z3 z4 z5; go_simp; with_reducible rfl)⟩) hHeld ?_
    simp only [Act.put, List.setIfInBounds_toArray, List.set_cons_zero, List.set_cons_succ]
    refine wpq_take 6 (some 123) [7, 8, 9] rfl rfl (by kernel_rfl) (by kernel_rfl) (by kernel_rfl) (by kernel_rfl) (fun _ _ _ h => h) (Or.inl ⟨by rfl, fun w hSw => by (obtain ⟨x0, x1, x2, x3, x4, x5⟩ := BoxP.cells hSw.1.1; obtain ⟨y0, y1, y2, y3, y4, y5⟩ := BoxP.cells hSw.1.2; obtain ⟨z0, z1, z2, z3, z4, z5⟩ := cells6 hSw.2.out; simp only at x0 x1 x2 x3 x4 x5 y0 y1 y2 y3 y4 y5 z0 z1 z2 z3 z4 z5; go_simp; with_reducible rfl)⟩) hHeld ?_
    simp only [Act.put, List.setIfInBounds_toArray, List.set_cons_zero, List.set_cons_succ]
    refine wpq_one 5 (by kernel_rfl) rfl (fun K hK => ?_)
    go_simp
    refine (HIH.out _ q ⟨p0, p1, p2, p3, p4, .slice pa pn pcap⟩ wd HRX.out HSQ.out HCQ.out).mono ?_
    rintro e w6 ⟨c6, rfl, hq6, hb6⟩
    have hz5 := HDX.out.ret.lt
    have HB6 := Lib.hid (HBX.out.below hb6)
    have HD6 := Lib.hid (HDX.out.stay hb6)
    have HR6 := Lib.hid (HRRX.out.stay hb6)
    have HQ6 := Lib.hid (hq6.mono (M := fun g => (N g ∧ g < w.heap.size) ∨ w.heap.size + 2 ≤ g) (fun g hg _ => by rcases hg with hg | hg; exact .inl hg; exact .inr (by omega)))
    have HP6 : Hid (∀ j, j < 6 → w6.cell? ⟨g, o + j, none⟩ = (PC.cells ⟨p0, p1, p2, p3, p4, .slice pa pn pcap⟩)[j]?) := fun j hj => (hb6.cell (p := ⟨g, o + j, none⟩) (by have := HGS.out; show g < wd.heap.size; omega)).trans (hHeld.2.out j hj)
    generalize hdq : derR b d q = dq at *
    clear hq6 hHeld HBX HDX HRRX HRX hz5
    refine hK.out _ _ ⟨⟨HD6.out.box, HB6.out⟩, HP6⟩ (fun hHeld => ?_)
    clear hK K hHeld
    refine wpq_one 7 (by kernel_rfl) rfl (fun K hK => ?_)
    go_simp
    generalize hW : World.alloc w6 _ = w7
    obtain ⟨ha, -, hz7, hb7⟩ := alloc_of hW
    have hz6 : w.heap.size + 2 ≤ w6.heap.size := HD6.out.ret.lt
    have HL7 := Lib.hid (pair_rd (N := fun g => (N g ∧ g < w.heap.size) ∨ w.heap.size + 2 ≤ g) (m := w6.heap.size) (HQ6.out.stay hb7) (HR6.out.stay hb7) (show w7.heap[w6.heap.size]? = some (.cells (c6.cells ++ PC.cells ⟨5, c1, c2, m3, -1, .slice (some ⟨g, o, none⟩) 1 lcap⟩).toArray 24 (0, 0)) from ha) (.inr (by omega)))
    have HB7 := Lib.hid (HB6.out.below hb7)
    have HD7 := Lib.hid (HD6.out.stay hb7)
    have HP7 : Hid (∀ j, j < 6 → w7.cell? ⟨g, o + j, none⟩ = (PC.cells ⟨p0, p1, p2, p3, p4, .slice pa pn pcap⟩)[j]?) := fun j hj => (hb7.cell (p := ⟨g, o + j, none⟩) (by have := HGS.out; show g < w6.heap.size; omega)).trans (HP6.out j hj)
    clear hW ha hz7 hb7 hz6 HQ6 HR6 HB6 HD6 HP6
    refine hK.out _ _ ⟨⟨HD7.out.box, HB7.out⟩, HP7⟩ (fun hHeld => ?_)
    clear hK K hHeld
    refine wpq_one 8 (by kernel_rfl) rfl (fun K hK => ?_)
    go_simp
    refine (cat_any _ [dq, .mk 5 c1 c2 m3 (-1) [q]] _ w7 HL7.out (by simp)).mono ?_
    rintro e w8 ⟨c8, rfl, hq8, hb8⟩
    have hz7 : w.heap.size + 2 ≤ w7.heap.size := HD7.out.ret.lt
    have HD8 := Lib.hid (HD7.out.stay hb8)
    have HB8 := Lib.hid (HB7.out.below hb8)
    have HP8 : Hid (∀ j, j < 6 → w8.cell? ⟨g, o + j, none⟩ = (PC.cells ⟨p0, p1, p2, p3, p4, .slice pa pn pcap⟩)[j]?) := fun j hj => (hb8.cell (p := ⟨g, o + j, none⟩) (by have := HGS.out; show g < w7.heap.size; omega)).trans (HP7.out j hj)
    have HQ8 := Lib.hid (hq8.mono (M := fun g => (N g ∧ g < w.heap.size) ∨ w.heap.size + 2 ≤ g) (fun g hg _ => by rcases hg with hg | hg; exact hg; exact .inr (by omega)))
    obtain ⟨fa, fcap, hfa⟩ := hq8.rd.forms
    rw [← HQ.out] at HQ8
    generalize (catD [dq, .mk 5 c1 c2 m3 (-1) [q]] []).args.length = fl at *
    obtain ⟨q0, q1, q2, q3, q4, q5⟩ := c8
    simp only at hfa
    subst hfa
    clear hq8 hb8 hz7 hdq HL7 HB7 HD7 HP7
    refine hK.out _ _ ⟨⟨HD8.out.box, HB8.out⟩, HP8⟩ (fun hHeld => ?_)
    clear hK K hHeld HB8 HP8
    refine wpq_end 9 (by kernel_rfl) rfl (by kernel_rfl) (fun K hK => ?_)
    obtain ⟨z0, z1, z2, z3, z4, z5⟩ := HD8.out.ret.cells
    obtain ⟨y0, y1, y2, y3, y4, y5⟩ := HD8.out.ret.free
    simp only at z0 z1 z2 z3 z4 z5
    simp only [aggP]
    go_simp
    generalize hW : World.setCell _ _ _ = w9
    obtain ⟨hbx, hok⟩ := RetP.fin2 (N := N) HD8.out.ret HD8.out.bel HQ8.out hW
    clear hW
    refine hK.out _ _ ?_
    clear hK K
    refine wpq_done (by kernel_rfl) ?_ _
    go_simp
    go_wp2_with fail
    obtain ⟨s0, s1, s2, s3, s4, s5⟩ := hbx.cells
    refine bodyPost_ret (v := aggP ⟨q0, q1, q2, q3, q4, .slice fa fl fcap⟩) (by simp only at s0 s1 s2 s3 s4 s5; simp [results, Tryd.results38, go_sem, s0, s1, s2, s3, s4, s5]; try rfl) rfl ?_
    exact hok

end Go.Proofs.YtggolmamacoplaaDoor

namespace Go.Proofs.YtggolmamacoplaaDoor
open Go.RowKit Go.Shelf
set_option maxHeartbeats 4000000
set_option maxRecDepth 100000

theorem der_all (b : Int) : ∀ d, DerC b d
  | 0 => fun _ p _ _ _ h _ => by cases h
  | d + 1 => by
    intro N p c w hp hsn hcn
    have IH := der_all b d
    obtain ⟨op, lo, hi, mn, mx, l⟩ := p
    have hf := (snd_node hsn).1
    have hop : op = 0 ∨ op = 1 ∨ op = 2 ∨ op = 3 ∨ op = 4 ∨ op = 5 ∨ op = 6 ∨ op = 7 := by
      unfold formR at hf
      split at hf
      · omega
      split at hf
      · omega
      split at hf
      · omega
      split at hf
      · omega
      split at hf
      · omega
      · cases hf
    rcases hop with rfl | rfl | rfl | rfl | rfl | rfl | rfl | rfl
    · exact der_op0 b d N lo hi mn mx l c w hp hsn hcn
    · exact der_op1 b d N lo hi mn mx l c w hp hsn hcn
    · exact der_op2 b d N lo hi mn mx l c w hp hsn hcn
    · exact der_op3 b d IH N lo hi mn mx l c w hp hsn hcn
    · exact der_op4 b d IH N lo hi mn mx l c w hp hsn hcn
    · exact der_op5 b d IH N lo hi mn mx l c w hp hsn hcn
    · exact der_op6 b d IH N lo hi mn mx l c w hp hsn hcn
    · exact der_op7 b d IH N lo hi mn mx l c w hp hsn hcn
/-- What regex.Derive hands back. -/
def RetF (p : RX) (w : World) (e : Ending) (w' : World) : Prop := ∃ c, e = .returned (aggP c) ∧ RdP w' c p ∧ Below w.heap.size w w'
theorem RetF.fin {w0 w w4 : World} {d z : PC} {p : RX} (hx : BoxP (w0.heap.size + 1) z w) (hb : Below w0.heap.size w0 w) (hd : RdQ (fun g => g ≠ w0.heap.size + 1) w d p)
    (he : ((((((w.setCell ⟨w0.heap.size + 1, 0, none⟩ (.int .i64 d.op)).setCell ⟨w0.heap.size + 1, 1, none⟩ (.int .i64 d.lo)).setCell ⟨w0.heap.size + 1, 2, none⟩ (.int .i64 d.hi)).setCell ⟨w0.heap.size + 1, 3, none⟩ (.int .i64 d.mn)).setCell ⟨w0.heap.size + 1, 4, none⟩ (.int .i64 d.mx)).setCell ⟨w0.heap.size + 1, 5, none⟩ d.a) = w4) :
    BoxP (w0.heap.size + 1) d w4 ∧ RetF p w0 (.returned (aggP d)) w4 := by
  obtain ⟨b1, b2⟩ := hx.set he
  have ho := set6_other he
  exact ⟨b1, d, rfl, (hd.keep (w' := w4) (fun x hx _ => ho x hx)).rd, hb.trans (b2.mono (by omega))⟩
theorem Derive_any (p : RX) (b : Int) (c : PC) (w : World) (hp : RdP w c p) (hcn : valR p = true → cntN 48 p ≤ 1000000) (hsz : dervR p b = derR b 48 p → SizeOf.sizeOf (derR b 48 p) < 1000000000) :
    Calls Tryd.prog 18 #[aggP c, .int .i64 b] w (RetF (dervR p b) w) := by
  have HP := Lib.hid hp
  have HCN := Lib.hid hcn
  have HSZ := Lib.hid hsz
  have HV : Hid (valR p = true → sndR 48 p = true) := by
    intro h
    unfold valR at h
    rw [Bool.and_eq_true] at h
    exact h.1
  have HDV : Hid (dervR p b = if valR p = false ∨ b < 0 ∨ 255 < b then nonR else derR b 48 p) := rfl
  obtain ⟨la, lcap, hla⟩ := hp.forms
  obtain ⟨c0, c1, c2, c3, c4, c5⟩ := c
  simp only at hla
  generalize p.args.length = n at *
  subst hla
  simp only [aggP]
  clear hp hcn hsz
  go_enter Tryd.func18, Tryd.ntmps18
  go_upto_region 1 with fail
  generalize hW : World.alloc w _ = w1
  obtain ⟨ha, -, hz1, hb1⟩ := alloc_of hW
  generalize hW2 : World.alloc w1 _ = w2
  obtain ⟨ha2, -, hz2, hb2⟩ := alloc_of hW2
  rw [hz1] at ha2
  have HD := Lib.hid (show DerS ⟨c0, c1, c2, c3, c4, .slice la n lcap⟩ w w2 from ⟨(hb2.block _ (by omega)).trans ha, ha2, hb1.trans (hb2.mono hb1.size)⟩)
  clear hW ha hz1 hb1 hW2 ha2 hz2 hb2
  obtain ⟨t0, t1, t2, t3, t4, t5⟩ := HD.out.box.cells
  simp only at t0 t1 t2 t3 t4 t5
  go_wp2_with fail
  refine (PValid_any p _ w2 (HP.out.stays HD.out.bel)).mono ?_
  rintro e w3 ⟨rfl, hb3⟩
  have HD3 := Lib.hid (HD.out.stay hb3)
  clear hb3 HD t0 t1 t2 t3 t4 t5
  obtain ⟨t0, t1, t2, t3, t4, t5⟩ := HD3.out.box.cells
  simp only at t0 t1 t2 t3 t4 t5
  by_cases hok : valR p = true ∧ ¬ b < 0 ∧ ¬ 255 < b
  case neg =>
    have HQ : Hid (dervR p b = nonR) := by
      unfold Hid
      rw [HDV.out, if_pos]
      by_cases h1 : valR p = true
      · by_cases h2 : b < 0
        · exact .inr (.inl h2)
        · exact .inr (.inr (Classical.byContradiction fun h3 => hok ⟨h1, h2, h3⟩))
      · exact .inl (by simpa using h1)
    obtain ⟨v, hv⟩ : ∃ v, v = valR p := ⟨_, rfl⟩
    rw [← hv] at hok ⊢
    clear hv
    cases v with
    | false =>
      clear hok
      go_wp2_with fail
      refine (none_any w3).mono ?_
      rintro e w8 ⟨rfl, hb8⟩
      have HD8 := Lib.hid (HD3.out.stay hb8)
      clear hb8
      obtain ⟨z0, z1, z2, z3, z4, z5⟩ := HD8.out.ret.cells
      obtain ⟨y0, y1, y2, y3, y4, y5⟩ := HD8.out.ret.free
      simp only at z0 z1 z2 z3 z4 z5
      simp only [aggP, zeroP]
      go_wp2_with fail
      generalize hW : World.setCell _ _ _ = w9
      obtain ⟨hbx, hok⟩ := RetF.fin (d := zeroP 0) HD8.out.ret HD8.out.bel (zero_rd _ 0 _) hW
      obtain ⟨s0, s1, s2, s3, s4, s5⟩ := hbx.cells
      refine bodyPost_ret (v := aggP (zeroP 0)) (by simp only [zeroP] at s0 s1 s2 s3 s4 s5; simp [results, Tryd.results18, go_sem, zeroP, s0, s1, s2, s3, s4, s5]) rfl ?_
      rw [HQ.out]
      exact hok
    | true =>
      by_cases h2 : b < 0
      · clear hok
        go_wp2_with fail
        refine (none_any w3).mono ?_
        rintro e w8 ⟨rfl, hb8⟩
        have HD8 := Lib.hid (HD3.out.stay hb8)
        clear hb8
        obtain ⟨z0, z1, z2, z3, z4, z5⟩ := HD8.out.ret.cells
        obtain ⟨y0, y1, y2, y3, y4, y5⟩ := HD8.out.ret.free
        simp only at z0 z1 z2 z3 z4 z5
        simp only [aggP, zeroP]
        go_wp2_with fail
        generalize hW : World.setCell _ _ _ = w9
        obtain ⟨hbx, hok⟩ := RetF.fin (d := zeroP 0) HD8.out.ret HD8.out.bel (zero_rd _ 0 _) hW
        obtain ⟨s0, s1, s2, s3, s4, s5⟩ := hbx.cells
        refine bodyPost_ret (v := aggP (zeroP 0)) (by simp only [zeroP] at s0 s1 s2 s3 s4 s5; simp [results, Tryd.results18, go_sem, zeroP, s0, s1, s2, s3, s4, s5]) rfl ?_
        rw [HQ.out]
        exact hok
      · have h3 : 255 < b := Classical.byContradiction fun h3 => hok ⟨rfl, h2, h3⟩
        clear hok
        go_wp2_with fail
        refine (none_any w3).mono ?_
        rintro e w8 ⟨rfl, hb8⟩
        have HD8 := Lib.hid (HD3.out.stay hb8)
        clear hb8
        obtain ⟨z0, z1, z2, z3, z4, z5⟩ := HD8.out.ret.cells
        obtain ⟨y0, y1, y2, y3, y4, y5⟩ := HD8.out.ret.free
        simp only at z0 z1 z2 z3 z4 z5
        simp only [aggP, zeroP]
        go_wp2_with fail
        generalize hW : World.setCell _ _ _ = w9
        obtain ⟨hbx, hok⟩ := RetF.fin (d := zeroP 0) HD8.out.ret HD8.out.bel (zero_rd _ 0 _) hW
        obtain ⟨s0, s1, s2, s3, s4, s5⟩ := hbx.cells
        refine bodyPost_ret (v := aggP (zeroP 0)) (by simp only [zeroP] at s0 s1 s2 s3 s4 s5; simp [results, Tryd.results18, go_sem, zeroP, s0, s1, s2, s3, s4, s5]) rfl ?_
        rw [HQ.out]
        exact hok
  case pos =>
    obtain ⟨hv, h2, h3⟩ := hok
    have HQ : Hid (dervR p b = derR b 48 p) := by
      unfold Hid
      rw [HDV.out, if_neg]
      rintro (h | h | h)
      · rw [hv] at h
        cases h
      · exact h2 h
      · exact h3 h
    have HC := Lib.hid (der_all b 48 _ p _ w3 (HP.out.stays HD3.out.bel).q (HV.out hv) (HCN.out hv))
    rw [hv]
    clear hv HCN HV HDV
    go_wp2_with fail
    refine HC.out.mono ?_
    rintro e w4 ⟨c4', rfl, hq4, hb4⟩
    have HD4 := Lib.hid (HD3.out.stay hb4)
    have HCL := Lib.hid (clone_any _ _ c4' w4 (Nat.le_refl _) (HSZ.out HQ.out) hq4.rd)
    rw [← HQ.out] at HCL
    clear hq4 hb4 HC t0 t1 t2 t3 t4 t5 HD3
    go_wp2_with fail
    refine HCL.out.mono ?_
    rintro e w8 ⟨c8, rfl, hq8, hb8⟩
    have HD8 := Lib.hid (HD4.out.stay hb8)
    have hl4 := HD4.out.ret.lt
    have HQ8 := Lib.hid (hq8.mono (M := fun g => g ≠ w.heap.size + 1) (fun g hg _ => by omega))
    obtain ⟨fa, fcap, hfa⟩ := hq8.rd.forms
    generalize (dervR p b).args.length = fl at *
    obtain ⟨q0, q1, q2, q3, q4, q5⟩ := c8
    simp only at hfa
    subst hfa
    simp only [aggP]
    clear hq8 hb8 hl4
    obtain ⟨z0, z1, z2, z3, z4, z5⟩ := HD8.out.ret.cells
    obtain ⟨y0, y1, y2, y3, y4, y5⟩ := HD8.out.ret.free
    simp only at z0 z1 z2 z3 z4 z5
    go_wp2_with fail
    generalize hW : World.setCell _ _ _ = w9
    obtain ⟨hbx, hok⟩ := RetF.fin HD8.out.ret HD8.out.bel HQ8.out hW
    obtain ⟨s0, s1, s2, s3, s4, s5⟩ := hbx.cells
    refine bodyPost_ret (v := aggP ⟨q0, q1, q2, q3, q4, .slice fa fl fcap⟩) (by simp only at s0 s1 s2 s3 s4 s5; simp [results, Tryd.results18, go_sem, s0, s1, s2, s3, s4, s5]; try rfl) rfl ?_
    exact hok
end Go.Proofs.YtggolmamacoplaaDoor

namespace Go.Proofs.YtggolmamacoplaaDoor
open Go.RowKit Go.Shelf
set_option maxHeartbeats 4000000
set_option maxRecDepth 100000

/-- The parts of a literal. -/
def litP (l : List UInt8) : List RX := l.map fun c => rngR c.toNat c.toNat
theorem litP_take (l : List UInt8) (k : Nat) (h : k < l.length) : (litP l).take (k + 1) = (litP l).take k ++ [rngR l[k].toNat l[k].toNat] := by
  have h2 : k < (litP l).length := by simpa [litP] using h
  rw [List.take_succ_eq_append_getElem h2]
  simp [litP]
theorem lit_join (l : List UInt8) (h : l ≠ []) : litR l = joinP 3 (litP l) := by
  match l, h with
  | [a], _ => rfl
  | a :: b :: t, _ => rfl
theorem join_ne (op : Int) (l : List RX) (h : ¬ l.length = 1) : joinP op l = .mk op 0 0 0 0 l := by
  match l, h with
  | [], _ => rfl
  | [a], h => exact absurd rfl h
  | a :: b :: t, _ => rfl
theorem lit_ne (l : List UInt8) (h0 : ¬ l.length = 0) (h1 : ¬ l.length = 1) : litR l = .mk 3 0 0 0 0 (litP l) := by
  match l, h0, h1 with
  | [], h0, _ => exact absurd rfl h0
  | [a], _, h1 => exact absurd rfl h1
  | a :: b :: t, _, _ => exact lit_many a b t
theorem rng_rdq (N : Nat → Prop) (w : World) (b : Nat) : RdQ N w ⟨2, (b : Int), (b : Int), 0, 0, .slice none 0 0⟩ (rngR b b) :=
  .mk 2 b b 0 0 [] _ (fun _ => ⟨0, 0, 0, 0, 0, .slice none 0 0⟩) SlX.nil (fun h => absurd h (Nat.lt_irrefl _)) (fun _ h => absurd h (Nat.not_lt_zero _))
theorem RetP.f {N : Nat → Prop} {p : RX} {w w' : World} {e : Ending} (h : RetP N p w e w') : RetF p w e w' := by
  obtain ⟨c, he, hq, hb⟩ := h
  exact ⟨c, he, hq.rd, hb⟩
theorem Literal_any (s : ByteArray) (hs : s.size ≤ 1000000) (w : World) : Calls Tryd.prog 24 #[.string s] w (RetF (litR (L s)) w) := by
  have hsi : (s.size : Int) ≤ 1000000 := by omega
  go_enter Tryd.func24, Tryd.ntmps24
  go_upto_region 2 with fail
  generalize hW : World.alloc w _ = w1
  obtain ⟨ha, -, hz1, hb1⟩ := alloc_of hW
  generalize hW2 : World.alloc w1 _ = w2
  obtain ⟨ha2, -, hz2, hb2⟩ := alloc_of hW2
  rw [hz1] at ha2
  have HG0 := Lib.hid (show GrS (fun _ => False) 3 w w2 (.slice none 0 0) [] [] from ⟨(hb2.block _ (by omega)).trans ha, ha2, OwnP.nil _ _ _, hb1.trans (hb2.mono hb1.size)⟩)
  clear hW ha hz1 hb1 hW2 ha2 hz2 hb2
  go_wp2_with fail
  go_loopw [4, 8] (fun _ iv wr => ∃ (k : Nat) (A : Option Addr) (cap : Nat) (cs : List PC), k ≤ s.size ∧ iv = .int .i64 (k : Int) ∧ Hid (cs.length = k) ∧ Hid (GrS (fun _ => False) 3 w wr (.slice A k cap) cs ((litP (L s)).take k))) (fun _ iv _ => s.size - (intOf iv).toNat)
  case atStart => exact ⟨0, none, 0, [], Nat.zero_le _, rfl, rfl, HG0.out⟩
  case round =>
    clear HG0
    obtain ⟨k, A, cap, cs, hk, rfl, HLEN, HG⟩ := hrel
    have hLE := HLEN.out
    subst hLE
    by_cases hlt : cs.length < s.size
    case pos =>
      have hlti : (cs.length : Int) < s.size := by omega
      have HTK := Lib.hid (litP_take (L s) cs.length (by rw [L_len]; exact hlt))
      have hge : (L s)[cs.length]'(by rw [L_len]; exact hlt) = s[cs.length] := L_get s cs.length hlt
      rw [hge] at HTK
      have hb8 : s[cs.length].toNat < 256 := s[cs.length].toNat_lt
      have hwr : IntKind.i64.wrap (s[cs.length].toNat : Int) = (s[cs.length].toNat : Int) := IntWalk.i64_in _ (by omega)
      have HGd := Lib.hid (HG.out.stay (drewBn wr))
      clear hge
      go_upto_region 5 with fail
      have hS0 : BoxP (w.heap.size + 1) ⟨3, 0, 0, 0, 0, .slice A cs.length cap⟩ wr.drew := HGd.out.box
      refine wpq_region (fun w' => BoxP (w.heap.size + 1) ⟨3, 0, 0, 0, 0, .slice A cs.length cap⟩ w') 14 (by kernel_rfl) hS0 (fun hHeld => ?_)
      clear hS0 HG
      generalize wr.drew = wd at *
      refine wpq_take 0 (some 11) [14] rfl rfl (by kernel_rfl) (by kernel_rfl) (by kernel_rfl) (by kernel_rfl) (fun _ _ _ h => h) (Or.inl ⟨by rfl, fun w hSw => by (obtain ⟨x0, x1, x2, x3, x4, x5⟩ := BoxP.cells hSw; simp only at x0 x1 x2 x3 x4 x5; go_simp; with_reducible rfl)⟩) hHeld ?_
      simp only [Act.put, List.setIfInBounds_toArray, List.set_cons_zero, List.set_cons_succ]
      refine wpq_take 1 (some 12) [14] rfl rfl (by kernel_rfl) (by kernel_rfl) (by kernel_rfl) (by kernel_rfl) (fun _ _ _ h => h) (Or.inl ⟨by rfl, fun w hSw => by (obtain ⟨x0, x1, x2, x3, x4, x5⟩ := BoxP.cells hSw; simp only at x0 x1 x2 x3 x4 x5; go_simp; with_reducible rfl)⟩) hHeld ?_
      simp only [Act.put, List.setIfInBounds_toArray, List.set_cons_zero, List.set_cons_succ]
      refine wpq_take 2 (some 13) [14] rfl rfl (by kernel_rfl) (by kernel_rfl) (by kernel_rfl) (by kernel_rfl) (fun _ _ _ h => h) (Or.inl ⟨by rfl, fun w hSw => by (obtain ⟨x0, x1, x2, x3, x4, x5⟩ := BoxP.cells hSw; simp only at x0 x1 x2 x3 x4 x5; go_simp; with_reducible rfl)⟩) hHeld ?_
      simp only [Act.put, List.setIfInBounds_toArray, List.set_cons_zero, List.set_cons_succ]
      refine wpq_take 3 (some 14) [14] rfl rfl (by kernel_rfl) (by kernel_rfl) (by kernel_rfl) (by kernel_rfl) (fun _ _ _ h => h) (Or.inl ⟨by rfl, fun w hSw => by (obtain ⟨x0, x1, x2, x3, x4, x5⟩ := BoxP.cells hSw; simp only at x0 x1 x2 x3 x4 x5; go_simp; with_reducible rfl)⟩) hHeld ?_
      simp only [Act.put, List.setIfInBounds_toArray, List.set_cons_zero, List.set_cons_succ]
      refine wpq_take 4 (some 15) [14] rfl rfl (by kernel_rfl) (by kernel_rfl) (by kernel_rfl) (by kernel_rfl) (fun _ _ _ h => h) (Or.inl ⟨by rfl, fun w hSw => by (obtain ⟨x0, x1, x2, x3, x4, x5⟩ := BoxP.cells hSw; simp only at x0 x1 x2 x3 x4 x5; go_simp; with_reducible rfl)⟩) hHeld ?_
      simp only [Act.put, List.setIfInBounds_toArray, List.set_cons_zero, List.set_cons_succ]
      refine wpq_take 5 (some 16) [14] rfl rfl (by kernel_rfl) (by kernel_rfl) (by kernel_rfl) (by kernel_rfl) (fun _ _ _ h => h) (Or.inl ⟨by rfl, fun w hSw => by (obtain ⟨x0, x1, x2, x3, x4, x5⟩ := BoxP.cells hSw; simp only at x0 x1 x2 x3 x4 x5; go_simp; with_reducible rfl)⟩) hHeld ?_
      simp only [Act.put, List.setIfInBounds_toArray, List.set_cons_zero, List.set_cons_succ]
      refine wpq_take 6 (some 17) [14] rfl rfl (by kernel_rfl) (by kernel_rfl) (by kernel_rfl) (by kernel_rfl) (fun _ _ _ h => h) (Or.inl ⟨by rfl, fun w hSw => by (obtain ⟨x0, x1, x2, x3, x4, x5⟩ := BoxP.cells hSw; simp only at x0 x1 x2 x3 x4 x5; go_simp; with_reducible rfl)⟩) hHeld ?_
      simp only [Act.put, List.setIfInBounds_toArray, List.set_cons_zero, List.set_cons_succ]
      refine wpq_take 7 (some 18) [14] rfl rfl (by kernel_rfl) (by kernel_rfl) (by kernel_rfl) (by kernel_rfl) (fun _ _ _ h => h) (Or.inl ⟨by rfl, fun w hSw => by (obtain ⟨x0, x1, x2, x3, x4, x5⟩ := BoxP.cells hSw; simp only at x0 x1 x2 x3 x4 x5; go_simp; with_reducible rfl)⟩) hHeld ?_
      simp only [Act.put, List.setIfInBounds_toArray, List.set_cons_zero, List.set_cons_succ]
      refine wpq_take 8 (some 19) [14] rfl rfl (by kernel_rfl) (by kernel_rfl) (by kernel_rfl) (by kernel_rfl) (fun _ _ _ h => h) (Or.inl ⟨by rfl, fun w hSw => by (obtain ⟨x0, x1, x2, x3, x4, x5⟩ := BoxP.cells hSw; simp only at x0 x1 x2 x3 x4 x5; go_simp; with_reducible rfl)⟩) hHeld ?_
      simp only [Act.put, List.setIfInBounds_toArray, List.set_cons_zero, List.set_cons_succ]
      refine wpq_take 9 (some 20) [14] rfl rfl (by kernel_rfl) (by kernel_rfl) (by kernel_rfl) (by kernel_rfl) (fun _ _ _ h => h) (Or.inl ⟨by rfl, fun w hSw => by (obtain ⟨x0, x1, x2, x3, x4, x5⟩ := BoxP.cells hSw; simp only at x0 x1 x2 x3 x4 x5; go_simp; with_reducible rfl)⟩) hHeld ?_
      simp only [Act.put, List.setIfInBounds_toArray, List.set_cons_zero, List.set_cons_succ]
      refine wpq_take 10 (some 21) [14] rfl rfl (by kernel_rfl) (by kernel_rfl) (by kernel_rfl) (by kernel_rfl) (fun _ _ _ h => h) (Or.inl ⟨by rfl, fun w hSw => by (obtain ⟨x0, x1, x2, x3, x4, x5⟩ := BoxP.cells hSw; simp only at x0 x1 x2 x3 x4 x5; go_simp; with_reducible rfl)⟩) hHeld ?_
      simp only [Act.put, List.setIfInBounds_toArray, List.set_cons_zero, List.set_cons_succ]
      refine wpq_one 11 (by kernel_rfl) rfl (fun K hK => ?_)
      go_simp
      have hb7 : Below wd.heap.size wd (wd.alloc (.cells (PC.cells ⟨2, (s[cs.length].toNat : Int), (s[cs.length].toNat : Int), 0, 0, .slice none 0 0⟩).toArray 24)) := (Below.refl _ _).alloc (Nat.le_refl _) _
      refine hK.out _ _ (hHeld.below hb7) (fun hHeld => ?_)
      clear hK K hHeld hb7
      refine wpq_one 12 (by kernel_rfl) rfl (fun K hK => ?_)
      refine step_pushP (N := fun g => False ∧ g < w.heap.size) (B := w.heap.size + 2) (c := ⟨2, (s[cs.length].toNat : Int), (s[cs.length].toNat : Int), 0, 0, .slice none 0 0⟩) (p := rngR s[cs.length].toNat s[cs.length].toNat) (v := .slice A cs.length cap) (cs := cs) (ps := (litP (L s)).take cs.length) rfl _ _ rfl HGd.out.own (rng_rdq _ _ _) rfl rfl rfl ?hn ?hb ?_
      case hn => omega
      case hb => have := HGd.out.box.lt; omega
      rintro v' w7 hown hg ⟨A2, cap2, rfl⟩ hat
      have HPU := Lib.hid (HGd.out.push hown hg)
      rw [← HTK.out] at HPU
      have hc5 := HPU.out.1.cells.2.2.2.2.2
      have hf5 := HPU.out.1.free.2.2.2.2.2
      clear hown hg hat
      simp only at hc5
      refine hK.out _ _ HPU.out.1 (fun hHeld => ?_)
      clear hK K
      refine wpq_take 13 (some 24) [14] rfl rfl (by kernel_rfl) (by kernel_rfl) (by kernel_rfl) (by kernel_rfl) (fun _ _ _ h => h) (Or.inl ⟨by rfl, fun w hSw => by (obtain ⟨x0, x1, x2, x3, x4, x5⟩ := BoxP.cells hSw; simp only at x0 x1 x2 x3 x4 x5; go_simp; with_reducible rfl)⟩) hHeld ?_
      simp only [Act.put, List.setIfInBounds_toArray, List.set_cons_zero, List.set_cons_succ]
      refine wpq_end 14 (by kernel_rfl) rfl (by kernel_rfl) (fun K hK => ?_)
      go_simp
      refine hK.out _ _ ?_
      clear hK K
      refine wpq_done (by kernel_rfl) ?_ _
      go_simp
      go_wp2_with fail
      exact ⟨⟨cs.length + 1, A2, cap2, cs ++ [_], by omega, by simp, by simp [Hid], HPU.out.2⟩, by simp [intOf]; omega⟩
    case neg =>
      have hgei : ¬ (cs.length : Int) < s.size := by omega
      have hle : cs.length = s.size := by omega
      have HPS : Hid ((litP (L s)).take cs.length = litP (L s)) := List.take_of_length_le (by rw [hle]; simp [litP, L_len])
      rw [HPS.out] at HG
      have HL := Lib.hid hle
      obtain ⟨k0, k1, k2, k3, k4, k5⟩ := HG.out.box.cells
      obtain ⟨z0, z1, z2, z3, z4, z5⟩ := HG.out.ret.cells
      obtain ⟨y0, y1, y2, y3, y4, y5⟩ := HG.out.ret.free
      simp only at k0 k1 k2 k3 k4 k5 z0 z1 z2 z3 z4 z5
      clear hlt
      by_cases h0 : s.size = 0
      · have e0 : ((s.size : Int) == 0) = true := by rw [h0]; rfl
        have HLI : Hid (litR (L s) = empR) := by
          have : L s = [] := List.eq_nil_of_length_eq_zero (by rw [L_len]; exact h0)
          unfold Hid
          rw [this]
          rfl
        clear hle
        go_wp2_with fail
        refine (empty_any wr).mono ?_
        rintro e w8 ⟨rfl, hb8⟩
        have HG8 := Lib.hid (HG.out.stay hb8)
        clear hb8 k0 k1 k2 k3 k4 k5 z0 z1 z2 z3 z4 z5 y0 y1 y2 y3 y4 y5
        obtain ⟨z0, z1, z2, z3, z4, z5⟩ := HG8.out.ret.cells
        obtain ⟨y0, y1, y2, y3, y4, y5⟩ := HG8.out.ret.free
        simp only at z0 z1 z2 z3 z4 z5
        simp only [aggP, zeroP]
        go_wp2_with fail
        generalize hW : World.setCell _ _ _ = w9
        obtain ⟨hbx, hok⟩ := RetP.fin (N := fun _ => False) (d := zeroP 1) HG8.out.ret HG8.out.bel (zero_rd _ 1 _) hW
        obtain ⟨s0, s1, s2, s3, s4, s5⟩ := hbx.cells
        refine bodyPost_ret (v := aggP (zeroP 1)) (by simp only [zeroP] at s0 s1 s2 s3 s4 s5; simp [results, Tryd.results24, go_sem, zeroP, s0, s1, s2, s3, s4, s5]) rfl ?_
        rw [HLI.out]
        exact hok.f
      by_cases h1 : s.size = 1
      · have e0 : ((s.size : Int) == 0) = false := beq_false_of_ne (by omega)
        have e1 : ((s.size : Int) == 1) = true := by rw [h1]; rfl
        have hpl : 0 < (litP (L s)).length := by simp [litP, L_len]; omega
        have HLI : Hid (litR (L s) = (litP (L s))[0]) := by
          have hl : (L s).length = 1 := by rw [L_len]; exact h1
          obtain ⟨a, ha⟩ := List.length_eq_one_iff.1 hl
          unfold Hid
          simp [ha, litP, litR]
        obtain ⟨g, o, n2, cap2, c, hv, hob, hn2, hgl, hc6, hrq⟩ := HG.out.own.part 0 hpl
        cases hv
        have HRQ := Lib.hid (hrq.mono (M := fun g => (False ∧ g < w.heap.size) ∨ w.heap.size + 1 ≤ g) (fun g h _ => absurd h.1.1 id))
        rw [← HLI.out] at HRQ
        clear HLI
        obtain ⟨pa, pcap, hpa⟩ := HRQ.out.rd.forms
        generalize litR (L s) = q at *
        generalize q.args.length = pn at *
        obtain ⟨p0, p1, p2, p3, p4, p5⟩ := c
        simp only at hpa
        subst hpa
        obtain ⟨b0, b1, b2, b3, b4, b5⟩ := cells6 hc6
        simp only [Nat.zero_mul, Nat.add_zero] at b0 b1 b2 b3 b4 b5
        have hl1 : (0 : Int) < (cs.length : Int) := by omega
        clear hle hpl hob hgl hc6 hrq
        go_wp2_with fail
        generalize hW : World.setCell _ _ _ = w9
        obtain ⟨hbx, hok⟩ := RetP.fin (N := fun _ => False) (d := ⟨p0, p1, p2, p3, p4, .slice pa pn pcap⟩) HG.out.ret HG.out.bel HRQ.out hW
        obtain ⟨s0, s1, s2, s3, s4, s5⟩ := hbx.cells
        refine bodyPost_ret (v := aggP ⟨p0, p1, p2, p3, p4, .slice pa pn pcap⟩) (by simp only at s0 s1 s2 s3 s4 s5; simp [results, Tryd.results24, go_sem, s0, s1, s2, s3, s4, s5]) rfl ?_
        exact hok.f
      · have e0 : ((s.size : Int) == 0) = false := beq_false_of_ne (by omega)
        have e1 : ((s.size : Int) == 1) = false := beq_false_of_ne (by omega)
        have HLI := Lib.hid (lit_ne (L s) (by rw [L_len]; exact h0) (by rw [L_len]; exact h1))
        clear hle
        go_wp2_with fail
        generalize hW : World.setCell _ _ _ = w9
        obtain ⟨hbx, hok⟩ := RetP.fin (N := fun _ => False) (d := ⟨3, 0, 0, 0, 0, .slice A cs.length cap⟩) HG.out.ret HG.out.bel HG.out.node hW
        obtain ⟨s0, s1, s2, s3, s4, s5⟩ := hbx.cells
        refine bodyPost_ret (v := aggP ⟨3, 0, 0, 0, 0, .slice A cs.length cap⟩) (by simp only at s0 s1 s2 s3 s4 s5; simp [results, Tryd.results24, go_sem, s0, s1, s2, s3, s4, s5]) rfl ?_
        rw [HLI.out]
        exact hok.f
theorem joined_any (N : Nat → Prop) (op : Int) (l : List RX) (lv : Value) (w : World) (hl : RdL N w lv l) : Calls Tryd.prog 46 #[.int .i64 op, lv] w (RetP N (joinP op l) w) := by
  obtain ⟨la, lcap, rfl, l1, l2⟩ := hl.form
  have HL := Lib.hid hl
  have hm : (l.length : Int) ≤ 9223372036854775807 := by simp only [maxLen] at l2; omega
  clear hl l1 l2
  go_enter Tryd.func46, Tryd.ntmps46
  go_upto_region 1 with fail
  generalize hW : World.alloc w _ = w1
  obtain ⟨ha, -, hz1, hb1⟩ := alloc_of hW
  have HX := Lib.hid (show BoxP w.heap.size ⟨0, 0, 0, 0, 0, .slice none 0 0⟩ w1 from ha)
  have HB := Lib.hid hb1
  clear hW ha hz1 hb1
  obtain ⟨z0, z1, z2, z3, z4, z5⟩ := HX.out.cells
  obtain ⟨y0, y1, y2, y3, y4, y5⟩ := HX.out.free
  simp only at z0 z1 z2 z3 z4 z5
  by_cases h1 : l.length = 1
  · have e1 : ((l.length : Int) == 1) = true := by rw [h1]; rfl
    obtain ⟨q, rfl⟩ := List.length_eq_one_iff.1 h1
    obtain ⟨g, o, c, rfl, hc6, hrq⟩ := RdL.part HL.out HB.out 0 (by simp)
    have HRQ := Lib.hid (hrq.mono (M := fun g => (N g ∧ g < w.heap.size) ∨ w.heap.size + 1 ≤ g) (fun g h _ => .inl h))
    rw [show ([q] : List RX)[0] = q from rfl] at HRQ
    obtain ⟨pa, pcap, hpa⟩ := HRQ.out.rd.forms
    have HJ : Hid (joinP op [q] = q) := rfl
    generalize joinP op [q] = J at *
    generalize q.args.length = pn at *
    obtain ⟨p0, p1, p2, p3, p4, p5⟩ := c
    simp only at hpa
    subst hpa
    obtain ⟨b0, b1, b2, b3, b4, b5⟩ := cells6 hc6
    simp only [Nat.zero_mul, Nat.add_zero] at b0 b1 b2 b3 b4 b5
    rw [show ([q] : List RX).length = 1 from rfl] at *
    clear h1 hc6 hrq e1 hm
    go_wp2_with fail
    generalize hW : World.setCell _ _ _ = w9
    obtain ⟨hbx, hok⟩ := RetP.fin (N := N) (d := ⟨p0, p1, p2, p3, p4, .slice pa pn pcap⟩) HX.out HB.out HRQ.out hW
    obtain ⟨s0, s1, s2, s3, s4, s5⟩ := hbx.cells
    refine bodyPost_ret (v := aggP ⟨p0, p1, p2, p3, p4, .slice pa pn pcap⟩) (by simp only at s0 s1 s2 s3 s4 s5; simp [results, Tryd.results46, go_sem, s0, s1, s2, s3, s4, s5]) rfl ?_
    rw [HJ.out]
    exact hok
  · have e1 : ((l.length : Int) == 1) = false := beq_false_of_ne (by omega)
    have HJ := Lib.hid (join_ne op l h1)
    have HN := Lib.hid ((((HL.out.node op 0 0 0 0).mono (M := fun g => N g ∧ g < w.heap.size) (fun g h1 h2 => ⟨h1, h2⟩)).stay HB.out).mono (M := fun g => (N g ∧ g < w.heap.size) ∨ w.heap.size + 1 ≤ g) (fun g h _ => .inl h))
    clear h1
    go_wp2_with fail
    generalize hW : World.setCell _ _ _ = w9
    obtain ⟨hbx, hok⟩ := RetP.fin (N := N) (d := ⟨op, 0, 0, 0, 0, .slice la l.length lcap⟩) HX.out HB.out HN.out hW
    obtain ⟨s0, s1, s2, s3, s4, s5⟩ := hbx.cells
    refine bodyPost_ret (v := aggP ⟨op, 0, 0, 0, 0, .slice la l.length lcap⟩) (by simp only at s0 s1 s2 s3 s4 s5; simp [results, Tryd.results46, go_sem, s0, s1, s2, s3, s4, s5]) rfl ?_
    rw [HJ.out]
    exact hok
theorem RLiteral_any (s : ByteArray) (hs : s.size ≤ 1000000) (w : World) : Calls Tryd.prog 25 #[.string s] w (RetF (litR (L s)) w) := by
  have hsi : (s.size : Int) ≤ 1000000 := by omega
  have hte : s.toList = L s := toList_L s
  go_enter Tryd.func25, Tryd.ntmps25
  go_upto_region 1 with fail
  generalize hW : World.alloc w _ = w1
  obtain ⟨ha, -, hz1, hb1⟩ := alloc_of hW
  have HX := Lib.hid (show BoxP w.heap.size ⟨0, 0, 0, 0, 0, .slice none 0 0⟩ w1 from ha)
  have HB := Lib.hid hb1
  clear hW ha hz1 hb1
  obtain ⟨z0, z1, z2, z3, z4, z5⟩ := HX.out.cells
  obtain ⟨y0, y1, y2, y3, y4, y5⟩ := HX.out.free
  simp only at z0 z1 z2 z3 z4 z5
  by_cases h0 : s.size = 0
  · have hn : L s = [] := List.eq_nil_of_length_eq_zero (by rw [L_len]; exact h0)
    have he : s.toList.isEmpty = true := by rw [hte, hn]; rfl
    have HLI : Hid (litR (L s) = empR) := by
      unfold Hid
      rw [hn]
      rfl
    clear hte hn h0
    go_wp2_with fail
    generalize hW : World.setCell _ _ _ = w9
    obtain ⟨hbx, hok⟩ := RetP.fin (N := fun _ => False) (d := zeroP 1) HX.out HB.out (zero_rd _ 1 _) hW
    obtain ⟨s0, s1, s2, s3, s4, s5⟩ := hbx.cells
    refine bodyPost_ret (v := aggP (zeroP 1)) (by simp only [zeroP] at s0 s1 s2 s3 s4 s5; simp [results, Tryd.results25, go_sem, zeroP, s0, s1, s2, s3, s4, s5]) rfl ?_
    rw [HLI.out]
    exact hok.f
  · have hne : L s ≠ [] := fun h => h0 (by rw [← L_len, h]; rfl)
    have he : s.toList.isEmpty = false := by
      rw [hte]
      cases hl : L s with
      | nil => exact absurd hl hne
      | cons a t => rfl
    have HLI := Lib.hid (lit_join (L s) hne)
    clear hte hne h0 z0 z1 z2 z3 z4 z5 y0 y1 y2 y3 y4 y5
    go_wp2_with fail
    go_loopw [3, 4] (fun lv iv wr => ∃ (k : Nat) (A : Option Addr) (cap : Nat) (cs : List PC), k ≤ s.size ∧ iv = .int .i64 (k : Int) ∧ lv = .slice A k cap ∧ Hid (cs.length = k) ∧ Hid (OwnP (fun g => w.heap.size < g) (w.heap.size + 1) wr (.slice A k cap) cs ((litP (L s)).take k) ∧ BoxP w.heap.size ⟨0, 0, 0, 0, 0, .slice none 0 0⟩ wr ∧ Below w.heap.size w wr)) (fun _ iv _ => s.size - (intOf iv).toNat)
    case atStart => exact ⟨0, none, 0, [], Nat.zero_le _, rfl, rfl, rfl, OwnP.nil _ _ _, HX.out, HB.out⟩
    case round =>
      clear HX HB
      obtain ⟨k, A, cap, cs, hk, rfl, rfl, HLEN, HO⟩ := hrel
      have hLE := HLEN.out
      subst hLE
      by_cases hlt : cs.length < s.size
      case pos =>
        have hlti : (cs.length : Int) < s.size := by omega
        have HTK := Lib.hid (litP_take (L s) cs.length (by rw [L_len]; exact hlt))
        have hge : (L s)[cs.length]'(by rw [L_len]; exact hlt) = s[cs.length] := L_get s cs.length hlt
        rw [hge] at HTK
        have hb8 : s[cs.length].toNat < 256 := s[cs.length].toNat_lt
        have hwr : IntKind.i64.wrap (s[cs.length].toNat : Int) = (s[cs.length].toNat : Int) := IntWalk.i64_in _ (by omega)
        have HOd := Lib.hid (show OwnP (fun g => w.heap.size < g) (w.heap.size + 1) wr.drew (.slice A cs.length cap) cs ((litP (L s)).take cs.length) ∧ BoxP w.heap.size ⟨0, 0, 0, 0, 0, .slice none 0 0⟩ wr.drew ∧ Below w.heap.size w wr.drew from ⟨HO.out.1.keep2 (fun g _ hg => (drewBn wr).block g hg), HO.out.2.1.below (drewBn wr), HO.out.2.2.trans ((drewBn wr).mono HO.out.2.2.size)⟩)
        clear hge
        go_upto_region 7 with fail
        refine wpq_region (fun _ => True) 12 (by kernel_rfl) trivial (fun hHeld => ?_)
        clear HO
        generalize wr.drew = wd at *
        refine wpq_take 0 (some 14) [12] rfl rfl (by kernel_rfl) (by kernel_rfl) (by kernel_rfl) (by kernel_rfl) (fun _ _ _ h => h) (Or.inl ⟨by rfl, fun w hSw => by (go_simp; with_reducible rfl)⟩) hHeld ?_
        simp only [Act.put, List.setIfInBounds_toArray, List.set_cons_zero, List.set_cons_succ]
        refine wpq_take 1 (some 15) [12] rfl rfl (by kernel_rfl) (by kernel_rfl) (by kernel_rfl) (by kernel_rfl) (fun _ _ _ h => h) (Or.inl ⟨by rfl, fun w hSw => by (go_simp; with_reducible rfl)⟩) hHeld ?_
        simp only [Act.put, List.setIfInBounds_toArray, List.set_cons_zero, List.set_cons_succ]
        refine wpq_take 2 (some 16) [12] rfl rfl (by kernel_rfl) (by kernel_rfl) (by kernel_rfl) (by kernel_rfl) (fun _ _ _ h => h) (Or.inl ⟨by rfl, fun w hSw => by (go_simp; with_reducible rfl)⟩) hHeld ?_
        simp only [Act.put, List.setIfInBounds_toArray, List.set_cons_zero, List.set_cons_succ]
        refine wpq_take 3 (some 17) [12] rfl rfl (by kernel_rfl) (by kernel_rfl) (by kernel_rfl) (by kernel_rfl) (fun _ _ _ h => h) (Or.inl ⟨by rfl, fun w hSw => by (go_simp; with_reducible rfl)⟩) hHeld ?_
        simp only [Act.put, List.setIfInBounds_toArray, List.set_cons_zero, List.set_cons_succ]
        refine wpq_take 4 (some 18) [12] rfl rfl (by kernel_rfl) (by kernel_rfl) (by kernel_rfl) (by kernel_rfl) (fun _ _ _ h => h) (Or.inl ⟨by rfl, fun w hSw => by (go_simp; with_reducible rfl)⟩) hHeld ?_
        simp only [Act.put, List.setIfInBounds_toArray, List.set_cons_zero, List.set_cons_succ]
        refine wpq_take 5 (some 19) [12] rfl rfl (by kernel_rfl) (by kernel_rfl) (by kernel_rfl) (by kernel_rfl) (fun _ _ _ h => h) (Or.inl ⟨by rfl, fun w hSw => by (go_simp; with_reducible rfl)⟩) hHeld ?_
        simp only [Act.put, List.setIfInBounds_toArray, List.set_cons_zero, List.set_cons_succ]
        refine wpq_take 6 (some 20) [12] rfl rfl (by kernel_rfl) (by kernel_rfl) (by kernel_rfl) (by kernel_rfl) (fun _ _ _ h => h) (Or.inl ⟨by rfl, fun w hSw => by (go_simp; with_reducible rfl)⟩) hHeld ?_
        simp only [Act.put, List.setIfInBounds_toArray, List.set_cons_zero, List.set_cons_succ]
        refine wpq_take 7 (some 21) [12] rfl rfl (by kernel_rfl) (by kernel_rfl) (by kernel_rfl) (by kernel_rfl) (fun _ _ _ h => h) (Or.inl ⟨by rfl, fun w hSw => by (go_simp; with_reducible rfl)⟩) hHeld ?_
        simp only [Act.put, List.setIfInBounds_toArray, List.set_cons_zero, List.set_cons_succ]
        refine wpq_take 8 (some 22) [12] rfl rfl (by kernel_rfl) (by kernel_rfl) (by kernel_rfl) (by kernel_rfl) (fun _ _ _ h => h) (Or.inl ⟨by rfl, fun w hSw => by (go_simp; with_reducible rfl)⟩) hHeld ?_
        simp only [Act.put, List.setIfInBounds_toArray, List.set_cons_zero, List.set_cons_succ]
        refine wpq_take 9 (some 23) [12] rfl rfl (by kernel_rfl) (by kernel_rfl) (by kernel_rfl) (by kernel_rfl) (fun _ _ _ h => h) (Or.inl ⟨by rfl, fun w hSw => by (go_simp; with_reducible rfl)⟩) hHeld ?_
        simp only [Act.put, List.setIfInBounds_toArray, List.set_cons_zero, List.set_cons_succ]
        refine wpq_one 10 (by kernel_rfl) rfl (fun K hK => ?_)
        go_simp
        refine hK.out _ _ trivial (fun hHeld => ?_)
        clear hK K hHeld
        refine wpq_one 11 (by kernel_rfl) rfl (fun K hK => ?_)
        refine step_pushP (N := fun g => w.heap.size < g) (B := w.heap.size + 1) (c := ⟨2, (s[cs.length].toNat : Int), (s[cs.length].toNat : Int), 0, 0, .slice none 0 0⟩) (p := rngR s[cs.length].toNat s[cs.length].toNat) (v := .slice A cs.length cap) (cs := cs) (ps := (litP (L s)).take cs.length) rfl _ _ rfl HOd.out.1 (rng_rdq _ _ _) rfl rfl rfl ?hn ?hb ?_
        case hn => omega
        case hb => have := HOd.out.2.1.lt; omega
        rintro v' w7 hown hg ⟨A2, cap2, rfl⟩ hat
        rw [← HTK.out] at hown
        have HO2 := Lib.hid (show OwnP (fun g => w.heap.size < g) (w.heap.size + 1) w7 (.slice A2 (cs.length + 1) cap2) _ _ ∧ BoxP w.heap.size ⟨0, 0, 0, 0, 0, .slice none 0 0⟩ w7 ∧ Below w.heap.size w w7 from ⟨hown, (hg.block _ HOd.out.2.1.lt (fun he => by have := (HOd.out.1.1.lt _ he.symm).1; omega)).trans HOd.out.2.1, HOd.out.2.2.trans ⟨hg.os, hg.tape, hg.output, hg.size, fun x hx => hg.block x (Nat.lt_of_lt_of_le hx HOd.out.2.2.size) (fun he => by have := (HOd.out.1.1.lt x he.symm).1; omega)⟩⟩)
        clear hown hg hat
        refine hK.out _ _ trivial (fun hHeld => ?_)
        clear hK K
        refine wpq_end 12 (by kernel_rfl) rfl (by kernel_rfl) (fun K hK => ?_)
        go_simp
        refine hK.out _ _ ?_
        clear hK K
        refine wpq_done (by kernel_rfl) ?_ _
        go_simp
        go_wp2_with fail
        exact ⟨⟨cs.length + 1, A2, cap2, cs ++ [_], by omega, by simp, rfl, by simp [Hid], HO2.out⟩, by simp [intOf]; omega⟩
      case neg =>
        have hgei : ¬ (cs.length : Int) < s.size := by omega
        have hle : cs.length = s.size := by omega
        have HPS : Hid ((litP (L s)).take cs.length = litP (L s)) := List.take_of_length_le (by rw [hle]; simp [litP, L_len])
        rw [HPS.out] at HO
        have HRL : Hid (RdL (fun g => w.heap.size < g) wr (.slice A cs.length cap) (litP (L s))) := HO.out.1.node2 (fun g hg => by have := (HO.out.1.1.lt g hg).1; omega) 0 0 0 0 0
        have HJ := Lib.hid (joined_any _ 3 _ _ wr HRL.out)
        rw [← HLI.out] at HJ
        clear hlt hle
        go_wp2_with fail
        refine HJ.out.mono ?_
        rintro e w8 ⟨d, rfl, hq, hb⟩
        have HX8 := Lib.hid (HO.out.2.1.below hb)
        have HB8 := Lib.hid (HO.out.2.2.trans (hb.mono HO.out.2.2.size))
        have HQ8 := Lib.hid (hq.mono (M := fun g => (False ∧ g < w.heap.size) ∨ w.heap.size + 1 ≤ g) (fun g h _ => .inr (by have := HO.out.2.1.lt; omega)))
        obtain ⟨fa, fcap, hfa⟩ := hq.rd.forms
        generalize litR (L s) = q at *
        generalize q.args.length = rn at *
        obtain ⟨q0, q1, q2, q3, q4, q5⟩ := d
        simp only at hfa
        subst hfa
        clear hb hq HO HRL HJ
        obtain ⟨z0, z1, z2, z3, z4, z5⟩ := HX8.out.cells
        obtain ⟨y0, y1, y2, y3, y4, y5⟩ := HX8.out.free
        simp only at z0 z1 z2 z3 z4 z5
        simp only [aggP]
        go_wp2_with fail
        generalize hW : World.setCell _ _ _ = w9
        obtain ⟨hbx, hok⟩ := RetP.fin (N := fun _ => False) (d := ⟨q0, q1, q2, q3, q4, .slice fa rn fcap⟩) HX8.out HB8.out HQ8.out hW
        obtain ⟨s0, s1, s2, s3, s4, s5⟩ := hbx.cells
        refine bodyPost_ret (v := aggP ⟨q0, q1, q2, q3, q4, .slice fa rn fcap⟩) (by simp only at s0 s1 s2 s3 s4 s5; simp [results, Tryd.results25, go_sem, s0, s1, s2, s3, s4, s5]) rfl ?_
        exact hok.f
end Go.Proofs.YtggolmamacoplaaDoor

namespace Go.Proofs.YtggolmamacoplaaDoor
open Go.RowKit Go.Shelf
set_option maxHeartbeats 4000000
set_option maxRecDepth 100000

theorem parse_yes (s : ByteArray) (p : RX) (w : World) (hs : s.size ≤ 100000000) (he : Env w) (h : parseR (L s) = some p) :
    Calls Tryd.prog 22 #[.string s] w fun e w' => ∃ (c0 c1 c2 c3 c4 : Int) (a : Option Addr) (cap : Nat), e = .returned (.tuple #[.agg #[.int .i64 c0, .int .i64 c1, .int .i64 c2, .int .i64 c3, .int .i64 c4, .slice a p.args.length cap], .int .i64 0]) ∧ RdP w' ⟨c0, c1, c2, c3, c4, .slice a p.args.length cap⟩ p ∧ Below w.heap.size w w' := by
  refine (Parse_any s w hs he).mono ?_
  rintro e w' ⟨hb, hm⟩
  rw [h] at hm
  obtain ⟨c, rfl, hq⟩ := hm
  obtain ⟨a, cap, ha⟩ := hq.rd.forms
  obtain ⟨c0, c1, c2, c3, c4, c5⟩ := c
  simp only at ha
  subst ha
  exact ⟨c0, c1, c2, c3, c4, a, cap, rfl, hq.rd, hb⟩
theorem parse_no (s : ByteArray) (w : World) (hs : s.size ≤ 100000000) (he : Env w) (h : (parseR (L s)).isNone = true) :
    Calls Tryd.prog 22 #[.string s] w fun e w' => e = .returned (.tuple #[.agg #[.int .i64 0, .int .i64 0, .int .i64 0, .int .i64 0, .int .i64 0, .slice none 0 0], .int .i64 3]) ∧ Below w.heap.size w w' := by
  refine (Parse_any s w hs he).mono ?_
  rintro e w' ⟨hb, hm⟩
  rw [Option.isNone_iff_eq_none.1 h] at hm
  exact ⟨hm, hb⟩
theorem derive_awQ (c : PC) (w : World) (hp : RdP w c awQ) :
    Calls Tryd.prog 18 #[aggP c, .int .i64 97] w fun e w' => ∃ (c0 c1 c2 c3 c4 : Int) (a : Option Addr) (cap : Nat), e = .returned (.agg #[.int .i64 c0, .int .i64 c1, .int .i64 c2, .int .i64 c3, .int .i64 c4, .slice a (dervR awQ 97).args.length cap]) ∧ RdP w' ⟨c0, c1, c2, c3, c4, .slice a (dervR awQ 97).args.length cap⟩ (dervR awQ 97) ∧ Below w.heap.size w w' := by
  refine (Derive_any awQ 97 c w hp (fun _ => by decide +kernel) (fun _ => by decide +kernel)).mono ?_
  rintro e w' ⟨c, rfl, hq, hb⟩
  obtain ⟨a, cap, ha⟩ := hq.forms
  obtain ⟨c0, c1, c2, c3, c4, c5⟩ := c
  simp only at ha
  subst ha
  exact ⟨c0, c1, c2, c3, c4, a, cap, rfl, hq, hb⟩
/-- What stands while awake looks. -/
structure AwS (b1 b9 : Nat) (c1 c9 : PC) (p q : RX) (w0 w : World) : Prop where
  x1 : BoxP b1 c1 w
  x9 : BoxP b9 c9 w
  r1 : RdP w c1 p
  r9 : RdP w c9 q
  bel : Below w0.heap.size w0 w
theorem AwS.stay {b1 b9 : Nat} {c1 c9 : PC} {p q : RX} {w0 w w' : World} (h : AwS b1 b9 c1 c9 p q w0 w) (hb : Below w.heap.size w w') : AwS b1 b9 c1 c9 p q w0 w' := ⟨h.x1.below hb, h.x9.below hb, h.r1.stays hb, h.r9.stays hb, h.bel.trans (hb.mono h.bel.size)⟩
theorem awake15_any (w : World) (hE : Env w) :
    Calls Tryd.prog 13 #[] w fun e w' => e = .returned (.bool true) ∧ Below w.heap.size w w' := by
  have H1 := Lib.hid (fun w' h => parse_yes ⟨#[97, 40, 98, 124, 99, 41, 42]⟩ awP w' (by decide) h aw_parse)
  have H2 := Lib.hid (fun w' h => parse_yes ⟨#[97, 98, 124, 97, 99]⟩ awQ w' (by decide) h aw_parseQ)
  have H3 := Lib.hid (fun w' h => parse_no ⟨#[97, 123, 48, 44, 125]⟩ w' (by decide) h aw_no1)
  have H4 := Lib.hid (fun w' h => parse_no ⟨#[40, 97, 41]⟩ w' (by decide) h aw_no2)
  have HD := Lib.hid derive_awQ
  have HT := Lib.hid (fun c w' (h : RdP w' c awP) => show Calls Tryd.prog 11 #[aggP c] w' fun e w'' => e = .returned (.string ⟨#[97, 40, 98, 124, 99, 41, 42]⟩) ∧ Below w'.heap.size w' w'' from by
    have := Text_any awP c w' h (fun _ => by decide +kernel)
    rw [aw_text] at this
    exact this)
  have HM := Lib.hid (fun (p : RX) (s : ByteArray) (b : Bool) (hs : s.size ≤ 1000000) (hm : matR p (L s) = b) c w' (h : RdP w' c p) => show Calls Tryd.prog 15 #[aggP c, .string s] w' fun e w'' => e = .returned (.bool b) ∧ Below w'.heap.size w' w'' from by
    have := Match_any s hs p c w' h
    rw [hm] at this
    exact this)
  have M1 := Lib.hid (HM.out awP ⟨#[97, 98, 99, 98]⟩ true (by decide) aw_mat.1)
  have M2 := Lib.hid (HM.out awP ⟨#[97, 98, 100]⟩ false (by decide) aw_mat.2)
  have M3 := Lib.hid (HM.out (dervR awQ 97) ⟨#[98]⟩ true (by decide) aw_der.1)
  have M4 := Lib.hid (HM.out (dervR awQ 97) ⟨#[99]⟩ true (by decide) aw_der.2.1)
  have M5 := Lib.hid (HM.out (dervR awQ 97) ⟨#[]⟩ false (by decide) aw_der.2.2.1)
  have M6 := Lib.hid (HM.out (dervR awQ 97) ⟨#[98, 99]⟩ false (by decide) aw_der.2.2.2)
  clear HM
  generalize dervR awQ 97 = rD at *
  generalize awP = rP at *
  generalize awQ = rQ at *
  have HE := Lib.hid hE
  clear hE
  go_enter Tryd.func13, Tryd.ntmps13
  go_wp2_with fail
  refine (H1.out w HE.out).mono ?_
  rintro e w1 ⟨p0, p1, p2, p3, p4, pa, pcap, rfl, hp1, hb1⟩
  generalize rP.args.length = pn at *
  go_upto_region 2 with fail
  generalize hW : World.alloc w1 _ = w2
  obtain ⟨ha, -, hz2, hb2⟩ := alloc_of hW
  have hx1 : BoxP w1.heap.size ⟨p0, p1, p2, p3, p4, .slice pa pn pcap⟩ w2 := ha
  have hB := hb1.trans (hb2.mono hb1.size)
  replace hp1 := hp1.stays hb2
  clear hW ha hz2 hb2
  go_wp2_with fail
  refine (H2.out w2 (HE.out.below hB)).mono ?_
  rintro e w3 ⟨q0, q1, q2, q3, q4, qa, qcap, rfl, hq1, hb3⟩
  generalize rQ.args.length = qn at *
  go_upto_region 3 with fail
  generalize hW : World.alloc w3 _ = w4
  obtain ⟨ha, -, hz4, hb4⟩ := alloc_of hW
  have hx3 : BoxP w3.heap.size ⟨q0, q1, q2, q3, q4, .slice qa qn qcap⟩ w4 := ha
  replace hb3 := hb3.trans (hb4.mono hb3.size)
  replace hB := hB.trans (hb3.mono hB.size)
  replace hp1 := hp1.stays hb3
  replace hx1 := hx1.below hb3
  replace hq1 := hq1.stays hb4
  clear hW ha hz4 hb4 hb3
  go_wp2_with fail
  refine (H3.out w4 (HE.out.below hB)).mono ?_
  rintro e w5 ⟨rfl, hb5⟩
  go_upto_region 4 with fail
  generalize hW : World.alloc w5 _ = w6
  obtain ⟨-, -, -, hb6⟩ := alloc_of hW
  replace hb5 := hb5.trans (hb6.mono hb5.size)
  replace hB := hB.trans (hb5.mono hB.size)
  replace hp1 := hp1.stays hb5
  replace hx1 := hx1.below hb5
  replace hq1 := hq1.stays hb5
  replace hx3 := hx3.below hb5
  clear hW hb5 hb6
  go_wp2_with fail
  refine (H4.out w6 (HE.out.below hB)).mono ?_
  rintro e w7 ⟨rfl, hb7⟩
  go_upto_region 5 with fail
  generalize hW : World.alloc w7 _ = w8
  obtain ⟨-, -, -, hb8⟩ := alloc_of hW
  replace hb7 := hb7.trans (hb8.mono hb7.size)
  replace hB := hB.trans (hb7.mono hB.size)
  replace hp1 := hp1.stays hb7
  replace hx1 := hx1.below hb7
  replace hq1 := hq1.stays hb7
  replace hx3 := hx3.below hb7
  clear hW hb7 hb8
  have HS := Lib.hid (show AwS w1.heap.size w3.heap.size _ _ _ _ w w8 from ⟨hx1, hx3, hp1, hq1, hB⟩)
  clear hx1 hx3 hp1 hq1 hB hb1 H1 H2 H3 H4
  obtain ⟨t0, t1, t2, t3, t4, t5⟩ := HS.out.x9.cells
  simp only at t0 t1 t2 t3 t4 t5
  go_wp2_with fail
  refine (HD.out _ w8 HS.out.r9).mono ?_
  rintro e w9 ⟨d0, d1, d2, d3, d4, da, dcap, rfl, hd1, hb9⟩
  generalize rD.args.length = dn at *
  clear t0 t1 t2 t3 t4 t5 HD
  go_upto_region 6 with fail
  generalize hW : World.alloc w9 _ = w10
  obtain ⟨ha, -, -, hb10⟩ := alloc_of hW
  have HS1 := Lib.hid (show AwS w1.heap.size w9.heap.size ⟨p0, p1, p2, p3, p4, .slice pa pn pcap⟩ ⟨d0, d1, d2, d3, d4, .slice da dn dcap⟩ rP rD w w10 from ⟨(HS.out.stay (hb9.trans (hb10.mono hb9.size))).x1, ha, (HS.out.stay (hb9.trans (hb10.mono hb9.size))).r1, hd1.stays hb10, (HS.out.stay (hb9.trans (hb10.mono hb9.size))).bel⟩)
  clear hW ha hb9 hb10 hd1 HS
  obtain ⟨t0, t1, t2, t3, t4, t5⟩ := HS1.out.x1.cells
  simp only at t0 t1 t2 t3 t4 t5
  go_wp2_with fail
  refine (M1.out _ _ HS1.out.r1).mono ?_
  rintro e u1 ⟨rfl, hb⟩
  have HS2 := Lib.hid (HS1.out.stay hb)
  clear hb t0 t1 t2 t3 t4 t5 HS1
  obtain ⟨t0, t1, t2, t3, t4, t5⟩ := HS2.out.x1.cells
  simp only at t0 t1 t2 t3 t4 t5
  go_wp2_with fail
  refine (M2.out _ _ HS2.out.r1).mono ?_
  rintro e u2 ⟨rfl, hb⟩
  have HS3 := Lib.hid (HS2.out.stay hb)
  clear hb t0 t1 t2 t3 t4 t5 HS2
  obtain ⟨t0, t1, t2, t3, t4, t5⟩ := HS3.out.x1.cells
  simp only at t0 t1 t2 t3 t4 t5
  go_wp2_with fail
  refine (HT.out _ _ HS3.out.r1).mono ?_
  rintro e u3 ⟨rfl, hb⟩
  have HS4 := Lib.hid (HS3.out.stay hb)
  clear hb t0 t1 t2 t3 t4 t5 HS3
  obtain ⟨t0, t1, t2, t3, t4, t5⟩ := HS4.out.x9.cells
  simp only at t0 t1 t2 t3 t4 t5
  go_wp2_with fail
  refine (M3.out _ _ HS4.out.r9).mono ?_
  rintro e u4 ⟨rfl, hb⟩
  have HS5 := Lib.hid (HS4.out.stay hb)
  clear hb t0 t1 t2 t3 t4 t5 HS4
  obtain ⟨t0, t1, t2, t3, t4, t5⟩ := HS5.out.x9.cells
  simp only at t0 t1 t2 t3 t4 t5
  go_wp2_with fail
  refine (M4.out _ _ HS5.out.r9).mono ?_
  rintro e u5 ⟨rfl, hb⟩
  have HS6 := Lib.hid (HS5.out.stay hb)
  clear hb t0 t1 t2 t3 t4 t5 HS5
  obtain ⟨t0, t1, t2, t3, t4, t5⟩ := HS6.out.x9.cells
  simp only at t0 t1 t2 t3 t4 t5
  go_wp2_with fail
  refine (M5.out _ _ HS6.out.r9).mono ?_
  rintro e u6 ⟨rfl, hb⟩
  have HS7 := Lib.hid (HS6.out.stay hb)
  clear hb t0 t1 t2 t3 t4 t5 HS6
  obtain ⟨t0, t1, t2, t3, t4, t5⟩ := HS7.out.x9.cells
  simp only at t0 t1 t2 t3 t4 t5
  go_wp2_with fail
  refine (M6.out _ _ HS7.out.r9).mono ?_
  rintro e u7 ⟨rfl, hb⟩
  have HS8 := Lib.hid (HS7.out.stay hb)
  clear hb t0 t1 t2 t3 t4 t5 HS7
  go_wp2_with fail
  go_ret
  exact ⟨rfl, HS8.out.bel⟩
end Go.Proofs.YtggolmamacoplaaDoor

namespace Go.Proofs.YtggolmamacoplaaDoor
open Go.RowKit Go.Shelf
set_option maxHeartbeats 4000000
set_option maxRecDepth 100000

/-- What stands while the law looks. -/
def LwS (b : Nat) (c : PC) (p : RX) (w0 w : World) : Prop := BoxP b c w ∧ Hid (RdP w c p ∧ Env w ∧ Below w0.heap.size w0 w)
theorem LwS.stay {b : Nat} {c : PC} {p : RX} {w0 w w' : World} (h : LwS b c p w0 w) (hb : Below w.heap.size w w') : LwS b c p w0 w' := ⟨h.1.below hb, h.2.out.1.stays hb, h.2.out.2.1.below hb, h.2.out.2.2.trans (hb.mono h.2.out.2.2.size)⟩
end Go.Proofs.YtggolmamacoplaaDoor
