/- patch.clone walked. Conditions: at most 10^6 values in all. -/
import Derived.Test.YthdninnjjmhpfaaGreatDoorCg
import Derived.Deep.RegionWith
import Derived.Laws.CopyOwn
namespace Go.Proofs.YthdninnjjmhpfaaGreatDoor
open Go.RowKit
set_option maxHeartbeats 4000000
set_option maxRecDepth 100000

/-- What a copy of a change hands back. -/
def ClPost (w : World) (x : Ch) (e : Ending) (w' : World) : Prop := ∃ c, e = .returned (aggC c) ∧ RdC w' (fun b => w.heap.size ≤ b) c x ∧ Below w.heap.size w w'
theorem vcells_one {w : World} {S : Nat → Prop} {c : VC} {v : V} (h : RdI w S c v) : ∀ u ∈ c.cells, u.oneCell' = true := by
  intro u hu
  obtain ⟨h, b1, b2, b3, m1, m2, m3, o1, o2, o3, rfl⟩ := h.forms
  simp [VC.cells] at hu
  rcases hu with rfl | rfl | rfl | rfl | rfl | rfl | rfl | rfl | rfl | rfl | rfl | rfl | rfl <;> rfl
theorem ccells_one {w : World} {S : Nat → Prop} {c : CC} {x : Ch} (h : RdC w S c x) : ∀ u ∈ c.cells, u.oneCell' = true := by
  intro u hu
  obtain ⟨a0, m0, hp, _⟩ := h.p
  unfold CC.cells at hu
  rcases List.mem_cons.1 hu with rfl | hu
  · rfl
  rcases List.mem_cons.1 hu with rfl | hu
  · rw [hp]; rfl
  rcases List.mem_cons.1 hu with rfl | hu
  · rfl
  rcases List.mem_append.1 hu with hu | hu
  · exact vcells_one h.o u hu
  · exact vcells_one h.n u hu
theorem alloc2_of {w w0 : World} {X Y : Obj} (h : (w.alloc X).alloc Y = w0) : Below w.heap.size w w0 ∧ w0.heap[w.heap.size]? = some X ∧ w0.heap[w.heap.size + 1]? = some Y ∧ w0.heap.size = w.heap.size + 2 := by
  obtain ⟨h1, h2, h3, _⟩ := two_allocs (w := w) (x := X) (y := Y) (w1 := (w.alloc X).alloc Y) (Below.refl _ _)
  rw [h] at h1 h2 h3
  exact ⟨h1, h2, h3, by rw [← h]; simp⟩
theorem own_form {w : World} {base size n : Nat} {e : TypeId} {v : Value} {xs : List Value} (h : w.ownsRow base e size v n xs) : ∃ a cap, v = .slice a n cap := by
  rcases h.2 with ⟨rfl, rfl⟩ | ⟨g, cap, cur, rfl, _⟩
  · exact ⟨none, 0, rfl⟩
  · exact ⟨_, _, rfl⟩
/-- Thirteen stores in a row, as the walk lays them. -/
theorem put13 {w : World} {g : Nat} (off : Nat) {cs : Array Value} {t : TypeId} (u0 u1 u2 u3 u4 u5 u6 u7 u8 u9 u10 u11 u12 : Value) (h : w.heap[g]? = some (.cells cs t (0, 0))) :
    (((((((((((((w.setCell ⟨g, off, none⟩ u0).setCell ⟨g, off + 1, none⟩ u1).setCell ⟨g, off + 2, none⟩ u2).setCell ⟨g, off + 3, none⟩ u3).setCell ⟨g, off + 4, none⟩ u4).setCell ⟨g, off + 5, none⟩ u5).setCell ⟨g, off + 6, none⟩ u6).setCell ⟨g, off + 7, none⟩ u7).setCell ⟨g, off + 8, none⟩ u8).setCell ⟨g, off + 9, none⟩ u9).setCell ⟨g, off + 10, none⟩ u10).setCell ⟨g, off + 11, none⟩ u11).setCell ⟨g, off + 12, none⟩ u12).heap[g]? = some (.cells (((((((((((((cs.setIfInBounds (off) u0).setIfInBounds (off + 1) u1).setIfInBounds (off + 2) u2).setIfInBounds (off + 3) u3).setIfInBounds (off + 4) u4).setIfInBounds (off + 5) u5).setIfInBounds (off + 6) u6).setIfInBounds (off + 7) u7).setIfInBounds (off + 8) u8).setIfInBounds (off + 9) u9).setIfInBounds (off + 10) u10).setIfInBounds (off + 11) u11).setIfInBounds (off + 12) u12) t (0, 0)) := by
  iterate 13 refine heap_setCell_same _ _ _ _ _ _ ?_
  exact h
theorem clone_any (c : CC) (x : Ch) (w : World) (hno : nodV x.o ≤ 1000000) (hdo : depV x.o ≤ 65536) (hnn : nodV x.n ≤ 1000000) (hdn : depV x.n ≤ 65536) (hpl : x.p.length ≤ 1000000) (hx : RdC w (fun _ => True) c x) :
    Calls Tryz.prog 45 #[aggC c] w (ClPost w x) := by
  have HX := Lib.hid hx
  have HO := Lib.hid (fun w' (hb : Below w.heap.size w w') => Copy_any x.o c.o w' hno hdo (hx.o.stays hb))
  have HN := Lib.hid (fun w' (hb : Below w.heap.size w w') => Copy_any x.n c.n w' hnn hdn (hx.n.stays hb))
  obtain ⟨op, pos, a0, n0, m0, ⟨p0, p1, p2, p3, p4, p5, p6, p7, p8, p9, p10⟩, ⟨q0, q1, q2, q3, q4, q5, q6, q7, q8, q9, q10⟩, a1, a2, a3, b1, b2, b3, n1, n2, n3, m1, m2, m3, i1, i2, i3, j1, j2, j3, rfl⟩ := hx.forms
  have HP := Lib.hid (fun w' (hb : Below w.heap.size w w') => hx.p.below hb)
  clear hx
  simp only [aggC, aggV] at HO HN HP ⊢
  go_enter Tryz.func45, Tryz.ntmps45
  go_upto_region 1 with fail
  generalize hW : (w.alloc _).alloc _ = w0
  obtain ⟨hb0, hx0, hy0, hz0⟩ := alloc2_of hW
  clear hW
  have hown := own_empty w0 94
  rw [hz0] at hown
  have HP0 := Lib.hid (HP.out _ (hb0.trans (((Below.refl _ w0).alloc (Nat.le_refl _) (.cells #[] 94)).mono (by omega))))
  obtain ⟨⟨⟨x0, x1, x2⟩, ⟨x3, x4, x5, x6, x7, x8, x9, x10, x11, x12, x13, x14, x15⟩, ⟨x16, x17, x18, x19, x20, x21, x22, x23, x24, x25, x26, x27, x28⟩⟩, xf⟩ := box29 hx0
  have HX0 := Lib.hid hx0
  have HY0 := Lib.hid hy0
  have HB0 := Lib.hid hb0
  clear HP hx0 hy0 hb0 x0 x2 x3 x4 x5 x6 x7 x8 x9 x10 x11 x12 x13 x14 x15 x16 x17 x18 x19 x20 x21 x22 x23 x24 x25 x26 x27 x28
  go_upto_region 2 with (at_builtin; refine wp_appendRd elem_step rfl _ _ rfl hown HP0.out rfl rfl (by omega) (by simp [hz0]) ?_; intro v1 w1 hown1 hg1 hb1; obtain ⟨va, vcap, rfl⟩ := own_form hown1; have hb2 := (((Below.refl _ w0).alloc (Nat.le_refl _) (.cells #[] 94)).mono (by omega)).trans hb1; have hx1 := (hb2.block w.heap.size (by omega)).trans HX0.out; have hx2 := Lib.hid hx1; obtain ⟨⟨⟨x0, x1, x2⟩, _⟩, xf⟩ := box29 hx1; clear hx1 x0 x2)
  rw [Nat.zero_add, List.nil_append] at hown1
  have hrow := heap_setCell_same w1 w.heap.size 1 _ _ (.slice va x.p.length vcap) hx2.out
  simp only [List.setIfInBounds_toArray, List.set_cons_succ, List.set_cons_zero] at hrow
  have hy1 := ((heap_setCell_other w1 ⟨w.heap.size, 1, none⟩ (w.heap.size + 1) (.slice va x.p.length vcap) (by dsimp only; omega)).trans (hb2.block _ (by omega))).trans HY0.out
  have hb3 : Below w.heap.size w (w1.setCell ⟨w.heap.size, 1, none⟩ (.slice va x.p.length vcap)) := (HB0.out.trans (hb2.mono (by omega))).setCell (p := ⟨w.heap.size, 1, none⟩) (Nat.le_refl _) _
  have hz3 : w.heap.size + 2 ≤ (w1.setCell ⟨w.heap.size, 1, none⟩ (.slice va x.p.length vcap)).heap.size := by rw [World.size_setCell]; have := hb2.size; omega
  have hpv : Rd (w1.setCell ⟨w.heap.size, 1, none⟩ (.slice va x.p.length vcap)) (.slice va x.p.length vcap) x.p := (Rd.of_own hown1).kept (BlkIn.of_own hown1) (fun b hb _ => heap_setCell_other w1 _ b _ (by dsimp only; omega)) (by simp)
  have HBK := Lib.hid (BlkIn.of_own hown1)
  have HPV := Lib.hid hpv
  clear hx2 x1 xf hown1 hg1 hb1 hb2 HX0 HY0 HB0 hz0 hpv
  generalize hW : w1.setCell _ _ = w3 at *
  clear hW
  have HX3 := Lib.hid hrow
  have HY3 := Lib.hid hy1
  have HB3 := Lib.hid hb3
  have HZ3 := Lib.hid hz3
  obtain ⟨⟨_, ⟨x3, x4, x5, x6, x7, x8, x9, x10, x11, x12, x13, x14, x15⟩, ⟨x16, x17, x18, x19, x20, x21, x22, x23, x24, x25, x26, x27, x28⟩⟩, xf⟩ := box29 hrow
  clear hrow hy1 hb3 hz3
  go_region_with (first
    | (go_at_call 24
       with_reducible refine (HO.out _ HB3.out.drew).mono ?_
       rintro e w4 ⟨c4, rfl, hr4, hb4⟩
       obtain ⟨⟨d0, d1, d2, d3, d4, d5, d6, d7, d8, d9, d10⟩, s1, s2, s3, k1, k2, k3, l1, l2, l3, rfl⟩ := hr4.forms
       have hbw4 := HB3.out.drew.trans (hb4.mono HB3.out.drew.size)
       have HX4 := Lib.hid ((hb4.block _ (by have := HZ3.out; simp; omega)).trans HX3.out)
       obtain ⟨⟨_, _, ⟨y16, y17, y18, y19, y20, y21, y22, y23, y24, y25, y26, y27, y28⟩⟩, yf⟩ := box29 HX4.out)
    | (go_at_call 24
       with_reducible refine (HN.out _ hbw4).mono ?_
       rintro e w5 ⟨c5, rfl, hr5, hb5⟩
       obtain ⟨⟨e0, e1, e2, e3, e4, e5, e6, e7, e8, e9, e10⟩, t1, t2, t3, f1, f2, f3, g1, g2, g3, rfl⟩ := hr5.forms
       have hbw5 := hbw4.trans (hb5.mono hbw4.size)
       have HX5 := Lib.hid ((hb5.block _ (by have := HZ3.out; have := hb4.size; simp at this; omega)).trans HX4.out)
       obtain ⟨⟨_, ⟨z3, z4, z5, z6, z7, z8, z9, z10, z11, z12, z13, z14, z15⟩, ⟨z16, z17, z18, z19, z20, z21, z22, z23, z24, z25, z26, z27, z28⟩⟩, zf⟩ := box29 HX5.out))
  all_goals
    generalize hW : World.setCell _ ⟨_, 28, none⟩ _ = w6
    have h6 : w6.heap[w.heap.size]? = some (.cells (CC.cells ⟨op, .slice va x.p.length vcap, pos, ⟨⟨d0, d1, d2, d3, d4, d5, d6, d7, d8, d9, d10⟩, .slice s1 k1 l1, .slice s2 k2 l2, .slice s3 k3 l3⟩, ⟨⟨e0, e1, e2, e3, e4, e5, e6, e7, e8, e9, e10⟩, .slice t1 f1 g1, .slice t2 f2 g2, .slice t3 f3 g3⟩⟩).toArray 54 (0, 0)) := by
      rw [← hW]
      refine (put13 16 _ _ _ _ _ _ _ _ _ _ _ _ _ (put13 3 _ _ _ _ _ _ _ _ _ _ _ _ _ HX5.out)).trans ?_
      simp only [List.setIfInBounds_toArray, List.set_cons_succ, List.set_cons_zero, CC.cells, VC.cells, List.cons_append, List.nil_append]
    have k6 : ∀ b, b ≠ w.heap.size → w6.heap[b]? = w5.heap[b]? := by
      intro b hb
      rw [← hW]
      repeat rw [heap_setCell_other _ _ b _ hb]
    have z6 : w6.heap.size = w5.heap.size := by rw [← hW]; simp
    have b6 : Below w.heap.size w w6 := by
      rw [← hW]
      iterate 26 refine Below.setCell ?_ (by dsimp only; omega) _
      exact hbw5
    have hz4 := hb4.size
    have hz5 := hb5.size
    have hz3 := HZ3.out
    have hy6 : w6.heap[w.heap.size + 1]? = _ := (k6 _ (by omega)).trans ((hb5.block _ (by simp at hz4; omega)).trans ((hb4.block _ (by simp; omega)).trans HY3.out))
    have hk6 : ∀ w7 : World, (∀ b, b ≠ w.heap.size → b ≠ w.heap.size + 1 → w7.heap[b]? = w6.heap[b]?) → w7.heap.size = w6.heap.size → RdC w7 (fun b => w.heap.size ≤ b) ⟨op, .slice va x.p.length vcap, pos, ⟨⟨d0, d1, d2, d3, d4, d5, d6, d7, d8, d9, d10⟩, .slice s1 k1 l1, .slice s2 k2 l2, .slice s3 k3 l3⟩, ⟨⟨e0, e1, e2, e3, e4, e5, e6, e7, e8, e9, e10⟩, .slice t1 f1 g1, .slice t2 f2 g2, .slice t3 f3 g3⟩⟩ x := by
      intro w7 h7 h7z
      have hx := HX.out
      have hall : ∀ b, w.heap.size + 2 ≤ b → w7.heap[b]? = w5.heap[b]? := fun b hb => (h7 b (by omega) (by omega)).trans (k6 b (by omega))
      refine ⟨hx.op, hx.pos, hx.iop, hx.ipos, ?_, HBK.out.mono (fun b hb => by omega), ?_, ?_⟩
      · exact HPV.out.kept HBK.out (fun b hb hb' => (hall b hb).trans ((hb5.block b (by simp at hz4; omega)).trans (hb4.block b (by simpa using hb')))) (by simp at hz4; omega)
      · exact (hr4.kept (fun b hb hb' => (hall b (by simp at hb; omega)).trans (hb5.block b hb')) (by omega)).mono (fun b hb => by simp at hb; omega)
      · exact (hr5.kept (fun b hb _ => hall b (by simp at hz4; omega)) (by omega)).mono (fun b hb => by simp at hz4; omega)
    have hone := ccells_one (hk6 w6 (fun _ _ _ => rfl) rfl)
    have hc6 : ∀ j, j < 29 → w6.cell? ⟨w.heap.size, 0 + j, none⟩ = (CC.cells ⟨op, .slice va x.p.length vcap, pos, ⟨⟨d0, d1, d2, d3, d4, d5, d6, d7, d8, d9, d10⟩, .slice s1 k1 l1, .slice s2 k2 l2, .slice s3 k3 l3⟩, ⟨⟨e0, e1, e2, e3, e4, e5, e6, e7, e8, e9, e10⟩, .slice t1 f1 g1, .slice t2 f2 g2, .slice t3 f3 g3⟩⟩)[j]? := fun j _ => by
      rw [Nat.zero_add, cell_of_row _ _ _ _ _ _ h6, List.getElem?_toArray]
    have HC6 := Lib.hid hc6
    have HK6 := Lib.hid hk6
    have HY6 := Lib.hid hy6
    have HB6 := Lib.hid b6
    have HONE := Lib.hid hone
    clear h6 k6 hy6 hk6 hone hc6
    clear hW
    clear z6 b6 hz4 hz5
    try clear x3 x4 x5 x6 x7 x8 x9 x10 x11 x12 x13 x14 x15 x16 x17 x18 x19 x20 x21 x22 x23 x24 x25 x26 x27 x28 xf
    try clear y16 y17 y18 y19 y20 y21 y22 y23 y24 y25 y26 y27 y28 yf
    try clear z3 z4 z5 z6 z7 z8 z9 z10 z11 z12 z13 z14 z15 z16 z17 z18 z19 z20 z21 z22 z23 z24 z25 z26 z27 z28 zf
    go_wp2_with (first
      | refine wp_load stC (ccells_len _) w.heap.size 0 HC6.out rfl _ rfl rfl ?_
      | refine wp_store stC (ccells_len _) HONE.out (w.heap.size + 1) 0 HY6.out (by decide) rfl _ _ rfl rfl rfl ?_)
    refine bodyPost_ret (results_cell_row rfl _ _ (w.heap.size + 1) _ _ _ _ rfl (setRow_heap _ _ _ _ _ _ HY6.out) Tryz.underlying54 rfl (by kernel_rfl)) rfl ⟨_, rfl, HK6.out _ (fun b _ hb => setRow_other _ _ _ _ hb) (by simp), below_setRow HB6.out (by omega) _⟩
end Go.Proofs.YthdninnjjmhpfaaGreatDoor
