/- datakitref17.Bounds, Length; the law FormatsLengths walked. Conditions: what the listed variables read as. -/
import Derived.Test.YtpkecepelcppiaaGreatDoorZd43
import Derived.Deep.DeepCutAuto
import Derived.Deep.CutBlock
import Derived.Test.YtpkecepelcppiaaGreatDoorZd24
import Derived.Test.YtpkecepelcppiaaGreatDoorZd22
import Derived.Test.YtpkecepelcppiaaGreatDoorZd25
import Derived.Lib.SmallJoins
namespace Go.Proofs.YtpkecepelcppiaaGreatDoor
open Go.RowKit Go.Shelf
set_option maxHeartbeats 8000000
set_option maxRecDepth 100000

theorem eqIn_arc (a b c : Int) (w : World) :
  (Op.equalIn 10000 72 (.agg #[.int .i64 a, .int .i64 b, .int .i64 c]) (.agg #[.int .i64 a, .int .i64 b, .int .i64 c])).run Tryz.prog w = .ok true w := by
 have u3 := Tryz.underlying3
 have a3 := Tryz.isAgg3
 have z3 := Tryz.sizeOf3
 have hS : Tryz.prog.underlying 72 = some (.struct (Tryz.prog.fieldsOf 72)) := by kernel_rfl
 have hp : Tryz.prog.stoodInHeld 72 = false := by kernel_rfl
 rw [show (10000 : Nat) = 9999 + 1 from rfl, run_equalIn_agg w 9999 72 _ _ hS hp]
 simp only [Program.fieldsOf, Tryz.underlying72]
 go_simp
theorem Same16_any (N1 N2 : Nat → Prop) (m : List StA) (v1 v2 : Value) (w : World) (h1 : RdS N1 w v1 m) (h2 : RdS N2 w v2 m) (hn : m.length ≤ 1024) :
  Calls Tryz.prog 15 #[.agg #[v1], .agg #[v2]] w fun e w' => e = .returned (.bool true) ∧ Below w.heap.size w w' := by
 obtain ⟨a1, cap, rfl, -⟩ := h1.form
 obtain ⟨a2, cap2, rfl, -⟩ := h2.form
 have hni : (m.length : Int) ≤ 1024 := by omega
 have H1 := Lib.hid h1
 have H2 := Lib.hid h2
 have HN := Lib.hid hn
 clear h1 h2 hn
 go_enter Tryz.func15, Tryz.ntmps15
 go_upto_region 1 with fail
 generalize hW : World.alloc w _ = w1
 obtain ⟨hbx, -, hz1, hb1⟩ := alloc_of hW
 generalize hW2 : World.alloc w1 _ = w2
 obtain ⟨hbx2, -, hz2, hb2⟩ := alloc_of hW2
 rw [hz1] at hbx2
 have HX := Lib.hid (show BoxV w.heap.size 29 [.slice a1 m.length cap] w2 from (hb2.block _ (by omega)).trans hbx)
 have HY := Lib.hid (show BoxV (w.heap.size + 1) 29 [.slice a2 m.length cap2] w2 from hbx2)
 have HB := Lib.hid (hb1.trans (hb2.mono hb1.size))
 clear hW hbx hz1 hb1 hW2 hbx2 hz2 hb2
 have x0 := HX.out.cell 0
 have y0 := HY.out.cell 0
 simp only [List.getElem?_cons_zero] at x0 y0
 go_wp2_with fail
 clear x0 y0
 go_loopw [5] (fun iv wr => ∃ i : Nat, iv = .int .i64 (i : Int) ∧ i ≤ m.length ∧ Hid (Below w2.heap.size w2 wr)) (fun iv _ => m.length - (intOf iv).toNat)
 case atStart => exact ⟨0, rfl, Nat.zero_le _, Below.refl _ _⟩
 case round =>
  obtain ⟨i, rfl, hi, HW⟩ := hrel
  have x0 := (HX.out.below HW.out).cell 0
  have y0 := (HY.out.below HW.out).cell 0
  simp only [List.getElem?_cons_zero] at x0 y0
  by_cases hlt : i < m.length
  case neg =>
   have hge : ¬ (i : Int) < m.length := by omega
   clear hlt
   go_wp2_with fail
   go_ret
   exact ⟨rfl, HB.out.trans (HW.out.mono HB.out.size)⟩
  case pos =>
   have hlti : (i : Int) < m.length := by omega
   have HBW := Lib.hid (HB.out.trans (HW.out.mono HB.out.size))
   obtain ⟨g, o, p0, k0, c0, rfl, m0, m1, hk0, ha⟩ := (H1.out.stay HBW.out).at_ i hlt
   obtain ⟨g2, o2, p1, k1, c1, rfl, n0, n1, hk1, ha2⟩ := (H2.out.stay HBW.out).at_ i hlt
   rw [← hk0] at hk1
   subst hk1
   have hal := (H1.out).arcs_len i hlt
   have HA := Lib.hid ha
   have HA2 := Lib.hid ha2
   generalize m[i].acc = acc at *
   generalize m[i].arcs = arcs at *
   subst hk0
   have HI1 : Hid (i + 1 ≤ m.length) := hlt
   obtain ⟨b1, hb1e⟩ : ∃ b, b = w.heap.size := ⟨_, rfl⟩
   obtain ⟨b2, hb2e⟩ : ∃ b, b = w.heap.size + 1 := ⟨_, rfl⟩
   rw [← hb1e] at x0
   rw [← hb2e] at y0
   rw [← hb2e, ← hb1e]
   have HB1E : Hid (w.heap.size = b1) := hb1e.symm
   have HB2E : Hid (w.heap.size + 1 = b2) := hb2e.symm
   clear ha ha2 hlt hb1e hb2e
   generalize hkk : arcs.length = k0 at *
   have HKK := Lib.hid hkk
   clear hkk
   go_upto_region 6 with fail
   go_cut [6, 7] (fun v6 v7 wx => ∃ g6 g7 : Nat, v6 = .pointer (some ⟨g6, 0, none⟩) ∧ v7 = .pointer (some ⟨g7, 0, none⟩) ∧ Hid (BoxV g6 70 [.bool acc, .slice p0 k0 c0] wx) ∧ Hid (BoxV g7 70 [.bool acc, .slice p1 k0 c1] wx) ∧ Hid (Below wr.heap.size wr wx))
   case first =>
    as_aux_lemma =>
    have hS0 : wr.drew.cell? ⟨b1, 0, none⟩ = some (.slice (some ⟨g, o, none⟩) m.length cap) ∧ wr.drew.cell? ⟨b2, 0, none⟩ = some (.slice (some ⟨g2, o2, none⟩) m.length cap2) ∧ wr.drew.cell? ⟨g, o + i * 2, none⟩ = some (.bool acc) ∧ wr.drew.cell? ⟨g, o + i * 2 + 1, none⟩ = some (.slice p0 k0 c0) ∧ wr.drew.cell? ⟨g2, o2 + i * 2, none⟩ = some (.bool acc) ∧ wr.drew.cell? ⟨g2, o2 + i * 2 + 1, none⟩ = some (.slice p1 k0 c1) := ⟨x0, y0, m0, m1, n0, n1⟩
    have HBD := Lib.hid (drewBn wr)
    clear x0 y0 m0 m1 n0 n1
    refine wpq_region (fun w' => w'.cell? ⟨b1, 0, none⟩ = some (.slice (some ⟨g, o, none⟩) m.length cap) ∧ w'.cell? ⟨b2, 0, none⟩ = some (.slice (some ⟨g2, o2, none⟩) m.length cap2) ∧ w'.cell? ⟨g, o + i * 2, none⟩ = some (.bool acc) ∧ w'.cell? ⟨g, o + i * 2 + 1, none⟩ = some (.slice p0 k0 c0) ∧ w'.cell? ⟨g2, o2 + i * 2, none⟩ = some (.bool acc) ∧ w'.cell? ⟨g2, o2 + i * 2 + 1, none⟩ = some (.slice p1 k0 c1)) 13 (by kernel_rfl) hS0 (fun hHeld => ?_)
    clear hS0
    generalize wr.drew = wd at *
    refine wpq_tk 0 (some 23) [13] (Or.inl ⟨by rfl, fun w hSw => by (obtain ⟨x0, x1, y0, y1, z0, z1⟩ := hSw; go_simp; with_reducible rfl)⟩) hHeld ?_ rfl rfl
    simp only [Act.put, sA, sZ, sS]
    refine wpq_tk 1 (some 24) [13] (Or.inl ⟨by rfl, fun w hSw => by (obtain ⟨x0, x1, y0, y1, z0, z1⟩ := hSw; go_simp; with_reducible rfl)⟩) hHeld ?_ rfl rfl
    simp only [Act.put, sA, sZ, sS]
    refine wpq_tk 2 (some 25) [13] (Or.inl ⟨by rfl, fun w hSw => by (obtain ⟨x0, x1, y0, y1, z0, z1⟩ := hSw; go_simp; with_reducible rfl)⟩) hHeld ?_ rfl rfl
    simp only [Act.put, sA, sZ, sS]
    refine wpq_tk 3 (some 26) [13] (Or.inl ⟨by rfl, fun w hSw => by (obtain ⟨x0, x1, y0, y1, z0, z1⟩ := hSw; go_simp; with_reducible rfl)⟩) hHeld ?_ rfl rfl
    simp only [Act.put, sA, sZ, sS]
    refine wpq_tk 4 (some 27) [13] (Or.inl ⟨by rfl, fun w hSw => by (obtain ⟨x0, x1, y0, y1, z0, z1⟩ := hSw; go_simp; with_reducible rfl)⟩) hHeld ?_ rfl rfl
    simp only [Act.put, sA, sZ, sS]
    refine wpq_tk 5 (some 28) [13] (Or.inl ⟨by rfl, fun w hSw => by (obtain ⟨x0, x1, y0, y1, z0, z1⟩ := hSw; go_simp; with_reducible rfl)⟩) hHeld ?_ rfl rfl
    simp only [Act.put, sA, sZ, sS]
    refine wpq_tk 6 (some 29) [13] (Or.inl ⟨by rfl, fun w hSw => by (obtain ⟨x0, x1, y0, y1, z0, z1⟩ := hSw; go_simp; with_reducible rfl)⟩) hHeld ?_ rfl rfl
    simp only [Act.put, sA, sZ, sS]
    refine wpq_tk 7 (some 30) [13] (Or.inl ⟨by rfl, fun w hSw => by (obtain ⟨x0, x1, y0, y1, z0, z1⟩ := hSw; go_simp; with_reducible rfl)⟩) hHeld ?_ rfl rfl
    simp only [Act.put, sA, sZ, sS]
    refine wpq_tk 8 (some 31) [13] (Or.inl ⟨by rfl, fun w hSw => by (obtain ⟨x0, x1, y0, y1, z0, z1⟩ := hSw; go_simp; with_reducible rfl)⟩) hHeld ?_ rfl rfl
    simp only [Act.put, sA, sZ, sS]
    refine wpq_tk 9 (some 32) [13] (Or.inl ⟨by rfl, fun w hSw => by (obtain ⟨x0, x1, y0, y1, z0, z1⟩ := hSw; go_simp; with_reducible rfl)⟩) hHeld ?_ rfl rfl
    simp only [Act.put, sA, sZ, sS]
    refine wpq_two 10 11 (by kernel_rfl) rfl rfl (fun K hK => ?_) (fun K hK => ?_)
    ·go_simp
     have HH := Lib.hid hHeld
     generalize hW : World.alloc wd _ = wp
     obtain ⟨hbx1, -, hz1, hb1⟩ := alloc_of hW
     have HBP := Lib.hid hb1
     refine hK.out _ _ ⟨(HBP.out.cell (p := ⟨b1, 0, none⟩) (cell_ltG HH.out.1)).trans HH.out.1, (HBP.out.cell (p := ⟨b2, 0, none⟩) (cell_ltG HH.out.2.1)).trans HH.out.2.1, (HBP.out.cell (p := ⟨g, o + i * 2, none⟩) (cell_ltG HH.out.2.2.1)).trans HH.out.2.2.1, (HBP.out.cell (p := ⟨g, o + i * 2 + 1, none⟩) (cell_ltG HH.out.2.2.2.1)).trans HH.out.2.2.2.1, (HBP.out.cell (p := ⟨g2, o2 + i * 2, none⟩) (cell_ltG HH.out.2.2.2.2.1)).trans HH.out.2.2.2.2.1, (HBP.out.cell (p := ⟨g2, o2 + i * 2 + 1, none⟩) (cell_ltG HH.out.2.2.2.2.2)).trans HH.out.2.2.2.2.2⟩ (fun hHeld => ?_)
     clear hK K hW
     refine wpq_one 11 (by kernel_rfl) rfl (fun K hK => ?_)
     go_simp
     generalize hW : World.alloc wp _ = wq
     obtain ⟨hbx2, -, hz2, hb2⟩ := alloc_of hW
     rw [hz1] at hbx2
     have HBQ := Lib.hid (HBP.out.trans (hb2.mono (by omega)))
     have HZ1 := Lib.hid (show BoxV wd.heap.size 70 [.bool false, .slice none 0 0] wq from (hb2.block _ (by omega)).trans hbx1)
     have HZ2 := Lib.hid (show BoxV (wd.heap.size + 1) 70 [.bool false, .slice none 0 0] wq from hbx2)
     refine hK.out _ _ ⟨(HBQ.out.cell (p := ⟨b1, 0, none⟩) (cell_ltG HH.out.1)).trans HH.out.1, (HBQ.out.cell (p := ⟨b2, 0, none⟩) (cell_ltG HH.out.2.1)).trans HH.out.2.1, (HBQ.out.cell (p := ⟨g, o + i * 2, none⟩) (cell_ltG HH.out.2.2.1)).trans HH.out.2.2.1, (HBQ.out.cell (p := ⟨g, o + i * 2 + 1, none⟩) (cell_ltG HH.out.2.2.2.1)).trans HH.out.2.2.2.1, (HBQ.out.cell (p := ⟨g2, o2 + i * 2, none⟩) (cell_ltG HH.out.2.2.2.2.1)).trans HH.out.2.2.2.2.1, (HBQ.out.cell (p := ⟨g2, o2 + i * 2 + 1, none⟩) (cell_ltG HH.out.2.2.2.2.2)).trans HH.out.2.2.2.2.2⟩ (fun hHeld => ?_)
     clear hK K hW hbx1 hbx2 hz1 hz2 hb1 hb2
     have f0 := HZ1.out.free 0
     have f1 := HZ1.out.free 1
     have d0 := HZ1.out.cell 0
     have d1 := HZ1.out.cell 1
     simp only [List.getElem?_cons_zero, List.getElem?_cons_succ] at d0 d1
     refine wpq_one 12 (by kernel_rfl) rfl (fun K hK => ?_)
     go_simp
     generalize hW : World.setCell _ _ _ = wx
     have HBX := Lib.hid (show Below wd.heap.size wd wx from hW ▸ (HBQ.out.setCell (p := ⟨wd.heap.size, 0, none⟩) (by show wd.heap.size ≤ wd.heap.size; omega) _).setCell (p := ⟨wd.heap.size, 1, none⟩) (by show wd.heap.size ≤ wd.heap.size; omega) _)
     have HX6 := Lib.hid (show BoxV wd.heap.size 70 [.bool acc, .slice p0 k0 c0] wx from hW ▸ heap_setCell_same _ wd.heap.size 1 _ _ _ (heap_setCell_same wq wd.heap.size 0 _ _ (.bool acc) HZ1.out))
     have HX7 := Lib.hid (show BoxV (wd.heap.size + 1) 70 [.bool false, .slice none 0 0] wx from hW ▸ (Below.heap_setCell _ ⟨wd.heap.size, 1, none⟩ _ (wd.heap.size + 1) (by show (wd.heap.size + 1) ≠ wd.heap.size; omega)).trans ((Below.heap_setCell _ ⟨wd.heap.size, 0, none⟩ _ (wd.heap.size + 1) (by show (wd.heap.size + 1) ≠ wd.heap.size; omega)).trans HZ2.out))
     clear f0 f1 d0 d1
     have f0 := HX7.out.free 0
     have f1 := HX7.out.free 1
     have d0 := HX7.out.cell 0
     have d1 := HX7.out.cell 1
     simp only [List.getElem?_cons_zero, List.getElem?_cons_succ] at d0 d1
     refine hK.out _ _ ⟨(HBX.out.cell (p := ⟨b1, 0, none⟩) (cell_ltG HH.out.1)).trans HH.out.1, (HBX.out.cell (p := ⟨b2, 0, none⟩) (cell_ltG HH.out.2.1)).trans HH.out.2.1, (HBX.out.cell (p := ⟨g, o + i * 2, none⟩) (cell_ltG HH.out.2.2.1)).trans HH.out.2.2.1, (HBX.out.cell (p := ⟨g, o + i * 2 + 1, none⟩) (cell_ltG HH.out.2.2.2.1)).trans HH.out.2.2.2.1, (HBX.out.cell (p := ⟨g2, o2 + i * 2, none⟩) (cell_ltG HH.out.2.2.2.2.1)).trans HH.out.2.2.2.2.1, (HBX.out.cell (p := ⟨g2, o2 + i * 2 + 1, none⟩) (cell_ltG HH.out.2.2.2.2.2)).trans HH.out.2.2.2.2.2⟩ (fun hHeld => ?_)
     clear hK K hW
     refine wpq_end 13 (by kernel_rfl) rfl (by kernel_rfl) (fun K hK => ?_)
     go_simp
     generalize hW : World.setCell _ _ _ = wy
     have HBY2 := Lib.hid (show Below wd.heap.size wd wy from hW ▸ (HBX.out.setCell (p := ⟨(wd.heap.size + 1), 0, none⟩) (by show wd.heap.size ≤ (wd.heap.size + 1); omega) _).setCell (p := ⟨(wd.heap.size + 1), 1, none⟩) (by show wd.heap.size ≤ (wd.heap.size + 1); omega) _)
     have HY7 := Lib.hid (show BoxV (wd.heap.size + 1) 70 [.bool acc, .slice p1 k0 c1] wy from hW ▸ heap_setCell_same _ (wd.heap.size + 1) 1 _ _ _ (heap_setCell_same wx (wd.heap.size + 1) 0 _ _ (.bool acc) HX7.out))
     have HY6 := Lib.hid (show BoxV wd.heap.size 70 [.bool acc, .slice p0 k0 c0] wy from hW ▸ (Below.heap_setCell _ ⟨(wd.heap.size + 1), 1, none⟩ _ wd.heap.size (by show wd.heap.size ≠ (wd.heap.size + 1); omega)).trans ((Below.heap_setCell _ ⟨(wd.heap.size + 1), 0, none⟩ _ wd.heap.size (by show wd.heap.size ≠ (wd.heap.size + 1); omega)).trans HX6.out))
     clear f0 f1 d0 d1
     refine hK.out _ _ ?_
     clear hK K hW
     refine wpq_done (by kernel_rfl) ?_ _
     go_simp
     go_wp2_with fail
     go_meet
     exact ⟨wd.heap.size, (wd.heap.size + 1), rfl, rfl, HY6.out, HY7.out, HBD.out.trans (HBY2.out.mono HBD.out.size)⟩
    ·go_simp
     have HH := Lib.hid hHeld
     generalize hW : World.alloc wd _ = wp
     obtain ⟨hbx1, -, hz1, hb1⟩ := alloc_of hW
     have HBP := Lib.hid hb1
     refine hK.out _ _ ⟨(HBP.out.cell (p := ⟨b1, 0, none⟩) (cell_ltG HH.out.1)).trans HH.out.1, (HBP.out.cell (p := ⟨b2, 0, none⟩) (cell_ltG HH.out.2.1)).trans HH.out.2.1, (HBP.out.cell (p := ⟨g, o + i * 2, none⟩) (cell_ltG HH.out.2.2.1)).trans HH.out.2.2.1, (HBP.out.cell (p := ⟨g, o + i * 2 + 1, none⟩) (cell_ltG HH.out.2.2.2.1)).trans HH.out.2.2.2.1, (HBP.out.cell (p := ⟨g2, o2 + i * 2, none⟩) (cell_ltG HH.out.2.2.2.2.1)).trans HH.out.2.2.2.2.1, (HBP.out.cell (p := ⟨g2, o2 + i * 2 + 1, none⟩) (cell_ltG HH.out.2.2.2.2.2)).trans HH.out.2.2.2.2.2⟩ (fun hHeld => ?_)
     clear hK K hW
     refine wpq_one 10 (by kernel_rfl) rfl (fun K hK => ?_)
     go_simp
     generalize hW : World.alloc wp _ = wq
     obtain ⟨hbx2, -, hz2, hb2⟩ := alloc_of hW
     rw [hz1] at hbx2
     have HBQ := Lib.hid (HBP.out.trans (hb2.mono (by omega)))
     have HZ1 := Lib.hid (show BoxV wd.heap.size 70 [.bool false, .slice none 0 0] wq from (hb2.block _ (by omega)).trans hbx1)
     have HZ2 := Lib.hid (show BoxV (wd.heap.size + 1) 70 [.bool false, .slice none 0 0] wq from hbx2)
     refine hK.out _ _ ⟨(HBQ.out.cell (p := ⟨b1, 0, none⟩) (cell_ltG HH.out.1)).trans HH.out.1, (HBQ.out.cell (p := ⟨b2, 0, none⟩) (cell_ltG HH.out.2.1)).trans HH.out.2.1, (HBQ.out.cell (p := ⟨g, o + i * 2, none⟩) (cell_ltG HH.out.2.2.1)).trans HH.out.2.2.1, (HBQ.out.cell (p := ⟨g, o + i * 2 + 1, none⟩) (cell_ltG HH.out.2.2.2.1)).trans HH.out.2.2.2.1, (HBQ.out.cell (p := ⟨g2, o2 + i * 2, none⟩) (cell_ltG HH.out.2.2.2.2.1)).trans HH.out.2.2.2.2.1, (HBQ.out.cell (p := ⟨g2, o2 + i * 2 + 1, none⟩) (cell_ltG HH.out.2.2.2.2.2)).trans HH.out.2.2.2.2.2⟩ (fun hHeld => ?_)
     clear hK K hW hbx1 hbx2 hz1 hz2 hb1 hb2
     have f0 := HZ2.out.free 0
     have f1 := HZ2.out.free 1
     have d0 := HZ2.out.cell 0
     have d1 := HZ2.out.cell 1
     simp only [List.getElem?_cons_zero, List.getElem?_cons_succ] at d0 d1
     refine wpq_one 12 (by kernel_rfl) rfl (fun K hK => ?_)
     go_simp
     generalize hW : World.setCell _ _ _ = wx
     have HBX := Lib.hid (show Below wd.heap.size wd wx from hW ▸ (HBQ.out.setCell (p := ⟨(wd.heap.size + 1), 0, none⟩) (by show wd.heap.size ≤ (wd.heap.size + 1); omega) _).setCell (p := ⟨(wd.heap.size + 1), 1, none⟩) (by show wd.heap.size ≤ (wd.heap.size + 1); omega) _)
     have HX6 := Lib.hid (show BoxV (wd.heap.size + 1) 70 [.bool acc, .slice p0 k0 c0] wx from hW ▸ heap_setCell_same _ (wd.heap.size + 1) 1 _ _ _ (heap_setCell_same wq (wd.heap.size + 1) 0 _ _ (.bool acc) HZ2.out))
     have HX7 := Lib.hid (show BoxV wd.heap.size 70 [.bool false, .slice none 0 0] wx from hW ▸ (Below.heap_setCell _ ⟨(wd.heap.size + 1), 1, none⟩ _ wd.heap.size (by show wd.heap.size ≠ (wd.heap.size + 1); omega)).trans ((Below.heap_setCell _ ⟨(wd.heap.size + 1), 0, none⟩ _ wd.heap.size (by show wd.heap.size ≠ (wd.heap.size + 1); omega)).trans HZ1.out))
     clear f0 f1 d0 d1
     have f0 := HX7.out.free 0
     have f1 := HX7.out.free 1
     have d0 := HX7.out.cell 0
     have d1 := HX7.out.cell 1
     simp only [List.getElem?_cons_zero, List.getElem?_cons_succ] at d0 d1
     refine hK.out _ _ ⟨(HBX.out.cell (p := ⟨b1, 0, none⟩) (cell_ltG HH.out.1)).trans HH.out.1, (HBX.out.cell (p := ⟨b2, 0, none⟩) (cell_ltG HH.out.2.1)).trans HH.out.2.1, (HBX.out.cell (p := ⟨g, o + i * 2, none⟩) (cell_ltG HH.out.2.2.1)).trans HH.out.2.2.1, (HBX.out.cell (p := ⟨g, o + i * 2 + 1, none⟩) (cell_ltG HH.out.2.2.2.1)).trans HH.out.2.2.2.1, (HBX.out.cell (p := ⟨g2, o2 + i * 2, none⟩) (cell_ltG HH.out.2.2.2.2.1)).trans HH.out.2.2.2.2.1, (HBX.out.cell (p := ⟨g2, o2 + i * 2 + 1, none⟩) (cell_ltG HH.out.2.2.2.2.2)).trans HH.out.2.2.2.2.2⟩ (fun hHeld => ?_)
     clear hK K hW
     refine wpq_end 13 (by kernel_rfl) rfl (by kernel_rfl) (fun K hK => ?_)
     go_simp
     generalize hW : World.setCell _ _ _ = wy
     have HBY2 := Lib.hid (show Below wd.heap.size wd wy from hW ▸ (HBX.out.setCell (p := ⟨wd.heap.size, 0, none⟩) (by show wd.heap.size ≤ wd.heap.size; omega) _).setCell (p := ⟨wd.heap.size, 1, none⟩) (by show wd.heap.size ≤ wd.heap.size; omega) _)
     have HY7 := Lib.hid (show BoxV wd.heap.size 70 [.bool acc, .slice p1 k0 c1] wy from hW ▸ heap_setCell_same _ wd.heap.size 1 _ _ _ (heap_setCell_same wx wd.heap.size 0 _ _ (.bool acc) HX7.out))
     have HY6 := Lib.hid (show BoxV (wd.heap.size + 1) 70 [.bool acc, .slice p0 k0 c0] wy from hW ▸ (Below.heap_setCell _ ⟨wd.heap.size, 1, none⟩ _ (wd.heap.size + 1) (by show (wd.heap.size + 1) ≠ wd.heap.size; omega)).trans ((Below.heap_setCell _ ⟨wd.heap.size, 0, none⟩ _ (wd.heap.size + 1) (by show (wd.heap.size + 1) ≠ wd.heap.size; omega)).trans HX6.out))
     clear f0 f1 d0 d1
     refine hK.out _ _ ?_
     clear hK K hW
     refine wpq_done (by kernel_rfl) ?_ _
     go_simp
     go_wp2_with fail
     go_meet
     exact ⟨(wd.heap.size + 1), wd.heap.size, rfl, rfl, HY6.out, HY7.out, HBD.out.trans (HBY2.out.mono HBD.out.size)⟩
   case rest =>
   as_aux_lemma =>
   obtain ⟨g6, g7, rfl, rfl, HG6, HG7, HBC⟩ := hcut
   have hq1 := HB1E.out
   subst hq1
   have hq2 := HB2E.out
   subst hq2
   replace HW := Lib.hid (HW.out.trans (HBC.out.mono HW.out.size))
   replace HBW := Lib.hid (HBW.out.trans (HBC.out.mono HBW.out.size))
   replace HA := Lib.hid (HA.out.stay HBC.out)
   replace HA2 := Lib.hid (HA2.out.stay HBC.out)
   clear x0 y0 m0 m1 n0 n1 HBC
   have s0 := HG6.out.cell 0
   have s1 := HG6.out.cell 1
   have t0 := HG7.out.cell 0
   have t1 := HG7.out.cell 1
   simp only [List.getElem?_cons_zero, List.getElem?_cons_succ] at s0 s1 t0 t1
   have tac : (acc != acc) = false := by cases acc <;> rfl
   have tk : ((k0 : Int) != (k0 : Int)) = false := by simp
   go_wp2_with fail
   clear s0 t0
   go_loopw [8] (fun kv wx => ∃ k : Nat, kv = .int .i64 (k : Int) ∧ k ≤ k0 ∧ Hid (Below wc.heap.size wc wx)) (fun kv _ => k0 - (intOf kv).toNat)
   case atStart => exact ⟨0, rfl, Nat.zero_le _, Below.refl _ _⟩
   case round =>
    obtain ⟨k, rfl, hk, HV⟩ := hrel
    clear s1 t1
    have s1 := (HG6.out.below HV.out).cell 1
    have t1 := (HG7.out.below HV.out).cell 1
    simp only [List.getElem?_cons_zero, List.getElem?_cons_succ] at s1 t1
    by_cases hkt : k < k0
    case neg =>
     have hge : ¬ (k : Int) < k0 := by omega
     clear hkt
     go_wp2_with fail
     exact ⟨⟨i + 1, by simp, HI1.out, HW.out.trans (HV.out.mono HW.out.size)⟩, by have := HI1.out; simp [intOf]; omega⟩
    case pos =>
     have hkti : (k : Int) < k0 := by omega
     have hka : k < arcs.length := by rw [HKK.out]; exact hkt
     obtain ⟨ga, oa, rfl, e0, e1, e2⟩ := (HA.out.stay HV.out).at_ k hka
     obtain ⟨gb, ob, rfl, r0, r1, r2⟩ := (HA2.out.stay HV.out).at_ k hka
     have HK1 : Hid (k + 1 ≤ k0) := hkt
     generalize arcs[k].lo = lo at *
     generalize arcs[k].hi = hh at *
     generalize arcs[k].nx = nx at *
     have hq := fun w' => eqIn_arc (lo : Int) (hh : Int) (nx : Int) w'
     clear hkt
     go_upto_region 12 with fail
     go_quiet (fail)
     go_wp2_with fail
     exact ⟨⟨k + 1, by simp, HK1.out, below_drewN HV.out _⟩, by have := HK1.out; simp [intOf]; omega⟩
end Go.Proofs.YtpkecepelcppiaaGreatDoor

namespace Go.Proofs.YtpkecepelcppiaaGreatDoor
open Go.RowKit Go.Shelf
set_option maxHeartbeats 4000000
set_option maxRecDepth 100000

theorem LeastW_any (f : Nat) (m out : List StA) (hv : valA m = true) (hn : m.length < 1000) (hf : leastA f m = some out) (hff : f ≤ 1000) (N : Nat → Prop) (v : Value) (w : World) (hit : ItoaQ m.length w) (hm : RdS N w v m) :
  Calls Tryz.prog 63 #[.agg #[v]] w fun e w' => ∃ v', e = .returned (.agg #[v']) ∧ RdS (fun g => w.heap.size ≤ g) w' v' out ∧ Below w.heap.size w w' := by
 have HV := Lib.hid (fun w' (h : Below w.heap.size w w') => Valid_yes N m v w' (hm.stay h) hv)
 have HL := Lib.hid (fun w' (h : Below w.heap.size w w') => least_any N f m out v w' (hm.stay h) hv hn hf hff (fun c hc w2 hb => hit c hc w2 (h.trans (hb.mono h.size))))
 obtain ⟨a, cap, rfl, -⟩ := hm.form
 clear hv hn hf hff hm hit
 go_enter Tryz.func63, Tryz.ntmps63
 go_upto_region 1 with fail
 generalize hW : World.alloc w _ = w1
 obtain ⟨hbx, -, hz1, hb1⟩ := alloc_of hW
 generalize hW2 : World.alloc w1 _ = w2
 obtain ⟨hbx2, -, hz2, hb2⟩ := alloc_of hW2
 rw [hz1] at hbx2
 have HX := Lib.hid (show BoxV w.heap.size 29 [.slice a m.length cap] w2 from (hb2.block _ (by omega)).trans hbx)
 have HR := Lib.hid (show BoxV (w.heap.size + 1) 29 [.slice none 0 0] w2 from hbx2)
 have HB := Lib.hid (hb1.trans (hb2.mono hb1.size))
 clear hW hbx hz1 hb1 hW2 hbx2 hz2 hb2
 have x0 := HX.out.cell 0
 simp only [List.getElem?_cons_zero] at x0
 go_wp2_with fail
 refine (HV.out w2 HB.out).mono ?_
 rintro e w3 ⟨rfl, hb⟩
 replace HX := Lib.hid (HX.out.below hb)
 replace HR := Lib.hid (HR.out.below hb)
 replace HB := Lib.hid (HB.out.trans (hb.mono HB.out.size))
 clear hb x0
 have x0 := HX.out.cell 0
 simp only [List.getElem?_cons_zero] at x0
 go_wp2_with fail
 refine (HL.out w3 HB.out).mono ?_
 rintro e w9 ⟨v', rfl, hr, hb⟩
 obtain ⟨ra, rcap, rfl, -⟩ := hr.form
 have HRL := Lib.hid HR.out.lt
 replace HR := Lib.hid (HR.out.below hb)
 replace HB := Lib.hid (HB.out.trans (hb.mono HB.out.size))
 have HRS := Lib.hid (hr.mono (M := fun g => w.heap.size + 1 < g) (fun g h _ => Nat.lt_of_lt_of_le HRL.out h))
 have z0 := HR.out.cell 0
 have y0 := HR.out.free 0
 simp only [List.getElem?_cons_zero] at z0
 clear hr hb x0
 go_wp2_with fail
 refine bodyPost_ret (v := .agg #[.slice ra out.length rcap]) ?_ rfl ⟨_, rfl, ?_, HB.out.setCell (p := ⟨w.heap.size + 1, 0, none⟩) (by show w.heap.size ≤ w.heap.size + 1; omega) _⟩
 ·have hbx : BoxV (w.heap.size + 1) 29 [.slice ra out.length rcap] (w9.setCell ⟨w.heap.size + 1, 0, none⟩ (.slice ra out.length rcap)) := heap_setCell_same w9 (w.heap.size + 1) 0 _ _ _ HR.out
  have q0 := hbx.cell 0
  simp only [List.getElem?_cons_zero] at q0
  simp [results, Tryz.results63, go_sem, q0]
 ·exact (HRS.out.keep (fun g hg _ => Below.heap_setCell w9 ⟨w.heap.size + 1, 0, none⟩ _ g (by show g ≠ w.heap.size + 1; omega))).mono (fun g hg _ => by omega)
theorem itoaQ_small (n : Nat) (hn : n < 100) (w : World) : ItoaQ n w := fun c hc w' _ => (itoa_any c (by omega) w').mono fun e w'' h => ⟨h.1, by rw [h.2]; exact Below.refl _ _⟩
theorem Least_any (f : Nat) (m out : List StA) (hv : valA m = true) (hn : m.length < 100) (hf : leastA f m = some out) (hff : f ≤ 1000) : LeastQ m out := fun N v w hm => LeastW_any f m out hv (by omega) hf hff N v w (itoaQ_small _ hn w) hm
theorem least_of {m : List StA} (h : (leastA 20 m).isSome = true) : leastA 20 m = some ((leastA 20 m).getD []) := by
 cases hl : leastA 20 m with
 | none => rw [hl] at h; cases h
 | some o => rfl
theorem leastOne : LeastQ (machC 1 1 1) oneA := Least_any 20 _ _ one_least.2 (by decide +kernel) (least_of one_least.1) (by omega)
theorem leastUtf : LeastQ (machC 0 (-1) 0) utfA := Least_any 20 _ _ utf_least.2.1 (by decide +kernel) (least_of utf_least.1) (by omega)
theorem awakeF (w : World) (hE : Env w) : Calls Tryz.prog 13 #[] w fun e w' => e = .returned (.bool true) ∧ Below w.heap.size w w' := awake17_any w hE leastOne leastUtf
end Go.Proofs.YtpkecepelcppiaaGreatDoor

namespace Go.Proofs.YtpkecepelcppiaaGreatDoor
open Go.RowKit Go.Shelf
set_option maxHeartbeats 4000000
set_option maxRecDepth 100000

def TabP (w : World) : Prop := Lib.TabIs Tryz.prog w "internal/strconv.uint64pow10" .u64 Lib.pow10Tab ∧ 3 + 1 ≤ w.heap.size
theorem TabP.below {w w' : World} (h : TabP w) (hb : Below w.heap.size w w') : TabP w' :=
 ⟨Go.Joins.tab_stays (show Tryz.prog.globalNamed "internal/strconv.uint64pow10" = some 3 by kernel_rfl) h.1 hb (Nat.le_refl _), Nat.le_trans h.2 hb.size⟩
theorem itoa_facts : (List.range 1000).all (fun n => decide (Lib.itoa (n : Int) = decT n)) = true := by decide +kernel
theorem itoa_dec {n : Nat} (h : n < 1000) : Lib.itoa (n : Int) = decT n := of_decide_eq_true (List.all_eq_true.1 itoa_facts n (List.mem_range.2 h))
theorem below_growF (w : World) (k : Nat) (os : Array Obj) : Below w.heap.size w (Go.Sort.grow (w.drewN k) os) :=
 ⟨rfl, rfl, rfl, by show w.heap.size ≤ (w.heap ++ os).size; rw [Array.size_append]; omega, fun j hj => by show (w.heap ++ os)[j]? = w.heap[j]?; rw [Array.getElem?_append_left hj]⟩
theorem itoaQ_any (n : Nat) (hn : n < 1000) (w : World) (ht : TabP w) : ItoaQ n w := fun c hc w' hb => by
 refine (Tryz.strconv_Itoa (c : Int) (by omega) (by omega) w' (ht.below hb).1).mono ?_
 rintro e w2 ⟨rfl, k, os, rfl⟩
 exact ⟨by rw [itoa_dec (by omega)], below_growF w' k os⟩
def bndE (mn mx : Int) : Int := if mn < 0 ∨ mx < -1 ∨ (mx ≠ -1 ∧ mx < mn) then 1 else if 100 < mn ∨ 100 < mx then 32 else 0
def topOf (mn : Nat) (mx : Int) : Nat := if mx = -1 then mn else mx.toNat
def lenA (mn : Nat) (mx : Int) : List StA := (leastA 1000 (machC mn mx (topOf mn mx))).getD []
theorem bnd_ok {mn mx : Int} (h : bndE mn mx = 0) : ∃ n : Nat, mn = (n : Int) ∧ n ≤ 100 ∧ ((mx = -1 ∧ topOf n mx = n) ∨ (mx = (topOf n mx : Int) ∧ n ≤ topOf n mx ∧ topOf n mx ≤ 100)) := by
 unfold bndE at h
 split at h
 ·cases h
 ·split at h
  ·cases h
  ·refine ⟨mn.toNat, by omega, by omega, ?_⟩
   unfold topOf
   split
   ·exact .inl ⟨by assumption, rfl⟩
   ·exact .inr ⟨by omega, by omega, by omega⟩
theorem len_top {n : Nat} {mx : Int} (hn : n ≤ 100) (h : (mx = -1 ∧ topOf n mx = n) ∨ (mx = (topOf n mx : Int) ∧ n ≤ topOf n mx ∧ topOf n mx ≤ 100)) : topOf n mx ≤ 100 := by omega
theorem len_sem {n : Nat} {mx : Int} (hn : n ≤ 100) (h : (mx = -1 ∧ topOf n mx = n) ∨ (mx = (topOf n mx : Int) ∧ n ≤ topOf n mx ∧ topOf n mx ≤ 100)) :
  leastA 1000 (machC n mx (topOf n mx)) = some (lenA n mx) ∧ valA (lenA n mx) = true ∧ ∀ s : List UInt8, accA (lenA n mx) s = okCnt n mx (cntRun (0, 0) s).1 (cntRun (0, 0) s).2 := by
 have ht := len_top hn h
 obtain ⟨out, h1, h2, -, h4⟩ := least_sem (machC_val n mx (topOf n mx) (by omega)) (by rw [machC_len]; omega) 1000 (by rw [machC_len]; omega)
 have he : lenA n mx = out := by unfold lenA; rw [h1]; rfl
 rw [he]
 refine ⟨h1, h2, fun s => ?_⟩
 unfold accA
 rw [h2, Bool.true_and, h4, accC n mx (topOf n mx) (by omega)]
theorem fLength_err (mn mx : Int) (h : bndE mn mx ≠ 0) (w : World) : Calls Tryz.prog 19 #[.int .i64 mn, .int .i64 mx] w fun e w' => e = .returned (.tuple #[.agg #[.slice none 0 0], .int .i64 (bndE mn mx)]) ∧ Below w.heap.size w w' := by
 obtain ⟨R, hR⟩ : ∃ R, R = bndE mn mx := ⟨_, rfl⟩
 rw [← hR]
 have HR := Lib.hid hR
 have HN : Hid (R ≠ 0) := by unfold Hid; rw [hR]; exact h
 clear hR h
 by_cases h1 : mn < 0
 ·have HV : Hid (R = 1) := by unfold Hid; rw [HR.out]; unfold bndE; rw [if_pos (.inl h1)]
  clear HR HN
  rw [HV.out]
  go_enter Tryz.func19, Tryz.ntmps19
  go_upto_region 1 with fail
  generalize hW : World.alloc w _ = w1
  obtain ⟨hbx, -, hz1, hb1⟩ := alloc_of hW
  have HX : Hid (BoxV w.heap.size 29 [.slice none 0 0] w1) := hbx
  have HB := Lib.hid hb1
  clear hW hbx hz1 hb1
  have z0 := HX.out.cell 0
  have y0 := HX.out.free 0
  simp only [List.getElem?_cons_zero] at z0
  go_wp2_with fail
  all_goals
   refine bodyPost_ret (v := .tuple #[.agg #[.slice none 0 0], .int .i64 1]) ?_ rfl ⟨rfl, HB.out.setCell (p := ⟨w.heap.size, 0, none⟩) (Nat.le_refl _) _⟩
   have q0 := (show BoxV w.heap.size 29 [.slice none 0 0] _ from heap_setCell_same w1 w.heap.size 0 _ _ (.slice none 0 0) HX.out).cell 0
   simp only [List.getElem?_cons_zero] at q0
   simp [results, Tryz.results19, go_sem, q0]
 by_cases h2 : mx < -1
 ·have HV : Hid (R = 1) := by unfold Hid; rw [HR.out]; unfold bndE; rw [if_pos (.inr (.inl h2))]
  clear HR HN
  rw [HV.out]
  go_enter Tryz.func19, Tryz.ntmps19
  go_upto_region 1 with fail
  generalize hW : World.alloc w _ = w1
  obtain ⟨hbx, -, hz1, hb1⟩ := alloc_of hW
  have HX : Hid (BoxV w.heap.size 29 [.slice none 0 0] w1) := hbx
  have HB := Lib.hid hb1
  clear hW hbx hz1 hb1
  have z0 := HX.out.cell 0
  have y0 := HX.out.free 0
  simp only [List.getElem?_cons_zero] at z0
  go_wp2_with fail
  all_goals
   refine bodyPost_ret (v := .tuple #[.agg #[.slice none 0 0], .int .i64 1]) ?_ rfl ⟨rfl, HB.out.setCell (p := ⟨w.heap.size, 0, none⟩) (Nat.le_refl _) _⟩
   have q0 := (show BoxV w.heap.size 29 [.slice none 0 0] _ from heap_setCell_same w1 w.heap.size 0 _ _ (.slice none 0 0) HX.out).cell 0
   simp only [List.getElem?_cons_zero] at q0
   simp [results, Tryz.results19, go_sem, q0]
 obtain ⟨hm1, hm2⟩ : (mx != -1) = decide (mx ≠ -1) ∧ True := ⟨by by_cases h : mx = -1 <;> simp [h], trivial⟩
 by_cases h3 : mx = -1
 ·subst h3
  have h5 : (100 : Int) < mn := by
   have h0 := HN.out
   have h9 := HR.out
   unfold bndE at h9
   rw [if_neg (by omega)] at h9
   split at h9
   ·omega
   ·exact absurd h9 h0
  have HV : Hid (R = 32) := by unfold Hid; rw [HR.out]; unfold bndE; rw [if_neg (by omega), if_pos (.inl h5)]
  clear HR HN hm1 hm2
  rw [HV.out]
  go_enter Tryz.func19, Tryz.ntmps19
  go_upto_region 1 with fail
  generalize hW : World.alloc w _ = w1
  obtain ⟨hbx, -, hz1, hb1⟩ := alloc_of hW
  have HX : Hid (BoxV w.heap.size 29 [.slice none 0 0] w1) := hbx
  have HB := Lib.hid hb1
  clear hW hbx hz1 hb1
  have z0 := HX.out.cell 0
  have y0 := HX.out.free 0
  simp only [List.getElem?_cons_zero] at z0
  go_wp2_with fail
  all_goals
   refine bodyPost_ret (v := .tuple #[.agg #[.slice none 0 0], .int .i64 32]) ?_ rfl ⟨rfl, HB.out.setCell (p := ⟨w.heap.size, 0, none⟩) (Nat.le_refl _) _⟩
   have q0 := (show BoxV w.heap.size 29 [.slice none 0 0] _ from heap_setCell_same w1 w.heap.size 0 _ _ (.slice none 0 0) HX.out).cell 0
   simp only [List.getElem?_cons_zero] at q0
   simp [results, Tryz.results19, go_sem, q0]
 have tm : (mx != -1) = true := bne_iff_ne.2 h3
 clear hm1 hm2
 by_cases h4 : mx < mn
 ·have HV : Hid (R = 1) := by unfold Hid; rw [HR.out]; unfold bndE; rw [if_pos (.inr (.inr ⟨h3, h4⟩))]
  clear HR HN
  rw [HV.out]
  go_enter Tryz.func19, Tryz.ntmps19
  go_upto_region 1 with fail
  generalize hW : World.alloc w _ = w1
  obtain ⟨hbx, -, hz1, hb1⟩ := alloc_of hW
  have HX : Hid (BoxV w.heap.size 29 [.slice none 0 0] w1) := hbx
  have HB := Lib.hid hb1
  clear hW hbx hz1 hb1 h3
  have z0 := HX.out.cell 0
  have y0 := HX.out.free 0
  simp only [List.getElem?_cons_zero] at z0
  go_wp2_with fail
  all_goals
   refine bodyPost_ret (v := .tuple #[.agg #[.slice none 0 0], .int .i64 1]) ?_ rfl ⟨rfl, HB.out.setCell (p := ⟨w.heap.size, 0, none⟩) (Nat.le_refl _) _⟩
   have q0 := (show BoxV w.heap.size 29 [.slice none 0 0] _ from heap_setCell_same w1 w.heap.size 0 _ _ (.slice none 0 0) HX.out).cell 0
   simp only [List.getElem?_cons_zero] at q0
   simp [results, Tryz.results19, go_sem, q0]
 ·have h5 : (100 : Int) < mx := by
   have h0 := HN.out
   have h9 := HR.out
   unfold bndE at h9
   rw [if_neg (by omega)] at h9
   split at h9
   ·omega
   ·exact absurd h9 h0
  have HV : Hid (R = 32) := by unfold Hid; rw [HR.out]; unfold bndE; rw [if_neg (by omega), if_pos (.inr h5)]
  clear HR HN
  rw [HV.out]
  go_enter Tryz.func19, Tryz.ntmps19
  go_upto_region 1 with fail
  generalize hW : World.alloc w _ = w1
  obtain ⟨hbx, -, hz1, hb1⟩ := alloc_of hW
  have HX : Hid (BoxV w.heap.size 29 [.slice none 0 0] w1) := hbx
  have HB := Lib.hid hb1
  clear hW hbx hz1 hb1 h3
  have z0 := HX.out.cell 0
  have y0 := HX.out.free 0
  simp only [List.getElem?_cons_zero] at z0
  by_cases h6 : (100 : Int) < mn
  all_goals go_wp2_with fail
  all_goals
   refine bodyPost_ret (v := .tuple #[.agg #[.slice none 0 0], .int .i64 32]) ?_ rfl ⟨rfl, HB.out.setCell (p := ⟨w.heap.size, 0, none⟩) (Nat.le_refl _) _⟩
   have q0 := (show BoxV w.heap.size 29 [.slice none 0 0] _ from heap_setCell_same w1 w.heap.size 0 _ _ (.slice none 0 0) HX.out).cell 0
   simp only [List.getElem?_cons_zero] at q0
   simp [results, Tryz.results19, go_sem, q0]
theorem fLength_ok (n : Nat) (mx : Int) (hn : n ≤ 100) (h : (mx = -1 ∧ topOf n mx = n) ∨ (mx = (topOf n mx : Int) ∧ n ≤ topOf n mx ∧ topOf n mx ≤ 100)) (w : World) (ht : TabP w) :
  Calls Tryz.prog 19 #[.int .i64 (n : Int), .int .i64 mx] w fun e w' => ∃ v', e = .returned (.tuple #[.agg #[v'], .int .i64 0]) ∧ RdS (fun g => w.heap.size ≤ g) w' v' (lenA n mx) ∧ Below w.heap.size w w' := by
 obtain ⟨hl, -, -⟩ := len_sem hn h
 have htop := len_top hn h
 obtain ⟨top, htp⟩ : ∃ t, t = topOf n mx := ⟨_, rfl⟩
 rw [← htp] at h hl htop
 have HC := Lib.hid (fun w' (hb : Below w.heap.size w w') => machine_any n mx top (lenA n mx) w' (by omega) (fun N v w2 hb2 hr => LeastW_any 1000 _ _ (machC_val n mx top (by omega)) (by rw [machC_len]; omega) hl (by omega) N v w2 (itoaQ_any _ (by rw [machC_len]; omega) w2 (ht.below (hb.trans (hb2.mono hb.size)))) hr))
 unfold cntV at HC
 generalize lenA n mx = out at *
 have hni : ¬ (n : Int) < 0 := by omega
 have hni2 : ¬ (100 : Int) < (n : Int) := by omega
 have hm1 : ¬ mx < -1 := by omega
 have hm2 : ¬ (100 : Int) < mx := by omega
 clear hl ht htop htp hn
 rcases h with ⟨rfl, rfl⟩ | ⟨rfl, h2, h3⟩
 ·go_enter Tryz.func19, Tryz.ntmps19
  go_upto_region 1 with fail
  generalize hW : World.alloc w _ = w1
  obtain ⟨hbx, -, hz1, hb1⟩ := alloc_of hW
  have HX := Lib.hid (show BoxV w.heap.size 29 [.slice none 0 0] w1 from hbx)
  have HB := Lib.hid hb1
  clear hW hbx hz1 hb1
  go_upto_region 6 with fail
  generalize hW : World.alloc w1 _ = w2
  obtain ⟨hbx, -, hz1, hb1⟩ := alloc_of hW
  have HY := Lib.hid (show BoxV w1.heap.size 67 [.int .i64 (top : Int), .int .i64 (-1), .int .i64 (-1)] w2 from hbx)
  have HXL := Lib.hid HX.out.lt
  replace HX := Lib.hid (HX.out.below hb1)
  replace HB := Lib.hid (HB.out.trans (hb1.mono HB.out.size))
  have x0 := HY.out.cell 2
  have x1 := HY.out.free 2
  simp only [List.getElem?_cons_zero, List.getElem?_cons_succ] at x0
  clear hW hbx hz1 hb1
  go_upto_region 8 with fail
  generalize hW : World.setCell _ _ _ = w2b
  have HY2 := Lib.hid (show BoxV w1.heap.size 67 [.int .i64 (top : Int), .int .i64 (-1), .int .i64 (top : Int)] w2b from hW ▸ heap_setCell_same w2 w1.heap.size 2 _ _ (.int .i64 (top : Int)) HY.out)
  replace HX := Lib.hid (show BoxV w.heap.size 29 [.slice none 0 0] w2b from (hW ▸ Below.heap_setCell w2 ⟨w1.heap.size, 2, none⟩ _ w.heap.size (by have := HXL.out; show w.heap.size ≠ w1.heap.size; omega)).trans HX.out)
  replace HB := Lib.hid (show Below w.heap.size w w2b from hW ▸ HB.out.setCell (p := ⟨w1.heap.size, 2, none⟩) (by have := HXL.out; show w.heap.size ≤ w1.heap.size; omega) _)
  clear hW HY x0 x1
  have x0 := HY2.out.cell 0
  have x1 := HY2.out.cell 1
  have x2 := HY2.out.cell 2
  simp only [List.getElem?_cons_zero, List.getElem?_cons_succ] at x0 x1 x2
  go_wp2_with fail
  refine (HC.out w2b HB.out).mono ?_
  rintro e w3 ⟨v', rfl, hr, hb⟩
  obtain ⟨ra, rcap, rfl, -⟩ := hr.form
  have HXL2 := Lib.hid HX.out.lt
  replace HX := Lib.hid (HX.out.below hb)
  replace HB := Lib.hid (HB.out.trans (hb.mono HB.out.size))
  have HR := Lib.hid (hr.mono (M := fun g => w.heap.size < g) (fun g h _ => Nat.lt_of_lt_of_le HXL2.out h))
  have z0 := HX.out.cell 0
  have y0 := HX.out.free 0
  simp only [List.getElem?_cons_zero] at z0
  clear hr hb x0 x1 x2
  go_wp2_with fail
  refine bodyPost_ret (v := .tuple #[.agg #[.slice ra out.length rcap], .int .i64 0]) ?_ rfl ⟨_, rfl, ?_, HB.out.setCell (p := ⟨w.heap.size, 0, none⟩) (Nat.le_refl _) _⟩
  ·have hbx : BoxV w.heap.size 29 [.slice ra out.length rcap] (w3.setCell ⟨w.heap.size, 0, none⟩ (.slice ra out.length rcap)) := heap_setCell_same w3 w.heap.size 0 _ _ _ HX.out
   have q0 := hbx.cell 0
   simp only [List.getElem?_cons_zero] at q0
   simp [results, Tryz.results19, go_sem, q0]
  ·exact (HR.out.keep (fun g hg _ => Below.heap_setCell w3 ⟨w.heap.size, 0, none⟩ _ g (by show g ≠ w.heap.size; omega))).mono (fun g hg _ => Nat.le_of_lt hg)
 ·have tm : ((top : Int) != -1) = true := bne_iff_ne.2 (by omega)
  have tm2 : ((top : Int) == -1) = false := beq_false_of_ne (by omega)
  have hlt : ¬ (top : Int) < (n : Int) := by omega
  clear h2 h3
  go_enter Tryz.func19, Tryz.ntmps19
  go_upto_region 1 with fail
  generalize hW : World.alloc w _ = w1
  obtain ⟨hbx, -, hz1, hb1⟩ := alloc_of hW
  have HX := Lib.hid (show BoxV w.heap.size 29 [.slice none 0 0] w1 from hbx)
  have HB := Lib.hid hb1
  clear hW hbx hz1 hb1
  go_upto_region 6 with fail
  generalize hW : World.alloc w1 _ = w2
  obtain ⟨hbx, -, hz1, hb1⟩ := alloc_of hW
  have HY := Lib.hid (show BoxV w1.heap.size 67 [.int .i64 (n : Int), .int .i64 (top : Int), .int .i64 (top : Int)] w2 from hbx)
  have HXL := Lib.hid HX.out.lt
  replace HX := Lib.hid (HX.out.below hb1)
  replace HB := Lib.hid (HB.out.trans (hb1.mono HB.out.size))
  have x0 := HY.out.cell 0
  have x1 := HY.out.cell 1
  have x2 := HY.out.cell 2
  simp only [List.getElem?_cons_zero, List.getElem?_cons_succ] at x0 x1 x2
  clear hW hbx hz1 hb1
  go_wp2_with fail
  refine (HC.out w2 HB.out).mono ?_
  rintro e w3 ⟨v', rfl, hr, hb⟩
  obtain ⟨ra, rcap, rfl, -⟩ := hr.form
  have HXL2 := Lib.hid HX.out.lt
  replace HX := Lib.hid (HX.out.below hb)
  replace HB := Lib.hid (HB.out.trans (hb.mono HB.out.size))
  have HR := Lib.hid (hr.mono (M := fun g => w.heap.size < g) (fun g h _ => Nat.lt_of_lt_of_le HXL2.out h))
  have z0 := HX.out.cell 0
  have y0 := HX.out.free 0
  simp only [List.getElem?_cons_zero] at z0
  clear hr hb x0 x1 x2
  go_wp2_with fail
  refine bodyPost_ret (v := .tuple #[.agg #[.slice ra out.length rcap], .int .i64 0]) ?_ rfl ⟨_, rfl, ?_, HB.out.setCell (p := ⟨w.heap.size, 0, none⟩) (Nat.le_refl _) _⟩
  ·have hbx : BoxV w.heap.size 29 [.slice ra out.length rcap] (w3.setCell ⟨w.heap.size, 0, none⟩ (.slice ra out.length rcap)) := heap_setCell_same w3 w.heap.size 0 _ _ _ HX.out
   have q0 := hbx.cell 0
   simp only [List.getElem?_cons_zero] at q0
   simp [results, Tryz.results19, go_sem, q0]
  ·exact (HR.out.keep (fun g hg _ => Below.heap_setCell w3 ⟨w.heap.size, 0, none⟩ _ g (by show g ≠ w.heap.size; omega))).mono (fun g hg _ => Nat.le_of_lt hg)
end Go.Proofs.YtpkecepelcppiaaGreatDoor

namespace Go.Proofs.YtpkecepelcppiaaGreatDoor
open Go.RowKit Go.Shelf
set_option maxHeartbeats 8000000
set_option maxRecDepth 100000

theorem utf_len : utfA = lenA 0 (-1) := by
 have h1 := leastA_plus 20 (least_of utf_least.1) 980
 unfold lenA
 rw [show topOf 0 (-1) = 0 from rfl, show (1000 : Nat) = 20 + 980 from rfl, h1]
 rfl
theorem rlen_sem {n : Nat} {mx : Int} (hn : n ≤ 100) (h : (mx = -1 ∧ topOf n mx = n) ∨ (mx = (topOf n mx : Int) ∧ n ≤ topOf n mx ∧ topOf n mx ≤ 100)) (most : Nat) (hm : (mx = -1 ∧ most = n) ∨ (mx + 1 = (most : Int) ∧ mx ≠ -1)) : leastA 1000 (refM most n mx) = some (lenA n mx) := by
 rw [cnt_same (top := topOf n mx) (len_top hn h) (by omega) (by omega)]
 exact (len_sem hn h).1
theorem RUtf_any (w : World) : Calls Tryz.prog 16 #[] w fun e w' => ∃ v', e = .returned (.agg #[v']) ∧ RdS (fun g => w.heap.size ≤ g) w' v' utfA ∧ Below w.heap.size w w' := by
 have HC := Lib.hid (fun w' => counter_any 0 0 (-1) utfA w' (by omega) (by rw [utf_len]; exact rlen_sem (by omega) (.inl ⟨rfl, rfl⟩) 0 (.inl ⟨rfl, rfl⟩)))
 generalize hout : utfA = out at *
 clear hout
 go_enter Tryz.func16, Tryz.ntmps16
 go_upto_region 1 with fail
 generalize hW : World.alloc w _ = w1
 obtain ⟨hbx, -, hz1, hb1⟩ := alloc_of hW
 have HX := Lib.hid (show BoxV w.heap.size 29 [.slice none 0 0] w1 from hbx)
 have HB := Lib.hid hb1
 clear hW hbx hz1 hb1
 go_wp2_with fail
 refine (HC.out w1).mono ?_
 rintro e w3 ⟨v', rfl, hr, hb⟩
 obtain ⟨ra, rcap, rfl, -⟩ := hr.form
 have HXL := Lib.hid HX.out.lt
 replace HX := Lib.hid (HX.out.below hb)
 replace HB := Lib.hid (HB.out.trans (hb.mono HB.out.size))
 have HR := Lib.hid (hr.mono (M := fun g => w.heap.size < g) (fun g h _ => Nat.lt_of_lt_of_le HXL.out h))
 have z0 := HX.out.cell 0
 have y0 := HX.out.free 0
 simp only [List.getElem?_cons_zero] at z0
 clear hr hb HC
 go_wp2_with fail
 refine bodyPost_ret (v := .agg #[.slice ra out.length rcap]) ?_ rfl ⟨_, rfl, ?_, HB.out.setCell (p := ⟨w.heap.size, 0, none⟩) (Nat.le_refl _) _⟩
 ·have hbx : BoxV w.heap.size 29 [.slice ra out.length rcap] (w3.setCell ⟨w.heap.size, 0, none⟩ (.slice ra out.length rcap)) := heap_setCell_same w3 w.heap.size 0 _ _ _ HX.out
  have q0 := hbx.cell 0
  simp only [List.getElem?_cons_zero] at q0
  simp [results, Tryz.results16, go_sem, q0]
 ·exact (HR.out.keep (fun g hg _ => Below.heap_setCell w3 ⟨w.heap.size, 0, none⟩ _ g (by show g ≠ w.heap.size; omega))).mono (fun g hg _ => Nat.le_of_lt hg)
theorem utf_acc (s : List UInt8) : accA utfA s = decide (0 ≤ cntI s) := by
 rw [utf_len, (len_sem (n := 0) (mx := -1) (by omega) (.inl ⟨rfl, rfl⟩)).2.2 s]
 unfold okCnt cntI
 by_cases h : (cntRun (0, 0) s).2 = 0
 ·rw [if_pos h, decide_eq_true h, decide_eq_true (Nat.zero_le _), decide_eq_true (show (0 : Int) ≤ ((cntRun (0, 0) s).1 : Int) by omega)]
  rfl
 ·rw [if_neg h, decide_eq_false h]
  rfl
theorem utf_val : valA utfA = true ∧ utfA.length ≤ 1024 := by
 have h := (len_sem (n := 0) (mx := -1) (by omega) (.inl ⟨rfl, rfl⟩)).2.1
 rw [← utf_len] at h
 exact ⟨h, (val_len h).2⟩
theorem UtfX_any (s : ByteArray) (w : World) (hE : Env w) :
  Calls Tryz.prog 4 #[.string s] w fun e w' => e = .returned (.bool true) ∧ Below w.heap.size w w' := by
 have HE := Lib.hid hE
 have HAW := Lib.hid (fun w' h => awakeF w' h)
 clear hE
 by_cases hlen : (1000 : Int) < s.size
 ·go_enter Tryz.func4, Tryz.ntmps4
  go_wp2_with fail
  refine (HAW.out w HE.out).mono ?_
  rintro e w3 ⟨rfl, hb⟩
  have HB := Lib.hid hb
  clear hb
  go_wp2_with fail
  go_ret
  exact ⟨rfl, HB.out⟩
 have hs : s.size ≤ 1000000 := by omega
 have HAC := Lib.hid (fun (N : Nat → Prop) v w' (hr : RdS N w' v utfA) => Accepts_any N _ v s w' hr utf_val.1 hs)
 have HCN := Lib.hid (fun w' => Count_any s w' hs)
 have HU := Lib.hid (fun w' => fUtf_any w' leastUtf)
 have HRU := Lib.hid (fun w' => RUtf_any w')
 rw [utf_acc] at HAC
 have HOL := Lib.hid utf_val.2
 generalize utfA = out at *
 obtain ⟨I, hI⟩ : ∃ I, I = cntI (L s) := ⟨_, rfl⟩
 rw [← hI] at HAC HCN
 clear hs hI
 have tI : (decide ((0 : Int) ≤ I) == decide ((0 : Int) ≤ I)) = true := beq_self_eq_true _
 go_enter Tryz.func4, Tryz.ntmps4
 go_wp2_with fail
 refine (HU.out w).mono ?_
 rintro e w3 ⟨v, rfl, hr, hb⟩
 obtain ⟨ra, rcap, rfl, -⟩ := hr.form
 have HB := Lib.hid hb
 have HR := Lib.hid hr
 clear hb hr
 go_upto_region 4 with fail
 generalize hW : World.alloc w3 _ = w4
 obtain ⟨hbx, -, -, hb1⟩ := alloc_of hW
 have hS0 : BoxV w3.heap.size 29 [.slice ra out.length rcap] w4.drew := hbx
 replace HR := Lib.hid ((HR.out.stay hb1).stay (drewBn w4))
 replace HB := Lib.hid ((HB.out.trans (hb1.mono HB.out.size)).trans ((drewBn w4).mono (Nat.le_trans HB.out.size hb1.size)))
 clear hW hb1 hbx
 obtain ⟨bx, hbe⟩ : ∃ b, b = w3.heap.size := ⟨_, rfl⟩
 rw [← hbe] at hS0 ⊢
 clear hbe
 refine wpq_region (fun w' => BoxV bx 29 [.slice ra out.length rcap] w') 15 (by kernel_rfl) hS0 (fun hHeld => ?_)
 clear hS0
 generalize w4.drew = wd at *
 refine wpq_tk 0 (some 9) [15] (Or.inl ⟨by rfl, fun w hSw => by (have x0 := BoxV.cell hSw 0; simp only [List.getElem?_cons_zero] at x0; go_simp; with_reducible rfl)⟩) hHeld ?_ rfl rfl
 simp only [Act.put, sA, sZ, sS]
 refine wpq_one 1 (by kernel_rfl) rfl (fun K hK => ?_)
 go_simp
 refine (HRU.out wd).mono ?_
 rintro e wx ⟨v2, rfl, hr2, hb⟩
 replace hHeld := show BoxV bx 29 [.slice ra out.length rcap] wx from hHeld.below hb
 replace HR := Lib.hid (HR.out.stay hb)
 replace HB := Lib.hid (HB.out.trans (hb.mono HB.out.size))
 obtain ⟨na, ncap, rfl, -⟩ := hr2.form
 have HR2 := Lib.hid hr2
 clear hb hr2
 generalize wx = wd at *
 refine hK.out _ _ hHeld (fun hHeld => ?_)
 clear hK K
 refine wpq_one 2 (by kernel_rfl) rfl (fun K hK => ?_)
 go_simp
 refine (Same16_any _ _ out _ _ wd HR.out HR2.out HOL.out).mono ?_
 rintro e wx ⟨rfl, hb⟩
 replace hHeld := show BoxV bx 29 [.slice ra out.length rcap] wx from hHeld.below hb
 replace HR := Lib.hid (HR.out.stay hb)
 replace HB := Lib.hid (HB.out.trans (hb.mono HB.out.size))
 clear hb
 generalize wx = wd at *
 refine hK.out _ _ hHeld (fun hHeld => ?_)
 clear hK K
 refine wpq_tk 3 (some 12) [15] (Or.inl ⟨by rfl, fun w hSw => by (have x0 := BoxV.cell hSw 0; simp only [List.getElem?_cons_zero] at x0; go_simp; with_reducible rfl)⟩) hHeld ?_ rfl rfl
 simp only [Act.put, sA, sZ, sS]
 refine wpq_tk 4 (some 13) [15] (Or.inl ⟨by rfl, fun w hSw => by (have x0 := BoxV.cell hSw 0; simp only [List.getElem?_cons_zero] at x0; go_simp; with_reducible rfl)⟩) hHeld ?_ rfl rfl
 simp only [Act.put, sA, sZ, sS]
 refine wpq_tk 5 (some 14) [15] (Or.inl ⟨by rfl, fun w hSw => by (have x0 := BoxV.cell hSw 0; simp only [List.getElem?_cons_zero] at x0; go_simp; with_reducible rfl)⟩) hHeld ?_ rfl rfl
 simp only [Act.put, sA, sZ, sS]
 refine wpq_tk 7 (some 16) [15] (Or.inl ⟨by rfl, fun w hSw => by (have x0 := BoxV.cell hSw 0; simp only [List.getElem?_cons_zero] at x0; go_simp; with_reducible rfl)⟩) hHeld ?_ rfl rfl
 simp only [Act.put, sA, sZ, sS]
 refine wpq_one 6 (by kernel_rfl) rfl (fun K hK => ?_)
 go_simp
 refine (HAC.out _ _ wd HR.out).mono ?_
 rintro e wx ⟨rfl, hb⟩
 replace hHeld := show BoxV bx 29 [.slice ra out.length rcap] wx from hHeld.below hb
 replace HR := Lib.hid (HR.out.stay hb)
 replace HB := Lib.hid (HB.out.trans (hb.mono HB.out.size))
 clear hb
 generalize wx = wd at *
 refine hK.out _ _ hHeld (fun hHeld => ?_)
 clear hK K
 refine wpq_one 8 (by kernel_rfl) rfl (fun K hK => ?_)
 go_simp
 refine (HCN.out wd).mono ?_
 rintro e wx ⟨rfl, hb⟩
 replace hHeld := show BoxV bx 29 [.slice ra out.length rcap] wx from hHeld.below hb
 replace HR := Lib.hid (HR.out.stay hb)
 replace HB := Lib.hid (HB.out.trans (hb.mono HB.out.size))
 clear hb
 generalize wx = wd at *
 refine hK.out _ _ hHeld (fun hHeld => ?_)
 clear hK K
 refine wpq_tk 9 (some 18) [15] (Or.inl ⟨by rfl, fun w hSw => by (have x0 := BoxV.cell hSw 0; simp only [List.getElem?_cons_zero] at x0; go_simp; with_reducible rfl)⟩) hHeld ?_ rfl rfl
 simp only [Act.put, sA, sZ, sS]
 refine wpq_tk 10 (some 19) [15] (Or.inl ⟨by rfl, fun w hSw => by (have x0 := BoxV.cell hSw 0; simp only [List.getElem?_cons_zero] at x0; go_simp; with_reducible rfl)⟩) hHeld ?_ rfl rfl
 simp only [Act.put, sA, sZ, sS]
 refine wpq_tk 11 (some 20) [15] (Or.inl ⟨by rfl, fun w hSw => by (have x0 := BoxV.cell hSw 0; simp only [List.getElem?_cons_zero] at x0; go_simp; with_reducible rfl)⟩) hHeld ?_ rfl rfl
 simp only [Act.put, sA, sZ, sS]
 refine wpq_tk 12 (some 21) [15] (Or.inl ⟨by rfl, fun w hSw => by (have x0 := BoxV.cell hSw 0; simp only [List.getElem?_cons_zero] at x0; go_simp; with_reducible rfl)⟩) hHeld ?_ rfl rfl
 simp only [Act.put, sA, sZ, sS]
 refine wpq_one 13 (by kernel_rfl) rfl (fun K hK => ?_)
 go_simp
 refine (HAW.out wd (HE.out.below HB.out)).mono ?_
 rintro e wx ⟨rfl, hb⟩
 replace hHeld := show BoxV bx 29 [.slice ra out.length rcap] wx from hHeld.below hb
 replace HR := Lib.hid (HR.out.stay hb)
 replace HB := Lib.hid (HB.out.trans (hb.mono HB.out.size))
 clear hb
 generalize wx = wd at *
 refine hK.out _ _ hHeld (fun hHeld => ?_)
 clear hK K
 refine wpq_tk 14 (some 23) [15] (Or.inl ⟨by rfl, fun w hSw => by (have x0 := BoxV.cell hSw 0; simp only [List.getElem?_cons_zero] at x0; go_simp; with_reducible rfl)⟩) hHeld ?_ rfl rfl
 simp only [Act.put, sA, sZ, sS]
 refine wpq_end 15 (by kernel_rfl) rfl (by kernel_rfl) (fun K hK => ?_)
 go_simp
 refine hK.out _ _ ?_
 clear hK K
 refine wpq_done (by kernel_rfl) ?_ _
 go_simp
 go_wp2_with fail
 go_ret
 exact ⟨rfl, HB.out⟩
end Go.Proofs.YtpkecepelcppiaaGreatDoor

namespace Go.Proofs.YtpkecepelcppiaaGreatDoor
open Go.RowKit Go.Shelf
set_option maxHeartbeats 8000000
set_option maxRecDepth 100000

theorem Bounds_any (mn mx : Int) (w : World) : Calls Tryz.prog 20 #[.int .i64 mn, .int .i64 mx] w fun e w' => e = .returned (.int .i64 (bndE mn mx)) ∧ w = w' := by
 obtain ⟨R, hR⟩ : ∃ R, R = bndE mn mx := ⟨_, rfl⟩
 rw [← hR]
 have HR := Lib.hid hR
 clear hR
 by_cases h1 : mn < 0
 ·have HV : Hid (R = 1) := by unfold Hid; rw [HR.out]; unfold bndE; rw [if_pos (.inl h1)]
  clear HR
  rw [HV.out]
  go_enter Tryz.func20, Tryz.ntmps20
  go_wp2_with fail
  go_ret
  exact ⟨rfl, rfl⟩
 by_cases h2 : mx < -1
 ·have HV : Hid (R = 1) := by unfold Hid; rw [HR.out]; unfold bndE; rw [if_pos (.inr (.inl h2))]
  clear HR
  rw [HV.out]
  go_enter Tryz.func20, Tryz.ntmps20
  go_wp2_with fail
  go_ret
  exact ⟨rfl, rfl⟩
 by_cases h3 : 0 ≤ mx
 ·by_cases h4 : mx < mn
  ·have HV : Hid (R = 1) := by unfold Hid; rw [HR.out]; unfold bndE; rw [if_pos (.inr (.inr ⟨by omega, h4⟩))]
   clear HR
   rw [HV.out]
   go_enter Tryz.func20, Tryz.ntmps20
   go_wp2_with fail
   go_ret
   exact ⟨rfl, rfl⟩
  ·have HRE : Hid (R = if 100 < mn ∨ 100 < mx then 32 else 0) := by unfold Hid; rw [HR.out]; unfold bndE; rw [if_neg (by omega)]
   clear HR
   by_cases h5 : (100 : Int) < mn
   ·have HV : Hid (R = 32) := by unfold Hid; rw [HRE.out, if_pos (.inl h5)]
    rw [HV.out]
    go_enter Tryz.func20, Tryz.ntmps20
    go_wp2_with fail
    go_ret
    exact ⟨rfl, rfl⟩
   ·by_cases h6 : (100 : Int) < mx
    ·have HV : Hid (R = 32) := by unfold Hid; rw [HRE.out, if_pos (.inr h6)]
     rw [HV.out]
     go_enter Tryz.func20, Tryz.ntmps20
     go_wp2_with fail
     go_ret
     exact ⟨rfl, rfl⟩
    ·have HV : Hid (R = 0) := by unfold Hid; rw [HRE.out, if_neg (by omega)]
     rw [HV.out]
     go_enter Tryz.func20, Tryz.ntmps20
     go_wp2_with fail
     go_ret
     exact ⟨rfl, rfl⟩
 ·have HRE : Hid (R = if 100 < mn then 32 else 0) := by
   unfold Hid
   rw [HR.out]
   unfold bndE
   rw [if_neg (by omega)]
   by_cases h : 100 < mn
   ·rw [if_pos (.inl h), if_pos h]
   ·rw [if_neg (by omega), if_neg h]
  have h6 : ¬ (100 : Int) < mx := by omega
  clear HR
  by_cases h5 : (100 : Int) < mn
  ·have HV : Hid (R = 32) := by unfold Hid; rw [HRE.out, if_pos h5]
   rw [HV.out]
   go_enter Tryz.func20, Tryz.ntmps20
   go_wp2_with fail
   go_ret
   exact ⟨rfl, rfl⟩
  ·have HV : Hid (R = 0) := by unfold Hid; rw [HRE.out, if_neg h5]
   rw [HV.out]
   go_enter Tryz.func20, Tryz.ntmps20
   go_wp2_with fail
   go_ret
   exact ⟨rfl, rfl⟩
theorem RLength_ok (n : Nat) (mx : Int) (hn : n ≤ 100) (h : (mx = -1 ∧ topOf n mx = n) ∨ (mx = (topOf n mx : Int) ∧ n ≤ topOf n mx ∧ topOf n mx ≤ 100)) (hb0 : bndE (n : Int) mx = 0) (w : World) :
  Calls Tryz.prog 22 #[.int .i64 (n : Int), .int .i64 mx] w fun e w' => ∃ v', e = .returned (.tuple #[.agg #[v'], .int .i64 0]) ∧ RdS (fun g => w.heap.size ≤ g) w' v' (lenA n mx) ∧ Below w.heap.size w w' := by
 have HBD := Lib.hid (fun w' => Bounds_any (n : Int) mx w')
 rw [hb0] at HBD
 have HC : Hid (∀ most : Nat, ((mx = -1 ∧ most = n) ∨ (mx + 1 = (most : Int) ∧ mx ≠ -1)) → ∀ w', Calls Tryz.prog 39 #[.int .i64 (most : Int), .int .i64 (n : Int), .int .i64 mx] w' fun e w'' => ∃ v', e = .returned (.agg #[v']) ∧ RdS (fun g => w'.heap.size ≤ g) w'' v' (lenA n mx) ∧ Below w'.heap.size w' w'') := fun most hm w' => counter_any most n mx _ w' (by omega) (rlen_sem hn h most hm)
 generalize lenA n mx = out at *
 have hm100 : mx ≤ 100 := by omega
 have hm1 : -1 ≤ mx := by omega
 clear hb0 h hn
 go_enter Tryz.func22, Tryz.ntmps22
 go_upto_region 1 with fail
 generalize hW : World.alloc w _ = w1
 obtain ⟨hbx, -, hz1, hb1⟩ := alloc_of hW
 have HX := Lib.hid (show BoxV w.heap.size 29 [.slice none 0 0] w1 from hbx)
 have HB := Lib.hid hb1
 clear hW hbx hz1 hb1
 go_wp2_with fail
 refine (HBD.out w1).mono ?_
 rintro e wx ⟨rfl, hwx⟩
 subst hwx
 by_cases h3 : mx = -1
 ·subst h3
  have HC2 := Lib.hid (HC.out n (.inl ⟨rfl, rfl⟩))
  clear hm100 hm1
  go_wp2_with fail
  refine (HC2.out w1).mono ?_
  rintro e w3 ⟨v', rfl, hr, hb⟩
  obtain ⟨ra, rcap, rfl, -⟩ := hr.form
  have HXL := Lib.hid HX.out.lt
  replace HX := Lib.hid (HX.out.below hb)
  replace HB := Lib.hid (HB.out.trans (hb.mono HB.out.size))
  have HR := Lib.hid (hr.mono (M := fun g => w.heap.size < g) (fun g h _ => Nat.lt_of_lt_of_le HXL.out h))
  have z0 := HX.out.cell 0
  have y0 := HX.out.free 0
  simp only [List.getElem?_cons_zero] at z0
  clear hr hb HC HC2
  go_wp2_with fail
  refine bodyPost_ret (v := .tuple #[.agg #[.slice ra out.length rcap], .int .i64 0]) ?_ rfl ⟨_, rfl, ?_, HB.out.setCell (p := ⟨w.heap.size, 0, none⟩) (Nat.le_refl _) _⟩
  ·have hbx : BoxV w.heap.size 29 [.slice ra out.length rcap] (w3.setCell ⟨w.heap.size, 0, none⟩ (.slice ra out.length rcap)) := heap_setCell_same w3 w.heap.size 0 _ _ _ HX.out
   have q0 := hbx.cell 0
   simp only [List.getElem?_cons_zero] at q0
   simp [results, Tryz.results22, go_sem, q0]
  ·exact (HR.out.keep (fun g hg _ => Below.heap_setCell w3 ⟨w.heap.size, 0, none⟩ _ g (by show g ≠ w.heap.size; omega))).mono (fun g hg _ => Nat.le_of_lt hg)
 ·have tm : (mx == -1) = false := beq_false_of_ne h3
  obtain ⟨most, hmo⟩ : ∃ k : Nat, (k : Int) = mx + 1 := ⟨(mx + 1).toNat, by omega⟩
  have HC2 := Lib.hid (HC.out most (.inr ⟨hmo.symm, h3⟩))
  rw [hmo] at HC2
  clear hmo h3
  go_wp2_with fail
  refine (HC2.out w1).mono ?_
  rintro e w3 ⟨v', rfl, hr, hb⟩
  obtain ⟨ra, rcap, rfl, -⟩ := hr.form
  have HXL := Lib.hid HX.out.lt
  replace HX := Lib.hid (HX.out.below hb)
  replace HB := Lib.hid (HB.out.trans (hb.mono HB.out.size))
  have HR := Lib.hid (hr.mono (M := fun g => w.heap.size < g) (fun g h _ => Nat.lt_of_lt_of_le HXL.out h))
  have z0 := HX.out.cell 0
  have y0 := HX.out.free 0
  simp only [List.getElem?_cons_zero] at z0
  clear hr hb HC HC2
  go_wp2_with fail
  refine bodyPost_ret (v := .tuple #[.agg #[.slice ra out.length rcap], .int .i64 0]) ?_ rfl ⟨_, rfl, ?_, HB.out.setCell (p := ⟨w.heap.size, 0, none⟩) (Nat.le_refl _) _⟩
  ·have hbx : BoxV w.heap.size 29 [.slice ra out.length rcap] (w3.setCell ⟨w.heap.size, 0, none⟩ (.slice ra out.length rcap)) := heap_setCell_same w3 w.heap.size 0 _ _ _ HX.out
   have q0 := hbx.cell 0
   simp only [List.getElem?_cons_zero] at q0
   simp [results, Tryz.results22, go_sem, q0]
  ·exact (HR.out.keep (fun g hg _ => Below.heap_setCell w3 ⟨w.heap.size, 0, none⟩ _ g (by show g ≠ w.heap.size; omega))).mono (fun g hg _ => Nat.le_of_lt hg)
theorem LengthsX_any (mn mx : Int) (w : World) (hE : Env w) (hT : TabP w) :
  Calls Tryz.prog 5 #[.int .i64 mn, .int .i64 mx] w fun e w' => e = .returned (.bool true) ∧ Below w.heap.size w w' := by
 have HE := Lib.hid hE
 have HT := Lib.hid hT
 have HAW := Lib.hid (fun w' h => awakeF w' h)
 have HBD := Lib.hid (fun w' => Bounds_any mn mx w')
 clear hE hT
 by_cases hb0 : bndE mn mx = 0
 case neg =>
  have HL := Lib.hid (fun w' => fLength_err mn mx hb0 w')
  have tb : (bndE mn mx != 0) = true := bne_iff_ne.2 hb0
  have tR : (bndE mn mx == bndE mn mx) = true := beq_self_eq_true _
  have hwr : IntKind.i64.wrap (bndE mn mx) = bndE mn mx := by unfold bndE; split; rfl; split <;> rfl
  clear hb0
  generalize bndE mn mx = R at *
  go_enter Tryz.func5, Tryz.ntmps5
  go_wp2_with fail
  refine (HL.out w).mono ?_
  rintro e w3 ⟨rfl, hb⟩
  have HB := Lib.hid hb
  clear hb
  go_upto_region 2 with fail
  generalize hW : World.alloc w3 _ = w4
  obtain ⟨hbx, -, -, hb1⟩ := alloc_of hW
  have HX := Lib.hid (show BoxV w3.heap.size 29 [.slice none 0 0] w4 from hbx)
  replace HB := Lib.hid (HB.out.trans (hb1.mono HB.out.size))
  clear hW hb1 hbx
  have x0 := HX.out.cell 0
  simp only [List.getElem?_cons_zero] at x0
  go_wp2_with fail
  refine (HBD.out w4).mono ?_
  rintro e wx ⟨rfl, hwx⟩
  subst hwx
  go_wp2_with fail
  refine (HAW.out w4 (HE.out.below HB.out)).mono ?_
  rintro e w5 ⟨rfl, hb⟩
  replace HB := Lib.hid (HB.out.trans (hb.mono HB.out.size))
  clear hb x0
  go_wp2_with fail
  go_ret
  exact ⟨rfl, HB.out⟩
 case pos =>
  obtain ⟨n, rfl, hn, htop⟩ := bnd_ok hb0
  have hval := (len_sem hn htop).2.1
  have HL := Lib.hid (fun w' (h : TabP w') => fLength_ok n mx hn htop w' h)
  have HRL := Lib.hid (fun w' => RLength_ok n mx hn htop hb0 w')
  have HV := Lib.hid (fun (N : Nat → Prop) v w' (hr : RdS N w' v (lenA n mx)) => RMValid_yes N _ v w' hr hval)
  have HS := Lib.hid (fun (N1 N2 : Nat → Prop) v1 v2 w' (h1 : RdS N1 w' v1 (lenA n mx)) (h2 : RdS N2 w' v2 (lenA n mx)) => Same16_any N1 N2 _ v1 v2 w' h1 h2 (val_len hval).2)
  rw [hb0] at HBD
  generalize lenA n mx = out at *
  clear hb0 htop hn hval
  go_enter Tryz.func5, Tryz.ntmps5
  go_wp2_with fail
  refine (HL.out w HT.out).mono ?_
  rintro e w3 ⟨v, rfl, hr, hb⟩
  obtain ⟨ra, rcap, rfl, -⟩ := hr.form
  have HB := Lib.hid hb
  have HR := Lib.hid hr
  clear hb hr
  go_upto_region 2 with fail
  generalize hW : World.alloc w3 _ = w4
  obtain ⟨hbx, -, -, hb1⟩ := alloc_of hW
  have HX := Lib.hid (show BoxV w3.heap.size 29 [.slice ra out.length rcap] w4 from hbx)
  replace HR := Lib.hid (HR.out.stay hb1)
  replace HB := Lib.hid (HB.out.trans (hb1.mono HB.out.size))
  clear hW hb1 hbx
  have x0 := HX.out.cell 0
  simp only [List.getElem?_cons_zero] at x0
  go_wp2_with fail
  refine (HBD.out w4).mono ?_
  rintro e wx ⟨rfl, hwx⟩
  subst hwx
  by_cases hbig : (8 : Int) < (n : Int) ∨ 8 < mx
  ·by_cases h8 : (8 : Int) < (n : Int)
   ·clear hbig
    go_wp2_with fail
    refine (HV.out _ _ w4 HR.out).mono ?_
    rintro e w5 ⟨rfl, hb⟩
    replace HB := Lib.hid (HB.out.trans (hb.mono HB.out.size))
    clear hb x0
    go_wp2_with fail
    refine (HAW.out w5 (HE.out.below HB.out)).mono ?_
    rintro e w6 ⟨rfl, hb⟩
    replace HB := Lib.hid (HB.out.trans (hb.mono HB.out.size))
    clear hb
    go_wp2_with fail
    go_ret
    exact ⟨rfl, HB.out⟩
   ·have h9 : (8 : Int) < mx := by omega
    clear hbig
    go_wp2_with fail
    refine (HV.out _ _ w4 HR.out).mono ?_
    rintro e w5 ⟨rfl, hb⟩
    replace HB := Lib.hid (HB.out.trans (hb.mono HB.out.size))
    clear hb x0
    go_wp2_with fail
    refine (HAW.out w5 (HE.out.below HB.out)).mono ?_
    rintro e w6 ⟨rfl, hb⟩
    replace HB := Lib.hid (HB.out.trans (hb.mono HB.out.size))
    clear hb
    go_wp2_with fail
    go_ret
    exact ⟨rfl, HB.out⟩
  ·have h8 : ¬ (8 : Int) < (n : Int) := by omega
   have h9 : ¬ (8 : Int) < mx := by omega
   clear hbig
   go_wp2_with fail
   refine (HRL.out w4).mono ?_
   rintro e w5 ⟨v2, rfl, hr2, hb⟩
   obtain ⟨na, ncap, rfl, -⟩ := hr2.form
   replace HX := Lib.hid (HX.out.below hb)
   replace HR := Lib.hid (HR.out.stay hb)
   have HR2 := Lib.hid hr2
   replace HB := Lib.hid (HB.out.trans (hb.mono HB.out.size))
   clear hb hr2 x0
   go_upto_region 8 with fail
   generalize hW : World.alloc w5 _ = w6
   obtain ⟨hbx, -, -, hb1⟩ := alloc_of hW
   have HY := Lib.hid (show BoxV w5.heap.size 29 [.slice na out.length ncap] w6 from hbx)
   replace HX := Lib.hid (HX.out.below hb1)
   replace HR := Lib.hid (HR.out.stay hb1)
   replace HR2 := Lib.hid (HR2.out.stay hb1)
   replace HB := Lib.hid (HB.out.trans (hb1.mono HB.out.size))
   clear hW hb1 hbx
   have x0 := HX.out.cell 0
   have y0 := HY.out.cell 0
   simp only [List.getElem?_cons_zero] at x0 y0
   go_wp2_with fail
   refine (HS.out _ _ _ _ w6 HR.out HR2.out).mono ?_
   rintro e w7 ⟨rfl, hb⟩
   replace HB := Lib.hid (HB.out.trans (hb.mono HB.out.size))
   clear hb x0 y0
   go_wp2_with fail
   refine (HAW.out w7 (HE.out.below HB.out)).mono ?_
   rintro e w8 ⟨rfl, hb⟩
   replace HB := Lib.hid (HB.out.trans (hb.mono HB.out.size))
   clear hb
   go_wp2_with fail
   go_ret
   exact ⟨rfl, HB.out⟩
end Go.Proofs.YtpkecepelcppiaaGreatDoor
