/- formats.spans, counter.dead, state, arcs walked; printed by gen_fr.py. Conditions: at most 100 characters are told apart. -/
import Derived.Test.YtpkecepelcppiaaGreatDoorZd23
import Derived.Test.YtpkecepelcppiaaGreatDoorZd24
import Derived.Test.YtpkecepelcppiaaGreatDoorZd2
import Derived.Test.YtpkecepelcppiaaGreatDoorZd22
import Derived.Test.YtpkecepelcppiaaGreatDoorZd11
import Derived.Deep.DeepCutAuto
import Derived.Deep.CutBlock
namespace Go.Proofs.YtpkecepelcppiaaGreatDoor
open Go.RowKit Go.Shelf
set_option maxHeartbeats 8000000
set_option maxRecDepth 100000

/-! Arcs out of what the bytes lead to. -/
def arcG (bytes tl : List Nat) : Nat → List ArcA
 | 0 => []
 | k + 1 => addArcA (arcG bytes tl k) (bytes.getD k 0) (hiA bytes k) (tl.getD k 0)
theorem arcA_le (l : List ArcA) (lo hi nx : Nat) : (addArcA l lo hi nx).length ≤ l.length + 1 := by
 rcases List.eq_nil_or_concat l with rfl | ⟨l', a, rfl⟩
 ·simp [addArcA]
 ·rw [List.concat_eq_append, addArcA_last]
  split <;> simp
theorem arcG_len (bytes tl : List Nat) : ∀ k, (arcG bytes tl k).length ≤ k
 | 0 => Nat.le_refl _
 | k + 1 => Nat.le_trans (arcA_le _ _ _ _) (Nat.succ_le_succ (arcG_len bytes tl k))
theorem arcs16_any (bytes tl : List Nat) (bv tv : Value) (w : World) (hb : RdNm w bv bytes) (ht : RdNm w tv tl) (hl : bytes.length = tl.length) (h256 : bytes.length ≤ 256) (hbp : ∀ i b, bytes[i + 1]? = some b → 1 ≤ b ∧ b ≤ 255) :
  Calls Tryz.prog 126 #[bv, tv] w fun e w' => ∃ v', e = .returned v' ∧ OwnL w.heap.size 72 3 arcV w' v' (arcG bytes tl bytes.length) ∧ Below w.heap.size w w' := by
 obtain ⟨ba, bcap, rfl, -⟩ := hb.form
 obtain ⟨ta, tcap, rfl, -⟩ := ht.form
 have hli : (bytes.length : Int) ≤ 256 := by omega
 have hlt2 : (tl.length : Int) = bytes.length := by omega
 rw [← hl]
 have HBY := Lib.hid hb
 have HTO := Lib.hid ht
 have HL := Lib.hid hl
 have HBP := Lib.hid hbp
 have HALL := Lib.hid (arcG_len bytes tl)
 have HN := Lib.hid h256
 clear hb ht hl h256 hbp hlt2
 go_enter Tryz.func126, Tryz.ntmps126
 go_wp2_with fail
 go_loopw [5, 6] (fun ov iv wr => ∃ (i : Nat) (A : Option Addr) (cap : Nat), iv = .int .i64 (i : Int) ∧ i ≤ bytes.length ∧ ov = .slice A (arcG bytes tl i).length cap ∧ Hid (OwnL w.heap.size 72 3 arcV wr (.slice A (arcG bytes tl i).length cap) (arcG bytes tl i)) ∧ Hid (Below w.heap.size w wr)) (fun _ iv _ => bytes.length - (intOf iv).toNat)
 case atStart => exact ⟨0, none, 0, rfl, Nat.zero_le _, rfl, OwnL.nil _ _ _ _ _, Below.refl _ _⟩
 case round =>
  obtain ⟨i, A, cap, rfl, hi, rfl, HO, HB⟩ := hrel
  by_cases hlt : i < bytes.length
  case neg =>
   have hge : ¬ (i : Int) < bytes.length := by omega
   have HE : Hid (i = bytes.length) := by unfold Hid; omega
   clear hlt
   go_wp2_with fail
   go_ret
   refine ⟨_, rfl, ?_, HB.out⟩
   rw [← HE.out]
   exact HO.out
  case pos =>
   have hlti : (i : Int) < bytes.length := by omega
   obtain ⟨gb, ob, rfl, c1⟩ := (HBY.out.stay HB.out).at_ i hlt
   obtain ⟨gt, ot, rfl, c2⟩ := (HTO.out.stay HB.out).at_ i (by have := HL.out; omega)
   have HGB := Lib.hid (show gb < w.heap.size from by obtain ⟨a', cap', he, -, -, -, h3⟩ := HBY.out; cases he; obtain ⟨g2, o2, he2, hg, -⟩ := h3 (by omega); cases he2; exact hg)
   have HGT := Lib.hid (show gt < w.heap.size from by obtain ⟨a', cap', he, -, -, -, h3⟩ := HTO.out; cases he; obtain ⟨g2, o2, he2, hg, -⟩ := h3 (by have := HL.out; omega); cases he2; exact hg)
   have HBE : Hid (bytes.getD i 0 = bytes[i]) := by unfold Hid; rw [List.getD_eq_getElem?_getD, List.getElem?_eq_getElem hlt]; rfl
   have htl : i < tl.length := by have := HL.out; omega
   have HTE : Hid (tl.getD i 0 = tl[i]) := by unfold Hid; rw [List.getD_eq_getElem?_getD, List.getElem?_eq_getElem htl]; rfl
   have HST : Hid (arcG bytes tl (i + 1) = addArcA (arcG bytes tl i) bytes[i] (hiA bytes i) tl[i]) := by unfold Hid; rw [← HBE.out, ← HTE.out]; rfl
   have HAL : Hid ((arcG bytes tl i).length ≤ 256) := by have := HALL.out i; unfold Hid; omega
   have hali : ((arcG bytes tl i).length : Int) ≤ 256 := by have := HAL.out; omega
   generalize bytes[i] = b at *
   generalize tl[i] = t at *
   have HI1 : Hid (i + 1 ≤ bytes.length) := hlt
   obtain ⟨l, hle⟩ : ∃ l, l = arcG bytes tl i := ⟨_, rfl⟩
   rw [← hle] at HO HST HAL hali ⊢
   have HLE := Lib.hid hle
   obtain ⟨hh, hhe⟩ : ∃ h, h = hiA bytes i := ⟨_, rfl⟩
   rw [← hhe] at HST
   have HHE := Lib.hid hhe
   have HLT := Lib.hid hlt
   clear hlt htl hle hhe
   by_cases hn : i + 1 < bytes.length
   ·have hni : (i : Int) + 1 < bytes.length := by omega
    obtain ⟨g2, o2, he2, c3⟩ := (HBY.out.stay HB.out).at_ (i + 1) hn
    cases he2
    obtain ⟨h1, h2⟩ := HBP.out i _ (List.getElem?_eq_getElem hn)
    have HF : Hid (hh = bytes[i + 1] - 1) := by unfold Hid; rw [HHE.out]; unfold hiA; rw [List.getElem?_eq_getElem hn]
    generalize bytes[i + 1] = b3 at *
    have HB1 : Hid (1 ≤ b3) := h1
    have hb1 : (1 : Int) ≤ (b3 : Int) := by omega
    have hb2 : (b3 : Int) ≤ 255 := by omega
    clear hn h1 h2
    go_upto_region 8 with fail
    rw [show Value.int .i64 ((b3 : Int) - 1) = Value.int .i64 (hh : Int) by rw [HF.out, Int.ofNat_sub HB1.out]; rfl]
    clear c3 hb1 hb2 hni
    rcases List.eq_nil_or_concat l with rfl | ⟨l', a, rfl⟩
    ·have HNX : Hid (arcG bytes tl (i + 1) = [] ++ [⟨b, hh, t⟩]) := HST.out
     go_upto_region 9 with fail
     go_quiet (fail)
     generalize hWQ : World.drewN wr _ = wq
     have hbq : Below wr.heap.size wr wq := hWQ ▸ below_drewN (Below.refl wr.heap.size wr) _
     replace c1 := (hbq.cell (p := ⟨gb, ob + i, none⟩) (by have := HGB.out; have := HB.out.size; show gb < _; omega)).trans c1
     replace c2 := (hbq.cell (p := ⟨gt, ot + i, none⟩) (by have := HGT.out; have := HB.out.size; show gt < _; omega)).trans c2
     replace HO := Lib.hid (HO.out.stay hbq)
     replace HB := Lib.hid (HB.out.trans (hbq.mono HB.out.size))
     clear hWQ hbq
     go_upto_region 11 with fail
     have hS0 : wq.drew.cell? ⟨gb, ob + i, none⟩ = some (.int .i64 (b : Int)) ∧ wq.drew.cell? ⟨gt, ot + i, none⟩ = some (.int .i64 (t : Int)) := ⟨c1, c2⟩
     replace HO := Lib.hid (HO.out.stay (drewBn wq))
     replace HB := Lib.hid (HB.out.trans ((drewBn wq).mono HB.out.size))
     have HBZ : Hid (w.heap.size ≤ wq.drew.heap.size) := HB.out.size
     clear c1 c2
     refine wpq_region (fun w' => w'.cell? ⟨gb, ob + i, none⟩ = some (.int .i64 (b : Int)) ∧ w'.cell? ⟨gt, ot + i, none⟩ = some (.int .i64 (t : Int))) 13 (by kernel_rfl) hS0 (fun hHeld => ?_)
     clear hS0
     generalize wq.drew = wd at *
     refine wpq_tk 0 (some 49) [13] (Or.inl ⟨by rfl, fun w hSw => by (obtain ⟨x0, y0⟩ := hSw; go_simp; with_reducible rfl)⟩) hHeld ?_ rfl rfl
     simp only [Act.put, sA, sZ, sS]
     refine wpq_tk 1 (some 50) [13] (Or.inl ⟨by rfl, fun w hSw => by (obtain ⟨x0, y0⟩ := hSw; go_simp; with_reducible rfl)⟩) hHeld ?_ rfl rfl
     simp only [Act.put, sA, sZ, sS]
     refine wpq_tk 2 (some 51) [13] (Or.inl ⟨by rfl, fun w hSw => by (obtain ⟨x0, y0⟩ := hSw; go_simp; with_reducible rfl)⟩) hHeld ?_ rfl rfl
     simp only [Act.put, sA, sZ, sS]
     refine wpq_tk 3 (some 52) [13] (Or.inl ⟨by rfl, fun w hSw => by (obtain ⟨x0, y0⟩ := hSw; go_simp; with_reducible rfl)⟩) hHeld ?_ rfl rfl
     simp only [Act.put, sA, sZ, sS]
     refine wpq_tk 4 (some 53) [13] (Or.inl ⟨by rfl, fun w hSw => by (obtain ⟨x0, y0⟩ := hSw; go_simp; with_reducible rfl)⟩) hHeld ?_ rfl rfl
     simp only [Act.put, sA, sZ, sS]
     refine wpq_tk 5 (some 54) [13] (Or.inl ⟨by rfl, fun w hSw => by (obtain ⟨x0, y0⟩ := hSw; go_simp; with_reducible rfl)⟩) hHeld ?_ rfl rfl
     simp only [Act.put, sA, sZ, sS]
     refine wpq_tk 6 (some 55) [13] (Or.inl ⟨by rfl, fun w hSw => by (obtain ⟨x0, y0⟩ := hSw; go_simp; with_reducible rfl)⟩) hHeld ?_ rfl rfl
     simp only [Act.put, sA, sZ, sS]
     refine wpq_tk 7 (some 56) [13] (Or.inl ⟨by rfl, fun w hSw => by (obtain ⟨x0, y0⟩ := hSw; go_simp; with_reducible rfl)⟩) hHeld ?_ rfl rfl
     simp only [Act.put, sA, sZ, sS]
     refine wpq_tk 8 (some 57) [13] (Or.inl ⟨by rfl, fun w hSw => by (obtain ⟨x0, y0⟩ := hSw; go_simp; with_reducible rfl)⟩) hHeld ?_ rfl rfl
     simp only [Act.put, sA, sZ, sS]
     refine wpq_tk 9 (some 58) [13] (Or.inl ⟨by rfl, fun w hSw => by (obtain ⟨x0, y0⟩ := hSw; go_simp; with_reducible rfl)⟩) hHeld ?_ rfl rfl
     simp only [Act.put, sA, sZ, sS]
     refine wpq_tk 10 (some 59) [13] (Or.inl ⟨by rfl, fun w hSw => by (obtain ⟨x0, y0⟩ := hSw; go_simp; with_reducible rfl)⟩) hHeld ?_ rfl rfl
     simp only [Act.put, sA, sZ, sS]
     refine wpq_one 11 (by kernel_rfl) rfl (fun K hK => ?_)
     go_simp
     have hb7 : Below wd.heap.size wd (wd.alloc (.cells (arcV ⟨b, hh, t⟩).toArray 72)) := (Below.refl _ _).alloc (Nat.le_refl _) _
     refine hK.out _ _ ⟨(hb7.cell (p := ⟨gb, ob + i, none⟩) (cell_ltG hHeld.1)).trans hHeld.1, (hb7.cell (p := ⟨gt, ot + i, none⟩) (cell_ltG hHeld.2)).trans hHeld.2⟩ (fun hHeld2 => ?_)
     clear hK K hb7 hHeld2
     refine wpq_one 12 (by kernel_rfl) rfl (fun K hK => ?_)
     refine step_pushLG (f := arcV) (x := ⟨b, hh, t⟩) (v := .slice A (([] : List ArcA)).length cap) (l := ([] : List ArcA)) (B := w.heap.size) (e := 72) (sz := 3) rfl _ _ rfl elemA arcV_len (by decide) (arcV_one _) HO.out rfl rfl rfl (by have := HAL.out; omega) HBZ.out ?_
     rintro v3 w7 hown3 hg3 hfm3 hat3
     have hb7 : Below w.heap.size wd w7 := grown_belowL hg3 (fun y hy => (HO.out.lt y hy).1) HBZ.out
     obtain ⟨A3, cap3, rfl⟩ : ∃ A cap, v3 = .slice A (([] : List ArcA) ++ [(⟨b, hh, t⟩ : ArcA)]).length cap := by obtain ⟨A, c, h⟩ := hfm3; exact ⟨A, c, by rw [h]; simp⟩
     have hS : w7.cell? ⟨gb, ob + i, none⟩ = some (.int .i64 (b : Int)) ∧ w7.cell? ⟨gt, ot + i, none⟩ = some (.int .i64 (t : Int)) := ⟨(hb7.cell (p := ⟨gb, ob + i, none⟩) HGB.out).trans hHeld.1, (hb7.cell (p := ⟨gt, ot + i, none⟩) HGT.out).trans hHeld.2⟩
     have HON := Lib.hid hown3
     replace HB := Lib.hid (HB.out.trans hb7)
     clear hfm3 hown3 hg3 hat3 hb7
     refine hK.out _ _ hS (fun hHeld => ?_)
     clear hK K hS
     refine wpq_end 13 (by kernel_rfl) rfl (by kernel_rfl) (fun K hK => ?_)
     go_simp
     refine hK.out _ _ ?_
     clear hK K
     refine wpq_done (by kernel_rfl) ?_ _
     go_simp
     go_wp2_with fail
     exact ⟨⟨i + 1, A3, cap3, by simp, HI1.out, by first | (rw [HNX.out]; done) | (rw [HNX.out]; rfl) | (rw [HNX.out]; simp), by rw [HNX.out]; exact HON.out, HB.out⟩, by have := HI1.out; simp [intOf]; omega⟩
    ·rw [List.concat_eq_append] at *
     have hL := addArcA_last l' a b hh t
     have hv := HO.out
     obtain ⟨g, cap2, hg, -, hgl⟩ := (hv.slx arcV_len).2 (by simp)
     obtain ⟨a1, cap3, he, -, -, -, h3⟩ := (hv.slx arcV_len).1
     rw [hg] at he
     cases he
     obtain ⟨g2, o2, he2, -, h4⟩ := h3 (by simp)
     cases he2
     have h5 := h4 l'.length (by simp)
     rw [cellsAt_eq arcV _ _ (by simp), List.getElem_concat_length rfl] at h5
     have q2 : wr.cell? ⟨g, l'.length * 3 + 2, none⟩ = some (.int .i64 (a.nx : Int)) := by have := h5 2 (by omega); rw [Nat.zero_add] at this; exact this
     have q1 : wr.cell? ⟨g, l'.length * 3 + 1, none⟩ = some (.int .i64 (a.hi : Int)) := by have := h5 1 (by omega); rw [Nat.zero_add] at this; exact this
     have qf : wr.frozen? ⟨g, l'.length * 3 + 1, none⟩ = false := by
      rcases hv.2 with ⟨hz, -⟩ | ⟨g3, cap4, cur, hz, -, hh2, -⟩
      ·rw [hg] at hz; cases hz
      ·rw [hg] at hz
       cases hz
       exact Lib.frozen_of_heap hh2 _
     obtain ⟨rfl, hcp⟩ : A = some ⟨g, 0, none⟩ ∧ cap = cap2 := by injection hg with e1 e2 e3; exact ⟨e1, e3⟩
     have HGL : Hid (w.heap.size ≤ g) := by
      rcases hv.2 with ⟨hz, -⟩ | ⟨g3, cap4, cur, hz, hbb, -⟩
      ·rw [hg] at hz; cases hz
      ·rw [hg] at hz
       cases hz
       exact hbb
     clear h3 h4 h5 hgl hg hv hcp
     rw [List.length_append, List.length_singleton] at hali
     have hp : (l'.length : Int) ≤ 255 := by omega
     by_cases hx : a.nx = t
     ·have HNX : Hid (arcG bytes tl (i + 1) = l' ++ [⟨a.lo, hh, a.nx⟩]) := by unfold Hid; rw [HST.out, hL, if_pos hx]
      have HSET := Lib.hid (HO.out.setArc l'.length (by simp) hh)
      rw [List.getElem_concat_length rfl, List.set_append_right _ _ (Nat.le_refl _), Nat.sub_self] at HSET
      have hxi : ((a.nx : Int) == (t : Int)) = true := by rw [hx]; exact beq_self_eq_true _
      rw [List.length_append, List.length_singleton] at *
      clear hL hx
      go_upto_region 9 with fail
      go_quiet (fail)
      go_wp2_with fail
      exact ⟨⟨i + 1, some ⟨g, 0, none⟩, cap, by simp, HI1.out, by rw [HNX.out, List.length_append]; rfl, by rw [HNX.out, List.length_append]; exact OwnL.keep HSET.out (fun y _ _ _ => rfl), (below_drewN HB.out _).setCell (p := ⟨g, l'.length * 3 + 1, none⟩) HGL.out _⟩, by have := HI1.out; simp [intOf]; omega⟩
     ·have HNX : Hid (arcG bytes tl (i + 1) = (l' ++ [a]) ++ [⟨b, hh, t⟩]) := by unfold Hid; rw [HST.out, hL, if_neg hx]
      have hxi : ((a.nx : Int) == (t : Int)) = false := beq_false_of_ne (by omega)
      replace HO : Hid (OwnL w.heap.size 72 3 arcV wr (.slice (some ⟨g, 0, none⟩) (l'.length + 1) cap) (l' ++ [a])) := by
       have h9 := HO.out
       rw [List.length_append, List.length_singleton] at h9
       exact h9
      clear hL hx qf q1
      go_upto_region 9 with fail
      go_quiet (fail)
      generalize hWQ : World.drewN wr _ = wq
      have hbq : Below wr.heap.size wr wq := hWQ ▸ below_drewN (Below.refl wr.heap.size wr) _
      replace c1 := (hbq.cell (p := ⟨gb, ob + i, none⟩) (by have := HGB.out; have := HB.out.size; show gb < _; omega)).trans c1
      replace c2 := (hbq.cell (p := ⟨gt, ot + i, none⟩) (by have := HGT.out; have := HB.out.size; show gt < _; omega)).trans c2
      replace HO := Lib.hid (HO.out.stay hbq)
      replace HB := Lib.hid (HB.out.trans (hbq.mono HB.out.size))
      clear hWQ hbq q2
      go_upto_region 11 with fail
      have hS0 : wq.drew.cell? ⟨gb, ob + i, none⟩ = some (.int .i64 (b : Int)) ∧ wq.drew.cell? ⟨gt, ot + i, none⟩ = some (.int .i64 (t : Int)) := ⟨c1, c2⟩
      replace HO := Lib.hid (HO.out.stay (drewBn wq))
      replace HB := Lib.hid (HB.out.trans ((drewBn wq).mono HB.out.size))
      have HBZ : Hid (w.heap.size ≤ wq.drew.heap.size) := HB.out.size
      clear c1 c2
      refine wpq_region (fun w' => w'.cell? ⟨gb, ob + i, none⟩ = some (.int .i64 (b : Int)) ∧ w'.cell? ⟨gt, ot + i, none⟩ = some (.int .i64 (t : Int))) 13 (by kernel_rfl) hS0 (fun hHeld => ?_)
      clear hS0
      generalize wq.drew = wd at *
      refine wpq_tk 0 (some 49) [13] (Or.inl ⟨by rfl, fun w hSw => by (obtain ⟨x0, y0⟩ := hSw; go_simp; with_reducible rfl)⟩) hHeld ?_ rfl rfl
      simp only [Act.put, sA, sZ, sS]
      refine wpq_tk 1 (some 50) [13] (Or.inl ⟨by rfl, fun w hSw => by (obtain ⟨x0, y0⟩ := hSw; go_simp; with_reducible rfl)⟩) hHeld ?_ rfl rfl
      simp only [Act.put, sA, sZ, sS]
      refine wpq_tk 2 (some 51) [13] (Or.inl ⟨by rfl, fun w hSw => by (obtain ⟨x0, y0⟩ := hSw; go_simp; with_reducible rfl)⟩) hHeld ?_ rfl rfl
      simp only [Act.put, sA, sZ, sS]
      refine wpq_tk 3 (some 52) [13] (Or.inl ⟨by rfl, fun w hSw => by (obtain ⟨x0, y0⟩ := hSw; go_simp; with_reducible rfl)⟩) hHeld ?_ rfl rfl
      simp only [Act.put, sA, sZ, sS]
      refine wpq_tk 4 (some 53) [13] (Or.inl ⟨by rfl, fun w hSw => by (obtain ⟨x0, y0⟩ := hSw; go_simp; with_reducible rfl)⟩) hHeld ?_ rfl rfl
      simp only [Act.put, sA, sZ, sS]
      refine wpq_tk 5 (some 54) [13] (Or.inl ⟨by rfl, fun w hSw => by (obtain ⟨x0, y0⟩ := hSw; go_simp; with_reducible rfl)⟩) hHeld ?_ rfl rfl
      simp only [Act.put, sA, sZ, sS]
      refine wpq_tk 6 (some 55) [13] (Or.inl ⟨by rfl, fun w hSw => by (obtain ⟨x0, y0⟩ := hSw; go_simp; with_reducible rfl)⟩) hHeld ?_ rfl rfl
      simp only [Act.put, sA, sZ, sS]
      refine wpq_tk 7 (some 56) [13] (Or.inl ⟨by rfl, fun w hSw => by (obtain ⟨x0, y0⟩ := hSw; go_simp; with_reducible rfl)⟩) hHeld ?_ rfl rfl
      simp only [Act.put, sA, sZ, sS]
      refine wpq_tk 8 (some 57) [13] (Or.inl ⟨by rfl, fun w hSw => by (obtain ⟨x0, y0⟩ := hSw; go_simp; with_reducible rfl)⟩) hHeld ?_ rfl rfl
      simp only [Act.put, sA, sZ, sS]
      refine wpq_tk 9 (some 58) [13] (Or.inl ⟨by rfl, fun w hSw => by (obtain ⟨x0, y0⟩ := hSw; go_simp; with_reducible rfl)⟩) hHeld ?_ rfl rfl
      simp only [Act.put, sA, sZ, sS]
      refine wpq_tk 10 (some 59) [13] (Or.inl ⟨by rfl, fun w hSw => by (obtain ⟨x0, y0⟩ := hSw; go_simp; with_reducible rfl)⟩) hHeld ?_ rfl rfl
      simp only [Act.put, sA, sZ, sS]
      refine wpq_one 11 (by kernel_rfl) rfl (fun K hK => ?_)
      go_simp
      have hb7 : Below wd.heap.size wd (wd.alloc (.cells (arcV ⟨b, hh, t⟩).toArray 72)) := (Below.refl _ _).alloc (Nat.le_refl _) _
      refine hK.out _ _ ⟨(hb7.cell (p := ⟨gb, ob + i, none⟩) (cell_ltG hHeld.1)).trans hHeld.1, (hb7.cell (p := ⟨gt, ot + i, none⟩) (cell_ltG hHeld.2)).trans hHeld.2⟩ (fun hHeld2 => ?_)
      clear hK K hb7 hHeld2
      refine wpq_one 12 (by kernel_rfl) rfl (fun K hK => ?_)
      refine step_pushLG (f := arcV) (x := ⟨b, hh, t⟩) (v := .slice (some ⟨g, 0, none⟩) (l'.length + 1) cap) (l := l' ++ [a]) (B := w.heap.size) (e := 72) (sz := 3) rfl _ _ rfl elemA arcV_len (by decide) (arcV_one _) HO.out rfl rfl rfl (by have := HAL.out; omega) HBZ.out ?_
      rintro v3 w7 hown3 hg3 hfm3 hat3
      have hb7 : Below w.heap.size wd w7 := grown_belowL hg3 (fun y hy => (HO.out.lt y hy).1) HBZ.out
      obtain ⟨A3, cap3, rfl⟩ : ∃ A cap, v3 = .slice A (l' ++ [a] ++ [(⟨b, hh, t⟩ : ArcA)]).length cap := by obtain ⟨A, c, h⟩ := hfm3; exact ⟨A, c, by rw [h]; simp⟩
      have hS : w7.cell? ⟨gb, ob + i, none⟩ = some (.int .i64 (b : Int)) ∧ w7.cell? ⟨gt, ot + i, none⟩ = some (.int .i64 (t : Int)) := ⟨(hb7.cell (p := ⟨gb, ob + i, none⟩) HGB.out).trans hHeld.1, (hb7.cell (p := ⟨gt, ot + i, none⟩) HGT.out).trans hHeld.2⟩
      have HON := Lib.hid hown3
      replace HB := Lib.hid (HB.out.trans hb7)
      clear hfm3 hown3 hg3 hat3 hb7
      refine hK.out _ _ hS (fun hHeld => ?_)
      clear hK K hS
      refine wpq_end 13 (by kernel_rfl) rfl (by kernel_rfl) (fun K hK => ?_)
      go_simp
      refine hK.out _ _ ?_
      clear hK K
      refine wpq_done (by kernel_rfl) ?_ _
      go_simp
      go_wp2_with fail
      exact ⟨⟨i + 1, A3, cap3, by simp, HI1.out, by first | (rw [HNX.out]; done) | (rw [HNX.out]; rfl) | (rw [HNX.out]; simp), by rw [HNX.out]; exact HON.out, HB.out⟩, by have := HI1.out; simp [intOf]; omega⟩
   ·have hni : ¬ (i : Int) + 1 < bytes.length := by omega
    have HF : Hid (hh = 255) := by unfold Hid; rw [HHE.out]; unfold hiA; rw [List.getElem?_eq_none (by omega)]
    clear hn
    go_upto_region 8 with fail
    rw [show Value.int .i64 (255 : Int) = Value.int .i64 (hh : Int) by rw [HF.out]; rfl]
    clear hni
    rcases List.eq_nil_or_concat l with rfl | ⟨l', a, rfl⟩
    ·have HNX : Hid (arcG bytes tl (i + 1) = [] ++ [⟨b, hh, t⟩]) := HST.out
     go_upto_region 9 with fail
     go_quiet (fail)
     generalize hWQ : World.drewN wr _ = wq
     have hbq : Below wr.heap.size wr wq := hWQ ▸ below_drewN (Below.refl wr.heap.size wr) _
     replace c1 := (hbq.cell (p := ⟨gb, ob + i, none⟩) (by have := HGB.out; have := HB.out.size; show gb < _; omega)).trans c1
     replace c2 := (hbq.cell (p := ⟨gt, ot + i, none⟩) (by have := HGT.out; have := HB.out.size; show gt < _; omega)).trans c2
     replace HO := Lib.hid (HO.out.stay hbq)
     replace HB := Lib.hid (HB.out.trans (hbq.mono HB.out.size))
     clear hWQ hbq
     go_upto_region 11 with fail
     have hS0 : wq.drew.cell? ⟨gb, ob + i, none⟩ = some (.int .i64 (b : Int)) ∧ wq.drew.cell? ⟨gt, ot + i, none⟩ = some (.int .i64 (t : Int)) := ⟨c1, c2⟩
     replace HO := Lib.hid (HO.out.stay (drewBn wq))
     replace HB := Lib.hid (HB.out.trans ((drewBn wq).mono HB.out.size))
     have HBZ : Hid (w.heap.size ≤ wq.drew.heap.size) := HB.out.size
     clear c1 c2
     refine wpq_region (fun w' => w'.cell? ⟨gb, ob + i, none⟩ = some (.int .i64 (b : Int)) ∧ w'.cell? ⟨gt, ot + i, none⟩ = some (.int .i64 (t : Int))) 13 (by kernel_rfl) hS0 (fun hHeld => ?_)
     clear hS0
     generalize wq.drew = wd at *
     refine wpq_tk 0 (some 49) [13] (Or.inl ⟨by rfl, fun w hSw => by (obtain ⟨x0, y0⟩ := hSw; go_simp; with_reducible rfl)⟩) hHeld ?_ rfl rfl
     simp only [Act.put, sA, sZ, sS]
     refine wpq_tk 1 (some 50) [13] (Or.inl ⟨by rfl, fun w hSw => by (obtain ⟨x0, y0⟩ := hSw; go_simp; with_reducible rfl)⟩) hHeld ?_ rfl rfl
     simp only [Act.put, sA, sZ, sS]
     refine wpq_tk 2 (some 51) [13] (Or.inl ⟨by rfl, fun w hSw => by (obtain ⟨x0, y0⟩ := hSw; go_simp; with_reducible rfl)⟩) hHeld ?_ rfl rfl
     simp only [Act.put, sA, sZ, sS]
     refine wpq_tk 3 (some 52) [13] (Or.inl ⟨by rfl, fun w hSw => by (obtain ⟨x0, y0⟩ := hSw; go_simp; with_reducible rfl)⟩) hHeld ?_ rfl rfl
     simp only [Act.put, sA, sZ, sS]
     refine wpq_tk 4 (some 53) [13] (Or.inl ⟨by rfl, fun w hSw => by (obtain ⟨x0, y0⟩ := hSw; go_simp; with_reducible rfl)⟩) hHeld ?_ rfl rfl
     simp only [Act.put, sA, sZ, sS]
     refine wpq_tk 5 (some 54) [13] (Or.inl ⟨by rfl, fun w hSw => by (obtain ⟨x0, y0⟩ := hSw; go_simp; with_reducible rfl)⟩) hHeld ?_ rfl rfl
     simp only [Act.put, sA, sZ, sS]
     refine wpq_tk 6 (some 55) [13] (Or.inl ⟨by rfl, fun w hSw => by (obtain ⟨x0, y0⟩ := hSw; go_simp; with_reducible rfl)⟩) hHeld ?_ rfl rfl
     simp only [Act.put, sA, sZ, sS]
     refine wpq_tk 7 (some 56) [13] (Or.inl ⟨by rfl, fun w hSw => by (obtain ⟨x0, y0⟩ := hSw; go_simp; with_reducible rfl)⟩) hHeld ?_ rfl rfl
     simp only [Act.put, sA, sZ, sS]
     refine wpq_tk 8 (some 57) [13] (Or.inl ⟨by rfl, fun w hSw => by (obtain ⟨x0, y0⟩ := hSw; go_simp; with_reducible rfl)⟩) hHeld ?_ rfl rfl
     simp only [Act.put, sA, sZ, sS]
     refine wpq_tk 9 (some 58) [13] (Or.inl ⟨by rfl, fun w hSw => by (obtain ⟨x0, y0⟩ := hSw; go_simp; with_reducible rfl)⟩) hHeld ?_ rfl rfl
     simp only [Act.put, sA, sZ, sS]
     refine wpq_tk 10 (some 59) [13] (Or.inl ⟨by rfl, fun w hSw => by (obtain ⟨x0, y0⟩ := hSw; go_simp; with_reducible rfl)⟩) hHeld ?_ rfl rfl
     simp only [Act.put, sA, sZ, sS]
     refine wpq_one 11 (by kernel_rfl) rfl (fun K hK => ?_)
     go_simp
     have hb7 : Below wd.heap.size wd (wd.alloc (.cells (arcV ⟨b, hh, t⟩).toArray 72)) := (Below.refl _ _).alloc (Nat.le_refl _) _
     refine hK.out _ _ ⟨(hb7.cell (p := ⟨gb, ob + i, none⟩) (cell_ltG hHeld.1)).trans hHeld.1, (hb7.cell (p := ⟨gt, ot + i, none⟩) (cell_ltG hHeld.2)).trans hHeld.2⟩ (fun hHeld2 => ?_)
     clear hK K hb7 hHeld2
     refine wpq_one 12 (by kernel_rfl) rfl (fun K hK => ?_)
     refine step_pushLG (f := arcV) (x := ⟨b, hh, t⟩) (v := .slice A (([] : List ArcA)).length cap) (l := ([] : List ArcA)) (B := w.heap.size) (e := 72) (sz := 3) rfl _ _ rfl elemA arcV_len (by decide) (arcV_one _) HO.out rfl rfl rfl (by have := HAL.out; omega) HBZ.out ?_
     rintro v3 w7 hown3 hg3 hfm3 hat3
     have hb7 : Below w.heap.size wd w7 := grown_belowL hg3 (fun y hy => (HO.out.lt y hy).1) HBZ.out
     obtain ⟨A3, cap3, rfl⟩ : ∃ A cap, v3 = .slice A (([] : List ArcA) ++ [(⟨b, hh, t⟩ : ArcA)]).length cap := by obtain ⟨A, c, h⟩ := hfm3; exact ⟨A, c, by rw [h]; simp⟩
     have hS : w7.cell? ⟨gb, ob + i, none⟩ = some (.int .i64 (b : Int)) ∧ w7.cell? ⟨gt, ot + i, none⟩ = some (.int .i64 (t : Int)) := ⟨(hb7.cell (p := ⟨gb, ob + i, none⟩) HGB.out).trans hHeld.1, (hb7.cell (p := ⟨gt, ot + i, none⟩) HGT.out).trans hHeld.2⟩
     have HON := Lib.hid hown3
     replace HB := Lib.hid (HB.out.trans hb7)
     clear hfm3 hown3 hg3 hat3 hb7
     refine hK.out _ _ hS (fun hHeld => ?_)
     clear hK K hS
     refine wpq_end 13 (by kernel_rfl) rfl (by kernel_rfl) (fun K hK => ?_)
     go_simp
     refine hK.out _ _ ?_
     clear hK K
     refine wpq_done (by kernel_rfl) ?_ _
     go_simp
     go_wp2_with fail
     exact ⟨⟨i + 1, A3, cap3, by simp, HI1.out, by first | (rw [HNX.out]; done) | (rw [HNX.out]; rfl) | (rw [HNX.out]; simp), by rw [HNX.out]; exact HON.out, HB.out⟩, by have := HI1.out; simp [intOf]; omega⟩
    ·rw [List.concat_eq_append] at *
     have hL := addArcA_last l' a b hh t
     have hv := HO.out
     obtain ⟨g, cap2, hg, -, hgl⟩ := (hv.slx arcV_len).2 (by simp)
     obtain ⟨a1, cap3, he, -, -, -, h3⟩ := (hv.slx arcV_len).1
     rw [hg] at he
     cases he
     obtain ⟨g2, o2, he2, -, h4⟩ := h3 (by simp)
     cases he2
     have h5 := h4 l'.length (by simp)
     rw [cellsAt_eq arcV _ _ (by simp), List.getElem_concat_length rfl] at h5
     have q2 : wr.cell? ⟨g, l'.length * 3 + 2, none⟩ = some (.int .i64 (a.nx : Int)) := by have := h5 2 (by omega); rw [Nat.zero_add] at this; exact this
     have q1 : wr.cell? ⟨g, l'.length * 3 + 1, none⟩ = some (.int .i64 (a.hi : Int)) := by have := h5 1 (by omega); rw [Nat.zero_add] at this; exact this
     have qf : wr.frozen? ⟨g, l'.length * 3 + 1, none⟩ = false := by
      rcases hv.2 with ⟨hz, -⟩ | ⟨g3, cap4, cur, hz, -, hh2, -⟩
      ·rw [hg] at hz; cases hz
      ·rw [hg] at hz
       cases hz
       exact Lib.frozen_of_heap hh2 _
     obtain ⟨rfl, hcp⟩ : A = some ⟨g, 0, none⟩ ∧ cap = cap2 := by injection hg with e1 e2 e3; exact ⟨e1, e3⟩
     have HGL : Hid (w.heap.size ≤ g) := by
      rcases hv.2 with ⟨hz, -⟩ | ⟨g3, cap4, cur, hz, hbb, -⟩
      ·rw [hg] at hz; cases hz
      ·rw [hg] at hz
       cases hz
       exact hbb
     clear h3 h4 h5 hgl hg hv hcp
     rw [List.length_append, List.length_singleton] at hali
     have hp : (l'.length : Int) ≤ 255 := by omega
     by_cases hx : a.nx = t
     ·have HNX : Hid (arcG bytes tl (i + 1) = l' ++ [⟨a.lo, hh, a.nx⟩]) := by unfold Hid; rw [HST.out, hL, if_pos hx]
      have HSET := Lib.hid (HO.out.setArc l'.length (by simp) hh)
      rw [List.getElem_concat_length rfl, List.set_append_right _ _ (Nat.le_refl _), Nat.sub_self] at HSET
      have hxi : ((a.nx : Int) == (t : Int)) = true := by rw [hx]; exact beq_self_eq_true _
      rw [List.length_append, List.length_singleton] at *
      clear hL hx
      go_upto_region 9 with fail
      go_quiet (fail)
      go_wp2_with fail
      exact ⟨⟨i + 1, some ⟨g, 0, none⟩, cap, by simp, HI1.out, by rw [HNX.out, List.length_append]; rfl, by rw [HNX.out, List.length_append]; exact OwnL.keep HSET.out (fun y _ _ _ => rfl), (below_drewN HB.out _).setCell (p := ⟨g, l'.length * 3 + 1, none⟩) HGL.out _⟩, by have := HI1.out; simp [intOf]; omega⟩
     ·have HNX : Hid (arcG bytes tl (i + 1) = (l' ++ [a]) ++ [⟨b, hh, t⟩]) := by unfold Hid; rw [HST.out, hL, if_neg hx]
      have hxi : ((a.nx : Int) == (t : Int)) = false := beq_false_of_ne (by omega)
      replace HO : Hid (OwnL w.heap.size 72 3 arcV wr (.slice (some ⟨g, 0, none⟩) (l'.length + 1) cap) (l' ++ [a])) := by
       have h9 := HO.out
       rw [List.length_append, List.length_singleton] at h9
       exact h9
      clear hL hx qf q1
      go_upto_region 9 with fail
      go_quiet (fail)
      generalize hWQ : World.drewN wr _ = wq
      have hbq : Below wr.heap.size wr wq := hWQ ▸ below_drewN (Below.refl wr.heap.size wr) _
      replace c1 := (hbq.cell (p := ⟨gb, ob + i, none⟩) (by have := HGB.out; have := HB.out.size; show gb < _; omega)).trans c1
      replace c2 := (hbq.cell (p := ⟨gt, ot + i, none⟩) (by have := HGT.out; have := HB.out.size; show gt < _; omega)).trans c2
      replace HO := Lib.hid (HO.out.stay hbq)
      replace HB := Lib.hid (HB.out.trans (hbq.mono HB.out.size))
      clear hWQ hbq q2
      go_upto_region 11 with fail
      have hS0 : wq.drew.cell? ⟨gb, ob + i, none⟩ = some (.int .i64 (b : Int)) ∧ wq.drew.cell? ⟨gt, ot + i, none⟩ = some (.int .i64 (t : Int)) := ⟨c1, c2⟩
      replace HO := Lib.hid (HO.out.stay (drewBn wq))
      replace HB := Lib.hid (HB.out.trans ((drewBn wq).mono HB.out.size))
      have HBZ : Hid (w.heap.size ≤ wq.drew.heap.size) := HB.out.size
      clear c1 c2
      refine wpq_region (fun w' => w'.cell? ⟨gb, ob + i, none⟩ = some (.int .i64 (b : Int)) ∧ w'.cell? ⟨gt, ot + i, none⟩ = some (.int .i64 (t : Int))) 13 (by kernel_rfl) hS0 (fun hHeld => ?_)
      clear hS0
      generalize wq.drew = wd at *
      refine wpq_tk 0 (some 49) [13] (Or.inl ⟨by rfl, fun w hSw => by (obtain ⟨x0, y0⟩ := hSw; go_simp; with_reducible rfl)⟩) hHeld ?_ rfl rfl
      simp only [Act.put, sA, sZ, sS]
      refine wpq_tk 1 (some 50) [13] (Or.inl ⟨by rfl, fun w hSw => by (obtain ⟨x0, y0⟩ := hSw; go_simp; with_reducible rfl)⟩) hHeld ?_ rfl rfl
      simp only [Act.put, sA, sZ, sS]
      refine wpq_tk 2 (some 51) [13] (Or.inl ⟨by rfl, fun w hSw => by (obtain ⟨x0, y0⟩ := hSw; go_simp; with_reducible rfl)⟩) hHeld ?_ rfl rfl
      simp only [Act.put, sA, sZ, sS]
      refine wpq_tk 3 (some 52) [13] (Or.inl ⟨by rfl, fun w hSw => by (obtain ⟨x0, y0⟩ := hSw; go_simp; with_reducible rfl)⟩) hHeld ?_ rfl rfl
      simp only [Act.put, sA, sZ, sS]
      refine wpq_tk 4 (some 53) [13] (Or.inl ⟨by rfl, fun w hSw => by (obtain ⟨x0, y0⟩ := hSw; go_simp; with_reducible rfl)⟩) hHeld ?_ rfl rfl
      simp only [Act.put, sA, sZ, sS]
      refine wpq_tk 5 (some 54) [13] (Or.inl ⟨by rfl, fun w hSw => by (obtain ⟨x0, y0⟩ := hSw; go_simp; with_reducible rfl)⟩) hHeld ?_ rfl rfl
      simp only [Act.put, sA, sZ, sS]
      refine wpq_tk 6 (some 55) [13] (Or.inl ⟨by rfl, fun w hSw => by (obtain ⟨x0, y0⟩ := hSw; go_simp; with_reducible rfl)⟩) hHeld ?_ rfl rfl
      simp only [Act.put, sA, sZ, sS]
      refine wpq_tk 7 (some 56) [13] (Or.inl ⟨by rfl, fun w hSw => by (obtain ⟨x0, y0⟩ := hSw; go_simp; with_reducible rfl)⟩) hHeld ?_ rfl rfl
      simp only [Act.put, sA, sZ, sS]
      refine wpq_tk 8 (some 57) [13] (Or.inl ⟨by rfl, fun w hSw => by (obtain ⟨x0, y0⟩ := hSw; go_simp; with_reducible rfl)⟩) hHeld ?_ rfl rfl
      simp only [Act.put, sA, sZ, sS]
      refine wpq_tk 9 (some 58) [13] (Or.inl ⟨by rfl, fun w hSw => by (obtain ⟨x0, y0⟩ := hSw; go_simp; with_reducible rfl)⟩) hHeld ?_ rfl rfl
      simp only [Act.put, sA, sZ, sS]
      refine wpq_tk 10 (some 59) [13] (Or.inl ⟨by rfl, fun w hSw => by (obtain ⟨x0, y0⟩ := hSw; go_simp; with_reducible rfl)⟩) hHeld ?_ rfl rfl
      simp only [Act.put, sA, sZ, sS]
      refine wpq_one 11 (by kernel_rfl) rfl (fun K hK => ?_)
      go_simp
      have hb7 : Below wd.heap.size wd (wd.alloc (.cells (arcV ⟨b, hh, t⟩).toArray 72)) := (Below.refl _ _).alloc (Nat.le_refl _) _
      refine hK.out _ _ ⟨(hb7.cell (p := ⟨gb, ob + i, none⟩) (cell_ltG hHeld.1)).trans hHeld.1, (hb7.cell (p := ⟨gt, ot + i, none⟩) (cell_ltG hHeld.2)).trans hHeld.2⟩ (fun hHeld2 => ?_)
      clear hK K hb7 hHeld2
      refine wpq_one 12 (by kernel_rfl) rfl (fun K hK => ?_)
      refine step_pushLG (f := arcV) (x := ⟨b, hh, t⟩) (v := .slice (some ⟨g, 0, none⟩) (l'.length + 1) cap) (l := l' ++ [a]) (B := w.heap.size) (e := 72) (sz := 3) rfl _ _ rfl elemA arcV_len (by decide) (arcV_one _) HO.out rfl rfl rfl (by have := HAL.out; omega) HBZ.out ?_
      rintro v3 w7 hown3 hg3 hfm3 hat3
      have hb7 : Below w.heap.size wd w7 := grown_belowL hg3 (fun y hy => (HO.out.lt y hy).1) HBZ.out
      obtain ⟨A3, cap3, rfl⟩ : ∃ A cap, v3 = .slice A (l' ++ [a] ++ [(⟨b, hh, t⟩ : ArcA)]).length cap := by obtain ⟨A, c, h⟩ := hfm3; exact ⟨A, c, by rw [h]; simp⟩
      have hS : w7.cell? ⟨gb, ob + i, none⟩ = some (.int .i64 (b : Int)) ∧ w7.cell? ⟨gt, ot + i, none⟩ = some (.int .i64 (t : Int)) := ⟨(hb7.cell (p := ⟨gb, ob + i, none⟩) HGB.out).trans hHeld.1, (hb7.cell (p := ⟨gt, ot + i, none⟩) HGT.out).trans hHeld.2⟩
      have HON := Lib.hid hown3
      replace HB := Lib.hid (HB.out.trans hb7)
      clear hfm3 hown3 hg3 hat3 hb7
      refine hK.out _ _ hS (fun hHeld => ?_)
      clear hK K hS
      refine wpq_end 13 (by kernel_rfl) rfl (by kernel_rfl) (fun K hK => ?_)
      go_simp
      refine hK.out _ _ ?_
      clear hK K
      refine wpq_done (by kernel_rfl) ?_ _
      go_simp
      go_wp2_with fail
      exact ⟨⟨i + 1, A3, cap3, by simp, HI1.out, by first | (rw [HNX.out]; done) | (rw [HNX.out]; rfl) | (rw [HNX.out]; simp), by rw [HNX.out]; exact HON.out, HB.out⟩, by have := HI1.out; simp [intOf]; omega⟩
end Go.Proofs.YtpkecepelcppiaaGreatDoor

namespace Go.Proofs.YtpkecepelcppiaaGreatDoor
open Go.RowKit Go.Shelf
set_option maxHeartbeats 4000000
set_option maxRecDepth 100000

structure NR (X : Nat → Prop) (B : Nat) (w5 wr : World) (ov sv : Value) (order : List Nat) (ps : List (Bool × Value)) (ml : List StA) : Prop where
 bel : Below B w5 wr
 base : B + 1 < wr.heap.size
 outb : BoxV (B + 1) 29 [sv] wr
 ord : OwnL B 3 1 natV wr ov order
 ordk : ∀ g, ov.ownBlock = some g → g ≠ B + 1 ∧ sv.ownBlock ≠ some g ∧ ¬ X g
 own : OwnL (B + 2) 70 2 stV wr sv ps
 ownx : ∀ g, sv.ownBlock = some g → ¬ X g
 len : ps.length = ml.length
 at_ : ∀ i (h1 : i < ps.length) (h2 : i < ml.length), ps[i].1 = ml[i].acc ∧ RdA (fun g => B + 2 ≤ g ∧ sv.ownBlock ≠ some g ∧ ov.ownBlock ≠ some g ∧ ¬ X g) wr ps[i].2 ml[i].arcs
 xs : ∀ g, X g → B + 2 ≤ g ∧ g < wr.heap.size
theorem NR.keep {X X' : Nat → Prop} {B : Nat} {w5 wr w' : World} {ov sv : Value} {order : List Nat} {ps : List (Bool × Value)} {ml : List StA} (h : NR X B w5 wr ov sv order ps ml)
  (hb : Below B wr w') (hk : ∀ g, B ≤ g → g < wr.heap.size → ¬ X g → w'.heap[g]? = wr.heap[g]?) (hx : ∀ g, X' g → X g ∨ wr.heap.size ≤ g) (hx2 : ∀ g, X' g → g < w'.heap.size) : NR X' B w5 w' ov sv order ps ml := by
 have hb1 := h.base
 have hnx : ∀ g, g < B + 2 → ¬ X g := fun g hg hxg => by have := h.xs g hxg; omega
 have hnx' : ∀ g, g < wr.heap.size → ¬ X g → ¬ X' g := fun g hg h1 h2 => (hx g h2).elim h1 (fun h3 => by omega)
 refine ⟨h.bel.trans hb, Nat.lt_of_lt_of_le hb1 hb.size, h.outb.keep (hk _ (by omega) hb1 (hnx _ (by omega))), h.ord.keep (fun g hg hl hs => hk g hl hs (h.ordk g hg).2.2), fun g hg => ⟨(h.ordk g hg).1, (h.ordk g hg).2.1, hnx' g (h.ord.lt g hg).2 (h.ordk g hg).2.2⟩, h.own.keep (fun g hg hl hs => hk g (by omega) hs (h.ownx g hg)), fun g hg => hnx' g (h.own.lt g hg).2 (h.ownx g hg), h.len, fun i h1 h2 => ⟨(h.at_ i h1 h2).1, (h.at_ i h1 h2).2.keepAs (fun g hg hl => hk g (by omega) hl hg.2.2.2) (fun g hg hl => ⟨hg.1, hg.2.1, hg.2.2.1, hnx' g hl hg.2.2.2⟩)⟩, fun g hg => ⟨?_, hx2 g hg⟩⟩
 rcases hx g hg with h3 | h3
 ·exact (h.xs g h3).1
 ·omega
theorem NR.stay {X : Nat → Prop} {B : Nat} {w5 wr w' : World} {ov sv : Value} {order : List Nat} {ps : List (Bool × Value)} {ml : List StA} (h : NR X B w5 wr ov sv order ps ml) (hb : Below wr.heap.size wr w') : NR X B w5 w' ov sv order ps ml :=
 h.keep (hb.mono (by have := h.base; omega)) (fun g _ hl _ => hb.block g hl) (fun g hg => .inl hg) (fun g hg => Nat.lt_of_lt_of_le (h.xs g hg).2 hb.size)
theorem NR.ordStep {X : Nat → Prop} {B : Nat} {w5 wr w' : World} {ov ov' sv : Value} {order order' : List Nat} {ps : List (Bool × Value)} {ml : List StA} (h : NR X B w5 wr ov sv order ps ml)
  (hg : wr.grownBy w' ov.ownBlock) (hown : OwnL B 3 1 natV w' ov' order') (hat : ov'.ownBlock = ov.ownBlock ∨ ∃ k, wr.heap.size ≤ k ∧ ov'.ownBlock = some k) : NR X B w5 w' ov' sv order' ps ml := by
 have hb1 := h.base
 have hk : ∀ g, g < wr.heap.size → ov.ownBlock ≠ some g → w'.heap[g]? = wr.heap[g]? := fun g h1 h2 => hg.block g h1 (fun e => h2 e.symm)
 have hlow : ∀ g, g < B → ov.ownBlock ≠ some g := fun g hl e => by have := (h.ord.lt g e).1; omega
 have hnew : ∀ g, ov'.ownBlock = some g → g < wr.heap.size → ov.ownBlock = some g := fun g e hl => by
  rcases hat with h1 | ⟨k, h1, h2⟩
  ·rw [← h1]; exact e
  ·rw [h2] at e; injection e with e; omega
 refine ⟨h.bel.trans ⟨hg.os, hg.tape, hg.output, hg.size, fun g hl => hk g (by omega) (hlow g hl)⟩, Nat.lt_of_lt_of_le hb1 hg.size, h.outb.keep (hk _ hb1 (fun e => (h.ordk _ e).1 rfl)), hown, fun g e => ⟨?_, ?_, ?_⟩, h.own.keep (fun g e hl hs => hk g hs (fun e2 => (h.ordk g e2).2.1 e)), h.ownx, h.len, fun i h1 h2 => ⟨(h.at_ i h1 h2).1, (h.at_ i h1 h2).2.keepAs (fun g hg hl => hk g hl hg.2.2.1) (fun g hg hl => ⟨hg.1, hg.2.1, fun e => hg.2.2.1 (hnew g e hl), hg.2.2.2⟩)⟩, fun g hx => ⟨(h.xs g hx).1, Nat.lt_of_lt_of_le (h.xs g hx).2 hg.size⟩⟩
 ·intro hgb
  subst hgb
  exact (h.ordk _ (hnew _ e hb1)).1 rfl
 ·intro e2
  exact (h.ordk _ (hnew _ e (h.own.lt g e2).2)).2.1 e2
 ·intro hx
  exact (h.ordk _ (hnew _ e (h.xs g hx).2)).2.2 hx
theorem NR.outStep {X : Nat → Prop} {B : Nat} {w5 wr w7 : World} {ov sv v' : Value} {order : List Nat} {ps : List (Bool × Value)} {ml : List StA} {acc : Bool} {av : Value} {arcs : List ArcA} (h : NR X B w5 wr ov sv order ps ml)
  (ha : RdA X wr av arcs) (hown : OwnL (B + 2) 70 2 stV w7 v' (ps ++ [(acc, av)])) (hg : wr.grownBy w7 sv.ownBlock) (hat : v'.ownBlock = sv.ownBlock ∨ ∃ k, wr.heap.size ≤ k ∧ v'.ownBlock = some k) :
  NR (fun _ => False) B w5 (w7.setCell ⟨B + 1, 0, none⟩ v') ov v' order (ps ++ [(acc, av)]) (ml ++ [⟨acc, arcs⟩]) := by
 have hb1 := h.base
 have hot : ∀ y, y ≠ B + 1 → (w7.setCell ⟨B + 1, 0, none⟩ v').heap[y]? = w7.heap[y]? := fun y hy => Below.heap_setCell w7 ⟨B + 1, 0, none⟩ _ y hy
 have hk : ∀ g, g < wr.heap.size → g ≠ B + 1 → sv.ownBlock ≠ some g → (w7.setCell ⟨B + 1, 0, none⟩ v').heap[g]? = wr.heap[g]? := fun g h1 h2 h3 => (hot g h2).trans (hg.block g h1 (fun e => h3 e.symm))
 have hnew : ∀ g, v'.ownBlock = some g → g < wr.heap.size → sv.ownBlock = some g := fun g e hl => by
  rcases hat with h1 | ⟨k, h1, h2⟩
  ·rw [← h1]; exact e
  ·rw [h2] at e; injection e with e; omega
 have hsz : wr.heap.size ≤ (w7.setCell ⟨B + 1, 0, none⟩ v').heap.size := Nat.le_trans hg.size (by simp)
 have hbel : Below (B + 2) wr w7 := ⟨hg.os, hg.tape, hg.output, hg.size, fun g hl => hg.block g (by omega) (fun e => by have := (h.own.lt g e.symm).1; omega)⟩
 refine ⟨(h.bel.trans (hbel.mono (by omega))).setCell (p := ⟨B + 1, 0, none⟩) (by show B ≤ B + 1; omega) _, Nat.lt_of_lt_of_le hb1 hsz, heap_setCell_same w7 (B + 1) 0 _ _ v' ((hbel.block _ (by omega)).trans h.outb), h.ord.keep (fun g e hl hs => hk g hs (h.ordk g e).1 (h.ordk g e).2.1), fun g e => ⟨(h.ordk g e).1, fun e2 => (h.ordk g e).2.1 (hnew g e2 (h.ord.lt g e).2), fun hx => hx⟩, hown.keep (fun g e hl hs => hot g (by omega)), fun g _ hx => hx, by rw [List.length_append, List.length_append, h.len]; rfl, fun i h1 h2 => ?_, fun g hx => hx.elim⟩
 by_cases hi : i < ps.length
 ·have hi2 : i < ml.length := by rw [← h.len]; exact hi
  rw [List.getElem_append_left hi, List.getElem_append_left hi2]
  exact ⟨(h.at_ i hi hi2).1, (h.at_ i hi hi2).2.keepAs (fun g hg hl => hk g hl (by omega) hg.2.1) (fun g hg hl => ⟨hg.1, fun e => hg.2.1 (hnew g e hl), hg.2.2.1, fun hx => hx⟩)⟩
 ·have he : i = ps.length := by simp at h1; omega
  subst he
  have e2 : (ml ++ [⟨acc, arcs⟩])[ps.length]'h2 = ⟨acc, arcs⟩ := by
   rw [List.getElem_append_right (by rw [h.len]; exact Nat.le_refl _)]
   simp [h.len]
  rw [List.getElem_concat_length rfl, e2]
  exact ⟨rfl, ha.keepAs (fun g hx hl => hk g hl (by have := (h.xs g hx).1; omega) (fun e => h.ownx g e hx)) (fun g hx hl => ⟨(h.xs g hx).1, fun e => h.ownx g (hnew g e hl) hx, fun e => (h.ordk g e).2.2 hx, fun hx => hx⟩)⟩
theorem NR.rds {X : Nat → Prop} {B : Nat} {w5 wr : World} {ov sv : Value} {order : List Nat} {ps : List (Bool × Value)} {ml : List StA} (h : NR X B w5 wr ov sv order ps ml) : RdS (fun g => B + 2 ≤ g) wr sv ml := by
 have hs : OwnS (B + 2) wr sv ps ml := ⟨h.own, h.len, fun i h1 h2 => ⟨(h.at_ i h1 h2).1, (h.at_ i h1 h2).2.mono (fun g hg _ => ⟨hg.1, hg.2.1⟩)⟩⟩
 exact hs.rds
structure NT (B Bt : Nat) (w5 wr : World) (ov sv tv : Value) (order : List Nat) (ps : List (Bool × Value)) (ml : List StA) (tl : List Nat) : Prop where
 q : NR (fun g => tv.ownBlock = some g) B w5 wr ov sv order ps ml
 own : OwnL Bt 3 1 natV wr tv tl
 base : B + 2 ≤ Bt ∧ Bt ≤ wr.heap.size
theorem NR.work {B : Nat} {w5 wr : World} {ov sv : Value} {order : List Nat} {ps : List (Bool × Value)} {ml : List StA} (h : NR (fun _ => False) B w5 wr ov sv order ps ml) : NT B wr.heap.size w5 wr ov sv (.slice none 0 0) order ps ml [] :=
 ⟨h.keep (Below.refl _ _) (fun _ _ _ _ => rfl) (fun g hg => by cases hg) (fun g hg => by cases hg), OwnL.nil _ _ _ _ _, h.base, Nat.le_refl _⟩
theorem NT.stay {B Bt : Nat} {w5 wr w' : World} {ov sv tv : Value} {order : List Nat} {ps : List (Bool × Value)} {ml : List StA} {tl : List Nat} (h : NT B Bt w5 wr ov sv tv order ps ml tl) (hb : Below wr.heap.size wr w') : NT B Bt w5 w' ov sv tv order ps ml tl :=
 ⟨h.q.stay hb, h.own.stay hb, h.base.1, Nat.le_trans h.base.2 hb.size⟩
theorem NT.ordStep {B Bt : Nat} {w5 wr w' : World} {ov ov' sv tv : Value} {order order' : List Nat} {ps : List (Bool × Value)} {ml : List StA} {tl : List Nat} (h : NT B Bt w5 wr ov sv tv order ps ml tl)
  (hg : wr.grownBy w' ov.ownBlock) (hown : OwnL B 3 1 natV w' ov' order') (hat : ov'.ownBlock = ov.ownBlock ∨ ∃ k, wr.heap.size ≤ k ∧ ov'.ownBlock = some k) : NT B Bt w5 w' ov' sv tv order' ps ml tl :=
 ⟨h.q.ordStep hg hown hat, h.own.keep (fun g e _hl hs => hg.block g hs (fun e2 => (h.q.ordk g e2.symm).2.2 e)), h.base.1, Nat.le_trans h.base.2 hg.size⟩
theorem NT.toStep {B Bt : Nat} {w5 wr w' : World} {ov sv tv tv' : Value} {order : List Nat} {ps : List (Bool × Value)} {ml : List StA} {tl tl' : List Nat} (h : NT B Bt w5 wr ov sv tv order ps ml tl)
  (hg : wr.grownBy w' tv.ownBlock) (hown : OwnL Bt 3 1 natV w' tv' tl') (hat : tv'.ownBlock = tv.ownBlock ∨ ∃ k, wr.heap.size ≤ k ∧ tv'.ownBlock = some k) : NT B Bt w5 w' ov sv tv' order ps ml tl' := by
 have h1 := h.base.1
 refine ⟨h.q.keep ⟨hg.os, hg.tape, hg.output, hg.size, fun g hl => hg.block g (by have := h.base.2; omega) (fun e => by have := (h.own.lt g e.symm).1; omega)⟩ (fun g _ hl hx => hg.block g hl (fun e => hx e.symm)) (fun g hx => ?_) (fun g hx => (hown.lt g hx).2), hown, h1, Nat.le_trans h.base.2 hg.size⟩
 rcases hat with e | ⟨k, e1, e2⟩
 ·exact .inl (e ▸ hx)
 ·rw [e2] at hx
  injection hx with hx
  exact .inr (hx ▸ e1)
theorem NT.arcs {B Bt : Nat} {w5 wr w' : World} {ov sv tv av : Value} {order : List Nat} {ps : List (Bool × Value)} {ml : List StA} {tl : List Nat} {arcs : List ArcA} (h : NT B Bt w5 wr ov sv tv order ps ml tl)
  (hb : Below wr.heap.size wr w') (ho : OwnL wr.heap.size 72 3 arcV w' av arcs) : NR (fun g => av.ownBlock = some g) B w5 w' ov sv order ps ml ∧ RdA (fun g => av.ownBlock = some g) w' av arcs := by
 refine ⟨h.q.keep (hb.mono (by have := h.q.base; omega)) (fun g _ hl _ => hb.block g hl) (fun g hx => .inr (ho.lt g hx).1) (fun g hx => (ho.lt g hx).2), ?_⟩
 obtain ⟨h1, h2⟩ := ho.slx arcV_len
 refine ⟨h1, fun hl => ?_⟩
 obtain ⟨g, cap, rfl, hb2, hgl⟩ := h2 hl
 exact ⟨g, 0, _, cap, rfl, rfl⟩
theorem NR.more {X : Nat → Prop} {B : Nat} {w5 wr : World} {ov sv : Value} {order : List Nat} {ps : List (Bool × Value)} {ml : List StA} (h : NR X B w5 wr ov sv order ps ml) (w' : World) (hb : Below wr.heap.size wr w') : NR X B w5 w' ov sv order ps ml := h.stay hb
/-! The plain words. -/
theorem arcG_congr {bytes : List Nat} {a b : List Nat} : ∀ k, (∀ j, j < k → a.getD j 0 = b.getD j 0) → arcG bytes a k = arcG bytes b k
 | 0, _ => rfl
 | k + 1, h => by
  rw [arcG, arcG, arcG_congr k (fun j hj => h j (by omega)), h k (by omega)]
theorem arcG_snoc (bytes tl : List Nat) (n : Nat) : arcG bytes (tl ++ [n]) (tl.length + 1) = addArcA (arcG bytes tl tl.length) (bytes.getD tl.length 0) (hiA bytes tl.length) n := by
 rw [arcG, arcG_congr tl.length (a := tl ++ [n]) (b := tl) (fun j hj => by rw [List.getD_eq_getElem?_getD, List.getD_eq_getElem?_getD, List.getElem?_append_left hj]), show (tl ++ [n]).getD tl.length 0 = n by rw [List.getD_eq_getElem?_getD]; simp]
end Go.Proofs.YtpkecepelcppiaaGreatDoor

namespace Go.Proofs.YtpkecepelcppiaaGreatDoor
open Go.RowKit Go.Shelf
set_option maxHeartbeats 8000000
set_option maxRecDepth 100000

structure NP (n F : Nat) (m : List StA) (bytes cl : List Nat) (nx : List (List Nat)) (out : List StA) (B : Nat) (w5 : World) (ov iv : Value) (wr : World) (f i : Nat) (order : List Nat) (ml : List StA) : Prop where
 iv : iv = .int .i64 (i : Int)
 ie : i ≤ order.length
 fe : i + f ≤ F
 few : order.length ≤ 1 + 256 * i
 lt : ∀ o ∈ order, o < n
 mll : ml.length = i
 ev : numA m bytes cl nx f i order ml = some out
 q : ∃ sv ps, NR (fun _ => False) B w5 wr ov sv order ps ml
theorem NP.least {n F : Nat} {m : List StA} {bytes cl : List Nat} {nx : List (List Nat)} {out : List StA} {B : Nat} {w5 : World} {ov iv : Value} {wr : World} {f i : Nat} {order : List Nat} {ml : List StA} (h : NP n F m bytes cl nx out B w5 ov iv wr f i order ml) :
  ∃ μ i order ml, NP n F m bytes cl nx out B w5 ov iv wr μ i order ml ∧ minN (fun f => ∃ i order ml, NP n F m bytes cl nx out B w5 ov iv wr f i order ml) = μ := by
 obtain ⟨i, order, ml, hP⟩ := minN_spec (P := fun f => ∃ i order ml, NP n F m bytes cl nx out B w5 ov iv wr f i order ml) ⟨f, i, order, ml, h⟩
 exact ⟨_, i, order, ml, hP, rfl⟩
theorem rleast_any (N : Nat → Prop) (f : Nat) (m out : List StA) (v : Value) (w : World) (hm : RdS N w v m) (hv : valA m = true) (hn : m.length < 1000) (hf : leastA f m = some out) (hff : f ≤ 1000) :
  Calls Tryz.prog 96 #[.agg #[v]] w fun e w' => ∃ v', e = .returned (.agg #[v']) ∧ RdS (fun g => w.heap.size ≤ g) w' v' out ∧ Below w.heap.size w w' := by
 obtain ⟨clF, hcl, hnum⟩ := least_parts hf
 obtain ⟨a, cap, rfl, hml⟩ := hm.form
 have hmi : (m.length : Int) < 1000 := by omega
 have HM := Lib.hid hm
 have HN := Lib.hid hn
 have HFF := Lib.hid hff
 have HNUM := Lib.hid hnum
 have HM0L := Lib.hid (valA_pos hv)
 have HV := Lib.hid hv
 have HLO := Lib.hid (fun i hi j hj => val_lo hv i hi j hj)
 have HCC := Lib.hid (fun w' (h : Below w.heap.size w w') => classes_any N f m _ clF w' (hm.stay h) hv hn hcl)
 have HBP := Lib.hid (starts_bp m)
 have HB256 := Lib.hid (starts_len m)
 clear hml hm hv hn hf hff hcl hnum
 go_enter Tryz.func96, Tryz.ntmps96
 go_upto_region 1 with fail
 generalize hW : World.alloc w _ = w1
 obtain ⟨hbx, -, hz1, hb1⟩ := alloc_of hW
 generalize hWb : World.alloc w1 _ = w1b
 obtain ⟨hbx2, -, hz2, hb2⟩ := alloc_of hWb
 rw [hz1] at hbx2
 have HX := Lib.hid (show BoxV w.heap.size 29 [.slice a m.length cap] w1b from (hb2.block _ (by omega)).trans hbx)
 have HR := Lib.hid (show BoxV (w.heap.size + 1) 29 [.slice none 0 0] w1b from hbx2)
 have HB := Lib.hid (hb1.trans (hb2.mono hb1.size))
 clear hW hbx hz1 hb1 hWb hbx2 hz2 hb2
 have x0 := HX.out.cell 0
 simp only [List.getElem?_cons_zero] at x0
 go_wp2_with fail
 refine (HCC.out w1b HB.out).mono ?_
 rintro e w2 ⟨gc, rfl, hrow, hgc, hb, hcl⟩
 replace HX := Lib.hid (HX.out.below hb)
 replace HR := Lib.hid (HR.out.below hb)
 replace HB := Lib.hid (HB.out.trans (hb.mono HB.out.size))
 have HROW := Lib.hid hrow
 have HCL := Lib.hid hcl
 clear hrow hgc hb hcl x0 HCC
 have x0 := HX.out.cell 0
 simp only [List.getElem?_cons_zero] at x0
 go_wp2_with fail
 generalize hW : World.alloc w2 _ = w3
 obtain ⟨hbx, -, hz1, hb1⟩ := alloc_of hW
 have h0 : w3.cell? ⟨w2.heap.size, 0, none⟩ = some (.slice a m.length cap) := (show BoxV w2.heap.size 29 [.slice a m.length cap] w3 from hbx).cell 0
 have HC0 := Lib.hid (cuts_any N m (.slice a m.length cap) w2.heap.size w3 h0 (by omega) (HM.out.stay (HB.out.trans (hb1.mono HB.out.size))) HLO.out)
 replace HX := Lib.hid (HX.out.below hb1)
 replace HR := Lib.hid (HR.out.below hb1)
 replace HROW := Lib.hid (HROW.out.of_block (hb1.block _ HROW.out.lt))
 replace HB := Lib.hid (HB.out.trans (hb1.mono HB.out.size))
 clear hW hbx hz1 hb1 x0 h0
 refine HC0.out.mono ?_
 rintro e w4 ⟨vb, rfl, hbr, hb⟩
 replace HX := Lib.hid (HX.out.below hb)
 replace HR := Lib.hid (HR.out.below hb)
 replace HROW := Lib.hid (HROW.out.of_block (hb.block _ HROW.out.lt))
 replace HB := Lib.hid (HB.out.trans (hb.mono HB.out.size))
 have HBY := Lib.hid hbr
 obtain ⟨ba, bcap, rfl, -⟩ := hbr.form
 obtain ⟨bytes, hby⟩ : ∃ bytes, bytes = startsA m := ⟨_, rfl⟩
 rw [← hby] at HBY HB256 HBP HNUM ⊢
 have hbl : (bytes.length : Int) ≤ 256 := by have := HB256.out; omega
 clear hbr hb HC0 hby HLO
 go_upto_region 4 with fail
 generalize hW : World.alloc w4 _ = w5
 obtain ⟨hbx, -, hz1, hb1⟩ := alloc_of hW
 have HOW := Lib.hid (show OwnL w4.heap.size 3 1 natV w5 (.slice (some ⟨w4.heap.size, 0, none⟩) 1 1) [0] from ⟨rfl, .inr ⟨w4.heap.size, 1, _, rfl, Nat.le_refl _, hbx, Nat.le_refl _, by decide, rfl, rfl⟩⟩)
 go_upto_region 5 with fail
 generalize hW2 : World.alloc w5 _ = w6
 obtain ⟨hbx2, -, hz2, hb2⟩ := alloc_of hW2
 rw [hz1] at hbx2
 have HNP := Lib.hid (show NP m.length f m bytes clF (nxL m bytes) out w4.heap.size w4 (.slice (some ⟨w4.heap.size, 0, none⟩) 1 1) (.int .i64 0) w6 f 0 [0] [] from
  ⟨rfl, Nat.zero_le _, by omega, by decide, fun o ho => by rw [List.mem_singleton.1 ho]; exact HM0L.out, rfl, HNUM.out, .slice none 0 0, [], ⟨hb1.trans (hb2.mono hb1.size), by omega, hbx2, HOW.out.stay hb2, fun g hg => ⟨by have h3 : w4.heap.size = g := Option.some.inj hg; omega, (fun h => by cases h), fun h => h⟩, OwnL.nil _ _ _ _ _, (fun g hg => (by cases hg)), rfl, (fun i h1 => absurd h1 (Nat.not_lt_zero _)), fun g hg => False.elim hg⟩⟩)
 have HXL : Hid (w.heap.size + 1 < w4.heap.size) := HR.out.lt
 clear hW hbx hz1 hb1 hW2 hbx2 hz2 hb2 HOW
 obtain ⟨B, hBe⟩ : ∃ B, B = w4.heap.size := ⟨_, rfl⟩
 rw [← hBe] at HNP HXL ⊢
 have HBE := Lib.hid hBe
 clear hBe
 go_wp2_with fail
 go_loopw [5, 7] (fun ov iv wr => ∃ (f2 i : Nat) (order : List Nat) (ml : List StA), Hid (NP m.length f m bytes clF (nxL m bytes) out B w4 ov iv wr f2 i order ml)) (fun ov iv wr => minN (fun f2 => ∃ i order ml, NP m.length f m bytes clF (nxL m bytes) out B w4 ov iv wr f2 i order ml))
 case atStart => exact ⟨f, 0, [0], [], HNP.out⟩
 case round =>
  clear HNP
  obtain ⟨f0, i0, ord0, ml0, h0⟩ := hrel
  obtain ⟨μ, i, order, ml, hP, hμ⟩ := h0.out.least
  have hiv := hP.iv
  subst hiv
  obtain ⟨sv, ps, hq⟩ := hP.q
  obtain ⟨A, ocap, hov, -⟩ := hq.ord.form
  subst hov
  obtain ⟨sa, scap, hsv, -⟩ := hq.own.form
  subst hsv
  have HMU := Lib.hid hμ
  have HQ := Lib.hid hq
  have HP := Lib.hid hP
  have hoi : (order.length : Int) ≤ 300000 := by have h1 := hP.few; have h2 := hP.fe; have h3 := HFF.out; have h4 := hP.ie; have h5 : i ≤ 1000 := (by omega); omega
  have HPL : Hid (ps.length ≤ 1000) := by have h1 := hq.len; have h2 := hP.mll; have h3 := hP.fe; have h4 := HFF.out; unfold Hid; omega
  clear hq hP hμ h0 f0 i0 ord0 ml0
  by_cases hlt : i < order.length
  case neg =>
   have hge : ¬ (i : Int) < order.length := by omega
   have HE := Lib.hid (num_end HP.out.ev hlt)
   have HRN := Lib.hid (show BoxV (w.heap.size + 1) 29 [.slice none 0 0] wr from HR.out.keep (HQ.out.bel.block _ HXL.out))
   have HBW := Lib.hid (HB.out.trans (HQ.out.bel.mono (by have := HXL.out; omega)))
   have z0 := HRN.out.cell 0
   have y0 := HRN.out.free 0
   have x0 := HQ.out.outb.cell 0
   simp only [List.getElem?_cons_zero] at z0 x0
   clear hlt
   go_wp2_with fail
   refine bodyPost_ret (v := .agg #[.slice sa ps.length scap]) ?_ rfl ⟨_, rfl, ?_, ?_⟩
   ·have hbx : BoxV (w.heap.size + 1) 29 [.slice sa ps.length scap] (wr.setCell ⟨w.heap.size + 1, 0, none⟩ (.slice sa ps.length scap)) := heap_setCell_same wr (w.heap.size + 1) 0 _ _ _ HRN.out
    have q0 := hbx.cell 0
    simp only [List.getElem?_cons_zero] at q0
    simp [results, Tryz.results96, go_sem, q0]
   ·rw [HE.out]
    exact (HQ.out.rds.keep (fun g hg _ => Below.heap_setCell wr ⟨w.heap.size + 1, 0, none⟩ _ g (by have := HXL.out; show g ≠ w.heap.size + 1; omega))).mono (fun g hg _ => by have := HXL.out; omega)
   ·exact HBW.out.setCell (p := ⟨w.heap.size + 1, 0, none⟩) (by show w.heap.size ≤ w.heap.size + 1; omega) _
  case pos =>
   have hlti : (i : Int) < order.length := by omega
   cases μ with
   | zero => exact absurd HP.out.ev (by rw [numA]; intro h; cases h)
   | succ f1 =>
    obtain ⟨go, oo, rfl, ho⟩ := HQ.out.ord.n2.1.at_ i hlt
    obtain ⟨qn, hqn⟩ : ∃ q, q = order[i] := ⟨_, rfl⟩
    rw [← hqn] at ho
    have hql : qn < m.length := by rw [hqn]; exact HP.out.lt _ (List.getElem_mem hlt)
    have hqi : (qn : Int) < m.length := by omega
    have HSTP := Lib.hid (fun arcs order' => num_step (m := m) (bytes := bytes) (cl := clF) (nx := nxL m bytes) (f := f1) (ml := ml) hlt (arcs := arcs) (order' := order'))
    rw [← hqn] at HSTP
    have HTS := Lib.hid (nxL_at (bytes := bytes) hql)
    have HNX : Hid (∀ (b : Nat) w', Below B w4 w' → Calls Tryz.prog 40 #[.agg #[.slice a m.length cap], .int .i64 (qn : Int), .int .i64 (b : Int)] w' fun e w'' => e = .returned (.int .i64 (stepL (arcsOf m qn) b : Nat)) ∧ Below w'.heap.size w' w'') := fun b w' hb => by
     have h1 := Next_any N m _ qn b w' (HM.out.stay (HB.out.trans (hb.mono (by have := HXL.out; omega)))) hql
     rw [next_step0 _ _ (val_at HV.out qn hql), ← accs_eq hql] at h1
     exact h1
    have HTN : Hid (∀ b, stepL (arcsOf m qn) b < m.length) := fun b => by
     rw [accs_eq hql]
     exact stepL_lt m[qn].arcs 0 b (val_at HV.out qn hql) (by have := HM0L.out; omega)
    have HQL := Lib.hid hql
    have HT0 := Lib.hid HQ.out.work
    obtain ⟨arcF, ordF, hR⟩ : ∃ a o, rowA bytes clF (((nxL m bytes).getD qn []).drop 0) 0 [] order = (a, o) := ⟨_, _, rfl⟩
    have HEVN := Lib.hid ((HSTP.out _ _ hR).symm.trans HP.out.ev)
    rw [HTS.out] at hR
    have HR0 := Lib.hid hR
    have HFE := Lib.hid HP.out.few
    have HLO := Lib.hid HP.out.lt
    have HLT := Lib.hid hlt
    have HNL : Hid ((bytes.map (stepL (arcsOf m qn))).length = bytes.length) := by unfold Hid; rw [List.length_map]
    have HNA : Hid (∀ j (h1 : j < (bytes.map (stepL (arcsOf m qn))).length) (h2 : j < bytes.length), (bytes.map (stepL (arcsOf m qn)))[j] = stepL (arcsOf m qn) bytes[j]) := fun j h1 h2 => List.getElem_map _
    generalize bytes.map (stepL (arcsOf m qn)) = ts at *
    obtain ⟨Bt, hBt⟩ : ∃ B, B = wr.heap.size := ⟨_, rfl⟩
    rw [← hBt] at HT0
    clear hql hlt hqn hR hBt
    go_wp2_with fail
    clear ho
    go_loopw [5, 9, 10] (fun ov tv bv wr => ∃ (b : Nat) (A2 At : Option Addr) (ocap2 tcap : Nat) (order2 tl : List Nat), ov = .slice A2 order2.length ocap2 ∧ tv = .slice At b tcap ∧ bv = .int .i64 (b : Int) ∧ b ≤ bytes.length ∧ Hid (NT B Bt w4 wr (.slice A2 order2.length ocap2) (.slice sa ps.length scap) (.slice At b tcap) order2 ps ml tl) ∧ Hid (tl.length = b) ∧ Hid (rowA bytes clF (ts.drop b) b (arcG bytes tl b) order2 = (arcF, ordF)) ∧ Hid (order2.length ≤ 1 + 256 * i + b) ∧ Hid (∀ o ∈ order2, o < m.length) ∧ Hid (i < order2.length)) (fun _ _ bv _ => bytes.length - (intOf bv).toNat)
    case atStart => exact ⟨0, _, none, ocap, 0, order, [], rfl, rfl, rfl, Nat.zero_le _, HT0.out, rfl, HR0.out, HFE.out, HLO.out, HLT.out⟩
    case round =>
     clear HT0 HR0 HFE HLO HLT HQ
     obtain ⟨b, A2, At, ocap2, tcap, order2, tl, rfl, rfl, rfl, hb, HT, HTL, HEV2, HFEW, HLT2, HIE⟩ := hrel
     have hoi2 : (order2.length : Int) ≤ 400000 := by have h1 := HFEW.out; have h2 := HP.out.fe; have h3 := HFF.out; omega
     have hbi2 : (b : Int) ≤ 256 := by have := HB256.out; omega
     by_cases hbt : b < bytes.length
     case neg =>
      have hge : ¬ (b : Int) < bytes.length := by omega
      have hbe : b = bytes.length := by omega
      obtain ⟨hra, hro⟩ := Prod.mk.inj ((row_end (show ¬ b < ts.length by have := HNL.out; omega)).symm.trans HEV2.out)
      have HTLN : Hid (bytes.length = tl.length) := by have := HTL.out; unfold Hid; omega
      subst hro
      have HRA : Hid (arcG bytes tl bytes.length = arcF) := by unfold Hid; rw [← hbe]; exact hra
      obtain ⟨g, o, b0, k0, c0, rfl, m0, -, -, -⟩ := HM.out.at_ qn HQL.out
      have hgl := HM.out.lt0 (by have := HQL.out; omega)
      have HGL : Hid (g < B) := by have := HXL.out; unfold Hid; omega
      replace m0 := ((HB.out.trans (HT.out.q.bel.mono (by have := HXL.out; omega))).cell (p := ⟨g, o + qn * 2, none⟩) hgl).trans m0
      have hacc := acc_eq HQL.out
      rw [← hacc] at m0
      have HAC : Hid (accOf m qn = accOf m qn) := rfl
      obtain ⟨acc, hace⟩ : ∃ x, x = accOf m qn := ⟨_, rfl⟩
      rw [← hace] at m0
      have HACE := Lib.hid hace
      have x0 : wr.cell? ⟨w.heap.size, 0, none⟩ = some (.slice (some ⟨g, o, none⟩) m.length cap) := (HX.out.keep (HT.out.q.bel.block _ (by have := HXL.out; omega))).cell 0
      have z0 : wr.cell? ⟨B + 1, 0, none⟩ = some (.slice sa ps.length scap) := HT.out.q.outb.cell 0
      obtain ⟨bx, hbxe⟩ : ∃ bx, bx = w.heap.size := ⟨_, rfl⟩
      rw [← hbxe] at x0 HXL ⊢
      have HBXE : Hid (w.heap.size = bx) := hbxe.symm
      obtain ⟨bO, hbO⟩ : ∃ x, x = B + 1 := ⟨_, rfl⟩
      rw [← hbO] at z0 ⊢
      have HBOE : Hid (B + 1 = bO) := hbO.symm
      have HL3 : Hid (bx < B + 2 ∧ g < B + 2) := by have h1 := HXL.out; have h2 := HGL.out; exact ⟨by omega, by omega⟩
      clear hbt hra hacc hace hgl hbxe hbO
      go_upto_region 20 with fail
      have hS0 : wr.drew.cell? ⟨bx, 0, none⟩ = some (.slice (some ⟨g, o, none⟩) m.length cap) ∧ wr.drew.cell? ⟨g, o + qn * 2, none⟩ = some (.bool acc) ∧ wr.drew.cell? ⟨bO, 0, none⟩ = some (.slice sa ps.length scap) := ⟨x0, m0, z0⟩
      replace HT := Lib.hid (HT.out.stay (drewBn wr))
      subst hbe
      clear x0 m0 z0
      refine wpq_region (fun w' => w'.cell? ⟨bx, 0, none⟩ = some (.slice (some ⟨g, o, none⟩) m.length cap) ∧ w'.cell? ⟨g, o + qn * 2, none⟩ = some (.bool acc) ∧ w'.cell? ⟨bO, 0, none⟩ = some (.slice sa ps.length scap)) 15 (by kernel_rfl) hS0 (fun hHeld => ?_)
      clear hS0
      generalize wr.drew = wd at *
      refine wpq_tk 0 (some 74) [15] (Or.inl ⟨by rfl, fun w hSw => by (obtain ⟨x0, y0, z0⟩ := hSw; go_simp; with_reducible rfl)⟩) hHeld ?_ rfl rfl
      simp only [Act.put, sA, sZ, sS]
      refine wpq_tk 1 (some 75) [15] (Or.inl ⟨by rfl, fun w hSw => by (obtain ⟨x0, y0, z0⟩ := hSw; go_simp; with_reducible rfl)⟩) hHeld ?_ rfl rfl
      simp only [Act.put, sA, sZ, sS]
      refine wpq_tk 2 (some 76) [15] (Or.inl ⟨by rfl, fun w hSw => by (obtain ⟨x0, y0, z0⟩ := hSw; go_simp; with_reducible rfl)⟩) hHeld ?_ rfl rfl
      simp only [Act.put, sA, sZ, sS]
      refine wpq_tk 3 (some 77) [15] (Or.inl ⟨by rfl, fun w hSw => by (obtain ⟨x0, y0, z0⟩ := hSw; go_simp; with_reducible rfl)⟩) hHeld ?_ rfl rfl
      simp only [Act.put, sA, sZ, sS]
      refine wpq_tk 4 (some 78) [15] (Or.inl ⟨by rfl, fun w hSw => by (obtain ⟨x0, y0, z0⟩ := hSw; go_simp; with_reducible rfl)⟩) hHeld ?_ rfl rfl
      simp only [Act.put, sA, sZ, sS]
      refine wpq_tk 5 (some 79) [15] (Or.inl ⟨by rfl, fun w hSw => by (obtain ⟨x0, y0, z0⟩ := hSw; go_simp; with_reducible rfl)⟩) hHeld ?_ rfl rfl
      simp only [Act.put, sA, sZ, sS]
      refine wpq_tk 6 (some 80) [15] (Or.inl ⟨by rfl, fun w hSw => by (obtain ⟨x0, y0, z0⟩ := hSw; go_simp; with_reducible rfl)⟩) hHeld ?_ rfl rfl
      simp only [Act.put, sA, sZ, sS]
      refine wpq_tk 7 (some 81) [15] (Or.inl ⟨by rfl, fun w hSw => by (obtain ⟨x0, y0, z0⟩ := hSw; go_simp; with_reducible rfl)⟩) hHeld ?_ rfl rfl
      simp only [Act.put, sA, sZ, sS]
      refine wpq_tk 8 (some 82) [15] (Or.inl ⟨by rfl, fun w hSw => by (obtain ⟨x0, y0, z0⟩ := hSw; go_simp; with_reducible rfl)⟩) hHeld ?_ rfl rfl
      simp only [Act.put, sA, sZ, sS]
      refine wpq_tk 9 (some 83) [15] (Or.inl ⟨by rfl, fun w hSw => by (obtain ⟨x0, y0, z0⟩ := hSw; go_simp; with_reducible rfl)⟩) hHeld ?_ rfl rfl
      simp only [Act.put, sA, sZ, sS]
      refine wpq_one 10 (by kernel_rfl) rfl (fun K hK => ?_)
      go_simp
      refine (arcs16_any bytes tl _ _ wd (HBY.out.stay (HBE.out ▸ HT.out.q.bel)) HT.out.own.nums HTLN.out HB256.out HBP.out).mono ?_
      rintro e wx ⟨av, rfl, hao, hb⟩
      obtain ⟨aA, acap, rfl, -⟩ := hao.form
      have HAR := Lib.hid (HT.out.arcs hb hao)
      replace hHeld := show wx.cell? ⟨bx, 0, none⟩ = some (.slice (some ⟨g, o, none⟩) m.length cap) ∧ wx.cell? ⟨g, o + qn * 2, none⟩ = some (.bool acc) ∧ wx.cell? ⟨bO, 0, none⟩ = some (.slice sa ps.length scap) from ⟨(hb.cell (p := ⟨bx, 0, none⟩) (cell_ltG hHeld.1)).trans hHeld.1, (hb.cell (p := ⟨g, o + qn * 2, none⟩) (cell_ltG hHeld.2.1)).trans hHeld.2.1, (hb.cell (p := ⟨bO, 0, none⟩) (cell_ltG hHeld.2.2)).trans hHeld.2.2⟩
      clear hb hao
      generalize wx = wd at *
      refine hK.out _ _ hHeld (fun hHeld => ?_)
      clear hK K
      refine wpq_tk 11 (some 85) [15] (Or.inl ⟨by rfl, fun w hSw => by (obtain ⟨x0, y0, z0⟩ := hSw; go_simp; with_reducible rfl)⟩) hHeld ?_ rfl rfl
      simp only [Act.put, sA, sZ, sS]
      refine wpq_one 12 (by kernel_rfl) rfl (fun K hK => ?_)
      go_simp
      have hb7 : Below wd.heap.size wd (wd.alloc (.cells (stV (acc, .slice aA (arcG bytes tl bytes.length).length acap)).toArray 70)) := (Below.refl _ _).alloc (Nat.le_refl _) _
      refine hK.out _ _ ⟨(hb7.cell (p := ⟨bx, 0, none⟩) (cell_ltG hHeld.1)).trans hHeld.1, (hb7.cell (p := ⟨g, o + qn * 2, none⟩) (cell_ltG hHeld.2.1)).trans hHeld.2.1, (hb7.cell (p := ⟨bO, 0, none⟩) (cell_ltG hHeld.2.2)).trans hHeld.2.2⟩ (fun hHeld2 => ?_)
      clear hK K hb7 hHeld2
      refine wpq_one 13 (by kernel_rfl) rfl (fun K hK => ?_)
      refine step_pushLG (f := stV) (x := (acc, .slice aA (arcG bytes tl bytes.length).length acap)) (v := .slice sa ps.length scap) (l := ps) (B := B + 2) (e := 70) (sz := 2) rfl _ _ rfl elemS stV_len (by decide) (stV_one _ _ _ _) HAR.out.1.own rfl rfl rfl (by have := HPL.out; omega) HAR.out.1.base ?_
      rintro v3 w7 hown3 hg3 hfm3 hat3
      obtain ⟨A3, cap3, rfl⟩ := hfm3
      have HN0 := Lib.hid (HAR.out.1.outStep HAR.out.2 hown3 hg3 hat3)
      have hb7 : Below (B + 2) wd w7 := grown_belowL hg3 (fun y hy => (HAR.out.1.own.lt y hy).1) HAR.out.1.base
      have hS : w7.cell? ⟨bx, 0, none⟩ = some (.slice (some ⟨g, o, none⟩) m.length cap) ∧ w7.cell? ⟨g, o + qn * 2, none⟩ = some (.bool acc) ∧ w7.cell? ⟨bO, 0, none⟩ = some (.slice sa ps.length scap) := ⟨(hb7.cell (p := ⟨bx, 0, none⟩) HL3.out.1).trans hHeld.1, (hb7.cell (p := ⟨g, o + qn * 2, none⟩) HL3.out.2).trans hHeld.2.1, (hb7.cell (p := ⟨bO, 0, none⟩) (by have := HBOE.out; show bO < B + 2; omega)).trans hHeld.2.2⟩
      have hc := hS.2.2
      have hf : w7.frozen? ⟨bO, 0, none⟩ = false := (show BoxV bO 29 [.slice sa ps.length scap] w7 from HBOE.out ▸ HAR.out.1.outb.keep (hb7.block _ (Nat.lt_succ_self _))).free 0
      clear hown3 hg3 hat3 hb7
      refine hK.out _ _ hS (fun hHeld => ?_)
      clear hK K hS
      refine wpq_tk 14 (some 88) [15] (Or.inl ⟨by rfl, fun w hSw => by (obtain ⟨x0, y0, z0⟩ := hSw; go_simp; with_reducible rfl)⟩) hHeld ?_ rfl rfl
      simp only [Act.put, List.setIfInBounds_toArray]
      refine wpq_end 15 (by kernel_rfl) rfl (by kernel_rfl) (fun K hK => ?_)
      go_simp
      refine hK.out _ _ ?_
      clear hK K
      refine wpq_done (by kernel_rfl) ?_ _
      go_simp
      go_simp
      have hq1 := HBXE.out
      subst hq1
      have hq2 := HBOE.out
      subst hq2
      have HNN : Hid (NP m.length f m bytes clF (nxL m bytes) out B w4 (.slice A2 order2.length ocap2) (.int .i64 ((i : Int) + 1)) (w7.setCell ⟨B + 1, 0, none⟩ (.slice A3 (ps.length + 1) cap3)) f1 (i + 1) order2 (ml ++ [⟨acc, arcF⟩])) := ⟨by simp, HIE.out, by have := HP.out.fe; omega, by have h1 := HFEW.out; have h2 := HB256.out; omega, HLT2.out, by rw [List.length_append, HP.out.mll]; rfl, by rw [HACE.out]; exact HEVN.out, _, _, by rw [← HRA.out]; exact HN0.out⟩
      go_wp2_with fail
      exact ⟨⟨f1, i + 1, order2, _, HNN.out⟩, by rw [HMU.out]; exact Nat.lt_succ_of_le (minN_le ⟨_, _, _, HNN.out⟩)⟩
     case pos =>
      have hbti : (b : Int) < bytes.length := by omega
      have hbts : b < ts.length := by have := HNL.out; omega
      obtain ⟨gb, ob, rfl, y0⟩ := (HBY.out.stay (HBE.out ▸ HT.out.q.bel)).at_ b hbt
      obtain ⟨t, ht⟩ : ∃ t, t = ts[b] := ⟨_, rfl⟩
      have HTT := Lib.hid ((ht).trans (HNA.out b hbts hbt))
      have HHIT := Lib.hid (fun n (h : order2.findIdx? (fun o => decide (clF.getD o 0 = clF.getD t 0)) = some n) => row_hit (bytes := bytes) (arcs := arcG bytes tl b) hbts (by rw [← ht]; exact h))
      have HMISS := Lib.hid (fun (h : order2.findIdx? (fun o => decide (clF.getD o 0 = clF.getD t 0)) = none) => row_miss (bytes := bytes) (arcs := arcG bytes tl b) hbts (by rw [← ht]; exact h))
      rw [← ht] at HMISS
      generalize bytes[b] = by_ at *
      have HTM : Hid (t < m.length) := by rw [HTT.out]; exact HTN.out by_
      have HB1 : Hid (b + 1 ≤ bytes.length) := hbt
      have x0 : wr.cell? ⟨w.heap.size, 0, none⟩ = some (.slice a m.length cap) := (HX.out.keep (HT.out.q.bel.block _ (by have := HXL.out; omega))).cell 0
      obtain ⟨bx, hbxe⟩ : ∃ bx, bx = w.heap.size := ⟨_, rfl⟩
      rw [← hbxe] at x0 HXL ⊢
      have HBXE : Hid (w.heap.size = bx) := hbxe.symm
      clear hbt hbts ht hbxe
      go_upto_region 13 with fail
      have hS0 : wr.drew.cell? ⟨bx, 0, none⟩ = some (.slice a m.length cap) ∧ wr.drew.cell? ⟨gb, ob + b, none⟩ = some (.int .i64 (by_ : Int)) := ⟨x0, y0⟩
      replace HT := Lib.hid (HT.out.stay (drewBn wr))
      clear x0 y0
      refine wpq_region (fun w' => w'.cell? ⟨bx, 0, none⟩ = some (.slice a m.length cap) ∧ w'.cell? ⟨gb, ob + b, none⟩ = some (.int .i64 (by_ : Int))) 7 (by kernel_rfl) hS0 (fun hHeld => ?_)
      clear hS0
      generalize wr.drew = wd at *
      refine wpq_tk 0 (some 35) [7] (Or.inl ⟨by rfl, fun w hSw => by (obtain ⟨x0, y0⟩ := hSw; go_simp; with_reducible rfl)⟩) hHeld ?_ rfl rfl
      simp only [Act.put, sA, sZ, sS]
      refine wpq_tk 1 (some 36) [7] (Or.inl ⟨by rfl, fun w hSw => by (obtain ⟨x0, y0⟩ := hSw; go_simp; with_reducible rfl)⟩) hHeld ?_ rfl rfl
      simp only [Act.put, sA, sZ, sS]
      refine wpq_tk 2 (some 37) [7] (Or.inl ⟨by rfl, fun w hSw => by (obtain ⟨x0, y0⟩ := hSw; go_simp; with_reducible rfl)⟩) hHeld ?_ rfl rfl
      simp only [Act.put, sA, sZ, sS]
      refine wpq_tk 3 (some 38) [7] (Or.inl ⟨by rfl, fun w hSw => by (obtain ⟨x0, y0⟩ := hSw; go_simp; with_reducible rfl)⟩) hHeld ?_ rfl rfl
      simp only [Act.put, sA, sZ, sS]
      refine wpq_tk 4 (some 39) [7] (Or.inl ⟨by rfl, fun w hSw => by (obtain ⟨x0, y0⟩ := hSw; go_simp; with_reducible rfl)⟩) hHeld ?_ rfl rfl
      simp only [Act.put, sA, sZ, sS]
      refine wpq_tk 5 (some 40) [7] (Or.inl ⟨by rfl, fun w hSw => by (obtain ⟨x0, y0⟩ := hSw; go_simp; with_reducible rfl)⟩) hHeld ?_ rfl rfl
      simp only [Act.put, sA, sZ, sS]
      refine wpq_one 6 (by kernel_rfl) rfl (fun K hK => ?_)
      go_simp
      refine (HNX.out by_ _ HT.out.q.bel).mono ?_
      rintro e wx ⟨rfl, hb⟩
      replace hHeld := show wx.cell? ⟨bx, 0, none⟩ = some (.slice a m.length cap) ∧ wx.cell? ⟨gb, ob + b, none⟩ = some (.int .i64 (by_ : Int)) from ⟨(hb.cell (p := ⟨bx, 0, none⟩) (cell_ltG hHeld.1)).trans hHeld.1, (hb.cell (p := ⟨gb, ob + b, none⟩) (cell_ltG hHeld.2)).trans hHeld.2⟩
      replace HT := Lib.hid (HT.out.stay hb)
      clear hb
      generalize wx = wd at *
      refine hK.out _ _ hHeld (fun hHeld => ?_)
      clear hK K
      refine wpq_end 7 (by kernel_rfl) rfl (by kernel_rfl) (fun K hK => ?_)
      go_simp
      refine hK.out _ _ ?_
      clear hK K
      refine wpq_done (by kernel_rfl) ?_ _
      go_simp
      go_simp
      have hq1 := HBXE.out
      subst hq1
      rw [← HTT.out]
      clear hHeld
      have hrl : Hid (gc < B) := by rw [HBE.out]; exact HROW.out.lt
      go_wp2_with fail
      go_loopw [12] (fun kv wr => ∃ k : Nat, kv = .int .i64 (k : Int) ∧ k ≤ order2.length ∧ Hid (∀ j, j < k → ∀ o, order2[j]? = some o → clF.getD o 0 ≠ clF.getD t 0) ∧ Hid (Below wd.heap.size wd wr)) (fun kv _ => order2.length - (intOf kv).toNat)
      case atStart => exact ⟨0, rfl, Nat.zero_le _, fun j hj => absurd hj (Nat.not_lt_zero _), Below.refl _ _⟩
      case round =>
       obtain ⟨k, rfl, hk, HEQ, HBK⟩ := hrel
       have HTK := Lib.hid (HT.out.stay HBK.out)
       have hki : (k : Int) ≤ 400000 := by omega
       by_cases hkt : k < order2.length
       case neg =>
        have hke : k = order2.length := by omega
        subst hke
        have hgek : ¬ (order2.length : Int) < order2.length := by omega
        have HNONE : Hid (order2.findIdx? (fun o => decide (clF.getD o 0 = clF.getD t 0)) = none) := by
         unfold Hid
         rw [List.findIdx?_eq_none_iff]
         intro o ho
         obtain ⟨j, hj⟩ := List.mem_iff_getElem?.1 ho
         exact decide_eq_false (HEQ.out j (List.getElem?_eq_some_iff.1 hj).1 o hj)
        have HEV3 := Lib.hid ((HMISS.out HNONE.out).symm.trans HEV2.out)
        clear hkt
        go_upto_region 15 with fail
        go_quiet (fail)
        generalize hWQ : World.drewN wr _ = wq
        have hbq : Below wr.heap.size wr wq := hWQ ▸ below_drewN (Below.refl wr.heap.size wr) _
        replace HTK := Lib.hid (HTK.out.stay hbq)
        clear hWQ hbq
        go_wp2_with (first
         | (at_builtin; refine wpl_pushL (f := natV) (x := t) (v := .slice A2 order2.length ocap2) (l := order2) (B := B) (e := 3) (sz := 1) _ _ rfl rfl elemIn natV_len (by decide) (natV_one _) HTK.out.q.ord rfl rfl rfl (by omega) (by have := HTK.out.q.base; omega) ?_; intro v3 w9 hown3 hg3 hfm3 hat3; obtain ⟨A3, cap3, rfl⟩ := hfm3; have HT9 := Lib.hid (HTK.out.ordStep hg3 hown3 hat3); clear hown3 hg3 hat3)
         | (at_builtin; refine wpl_pushL (f := natV) (x := order2.length) (v := .slice At b tcap) (l := tl) (B := Bt) (e := 3) (sz := 1) _ _ rfl rfl elemIn natV_len (by decide) (natV_one _) HT9.out.own rfl rfl rfl (by have := HTL.out; omega) HT9.out.base.2 ?_; intro v4 w10 hown4 hg4 hfm4 hat4; obtain ⟨A4, cap4, rfl⟩ := hfm4; have HT10 := Lib.hid (HT9.out.toStep hg4 hown4 hat4); clear hown4 hg4 hat4))
        have HL1 : Hid (order2.length + 1 = (order2 ++ [t]).length) := by unfold Hid; rw [List.length_append]; rfl
        rw [HTL.out, HL1.out] at HT10
        exact ⟨⟨b + 1, A3, A4, cap3, cap4, order2 ++ [t], tl ++ [order2.length], by rw [HL1.out], by rw [HTL.out], by simp, HB1.out, HT10.out, by unfold Hid; rw [List.length_append, HTL.out]; rfl, by
         have h9 := arcG_snoc bytes tl order2.length
         rw [HTL.out] at h9
         unfold Hid
         rw [h9]
         exact HEV3.out, by unfold Hid; rw [List.length_append]; have := HFEW.out; show order2.length + 1 ≤ _; omega, fun o ho => (List.mem_append.1 ho).elim (HLT2.out o) (fun h => by rw [List.mem_singleton.1 h]; exact HTM.out), by unfold Hid; rw [List.length_append]; have := HIE.out; show i < order2.length + 1; omega⟩, by have := HB1.out; simp [intOf]; omega⟩
       case pos =>
        have hkti : (k : Int) < order2.length := by omega
        obtain ⟨gk, ok_, rfl, o0⟩ := HTK.out.q.ord.n2.1.at_ k hkt
        have HKO := Lib.hid (List.getElem?_eq_getElem hkt)
        generalize order2[k] = ko at *
        have hkom := HLT2.out ko (List.mem_of_getElem? HKO.out)
        have hkoi : (ko : Int) < m.length := by omega
        have htmi : (t : Int) < m.length := by have := HTM.out; omega
        have HRW := Lib.hid (HROW.out.of_block (HTK.out.q.bel.block _ hrl.out))
        have c1 := HRW.out.cell hkom
        have c2 := HRW.out.cell HTM.out
        obtain ⟨co, hco⟩ : ∃ c, c = clF.getD ko 0 := ⟨_, rfl⟩
        obtain ⟨ct, hct⟩ : ∃ c, c = clF.getD t 0 := ⟨_, rfl⟩
        rw [← hco] at c1
        rw [← hct] at c2
        have HCO := Lib.hid hco
        have HCT := Lib.hid hct
        have HK1 : Hid (k + 1 ≤ order2.length) := hkt
        have HKT := Lib.hid hkt
        clear hkt hkom hco hct
        by_cases hcc : co = ct
        case neg =>
         have tc : ((co : Int) != (ct : Int)) = true := bne_iff_ne.2 (by omega)
         have HEQ2 : Hid (∀ j, j < k + 1 → ∀ o, order2[j]? = some o → clF.getD o 0 ≠ clF.getD t 0) := fun j hj o ho => by
          by_cases h : j < k
          ·exact HEQ.out j h o ho
          ·rw [show j = k by omega, HKO.out] at ho
           rw [← Option.some.inj ho, ← HCO.out, ← HCT.out]
           exact hcc
         clear hcc
         go_upto_region 15 with fail
         go_quiet (fail)
         go_wp2_with fail
         exact ⟨⟨k + 1, by simp, HK1.out, HEQ2.out, below_drewN HBK.out _⟩, by have := HK1.out; simp [intOf]; omega⟩
        case pos =>
         have tc : ((co : Int) != (ct : Int)) = false := by rw [hcc]; simp
         have HSOME : Hid (order2.findIdx? (fun o => decide (clF.getD o 0 = clF.getD t 0)) = some k) := by
          unfold Hid
          refine List.findIdx?_eq_some_iff_getElem.2 ⟨HKT.out, ?_, fun j hj => ?_⟩
          ·have h1 := (List.getElem?_eq_some_iff.1 HKO.out).2
           rw [h1, ← HCO.out, ← HCT.out, hcc]
           simp
          ·have hjl : j < order2.length := by have := HKT.out; omega
           have h2 := HEQ.out j hj _ (List.getElem?_eq_getElem hjl)
           simp only [decide_eq_true_eq]
           exact h2
         have HEV3 := Lib.hid ((HHIT.out k HSOME.out).symm.trans HEV2.out)
         have hkne : ((k : Int) == (order2.length : Int)) = false := beq_false_of_ne (by omega)
         clear hcc
         go_upto_region 15 with fail
         go_quiet (fail)
         generalize hWQ : World.drewN wr _ = wq
         have hbq : Below wr.heap.size wr wq := hWQ ▸ below_drewN (Below.refl wr.heap.size wr) _
         replace HTK := Lib.hid (HTK.out.stay hbq)
         clear hWQ hbq o0 c1 c2
         go_wp2_with (at_builtin; refine wpl_pushL (f := natV) (x := k) (v := .slice At b tcap) (l := tl) (B := Bt) (e := 3) (sz := 1) _ _ rfl rfl elemIn natV_len (by decide) (natV_one _) HTK.out.own rfl rfl rfl (by have := HTL.out; omega) HTK.out.base.2 ?_; intro v4 w10 hown4 hg4 hfm4 hat4; obtain ⟨A4, cap4, rfl⟩ := hfm4; have HT10 := Lib.hid (HTK.out.toStep hg4 hown4 hat4); clear hown4 hg4 hat4)
         rw [HTL.out] at HT10
         exact ⟨⟨b + 1, _, A4, ocap2, cap4, order2, tl ++ [k], rfl, by rw [HTL.out], by simp, HB1.out, HT10.out, by unfold Hid; rw [List.length_append, HTL.out]; rfl, by
          have h9 := arcG_snoc bytes tl k
          rw [HTL.out] at h9
          unfold Hid
          rw [h9]
          exact HEV3.out, by have := HFEW.out; unfold Hid; omega, HLT2.out, HIE.out⟩, by have := HB1.out; simp [intOf]; omega⟩
end Go.Proofs.YtpkecepelcppiaaGreatDoor

namespace Go.Proofs.YtpkecepelcppiaaGreatDoor
open Go.RowKit Go.Shelf
set_option maxHeartbeats 4000000
set_option maxRecDepth 100000

theorem to_any (k b : Nat) (hk : k ≤ 8) (w : World) : Calls Tryz.prog 41 #[.int .i64 (k : Int), .int .i64 (b : Int)] w fun e w' => e = .returned (.int .i64 ((toS k b : Nat) : Int)) ∧ w = w' := by
 have hk9 : k = 0 ∨ k = 1 ∨ k = 2 ∨ k = 3 ∨ k = 4 ∨ k = 5 ∨ k = 6 ∨ k = 7 ∨ k = 8 := by omega
 clear hk
 rcases hk9 with rfl | rfl | rfl | rfl | rfl | rfl | rfl | rfl | rfl
 all_goals
  go_enter Tryz.func41, Tryz.ntmps41
  go_wp2_with fail
 all_goals
  go_ret
  refine ⟨?_, rfl⟩
  try simp only [beq_iff_eq, beq_eq_false_iff_ne, ne_eq] at *
  unfold toS
  simp only [Nat.reduceEqDiff, if_true, if_false]
  repeat (first | (exfalso; omega) | rfl | split)
theorem cntRun_snoc : ∀ (l : List UInt8) (p : Nat × Nat) (c : UInt8), cntRun p (l ++ [c]) = cntStep (cntRun p l) c.toNat
 | [], _, _ => rfl
 | a :: t, p, c => cntRun_snoc t (cntStep p a.toNat) c
def cntI (s : List UInt8) : Int := if (cntRun (0, 0) s).2 = 0 then ((cntRun (0, 0) s).1 : Int) else -1
theorem Count_any (s : ByteArray) (w : World) (hs : s.size ≤ 1000000) : Calls Tryz.prog 18 #[.string s] w fun e w' => e = .returned (.int .i64 (cntI (L s))) ∧ Below w.heap.size w w' := by
 have hsi : (s.size : Int) ≤ 1000000 := by omega
 have HRES : Hid (cntI (L s) = if (cntRun (0, 0) (L s)).2 = 0 then ((cntRun (0, 0) (L s)).1 : Int) else -1) := rfl
 generalize cntI (L s) = R at *
 clear hs
 go_enter Tryz.func18, Tryz.ntmps18
 go_wp2_with fail
 go_loopw [3, 4, 5] (fun nv kv iv wr => ∃ i n k : Nat, nv = .int .i64 (n : Int) ∧ kv = .int .i64 (k : Int) ∧ iv = .int .i64 (i : Int) ∧ i ≤ s.size ∧ n ≤ i ∧ k ≤ 8 ∧ Hid (cntRun (0, 0) ((L s).take i) = (n, k)) ∧ w = wr) (fun _ _ iv _ => s.size - (intOf iv).toNat)
 case atStart => exact ⟨0, 0, 0, rfl, rfl, rfl, Nat.zero_le _, Nat.le_refl _, Nat.zero_le _, by unfold Hid; rfl, by first | rfl | trivial⟩
 case round =>
  obtain ⟨i, n, k, rfl, rfl, rfl, hi, hn, hk8, HC, rfl⟩ := hrel
  by_cases hlt : i < s.size
  case neg =>
   have hge : ¬ (i : Int) < s.size := by omega
   have HC2 : Hid (cntRun (0, 0) (L s) = (n, k)) := by
    have h := HC.out
    rwa [List.take_of_length_le (by rw [L_len]; omega)] at h
   clear hlt
   by_cases hk : k = 0
   ·have hk1 : ((k : Int) != 0) = false := by rw [hk]; rfl
    go_wp2_with fail
    go_ret
    exact ⟨by rw [HRES.out, HC2.out, if_pos hk]; rfl, Below.refl _ _⟩
   ·have hk1 : ((k : Int) != 0) = true := bne_iff_ne.2 (by omega)
    go_wp2_with fail
    go_ret
    exact ⟨by rw [HRES.out, HC2.out, if_neg hk]; rfl, Below.refl _ _⟩
  case pos =>
   have hlti : (i : Int) < s.size := by omega
   have hb8 : s[i].toNat < 256 := s[i].toNat_lt
   have hwr : IntKind.i64.wrap (s[i].toNat : Int) = (s[i].toNat : Int) := IntWalk.i64_in _ (by omega)
   have hge2 : (L s)[i]'(by rw [L_len]; exact hlt) = s[i] := L_get s i hlt
   have HT := Lib.hid (fun w' => to_any k s[i].toNat hk8 w')
   have HN : Hid (cntRun (0, 0) ((L s).take (i + 1)) = (if toS k s[i].toNat = 0 then n + 1 else n, toS k s[i].toNat)) := by
    unfold Hid
    rw [List.take_succ_eq_append_getElem (by rw [L_len]; exact hlt), hge2, cntRun_snoc, HC.out]
    rfl
   have ht8 := toS_le k s[i].toNat
   have HI : Hid (i + 1 ≤ s.size) := hlt
   generalize toS k s[i].toNat = k2 at *
   clear hge2 hk8
   go_wp2_with fail
   refine (HT.out w).mono ?_
   rintro e wx ⟨rfl, hwx⟩
   subst hwx
   by_cases h0 : k2 = 0
   ·have hk1 : ((k2 : Int) == 0) = true := by rw [h0]; rfl
    rw [if_pos h0] at HN
    go_wp2_with fail
    exact ⟨⟨i + 1, n + 1, k2, by simp, by rw [h0]; rfl, by simp, HI.out, by omega, ht8, HN.out, by first | rfl | trivial⟩, by have := HI.out; simp [intOf]; omega⟩
   ·have hk1 : ((k2 : Int) == 0) = false := beq_false_of_ne (by omega)
    rw [if_neg h0] at HN
    go_wp2_with fail
    exact ⟨⟨i + 1, n, k2, rfl, rfl, by simp, HI.out, by omega, ht8, HN.out, by first | rfl | trivial⟩, by have := HI.out; simp [intOf]; omega⟩
end Go.Proofs.YtpkecepelcppiaaGreatDoor

namespace Go.Proofs.YtpkecepelcppiaaGreatDoor
open Go.RowKit Go.Shelf
set_option maxHeartbeats 4000000
set_option maxRecDepth 100000

def SpanO (l : List ArcA) (w : World) (e : Ending) (w' : World) : Prop := ∃ v, e = .returned v ∧ RdA (fun g => w.heap.size ≤ g) w' v l ∧ Below w.heap.size w w'
theorem span_new {w w1 : World} {T : TypeId} {X : Array Value} {l : List ArcA} (hW : w.alloc (.cells X T) = w1) (hX : X = (l.flatMap arcV).toArray) (hl : l.length ≤ maxLen) : SpanO l w (.returned (.slice (some ⟨w.heap.size, 0, none⟩) l.length l.length)) w1 := by
 obtain ⟨ha, -, -, hb⟩ := alloc_of hW
 rw [hX] at ha
 exact ⟨_, rfl, ⟨slx_block arcV_len ha hl, fun _ => ⟨_, 0, _, _, rfl, Nat.le_refl _⟩⟩, hb⟩
theorem spans_0 (w : World) : Calls Tryz.prog 92 #[.int .i64 0] w (SpanO (spansA 0) w) := by
 go_enter Tryz.func92, Tryz.ntmps92
 go_wp2_with fail
 go_ret
 exact span_new rfl rfl (by decide)
theorem spans_1 (w : World) : Calls Tryz.prog 92 #[.int .i64 1] w (SpanO (spansA 1) w) := by
 go_enter Tryz.func92, Tryz.ntmps92
 go_wp2_with fail
 go_ret
 exact span_new rfl rfl (by decide)
theorem spans_2 (w : World) : Calls Tryz.prog 92 #[.int .i64 2] w (SpanO (spansA 2) w) := by
 go_enter Tryz.func92, Tryz.ntmps92
 go_wp2_with fail
 go_ret
 exact span_new rfl rfl (by decide)
theorem spans_3 (w : World) : Calls Tryz.prog 92 #[.int .i64 3] w (SpanO (spansA 3) w) := by
 go_enter Tryz.func92, Tryz.ntmps92
 go_wp2_with fail
 go_ret
 exact span_new rfl rfl (by decide)
theorem spans_4 (w : World) : Calls Tryz.prog 92 #[.int .i64 4] w (SpanO (spansA 4) w) := by
 go_enter Tryz.func92, Tryz.ntmps92
 go_wp2_with fail
 go_ret
 exact span_new rfl rfl (by decide)
theorem spans_5 (w : World) : Calls Tryz.prog 92 #[.int .i64 5] w (SpanO (spansA 5) w) := by
 go_enter Tryz.func92, Tryz.ntmps92
 go_wp2_with fail
 go_ret
 exact span_new rfl rfl (by decide)
theorem spans_6 (w : World) : Calls Tryz.prog 92 #[.int .i64 6] w (SpanO (spansA 6) w) := by
 go_enter Tryz.func92, Tryz.ntmps92
 go_wp2_with fail
 go_ret
 exact span_new rfl rfl (by decide)
theorem spans_7 (w : World) : Calls Tryz.prog 92 #[.int .i64 7] w (SpanO (spansA 7) w) := by
 go_enter Tryz.func92, Tryz.ntmps92
 go_wp2_with fail
 go_ret
 exact span_new rfl rfl (by decide)
theorem spans_any (n : Nat) (hn : n < 8) (w : World) : Calls Tryz.prog 92 #[.int .i64 (n : Int)] w (SpanO (spansA n) w) := by
 match n, hn with
 | 0, _ => exact spans_0 w
 | 1, _ => exact spans_1 w
 | 2, _ => exact spans_2 w
 | 3, _ => exact spans_3 w
 | 4, _ => exact spans_4 w
 | 5, _ => exact spans_5 w
 | 6, _ => exact spans_6 w
 | 7, _ => exact spans_7 w
def cntV (mn mx : Int) (top : Nat) : Value := .agg #[.int .i64 mn, .int .i64 mx, .int .i64 (top : Int)]
theorem dead_any (mn mx : Int) (top : Nat) (ht : top ≤ 1000) (w : World) : Calls Tryz.prog 62 #[cntV mn mx top] w fun e w' => e = .returned (.int .i64 (((top + 1) * 8 : Nat) : Int)) ∧ Below w.heap.size w w' := by
 have hti : (top : Int) ≤ 1000 := by omega
 unfold cntV
 go_enter Tryz.func62, Tryz.ntmps62
 go_wp2_with fail
 go_ret
 exact ⟨by simp, (Below.refl _ _).alloc (Nat.le_refl _) _⟩
theorem state_any (mn mx : Int) (top count want : Nat) (ht : count ≤ 1000) (hw : want ≤ 1000) (w : World) : Calls Tryz.prog 93 #[cntV mn mx top, .int .i64 (count : Int), .int .i64 (want : Int)] w fun e w' => e = .returned (.int .i64 ((count * 8 + want : Nat) : Int)) ∧ Below w.heap.size w w' := by
 have hci : (count : Int) ≤ 1000 := by omega
 have hwi : (want : Int) ≤ 1000 := by omega
 unfold cntV
 go_enter Tryz.func93, Tryz.ntmps93
 go_wp2_with fail
 go_ret
 exact ⟨by simp, (Below.refl _ _).alloc (Nat.le_refl _) _⟩
end Go.Proofs.YtpkecepelcppiaaGreatDoor
