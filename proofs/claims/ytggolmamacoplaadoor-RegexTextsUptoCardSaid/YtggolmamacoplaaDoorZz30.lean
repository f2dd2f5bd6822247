/- The law RegexTexts walked; printed by gen_ryo.py. Conditions: the value of strconv.ErrSyntax; fewer than 2^20 nodes. -/
import Derived.Test.YtggolmamacoplaaDoorZz29
import Derived.Test.YtggolmamacoplaaDoorZz26
namespace Go.Proofs.YtggolmamacoplaaDoor
open Go.RowKit Go.Shelf
set_option maxHeartbeats 4000000
set_option maxRecDepth 100000

theorem TextsX_any (p : RX) (c : PC) (w : World) (hp : RdP w c p) (hE : Env w) (hc : cntN 48 p ≤ 1048576) :
    Calls Tryd.prog 3 #[aggP c] w fun e w' => e = .returned (.bool true) ∧ Below w.heap.size w w' := by
  have HP := Lib.hid hp
  have HE := Lib.hid hE
  have hsh : valR p = true → (showR 48 p).length ≤ 1000000000 := fun h => Nat.le_trans (text_le h (by omega)) (by decide)
  obtain ⟨T, hT⟩ : ∃ T : ByteArray, T = ⟨(textR p).toArray⟩ := ⟨_, rfl⟩
  have HT1 := Lib.hid (fun w' (h : RdP w' c p) => show Calls Tryd.prog 11 #[aggP c] w' fun e w'' => e = .returned (.string T) ∧ Below w'.heap.size w' w'' from by rw [hT]; exact Text_any p c w' h hsh)
  have HT2 := Lib.hid (fun w' (h : RdP w' c p) => show Calls Tryd.prog 12 #[aggP c] w' fun e w'' => e = .returned (.string T) ∧ Below w'.heap.size w' w'' from by
    refine (RText_any p c w' h hsh).mono ?_
    rintro e w'' ⟨⟨u, rfl, hu⟩, hb⟩
    rw [hT, ← hu, ofL]
    exact ⟨rfl, hb⟩)
  obtain ⟨la, lcap, hla⟩ := hp.forms
  obtain ⟨c0, c1, c2, c3, c4, c5⟩ := c
  simp only at hla
  generalize p.args.length = n at *
  subst hla
  simp only [aggP]
  clear hp hE hc hsh hT
  go_enter Tryd.func3, Tryd.ntmps3
  go_upto_region 1 with fail
  generalize hW : World.alloc w _ = w1
  obtain ⟨ha, -, hz1, hb1⟩ := alloc_of hW
  have HS := Lib.hid (show LwS w.heap.size ⟨c0, c1, c2, c3, c4, .slice la n lcap⟩ p w w1 from ⟨ha, HP.out.stays hb1, HE.out.below hb1, hb1⟩)
  clear hW ha hz1 hb1 HP HE
  have hS0 : LwS w.heap.size ⟨c0, c1, c2, c3, c4, .slice la n lcap⟩ p w w1.drew := HS.out.stay (below_drewN (Below.refl _ _) 1)
  by_cases hbig : 2000 < cntR 48 p
  · refine wpq_region (fun w' => LwS w.heap.size ⟨c0, c1, c2, c3, c4, .slice la n lcap⟩ p w w') 13 (by kernel_rfl) hS0 (fun hHeld => ?_)
    clear HS hS0
    generalize w1.drew = wd at *
    refine wpq_take 0 (some 3) [13] rfl rfl (by kernel_rfl) (by kernel_rfl) (by kernel_rfl) (by kernel_rfl) (fun _ _ _ h => h) (Or.inl ⟨by rfl, fun w hSw => by (obtain ⟨x0, x1, x2, x3, x4, x5⟩ := BoxP.cells hSw.1; simp only at x0 x1 x2 x3 x4 x5; go_simp; with_reducible rfl)⟩) hHeld ?_
    simp only [Act.put, List.setIfInBounds_toArray, List.set_cons_zero, List.set_cons_succ]
    refine wpq_one 1 (by kernel_rfl) rfl (fun K hK => ?_)
    go_simp
    refine (RSize_any p _ _ hHeld.2.out.1).mono ?_
    rintro e wd2 ⟨rfl, hb⟩
    replace hHeld := hHeld.stay hb
    clear hb
    generalize wd2 = wd at *
    refine hK.out _ _ hHeld (fun hHeld => ?_)
    clear hK K
    refine wpq_take 2 (some 5) [13] rfl rfl (by kernel_rfl) (by kernel_rfl) (by kernel_rfl) (by kernel_rfl) (fun _ _ _ h => h) (Or.inl ⟨by rfl, fun w hSw => by (obtain ⟨x0, x1, x2, x3, x4, x5⟩ := BoxP.cells hSw.1; simp only at x0 x1 x2 x3 x4 x5; go_simp; with_reducible rfl)⟩) hHeld ?_
    simp only [Act.put, List.setIfInBounds_toArray, List.set_cons_zero, List.set_cons_succ]
    refine wpq_take 3 (some 6) [13] rfl rfl (by kernel_rfl) (by kernel_rfl) (by kernel_rfl) (by kernel_rfl) (fun _ _ _ h => h) (Or.inl ⟨by rfl, fun w hSw => by (obtain ⟨x0, x1, x2, x3, x4, x5⟩ := BoxP.cells hSw.1; simp only at x0 x1 x2 x3 x4 x5; go_simp; with_reducible rfl)⟩) hHeld ?_
    simp only [Act.put, List.setIfInBounds_toArray, List.set_cons_zero, List.set_cons_succ]
    refine wpq_take 4 (some 7) [13] rfl rfl (by kernel_rfl) (by kernel_rfl) (by kernel_rfl) (by kernel_rfl) (fun _ _ _ h => h) (Or.inr ⟨by rfl, rfl⟩) hHeld ?_
    simp only [Act.put, List.setIfInBounds_toArray, List.set_cons_zero, List.set_cons_succ]
    refine wpq_take 6 (some 9) [13] rfl rfl (by kernel_rfl) (by kernel_rfl) (by kernel_rfl) (by kernel_rfl) (fun _ _ _ h => h) (Or.inr ⟨by rfl, rfl⟩) hHeld ?_
    simp only [Act.put, List.setIfInBounds_toArray, List.set_cons_zero, List.set_cons_succ]
    refine wpq_one 5 (by kernel_rfl) rfl (fun K hK => ?_)
    go_simp
    refine hK.out _ _ hHeld (fun hHeld => ?_)
    clear hK K
    refine wpq_one 7 (by kernel_rfl) rfl (fun K hK => ?_)
    go_simp
    refine hK.out _ _ hHeld (fun hHeld => ?_)
    clear hK K
    refine wpq_take 8 (some 11) [13] rfl rfl (by kernel_rfl) (by kernel_rfl) (by kernel_rfl) (by kernel_rfl) (fun _ _ _ h => h) (Or.inr ⟨by rfl, rfl⟩) hHeld ?_
    simp only [Act.put, List.setIfInBounds_toArray, List.set_cons_zero, List.set_cons_succ]
    refine wpq_take 9 (some 12) [13] rfl rfl (by kernel_rfl) (by kernel_rfl) (by kernel_rfl) (by kernel_rfl) (fun _ _ _ h => h) (Or.inl ⟨by rfl, fun w hSw => by (obtain ⟨x0, x1, x2, x3, x4, x5⟩ := BoxP.cells hSw.1; simp only at x0 x1 x2 x3 x4 x5; go_simp; with_reducible rfl)⟩) hHeld ?_
    simp only [Act.put, List.setIfInBounds_toArray, List.set_cons_zero, List.set_cons_succ]
    refine wpq_take 10 (some 13) [13] rfl rfl (by kernel_rfl) (by kernel_rfl) (by kernel_rfl) (by kernel_rfl) (fun _ _ _ h => h) (Or.inl ⟨by rfl, fun w hSw => by (obtain ⟨x0, x1, x2, x3, x4, x5⟩ := BoxP.cells hSw.1; simp only at x0 x1 x2 x3 x4 x5; go_simp; with_reducible rfl)⟩) hHeld ?_
    simp only [Act.put, List.setIfInBounds_toArray, List.set_cons_zero, List.set_cons_succ]
    refine wpq_one 11 (by kernel_rfl) rfl (fun K hK => ?_)
    go_simp
    refine (awake15_any _ hHeld.2.out.2.1).mono ?_
    rintro e wd2 ⟨rfl, hb⟩
    replace hHeld := hHeld.stay hb
    clear hb
    generalize wd2 = wd at *
    refine hK.out _ _ hHeld (fun hHeld => ?_)
    clear hK K
    refine wpq_take 12 (some 15) [13] rfl rfl (by kernel_rfl) (by kernel_rfl) (by kernel_rfl) (by kernel_rfl) (fun _ _ _ h => h) (Or.inl ⟨by rfl, fun w hSw => by (obtain ⟨x0, x1, x2, x3, x4, x5⟩ := BoxP.cells hSw.1; simp only at x0 x1 x2 x3 x4 x5; go_simp; with_reducible rfl)⟩) hHeld ?_
    simp only [Act.put, List.setIfInBounds_toArray, List.set_cons_zero, List.set_cons_succ]
    refine wpq_end 13 (by kernel_rfl) rfl (by kernel_rfl) (fun K hK => ?_)
    go_simp
    refine hK.out _ _ ?_
    clear hK K
    refine wpq_done (by kernel_rfl) ?_ _
    go_simp
    go_wp2_with fail
    go_ret
    exact ⟨rfl, hHeld.2.out.2.2⟩
  · refine wpq_region (fun w' => LwS w.heap.size ⟨c0, c1, c2, c3, c4, .slice la n lcap⟩ p w w') 13 (by kernel_rfl) hS0 (fun hHeld => ?_)
    clear HS hS0
    generalize w1.drew = wd at *
    refine wpq_take 0 (some 3) [13] rfl rfl (by kernel_rfl) (by kernel_rfl) (by kernel_rfl) (by kernel_rfl) (fun _ _ _ h => h) (Or.inl ⟨by rfl, fun w hSw => by (obtain ⟨x0, x1, x2, x3, x4, x5⟩ := BoxP.cells hSw.1; simp only at x0 x1 x2 x3 x4 x5; go_simp; with_reducible rfl)⟩) hHeld ?_
    simp only [Act.put, List.setIfInBounds_toArray, List.set_cons_zero, List.set_cons_succ]
    refine wpq_one 1 (by kernel_rfl) rfl (fun K hK => ?_)
    go_simp
    refine (RSize_any p _ _ hHeld.2.out.1).mono ?_
    rintro e wd2 ⟨rfl, hb⟩
    replace hHeld := hHeld.stay hb
    clear hb
    generalize wd2 = wd at *
    refine hK.out _ _ hHeld (fun hHeld => ?_)
    clear hK K
    refine wpq_take 2 (some 5) [13] rfl rfl (by kernel_rfl) (by kernel_rfl) (by kernel_rfl) (by kernel_rfl) (fun _ _ _ h => h) (Or.inl ⟨by rfl, fun w hSw => by (obtain ⟨x0, x1, x2, x3, x4, x5⟩ := BoxP.cells hSw.1; simp only at x0 x1 x2 x3 x4 x5; go_simp; with_reducible rfl)⟩) hHeld ?_
    simp only [Act.put, List.setIfInBounds_toArray, List.set_cons_zero, List.set_cons_succ]
    refine wpq_take 3 (some 6) [13] rfl rfl (by kernel_rfl) (by kernel_rfl) (by kernel_rfl) (by kernel_rfl) (fun _ _ _ h => h) (Or.inl ⟨by rfl, fun w hSw => by (obtain ⟨x0, x1, x2, x3, x4, x5⟩ := BoxP.cells hSw.1; simp only at x0 x1 x2 x3 x4 x5; go_simp; with_reducible rfl)⟩) hHeld ?_
    simp only [Act.put, List.setIfInBounds_toArray, List.set_cons_zero, List.set_cons_succ]
    refine wpq_take 4 (some 7) [13] rfl rfl (by kernel_rfl) (by kernel_rfl) (by kernel_rfl) (by kernel_rfl) (fun _ _ _ h => h) (Or.inl ⟨by rfl, fun w hSw => by (obtain ⟨x0, x1, x2, x3, x4, x5⟩ := BoxP.cells hSw.1; simp only at x0 x1 x2 x3 x4 x5; go_simp; with_reducible rfl)⟩) hHeld ?_
    simp only [Act.put, List.setIfInBounds_toArray, List.set_cons_zero, List.set_cons_succ]
    refine wpq_take 6 (some 9) [13] rfl rfl (by kernel_rfl) (by kernel_rfl) (by kernel_rfl) (by kernel_rfl) (fun _ _ _ h => h) (Or.inl ⟨by rfl, fun w hSw => by (obtain ⟨x0, x1, x2, x3, x4, x5⟩ := BoxP.cells hSw.1; simp only at x0 x1 x2 x3 x4 x5; go_simp; with_reducible rfl)⟩) hHeld ?_
    simp only [Act.put, List.setIfInBounds_toArray, List.set_cons_zero, List.set_cons_succ]
    refine wpq_one 5 (by kernel_rfl) rfl (fun K hK => ?_)
    go_simp
    refine (HT1.out _ hHeld.2.out.1).mono ?_
    rintro e wd2 ⟨rfl, hb⟩
    replace hHeld := hHeld.stay hb
    clear hb
    generalize wd2 = wd at *
    refine hK.out _ _ hHeld (fun hHeld => ?_)
    clear hK K
    refine wpq_one 7 (by kernel_rfl) rfl (fun K hK => ?_)
    go_simp
    refine (HT2.out _ hHeld.2.out.1).mono ?_
    rintro e wd2 ⟨rfl, hb⟩
    replace hHeld := hHeld.stay hb
    clear hb
    generalize wd2 = wd at *
    refine hK.out _ _ hHeld (fun hHeld => ?_)
    clear hK K
    refine wpq_take 8 (some 11) [13] rfl rfl (by kernel_rfl) (by kernel_rfl) (by kernel_rfl) (by kernel_rfl) (fun _ _ _ h => h) (Or.inl ⟨by rfl, fun w hSw => by (obtain ⟨x0, x1, x2, x3, x4, x5⟩ := BoxP.cells hSw.1; simp only at x0 x1 x2 x3 x4 x5; go_simp; with_reducible rfl)⟩) hHeld ?_
    simp only [Act.put, List.setIfInBounds_toArray, List.set_cons_zero, List.set_cons_succ]
    refine wpq_take 9 (some 12) [13] rfl rfl (by kernel_rfl) (by kernel_rfl) (by kernel_rfl) (by kernel_rfl) (fun _ _ _ h => h) (Or.inl ⟨by rfl, fun w hSw => by (obtain ⟨x0, x1, x2, x3, x4, x5⟩ := BoxP.cells hSw.1; simp only at x0 x1 x2 x3 x4 x5; go_simp; with_reducible rfl)⟩) hHeld ?_
    simp only [Act.put, List.setIfInBounds_toArray, List.set_cons_zero, List.set_cons_succ]
    refine wpq_take 10 (some 13) [13] rfl rfl (by kernel_rfl) (by kernel_rfl) (by kernel_rfl) (by kernel_rfl) (fun _ _ _ h => h) (Or.inl ⟨by rfl, fun w hSw => by (obtain ⟨x0, x1, x2, x3, x4, x5⟩ := BoxP.cells hSw.1; simp only at x0 x1 x2 x3 x4 x5; go_simp; with_reducible rfl)⟩) hHeld ?_
    simp only [Act.put, List.setIfInBounds_toArray, List.set_cons_zero, List.set_cons_succ]
    refine wpq_one 11 (by kernel_rfl) rfl (fun K hK => ?_)
    go_simp
    refine (awake15_any _ hHeld.2.out.2.1).mono ?_
    rintro e wd2 ⟨rfl, hb⟩
    replace hHeld := hHeld.stay hb
    clear hb
    generalize wd2 = wd at *
    refine hK.out _ _ hHeld (fun hHeld => ?_)
    clear hK K
    refine wpq_take 12 (some 15) [13] rfl rfl (by kernel_rfl) (by kernel_rfl) (by kernel_rfl) (by kernel_rfl) (fun _ _ _ h => h) (Or.inl ⟨by rfl, fun w hSw => by (obtain ⟨x0, x1, x2, x3, x4, x5⟩ := BoxP.cells hSw.1; simp only at x0 x1 x2 x3 x4 x5; go_simp; with_reducible rfl)⟩) hHeld ?_
    simp only [Act.put, List.setIfInBounds_toArray, List.set_cons_zero, List.set_cons_succ]
    refine wpq_end 13 (by kernel_rfl) rfl (by kernel_rfl) (fun K hK => ?_)
    go_simp
    refine hK.out _ _ ?_
    clear hK K
    refine wpq_done (by kernel_rfl) ?_ _
    go_simp
    go_wp2_with fail
    go_ret
    exact ⟨rfl, hHeld.2.out.2.2⟩
end Go.Proofs.YtggolmamacoplaaDoor
