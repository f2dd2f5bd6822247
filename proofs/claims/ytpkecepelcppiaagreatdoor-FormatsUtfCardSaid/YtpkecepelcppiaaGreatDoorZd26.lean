/- formats.counter.arcs walked; printed by gen_fs.py. Conditions: at most 100 characters are told apart. -/
import Derived.Test.YtpkecepelcppiaaGreatDoorZd25
namespace Go.Proofs.YtpkecepelcppiaaGreatDoor
open Go.RowKit Go.Shelf
set_option maxHeartbeats 4000000
set_option maxRecDepth 100000

theorem cell_ltF {w : World} {g o : Nat} {v : Value} (h : w.cell? ⟨g, o, none⟩ = some v) : g < w.heap.size := by
 rcases Nat.lt_or_ge g w.heap.size with h1 | h1
 ·exact h1
 ·simp [World.cell?, Array.getElem?_eq_none h1] at h
theorem step_pushL {α : Type} {ops : Array Oper} {o : Oper} {a : Act} {w : World} {K : Act → World → Prop} {Q : Exit → Act → World → Prop} {E : Prop} {B k sz : Nat} {S e : TypeId} {f : α → List Value} {v : Value} {l : List α} {x : α}
  (hgd : o.guard = none) (s y : Operand)
  (ho : o.op = .call { callee := .builtin .append, args := #[s, y], argTypes := #[S, S] }) (hel : Elem Tryz.prog S e sz)
  (hf : ∀ a, (f a).length = sz) (hsz0 : 0 < sz) (hone : ∀ u ∈ f x, u.oneCell' = true) (hown : OwnL B e sz f w v l) (hs : a.eval s = v) (hx : a.eval y = .slice (some ⟨k, 0, none⟩) 1 1) (hk : k = w.heap.size) (hn : l.length < 1000000000) (hbase : B ≤ w.heap.size)
  (h : ∀ v' w', OwnL B e sz f w' v' (l ++ [x]) → w.grownBy w' v.ownBlock → (∃ A cap, v' = .slice A (l.length + 1) cap) → (v'.ownBlock = v.ownBlock ∨ ∃ k, w.heap.size ≤ k ∧ v'.ownBlock = some k) → K (a.put o.dst v') w') :
  if Region.wanted o (yielded ops a.tmps) = true then o.wp Tryz.prog a (w.alloc (.cells (f x).toArray e)) K Q else E := by
 have hw : Region.wanted o (yielded ops a.tmps) = true := by simp [Region.wanted, hgd]
 rw [if_pos hw]
 exact wp_pushL s y ho hel hf hsz0 hone hown hs hx hk hn hbase h
theorem OwnL.base {α : Type} {B B' : Nat} {e : TypeId} {sz : Nat} {f : α → List Value} {w : World} {v : Value} {l : List α} (h : OwnL B e sz f w v l) (hb : B' ≤ B) : OwnL B' e sz f w v l := by
 refine ⟨h.1, ?_⟩
 rcases h.2 with h | ⟨g, cap, cur, rfl, hg, rest⟩
 ·exact .inl h
 ·exact .inr ⟨g, cap, cur, rfl, Nat.le_trans hb hg, rest⟩
theorem spans_small : ∀ want : Fin 8, (spansA want.val).all (fun a => decide (a.lo ≤ 255) && decide (a.hi ≤ 255) && decide (a.nx ≤ 7)) = true ∧ (spansA want.val).length ≤ 9 := by decide
theorem span_at {want : Nat} (hw : want < 8) (k : Nat) (hk : k < (spansA want).length) : (spansA want)[k].lo ≤ 255 ∧ (spansA want)[k].hi ≤ 255 ∧ (spansA want)[k].nx ≤ 7 := by
 have h := List.all_eq_true.1 (spans_small ⟨want, hw⟩).1 _ (List.getElem_mem hk)
 simp only [Bool.and_eq_true, decide_eq_true_eq] at h
 exact ⟨h.1.1, h.1.2, h.2⟩
theorem arcs_any (mn mx : Int) (top count want : Nat) (w : World) (ht : top ≤ 100) (hc : count ≤ 100) (hw : want < 8) :
  Calls Tryz.prog 61 #[cntV mn mx top, .int .i64 (count : Int), .int .i64 (want : Int)] w fun e w' => ∃ v, e = .returned v ∧ OwnL w.heap.size 72 3 arcV w' v (arcsC mx top count want) ∧ Below w.heap.size w w' := by
 have hti : (top : Int) ≤ 100 := by omega
 have hci : (count : Int) ≤ 100 := by omega
 have hwi : (want : Int) < 8 := by omega
 obtain ⟨dd, hdd⟩ : ∃ dd, dd = (top + 1) * 8 := ⟨_, rfl⟩
 have HDE := Lib.hid (fun w' => dead_any mn mx top (by omega) w')
 have HR : Hid (arcsC mx top count want = arcsGo dd (nextC mx top count want) [] 0 ((spansA want).drop 0)) := by rw [hdd]; rfl
 rw [← hdd] at HDE
 have HDD := Lib.hid hdd
 have HSP := Lib.hid (fun w' => spans_any want hw w')
 have HSA := Lib.hid (fun k hk => span_at hw k hk)
 have HSL := Lib.hid (spans_small ⟨want, hw⟩).2
 have HT := Lib.hid ht
 have HCT := Lib.hid hc
 generalize arcsC mx top count want = R at *
 simp only at HSL
 unfold cntV at *
 clear ht hc hw hdd
 go_enter Tryz.func61, Tryz.ntmps61
 go_upto_region 1 with fail
 generalize hW : World.alloc w _ = w1
 obtain ⟨hbx, -, hz1, hb1⟩ := alloc_of hW
 have HX := Lib.hid (show BoxV w.heap.size 67 [.int .i64 mn, .int .i64 mx, .int .i64 (top : Int)] w1 from hbx)
 have HB := Lib.hid hb1
 clear hW hbx hz1 hb1
 go_wp2_with fail
 refine (HSP.out w1).mono ?_
 rintro e w2 ⟨v, rfl, hr, hb⟩
 obtain ⟨a, cap, rfl, -⟩ := hr.form
 have HA := Lib.hid hr
 replace HX := Lib.hid (HX.out.below hb)
 replace HB := Lib.hid (HB.out.trans (hb.mono HB.out.size))
 generalize spansA want = sp at *
 have hspi : (sp.length : Int) ≤ 9 := by have := HSL.out; omega
 clear hb hr HSP
 go_wp2_with fail
 go_loopw [7, 8, 15] (fun ov bv kv wr => ∃ (k b : Nat) (A : Option Addr) (nl cp : Nat) (out : List ArcA), kv = .int .i64 (k : Int) ∧ k ≤ sp.length ∧ bv = .int .i64 (b : Int) ∧ b ≤ 256 ∧ ov = .slice A nl cp ∧ Hid (OwnL w2.heap.size 72 3 arcV wr (.slice A nl cp) out) ∧ Hid (out.length ≤ 2 * k) ∧ Hid (R = arcsGo dd (nextC mx top count want) out b (sp.drop k)) ∧ Hid (Below w2.heap.size w2 wr)) (fun _ _ kv _ => sp.length - (intOf kv).toNat)
 case atStart => exact ⟨0, 0, none, 0, 0, [], rfl, Nat.zero_le _, rfl, by omega, rfl, OwnL.nil _ _ _ _ _, Nat.le_refl _, HR.out, Below.refl _ _⟩
 case round =>
  clear HR
  obtain ⟨k, b, A, nl, cp, out, rfl, hk, rfl, hb6, rfl, HO, HOL, HR, HW⟩ := hrel
  by_cases hlt : k < sp.length
  case neg =>
   have hge : ¬ (k : Int) < sp.length := by omega
   have HRE := Lib.hid (HR.out.trans (go_end dd _ sp out k b hlt))
   clear hlt
   by_cases hb5 : b ≤ 255
   ·have hbi : (b : Int) ≤ 255 := by omega
    have HF := Lib.hid (HRE.out.trans (if_pos hb5))
    obtain ⟨x0, x1, x2⟩ : wr.cell? ⟨w.heap.size, 0, none⟩ = some (.int .i64 mn) ∧ wr.cell? ⟨w.heap.size, 1, none⟩ = some (.int .i64 mx) ∧ wr.cell? ⟨w.heap.size, 2, none⟩ = some (.int .i64 (top : Int)) := ⟨(HX.out.below HW.out).cell 0, (HX.out.below HW.out).cell 1, (HX.out.below HW.out).cell 2⟩
    clear hb5 HRE
    go_wp2_with fail
    refine (HDE.out wr).mono ?_
    rintro e w5 ⟨rfl, hb⟩
    replace HO := Lib.hid (HO.out.stay hb)
    replace HW := Lib.hid (HW.out.trans (hb.mono HW.out.size))
    clear hb
    go_wp2_with (at_builtin; refine wpl_pushL (f := arcV) (x := ⟨b, 255, dd⟩) (v := .slice A nl cp) (l := out) (B := w2.heap.size) (e := 72) (sz := 3) _ _ rfl rfl elemA arcV_len (by decide) (arcV_one _) HO.out rfl rfl rfl (by have := HOL.out; have := HSL.out; omega) HW.out.size ?_; intro v3 w6 hown3 hg3 hfm3 hat3; obtain ⟨A3, n3, cap3, rfl⟩ : ∃ A n cap, v3 = .slice A n cap := (by obtain ⟨A, c, h⟩ := hfm3; exact ⟨A, _, c, h⟩))
    have hgb := grown_belowL hg3 (fun x hx => (HO.out.lt x hx).1) HW.out.size
    go_ret
    rw [HF.out]
    exact ⟨_, rfl, hown3.base HB.out.size, HB.out.trans ((HW.out.trans hgb).mono HB.out.size)⟩
   ·have hbi : ¬ (b : Int) ≤ 255 := by omega
    have HF := Lib.hid (HRE.out.trans (if_neg hb5))
    clear hb5 HRE
    go_wp2_with fail
    go_ret
    rw [HF.out]
    exact ⟨_, rfl, HO.out.base HB.out.size, HB.out.trans (HW.out.mono HB.out.size)⟩
  case pos =>
   have hlti : (k : Int) < sp.length := by omega
   obtain ⟨gs, os, rfl, k0, k1, k2⟩ := (HA.out.stay HW.out).at_ k hlt
   have HST := Lib.hid (HR.out.trans (go_at dd (nextC mx top count want) sp out k b hlt))
   obtain ⟨e1, e2, e3⟩ := HSA.out k hlt
   have HKL : Hid (k + 1 ≤ sp.length) := hlt
   generalize sp[k] = arc at *
   obtain ⟨lo, hh, nx⟩ := arc
   simp only at k0 k1 k2 HST e1 e2 e3
   clear hlt
   have hnei : Hid ((Value.slice A nl cp).ownBlock ≠ some wr.heap.size) := fun he => by have := (HO.out.lt _ he).2; omega
   go_upto_region 6 with fail
   generalize hW : World.alloc wr _ = w5
   obtain ⟨hbx, -, hz1, hb⟩ := alloc_of hW
   have HS := Lib.hid (show BoxV wr.heap.size 134 [.int .i64 (lo : Int), .int .i64 (hh : Int), .int .i64 (nx : Int)] w5 from hbx)
   have HNE := Lib.hid hnei.out
   replace HO := Lib.hid (HO.out.stay hb)
   replace HW := Lib.hid (HW.out.trans (hb.mono HW.out.size))
   generalize wr.heap.size = bS at *
   clear hW hbx hz1 hb hnei k0 k1 k2
   obtain ⟨x0, x1, x2⟩ : w5.cell? ⟨w.heap.size, 0, none⟩ = some (.int .i64 mn) ∧ w5.cell? ⟨w.heap.size, 1, none⟩ = some (.int .i64 mx) ∧ w5.cell? ⟨w.heap.size, 2, none⟩ = some (.int .i64 (top : Int)) := ⟨(HX.out.below HW.out).cell 0, (HX.out.below HW.out).cell 1, (HX.out.below HW.out).cell 2⟩
   obtain ⟨s0, s1, s2⟩ : w5.cell? ⟨bS, 0, none⟩ = some (.int .i64 (lo : Int)) ∧ w5.cell? ⟨bS, 1, none⟩ = some (.int .i64 (hh : Int)) ∧ w5.cell? ⟨bS, 2, none⟩ = some (.int .i64 (nx : Int)) := ⟨HS.out.cell 0, HS.out.cell 1, HS.out.cell 2⟩
   go_wp2_with fail
   refine (HDE.out w5).mono ?_
   rintro e w6 ⟨rfl, hb⟩
   replace HO := Lib.hid (HO.out.stay hb)
   replace HS := Lib.hid (HS.out.below hb)
   replace HW := Lib.hid (HW.out.trans (hb.mono HW.out.size))
   clear hb x0 x1 x2 s0 s1 s2
   by_cases hw0 : want = 0
   case neg =>
    have tw : ((want : Int) != 0) = true := bne_iff_ne.2 (by omega)
    obtain ⟨fv, hfv⟩ : ∃ fv, fv = count * 8 + nx := ⟨_, rfl⟩
    have HFV : Hid (nextC mx top count want nx = fv) := by unfold Hid nextC; rw [if_pos hw0, hfv]
    have HC := Lib.hid (fun w' => state_any mn mx top count nx (by have := HCT.out; omega) (by omega) w')
    rw [← hfv] at HC
    unfold cntV at HC
    clear hw0 hfv
    obtain ⟨x0, x1, x2⟩ : w6.cell? ⟨w.heap.size, 0, none⟩ = some (.int .i64 mn) ∧ w6.cell? ⟨w.heap.size, 1, none⟩ = some (.int .i64 mx) ∧ w6.cell? ⟨w.heap.size, 2, none⟩ = some (.int .i64 (top : Int)) := ⟨(HX.out.below HW.out).cell 0, (HX.out.below HW.out).cell 1, (HX.out.below HW.out).cell 2⟩
    obtain ⟨s0, s1, s2⟩ : w6.cell? ⟨bS, 0, none⟩ = some (.int .i64 (lo : Int)) ∧ w6.cell? ⟨bS, 1, none⟩ = some (.int .i64 (hh : Int)) ∧ w6.cell? ⟨bS, 2, none⟩ = some (.int .i64 (nx : Int)) := ⟨HS.out.cell 0, HS.out.cell 1, HS.out.cell 2⟩
    go_wp2_with fail
    refine (HC.out w6).mono ?_
    rintro e wt ⟨rfl, hb⟩
    replace HO := Lib.hid (HO.out.stay hb)
    replace HS := Lib.hid (HS.out.below hb)
    replace HW := Lib.hid (HW.out.trans (hb.mono HW.out.size))
    clear hb x0 x1 x2 s0 s1 s2
    by_cases hbl : b < lo
    ·obtain ⟨l1, hl1⟩ : ∃ l1, lo = l1 + 1 := ⟨lo - 1, by omega⟩
     subst hl1
     have hbli : (b : Int) < ((l1 + 1 : Nat) : Int) := by omega
     have hwr : IntKind.i64.wrap (l1 : Int) = (l1 : Int) := IntWalk.i64_in _ (by omega)
     have HRN : Hid (R = arcsGo dd (nextC mx top count want) ((out ++ [⟨b, l1, dd⟩]) ++ [⟨l1 + 1, hh, fv⟩]) (hh + 1) (sp.drop (k + 1))) := HST.out.trans (by rw [if_pos hbl, HFV.out]; rfl)
     clear hbl
     obtain ⟨x0, x1, x2⟩ : wt.cell? ⟨w.heap.size, 0, none⟩ = some (.int .i64 mn) ∧ wt.cell? ⟨w.heap.size, 1, none⟩ = some (.int .i64 mx) ∧ wt.cell? ⟨w.heap.size, 2, none⟩ = some (.int .i64 (top : Int)) := ⟨(HX.out.below HW.out).cell 0, (HX.out.below HW.out).cell 1, (HX.out.below HW.out).cell 2⟩
     obtain ⟨s0, s1, s2⟩ : wt.cell? ⟨bS, 0, none⟩ = some (.int .i64 ((l1 + 1 : Nat) : Int)) ∧ wt.cell? ⟨bS, 1, none⟩ = some (.int .i64 (hh : Int)) ∧ wt.cell? ⟨bS, 2, none⟩ = some (.int .i64 (nx : Int)) := ⟨HS.out.cell 0, HS.out.cell 1, HS.out.cell 2⟩
     go_upto_region 14 with fail
     replace HO := Lib.hid (HO.out.stay (drewBn wt))
     replace HS := Lib.hid (HS.out.below (drewBn wt))
     replace HW := Lib.hid (HW.out.trans ((drewBn wt).mono HW.out.size))
     obtain ⟨bx, hbx⟩ : ∃ bx, bx = w.heap.size := ⟨_, rfl⟩
     have HBX : Hid (bx < w2.heap.size) := by have := HX.out.lt; unfold Hid; omega
     have hS0 : wt.drew.cell? ⟨bx, 0, none⟩ = some (.int .i64 mn) ∧ wt.drew.cell? ⟨bx, 1, none⟩ = some (.int .i64 mx) ∧ wt.drew.cell? ⟨bx, 2, none⟩ = some (.int .i64 (top : Int)) ∧ wt.drew.cell? ⟨bS, 0, none⟩ = some (.int .i64 ((l1 + 1 : Nat) : Int)) := hbx ▸ ⟨x0, x1, x2, s0⟩
     rw [← hbx]
     have HBX2 : Hid (w.heap.size = bx) := hbx.symm
     clear hbx
     refine wpq_region (fun w' => w'.cell? ⟨bx, 0, none⟩ = some (.int .i64 mn) ∧ w'.cell? ⟨bx, 1, none⟩ = some (.int .i64 mx) ∧ w'.cell? ⟨bx, 2, none⟩ = some (.int .i64 (top : Int)) ∧ w'.cell? ⟨bS, 0, none⟩ = some (.int .i64 ((l1 + 1 : Nat) : Int))) 10 (by kernel_rfl) hS0 (fun hHeld => ?_)
     clear hS0 x0 x1 x2 s0 s1 s2
     generalize wt.drew = wd at *
     refine wpq_tk 0 (some 53) [10] (Or.inl ⟨by rfl, fun w hSw => by (obtain ⟨x0, x1, x2, s0⟩ := hSw; go_simp; with_reducible rfl)⟩) hHeld ?_ rfl rfl
     simp only [Act.put, sA, sZ, sS]
     refine wpq_tk 1 (some 54) [10] (Or.inl ⟨by rfl, fun w hSw => by (obtain ⟨x0, x1, x2, s0⟩ := hSw; go_simp; with_reducible rfl)⟩) hHeld ?_ rfl rfl
     simp only [Act.put, sA, sZ, sS]
     refine wpq_tk 2 (some 55) [10] (Or.inl ⟨by rfl, fun w hSw => by (obtain ⟨x0, x1, x2, s0⟩ := hSw; go_simp; with_reducible rfl)⟩) hHeld ?_ rfl rfl
     simp only [Act.put, sA, sZ, sS]
     refine wpq_tk 3 (some 56) [10] (Or.inl ⟨by rfl, fun w hSw => by (obtain ⟨x0, x1, x2, s0⟩ := hSw; go_simp; with_reducible rfl)⟩) hHeld ?_ rfl rfl
     simp only [Act.put, sA, sZ, sS]
     refine wpq_tk 4 (some 57) [10] (Or.inl ⟨by rfl, fun w hSw => by (obtain ⟨x0, x1, x2, s0⟩ := hSw; go_simp; with_reducible rfl)⟩) hHeld ?_ rfl rfl
     simp only [Act.put, sA, sZ, sS]
     refine wpq_tk 5 (some 58) [10] (Or.inl ⟨by rfl, fun w hSw => by (obtain ⟨x0, x1, x2, s0⟩ := hSw; go_simp; with_reducible rfl)⟩) hHeld ?_ rfl rfl
     simp only [Act.put, sA, sZ, sS]
     refine wpq_one 6 (by kernel_rfl) rfl (fun K hK => ?_)
     go_simp
     refine (HDE.out _).mono ?_
     rintro e wx ⟨rfl, hb⟩
     replace hHeld := show wx.cell? ⟨bx, 0, none⟩ = some (.int .i64 mn) ∧ wx.cell? ⟨bx, 1, none⟩ = some (.int .i64 mx) ∧ wx.cell? ⟨bx, 2, none⟩ = some (.int .i64 (top : Int)) ∧ wx.cell? ⟨bS, 0, none⟩ = some (.int .i64 ((l1 + 1 : Nat) : Int)) from ⟨(hb.cell (p := ⟨bx, 0, none⟩) (cell_ltF hHeld.1)).trans hHeld.1, (hb.cell (p := ⟨bx, 1, none⟩) (cell_ltF hHeld.2.1)).trans hHeld.2.1, (hb.cell (p := ⟨bx, 2, none⟩) (cell_ltF hHeld.2.2.1)).trans hHeld.2.2.1, (hb.cell (p := ⟨bS, 0, none⟩) (cell_ltF hHeld.2.2.2)).trans hHeld.2.2.2⟩
     replace HO := Lib.hid (HO.out.stay hb)
     replace HS := Lib.hid (HS.out.below hb)
     replace HW := Lib.hid (HW.out.trans (hb.mono HW.out.size))
     clear hb
     generalize wx = wd at *
     refine hK.out _ _ hHeld (fun hHeld => ?_)
     clear hK K
     refine wpq_tk 7 (some 60) [10] (Or.inl ⟨by rfl, fun w hSw => by (obtain ⟨x0, x1, x2, s0⟩ := hSw; go_simp; with_reducible rfl)⟩) hHeld ?_ rfl rfl
     simp only [Act.put, sA, sZ, sS]
     refine wpq_one 8 (by kernel_rfl) rfl (fun K hK => ?_)
     go_simp
     have hb7 : Below wd.heap.size wd (wd.alloc (.cells (arcV ⟨b, l1, dd⟩).toArray 72)) := (Below.refl _ _).alloc (Nat.le_refl _) _
     refine hK.out _ _ ⟨(hb7.cell (p := ⟨bx, 0, none⟩) (cell_ltF hHeld.1)).trans hHeld.1, (hb7.cell (p := ⟨bx, 1, none⟩) (cell_ltF hHeld.2.1)).trans hHeld.2.1, (hb7.cell (p := ⟨bx, 2, none⟩) (cell_ltF hHeld.2.2.1)).trans hHeld.2.2.1, (hb7.cell (p := ⟨bS, 0, none⟩) (cell_ltF hHeld.2.2.2)).trans hHeld.2.2.2⟩ (fun hHeld2 => ?_)
     clear hK K hb7 hHeld2
     refine wpq_one 9 (by kernel_rfl) rfl (fun K hK => ?_)
     refine step_pushL (f := arcV) (x := ⟨b, l1, dd⟩) (v := .slice A nl cp) (l := out) (B := w2.heap.size) (e := 72) (sz := 3) rfl _ _ rfl elemA arcV_len (by decide) (arcV_one _) HO.out rfl rfl rfl (by have := HOL.out; have := HSL.out; have := HKL.out; omega) HW.out.size ?_
     rintro v3 w7 hown3 hg3 hfm3 hat3
     obtain ⟨A3, n3, cap3, rfl⟩ : ∃ A n cap, v3 = .slice A n cap := (by obtain ⟨A, c, h⟩ := hfm3; exact ⟨A, _, c, h⟩)
     have hgb := grown_belowL hg3 (fun x hx => (HO.out.lt x hx).1) HW.out.size
     have hS7 : BoxV bS 134 [.int .i64 ((l1 + 1 : Nat) : Int), .int .i64 (hh : Int), .int .i64 (nx : Int)] w7 := (hg3.block bS HS.out.lt (fun he => HNE.out he.symm)).trans HS.out
     have HS7 := Lib.hid hS7
     have HNE7 : Hid ((Value.slice A3 n3 cap3).ownBlock ≠ some bS) := by
      intro he
      rcases hat3 with h | ⟨k9, h1, h2⟩
      ·exact HNE.out (h.symm.trans he)
      ·rw [h2] at he
       injection he with he
       have := HS.out.lt
       omega
     have hS : w7.cell? ⟨bx, 0, none⟩ = some (.int .i64 mn) ∧ w7.cell? ⟨bx, 1, none⟩ = some (.int .i64 mx) ∧ w7.cell? ⟨bx, 2, none⟩ = some (.int .i64 (top : Int)) ∧ w7.cell? ⟨bS, 0, none⟩ = some (.int .i64 ((l1 + 1 : Nat) : Int)) := ⟨(hgb.cell (p := ⟨bx, 0, none⟩) HBX.out).trans hHeld.1, (hgb.cell (p := ⟨bx, 1, none⟩) HBX.out).trans hHeld.2.1, (hgb.cell (p := ⟨bx, 2, none⟩) HBX.out).trans hHeld.2.2.1, hS7.cell 0⟩
     have HO7 := Lib.hid hown3
     have HW7 := Lib.hid (HW.out.trans hgb)
     clear hown3 hg3 hfm3 hat3 hgb hS7
     refine hK.out _ _ hS (fun hHeld => ?_)
     clear hK K hS
     refine wpq_end 10 (by kernel_rfl) rfl (by kernel_rfl) (fun K hK => ?_)
     go_simp
     refine hK.out _ _ ?_
     clear hK K
     refine wpq_done (by kernel_rfl) ?_ _
     go_simp
     have hq1 := HBX2.out
     subst hq1
     have HNE8 := Lib.hid HNE7.out
     have HS8 := Lib.hid HS7.out
     have HSL8 := Lib.hid HS7.out.lt
     clear HO HS HW
     obtain ⟨s0, s1, s2⟩ : w7.cell? ⟨bS, 0, none⟩ = some (.int .i64 ((l1 + 1 : Nat) : Int)) ∧ w7.cell? ⟨bS, 1, none⟩ = some (.int .i64 (hh : Int)) ∧ w7.cell? ⟨bS, 2, none⟩ = some (.int .i64 (nx : Int)) := ⟨HS8.out.cell 0, HS8.out.cell 1, HS8.out.cell 2⟩
     go_wp2_with (at_builtin; refine wpl_pushL (f := arcV) (x := ⟨l1 + 1, hh, fv⟩) (v := .slice A3 n3 cap3) (l := out ++ [⟨b, l1, dd⟩]) (B := w2.heap.size) (e := 72) (sz := 3) _ _ rfl rfl elemA arcV_len (by decide) (arcV_one _) HO7.out rfl rfl rfl (by have := HOL.out; have := HSL.out; have := HKL.out; rw [List.length_append]; show out.length + 1 < _; omega) HW7.out.size ?_; intro v8 w8 hown8 hg8 hfm8 hat8; obtain ⟨A8, n8, cap8, rfl⟩ : ∃ A n cap, v8 = .slice A n cap := (by obtain ⟨A, c, h⟩ := hfm8; exact ⟨A, _, c, h⟩); have hgb8 := grown_belowL hg8 (fun x hx => (HO7.out.lt x hx).1) HW7.out.size; have hS8 := (hg8.block bS HSL8.out (fun he => HNE8.out he.symm)); have s1' := (BoxV.keep HS8.out hS8).cell 1; simp only [List.getElem?_cons_zero, List.getElem?_cons_succ] at s1')
     exact ⟨⟨k + 1, hh + 1, A8, n8, cap8, _, by simp, HKL.out, by simp, by omega, rfl, hown8, by have := HOL.out; unfold Hid; rw [List.length_append, List.length_append]; show out.length + 1 + 1 ≤ _; omega, HRN.out, HW7.out.trans hgb8⟩, by have := HKL.out; simp [intOf]; omega⟩
    ·have hbli : ¬ (b : Int) < (lo : Int) := by omega
     have HRN : Hid (R = arcsGo dd (nextC mx top count want) (out ++ [⟨lo, hh, fv⟩]) (hh + 1) (sp.drop (k + 1))) := HST.out.trans (by rw [if_neg hbl, HFV.out])
     have HNE8 := Lib.hid HNE.out
     have HS8 := Lib.hid HS.out
     have HSL8 := Lib.hid HS.out.lt
     clear hbl
     obtain ⟨x0, x1, x2⟩ : wt.cell? ⟨w.heap.size, 0, none⟩ = some (.int .i64 mn) ∧ wt.cell? ⟨w.heap.size, 1, none⟩ = some (.int .i64 mx) ∧ wt.cell? ⟨w.heap.size, 2, none⟩ = some (.int .i64 (top : Int)) := ⟨(HX.out.below HW.out).cell 0, (HX.out.below HW.out).cell 1, (HX.out.below HW.out).cell 2⟩
     obtain ⟨s0, s1, s2⟩ : wt.cell? ⟨bS, 0, none⟩ = some (.int .i64 (lo : Int)) ∧ wt.cell? ⟨bS, 1, none⟩ = some (.int .i64 (hh : Int)) ∧ wt.cell? ⟨bS, 2, none⟩ = some (.int .i64 (nx : Int)) := ⟨HS.out.cell 0, HS.out.cell 1, HS.out.cell 2⟩
     go_wp2_with (at_builtin; refine wpl_pushL (f := arcV) (x := ⟨lo, hh, fv⟩) (v := .slice A nl cp) (l := out) (B := w2.heap.size) (e := 72) (sz := 3) _ _ rfl rfl elemA arcV_len (by decide) (arcV_one _) HO.out rfl rfl rfl (by have := HOL.out; have := HSL.out; have := HKL.out; omega) HW.out.size ?_; intro v8 w8 hown8 hg8 hfm8 hat8; obtain ⟨A8, n8, cap8, rfl⟩ : ∃ A n cap, v8 = .slice A n cap := (by obtain ⟨A, c, h⟩ := hfm8; exact ⟨A, _, c, h⟩); have hgb8 := grown_belowL hg8 (fun x hx => (HO.out.lt x hx).1) HW.out.size; have hS8 := (hg8.block bS HSL8.out (fun he => HNE8.out he.symm)); have s1' := (BoxV.keep HS8.out hS8).cell 1; simp only [List.getElem?_cons_zero, List.getElem?_cons_succ] at s1')
     exact ⟨⟨k + 1, hh + 1, A8, n8, cap8, _, by simp, HKL.out, by simp, by omega, rfl, hown8, by have := HOL.out; unfold Hid; rw [List.length_append]; show out.length + 1 ≤ _; omega, HRN.out, HW.out.trans hgb8⟩, by have := HKL.out; simp [intOf]; omega⟩
   case pos =>
    have tw : ((want : Int) != 0) = false := by rw [hw0]; rfl
    by_cases hct : count < top
    case pos =>
     have hcti : (count : Int) < (top : Int) := by omega
     obtain ⟨fv, hfv⟩ : ∃ fv, fv = (count + 1) * 8 + nx := ⟨_, rfl⟩
     have HFV : Hid (nextC mx top count want nx = fv) := by unfold Hid nextC; rw [if_neg (fun h => h hw0), if_pos hct, hfv]
     have HC := Lib.hid (fun w' => state_any mn mx top (count + 1) nx (by have := HCT.out; omega) (by omega) w')
     rw [← hfv, show ((count + 1 : Nat) : Int) = (count : Int) + 1 by omega] at HC
     unfold cntV at HC
     clear hw0 hfv hct
     obtain ⟨x0, x1, x2⟩ : w6.cell? ⟨w.heap.size, 0, none⟩ = some (.int .i64 mn) ∧ w6.cell? ⟨w.heap.size, 1, none⟩ = some (.int .i64 mx) ∧ w6.cell? ⟨w.heap.size, 2, none⟩ = some (.int .i64 (top : Int)) := ⟨(HX.out.below HW.out).cell 0, (HX.out.below HW.out).cell 1, (HX.out.below HW.out).cell 2⟩
     obtain ⟨s0, s1, s2⟩ : w6.cell? ⟨bS, 0, none⟩ = some (.int .i64 (lo : Int)) ∧ w6.cell? ⟨bS, 1, none⟩ = some (.int .i64 (hh : Int)) ∧ w6.cell? ⟨bS, 2, none⟩ = some (.int .i64 (nx : Int)) := ⟨HS.out.cell 0, HS.out.cell 1, HS.out.cell 2⟩
     go_wp2_with fail
     refine (HC.out w6).mono ?_
     rintro e wt ⟨rfl, hb⟩
     replace HO := Lib.hid (HO.out.stay hb)
     replace HS := Lib.hid (HS.out.below hb)
     replace HW := Lib.hid (HW.out.trans (hb.mono HW.out.size))
     clear hb x0 x1 x2 s0 s1 s2
     by_cases hbl : b < lo
     ·obtain ⟨l1, hl1⟩ : ∃ l1, lo = l1 + 1 := ⟨lo - 1, by omega⟩
      subst hl1
      have hbli : (b : Int) < ((l1 + 1 : Nat) : Int) := by omega
      have hwr : IntKind.i64.wrap (l1 : Int) = (l1 : Int) := IntWalk.i64_in _ (by omega)
      have HRN : Hid (R = arcsGo dd (nextC mx top count want) ((out ++ [⟨b, l1, dd⟩]) ++ [⟨l1 + 1, hh, fv⟩]) (hh + 1) (sp.drop (k + 1))) := HST.out.trans (by rw [if_pos hbl, HFV.out]; rfl)
      clear hbl
      obtain ⟨x0, x1, x2⟩ : wt.cell? ⟨w.heap.size, 0, none⟩ = some (.int .i64 mn) ∧ wt.cell? ⟨w.heap.size, 1, none⟩ = some (.int .i64 mx) ∧ wt.cell? ⟨w.heap.size, 2, none⟩ = some (.int .i64 (top : Int)) := ⟨(HX.out.below HW.out).cell 0, (HX.out.below HW.out).cell 1, (HX.out.below HW.out).cell 2⟩
      obtain ⟨s0, s1, s2⟩ : wt.cell? ⟨bS, 0, none⟩ = some (.int .i64 ((l1 + 1 : Nat) : Int)) ∧ wt.cell? ⟨bS, 1, none⟩ = some (.int .i64 (hh : Int)) ∧ wt.cell? ⟨bS, 2, none⟩ = some (.int .i64 (nx : Int)) := ⟨HS.out.cell 0, HS.out.cell 1, HS.out.cell 2⟩
      go_upto_region 14 with fail
      replace HO := Lib.hid (HO.out.stay (drewBn wt))
      replace HS := Lib.hid (HS.out.below (drewBn wt))
      replace HW := Lib.hid (HW.out.trans ((drewBn wt).mono HW.out.size))
      obtain ⟨bx, hbx⟩ : ∃ bx, bx = w.heap.size := ⟨_, rfl⟩
      have HBX : Hid (bx < w2.heap.size) := by have := HX.out.lt; unfold Hid; omega
      have hS0 : wt.drew.cell? ⟨bx, 0, none⟩ = some (.int .i64 mn) ∧ wt.drew.cell? ⟨bx, 1, none⟩ = some (.int .i64 mx) ∧ wt.drew.cell? ⟨bx, 2, none⟩ = some (.int .i64 (top : Int)) ∧ wt.drew.cell? ⟨bS, 0, none⟩ = some (.int .i64 ((l1 + 1 : Nat) : Int)) := hbx ▸ ⟨x0, x1, x2, s0⟩
      rw [← hbx]
      have HBX2 : Hid (w.heap.size = bx) := hbx.symm
      clear hbx
      refine wpq_region (fun w' => w'.cell? ⟨bx, 0, none⟩ = some (.int .i64 mn) ∧ w'.cell? ⟨bx, 1, none⟩ = some (.int .i64 mx) ∧ w'.cell? ⟨bx, 2, none⟩ = some (.int .i64 (top : Int)) ∧ w'.cell? ⟨bS, 0, none⟩ = some (.int .i64 ((l1 + 1 : Nat) : Int))) 10 (by kernel_rfl) hS0 (fun hHeld => ?_)
      clear hS0 x0 x1 x2 s0 s1 s2
      generalize wt.drew = wd at *
      refine wpq_tk 0 (some 53) [10] (Or.inl ⟨by rfl, fun w hSw => by (obtain ⟨x0, x1, x2, s0⟩ := hSw; go_simp; with_reducible rfl)⟩) hHeld ?_ rfl rfl
      simp only [Act.put, sA, sZ, sS]
      refine wpq_tk 1 (some 54) [10] (Or.inl ⟨by rfl, fun w hSw => by (obtain ⟨x0, x1, x2, s0⟩ := hSw; go_simp; with_reducible rfl)⟩) hHeld ?_ rfl rfl
      simp only [Act.put, sA, sZ, sS]
      refine wpq_tk 2 (some 55) [10] (Or.inl ⟨by rfl, fun w hSw => by (obtain ⟨x0, x1, x2, s0⟩ := hSw; go_simp; with_reducible rfl)⟩) hHeld ?_ rfl rfl
      simp only [Act.put, sA, sZ, sS]
      refine wpq_tk 3 (some 56) [10] (Or.inl ⟨by rfl, fun w hSw => by (obtain ⟨x0, x1, x2, s0⟩ := hSw; go_simp; with_reducible rfl)⟩) hHeld ?_ rfl rfl
      simp only [Act.put, sA, sZ, sS]
      refine wpq_tk 4 (some 57) [10] (Or.inl ⟨by rfl, fun w hSw => by (obtain ⟨x0, x1, x2, s0⟩ := hSw; go_simp; with_reducible rfl)⟩) hHeld ?_ rfl rfl
      simp only [Act.put, sA, sZ, sS]
      refine wpq_tk 5 (some 58) [10] (Or.inl ⟨by rfl, fun w hSw => by (obtain ⟨x0, x1, x2, s0⟩ := hSw; go_simp; with_reducible rfl)⟩) hHeld ?_ rfl rfl
      simp only [Act.put, sA, sZ, sS]
      refine wpq_one 6 (by kernel_rfl) rfl (fun K hK => ?_)
      go_simp
      refine (HDE.out _).mono ?_
      rintro e wx ⟨rfl, hb⟩
      replace hHeld := show wx.cell? ⟨bx, 0, none⟩ = some (.int .i64 mn) ∧ wx.cell? ⟨bx, 1, none⟩ = some (.int .i64 mx) ∧ wx.cell? ⟨bx, 2, none⟩ = some (.int .i64 (top : Int)) ∧ wx.cell? ⟨bS, 0, none⟩ = some (.int .i64 ((l1 + 1 : Nat) : Int)) from ⟨(hb.cell (p := ⟨bx, 0, none⟩) (cell_ltF hHeld.1)).trans hHeld.1, (hb.cell (p := ⟨bx, 1, none⟩) (cell_ltF hHeld.2.1)).trans hHeld.2.1, (hb.cell (p := ⟨bx, 2, none⟩) (cell_ltF hHeld.2.2.1)).trans hHeld.2.2.1, (hb.cell (p := ⟨bS, 0, none⟩) (cell_ltF hHeld.2.2.2)).trans hHeld.2.2.2⟩
      replace HO := Lib.hid (HO.out.stay hb)
      replace HS := Lib.hid (HS.out.below hb)
      replace HW := Lib.hid (HW.out.trans (hb.mono HW.out.size))
      clear hb
      generalize wx = wd at *
      refine hK.out _ _ hHeld (fun hHeld => ?_)
      clear hK K
      refine wpq_tk 7 (some 60) [10] (Or.inl ⟨by rfl, fun w hSw => by (obtain ⟨x0, x1, x2, s0⟩ := hSw; go_simp; with_reducible rfl)⟩) hHeld ?_ rfl rfl
      simp only [Act.put, sA, sZ, sS]
      refine wpq_one 8 (by kernel_rfl) rfl (fun K hK => ?_)
      go_simp
      have hb7 : Below wd.heap.size wd (wd.alloc (.cells (arcV ⟨b, l1, dd⟩).toArray 72)) := (Below.refl _ _).alloc (Nat.le_refl _) _
      refine hK.out _ _ ⟨(hb7.cell (p := ⟨bx, 0, none⟩) (cell_ltF hHeld.1)).trans hHeld.1, (hb7.cell (p := ⟨bx, 1, none⟩) (cell_ltF hHeld.2.1)).trans hHeld.2.1, (hb7.cell (p := ⟨bx, 2, none⟩) (cell_ltF hHeld.2.2.1)).trans hHeld.2.2.1, (hb7.cell (p := ⟨bS, 0, none⟩) (cell_ltF hHeld.2.2.2)).trans hHeld.2.2.2⟩ (fun hHeld2 => ?_)
      clear hK K hb7 hHeld2
      refine wpq_one 9 (by kernel_rfl) rfl (fun K hK => ?_)
      refine step_pushL (f := arcV) (x := ⟨b, l1, dd⟩) (v := .slice A nl cp) (l := out) (B := w2.heap.size) (e := 72) (sz := 3) rfl _ _ rfl elemA arcV_len (by decide) (arcV_one _) HO.out rfl rfl rfl (by have := HOL.out; have := HSL.out; have := HKL.out; omega) HW.out.size ?_
      rintro v3 w7 hown3 hg3 hfm3 hat3
      obtain ⟨A3, n3, cap3, rfl⟩ : ∃ A n cap, v3 = .slice A n cap := (by obtain ⟨A, c, h⟩ := hfm3; exact ⟨A, _, c, h⟩)
      have hgb := grown_belowL hg3 (fun x hx => (HO.out.lt x hx).1) HW.out.size
      have hS7 : BoxV bS 134 [.int .i64 ((l1 + 1 : Nat) : Int), .int .i64 (hh : Int), .int .i64 (nx : Int)] w7 := (hg3.block bS HS.out.lt (fun he => HNE.out he.symm)).trans HS.out
      have HS7 := Lib.hid hS7
      have HNE7 : Hid ((Value.slice A3 n3 cap3).ownBlock ≠ some bS) := by
       intro he
       rcases hat3 with h | ⟨k9, h1, h2⟩
       ·exact HNE.out (h.symm.trans he)
       ·rw [h2] at he
        injection he with he
        have := HS.out.lt
        omega
      have hS : w7.cell? ⟨bx, 0, none⟩ = some (.int .i64 mn) ∧ w7.cell? ⟨bx, 1, none⟩ = some (.int .i64 mx) ∧ w7.cell? ⟨bx, 2, none⟩ = some (.int .i64 (top : Int)) ∧ w7.cell? ⟨bS, 0, none⟩ = some (.int .i64 ((l1 + 1 : Nat) : Int)) := ⟨(hgb.cell (p := ⟨bx, 0, none⟩) HBX.out).trans hHeld.1, (hgb.cell (p := ⟨bx, 1, none⟩) HBX.out).trans hHeld.2.1, (hgb.cell (p := ⟨bx, 2, none⟩) HBX.out).trans hHeld.2.2.1, hS7.cell 0⟩
      have HO7 := Lib.hid hown3
      have HW7 := Lib.hid (HW.out.trans hgb)
      clear hown3 hg3 hfm3 hat3 hgb hS7
      refine hK.out _ _ hS (fun hHeld => ?_)
      clear hK K hS
      refine wpq_end 10 (by kernel_rfl) rfl (by kernel_rfl) (fun K hK => ?_)
      go_simp
      refine hK.out _ _ ?_
      clear hK K
      refine wpq_done (by kernel_rfl) ?_ _
      go_simp
      have hq1 := HBX2.out
      subst hq1
      have HNE8 := Lib.hid HNE7.out
      have HS8 := Lib.hid HS7.out
      have HSL8 := Lib.hid HS7.out.lt
      clear HO HS HW
      obtain ⟨s0, s1, s2⟩ : w7.cell? ⟨bS, 0, none⟩ = some (.int .i64 ((l1 + 1 : Nat) : Int)) ∧ w7.cell? ⟨bS, 1, none⟩ = some (.int .i64 (hh : Int)) ∧ w7.cell? ⟨bS, 2, none⟩ = some (.int .i64 (nx : Int)) := ⟨HS8.out.cell 0, HS8.out.cell 1, HS8.out.cell 2⟩
      go_wp2_with (at_builtin; refine wpl_pushL (f := arcV) (x := ⟨l1 + 1, hh, fv⟩) (v := .slice A3 n3 cap3) (l := out ++ [⟨b, l1, dd⟩]) (B := w2.heap.size) (e := 72) (sz := 3) _ _ rfl rfl elemA arcV_len (by decide) (arcV_one _) HO7.out rfl rfl rfl (by have := HOL.out; have := HSL.out; have := HKL.out; rw [List.length_append]; show out.length + 1 < _; omega) HW7.out.size ?_; intro v8 w8 hown8 hg8 hfm8 hat8; obtain ⟨A8, n8, cap8, rfl⟩ : ∃ A n cap, v8 = .slice A n cap := (by obtain ⟨A, c, h⟩ := hfm8; exact ⟨A, _, c, h⟩); have hgb8 := grown_belowL hg8 (fun x hx => (HO7.out.lt x hx).1) HW7.out.size; have hS8 := (hg8.block bS HSL8.out (fun he => HNE8.out he.symm)); have s1' := (BoxV.keep HS8.out hS8).cell 1; simp only [List.getElem?_cons_zero, List.getElem?_cons_succ] at s1')
      exact ⟨⟨k + 1, hh + 1, A8, n8, cap8, _, by simp, HKL.out, by simp, by omega, rfl, hown8, by have := HOL.out; unfold Hid; rw [List.length_append, List.length_append]; show out.length + 1 + 1 ≤ _; omega, HRN.out, HW7.out.trans hgb8⟩, by have := HKL.out; simp [intOf]; omega⟩
     ·have hbli : ¬ (b : Int) < (lo : Int) := by omega
      have HRN : Hid (R = arcsGo dd (nextC mx top count want) (out ++ [⟨lo, hh, fv⟩]) (hh + 1) (sp.drop (k + 1))) := HST.out.trans (by rw [if_neg hbl, HFV.out])
      have HNE8 := Lib.hid HNE.out
      have HS8 := Lib.hid HS.out
      have HSL8 := Lib.hid HS.out.lt
      clear hbl
      obtain ⟨x0, x1, x2⟩ : wt.cell? ⟨w.heap.size, 0, none⟩ = some (.int .i64 mn) ∧ wt.cell? ⟨w.heap.size, 1, none⟩ = some (.int .i64 mx) ∧ wt.cell? ⟨w.heap.size, 2, none⟩ = some (.int .i64 (top : Int)) := ⟨(HX.out.below HW.out).cell 0, (HX.out.below HW.out).cell 1, (HX.out.below HW.out).cell 2⟩
      obtain ⟨s0, s1, s2⟩ : wt.cell? ⟨bS, 0, none⟩ = some (.int .i64 (lo : Int)) ∧ wt.cell? ⟨bS, 1, none⟩ = some (.int .i64 (hh : Int)) ∧ wt.cell? ⟨bS, 2, none⟩ = some (.int .i64 (nx : Int)) := ⟨HS.out.cell 0, HS.out.cell 1, HS.out.cell 2⟩
      go_wp2_with (at_builtin; refine wpl_pushL (f := arcV) (x := ⟨lo, hh, fv⟩) (v := .slice A nl cp) (l := out) (B := w2.heap.size) (e := 72) (sz := 3) _ _ rfl rfl elemA arcV_len (by decide) (arcV_one _) HO.out rfl rfl rfl (by have := HOL.out; have := HSL.out; have := HKL.out; omega) HW.out.size ?_; intro v8 w8 hown8 hg8 hfm8 hat8; obtain ⟨A8, n8, cap8, rfl⟩ : ∃ A n cap, v8 = .slice A n cap := (by obtain ⟨A, c, h⟩ := hfm8; exact ⟨A, _, c, h⟩); have hgb8 := grown_belowL hg8 (fun x hx => (HO.out.lt x hx).1) HW.out.size; have hS8 := (hg8.block bS HSL8.out (fun he => HNE8.out he.symm)); have s1' := (BoxV.keep HS8.out hS8).cell 1; simp only [List.getElem?_cons_zero, List.getElem?_cons_succ] at s1')
      exact ⟨⟨k + 1, hh + 1, A8, n8, cap8, _, by simp, HKL.out, by simp, by omega, rfl, hown8, by have := HOL.out; unfold Hid; rw [List.length_append]; show out.length + 1 ≤ _; omega, HRN.out, HW.out.trans hgb8⟩, by have := HKL.out; simp [intOf]; omega⟩
    case neg =>
     have hcti : ¬ (count : Int) < (top : Int) := by omega
     by_cases hmx : mx = -1
     case pos =>
      have hmi : (mx == -1) = true := by rw [hmx]; rfl
      obtain ⟨fv, hfv⟩ : ∃ fv, fv = count * 8 + nx := ⟨_, rfl⟩
      have HFV : Hid (nextC mx top count want nx = fv) := by unfold Hid nextC; rw [if_neg (fun h => h hw0), if_neg hct, if_pos hmx, hfv]
      have HC := Lib.hid (fun w' => state_any mn mx top count nx (by have := HCT.out; omega) (by omega) w')
      rw [← hfv] at HC
      unfold cntV at HC
      clear hw0 hfv hct hmx
      obtain ⟨x0, x1, x2⟩ : w6.cell? ⟨w.heap.size, 0, none⟩ = some (.int .i64 mn) ∧ w6.cell? ⟨w.heap.size, 1, none⟩ = some (.int .i64 mx) ∧ w6.cell? ⟨w.heap.size, 2, none⟩ = some (.int .i64 (top : Int)) := ⟨(HX.out.below HW.out).cell 0, (HX.out.below HW.out).cell 1, (HX.out.below HW.out).cell 2⟩
      obtain ⟨s0, s1, s2⟩ : w6.cell? ⟨bS, 0, none⟩ = some (.int .i64 (lo : Int)) ∧ w6.cell? ⟨bS, 1, none⟩ = some (.int .i64 (hh : Int)) ∧ w6.cell? ⟨bS, 2, none⟩ = some (.int .i64 (nx : Int)) := ⟨HS.out.cell 0, HS.out.cell 1, HS.out.cell 2⟩
      go_wp2_with fail
      refine (HC.out w6).mono ?_
      rintro e wt ⟨rfl, hb⟩
      replace HO := Lib.hid (HO.out.stay hb)
      replace HS := Lib.hid (HS.out.below hb)
      replace HW := Lib.hid (HW.out.trans (hb.mono HW.out.size))
      clear hb x0 x1 x2 s0 s1 s2
      by_cases hbl : b < lo
      ·obtain ⟨l1, hl1⟩ : ∃ l1, lo = l1 + 1 := ⟨lo - 1, by omega⟩
       subst hl1
       have hbli : (b : Int) < ((l1 + 1 : Nat) : Int) := by omega
       have hwr : IntKind.i64.wrap (l1 : Int) = (l1 : Int) := IntWalk.i64_in _ (by omega)
       have HRN : Hid (R = arcsGo dd (nextC mx top count want) ((out ++ [⟨b, l1, dd⟩]) ++ [⟨l1 + 1, hh, fv⟩]) (hh + 1) (sp.drop (k + 1))) := HST.out.trans (by rw [if_pos hbl, HFV.out]; rfl)
       clear hbl
       obtain ⟨x0, x1, x2⟩ : wt.cell? ⟨w.heap.size, 0, none⟩ = some (.int .i64 mn) ∧ wt.cell? ⟨w.heap.size, 1, none⟩ = some (.int .i64 mx) ∧ wt.cell? ⟨w.heap.size, 2, none⟩ = some (.int .i64 (top : Int)) := ⟨(HX.out.below HW.out).cell 0, (HX.out.below HW.out).cell 1, (HX.out.below HW.out).cell 2⟩
       obtain ⟨s0, s1, s2⟩ : wt.cell? ⟨bS, 0, none⟩ = some (.int .i64 ((l1 + 1 : Nat) : Int)) ∧ wt.cell? ⟨bS, 1, none⟩ = some (.int .i64 (hh : Int)) ∧ wt.cell? ⟨bS, 2, none⟩ = some (.int .i64 (nx : Int)) := ⟨HS.out.cell 0, HS.out.cell 1, HS.out.cell 2⟩
       go_upto_region 14 with fail
       replace HO := Lib.hid (HO.out.stay (drewBn wt))
       replace HS := Lib.hid (HS.out.below (drewBn wt))
       replace HW := Lib.hid (HW.out.trans ((drewBn wt).mono HW.out.size))
       obtain ⟨bx, hbx⟩ : ∃ bx, bx = w.heap.size := ⟨_, rfl⟩
       have HBX : Hid (bx < w2.heap.size) := by have := HX.out.lt; unfold Hid; omega
       have hS0 : wt.drew.cell? ⟨bx, 0, none⟩ = some (.int .i64 mn) ∧ wt.drew.cell? ⟨bx, 1, none⟩ = some (.int .i64 mx) ∧ wt.drew.cell? ⟨bx, 2, none⟩ = some (.int .i64 (top : Int)) ∧ wt.drew.cell? ⟨bS, 0, none⟩ = some (.int .i64 ((l1 + 1 : Nat) : Int)) := hbx ▸ ⟨x0, x1, x2, s0⟩
       rw [← hbx]
       have HBX2 : Hid (w.heap.size = bx) := hbx.symm
       clear hbx
       refine wpq_region (fun w' => w'.cell? ⟨bx, 0, none⟩ = some (.int .i64 mn) ∧ w'.cell? ⟨bx, 1, none⟩ = some (.int .i64 mx) ∧ w'.cell? ⟨bx, 2, none⟩ = some (.int .i64 (top : Int)) ∧ w'.cell? ⟨bS, 0, none⟩ = some (.int .i64 ((l1 + 1 : Nat) : Int))) 10 (by kernel_rfl) hS0 (fun hHeld => ?_)
       clear hS0 x0 x1 x2 s0 s1 s2
       generalize wt.drew = wd at *
       refine wpq_tk 0 (some 53) [10] (Or.inl ⟨by rfl, fun w hSw => by (obtain ⟨x0, x1, x2, s0⟩ := hSw; go_simp; with_reducible rfl)⟩) hHeld ?_ rfl rfl
       simp only [Act.put, sA, sZ, sS]
       refine wpq_tk 1 (some 54) [10] (Or.inl ⟨by rfl, fun w hSw => by (obtain ⟨x0, x1, x2, s0⟩ := hSw; go_simp; with_reducible rfl)⟩) hHeld ?_ rfl rfl
       simp only [Act.put, sA, sZ, sS]
       refine wpq_tk 2 (some 55) [10] (Or.inl ⟨by rfl, fun w hSw => by (obtain ⟨x0, x1, x2, s0⟩ := hSw; go_simp; with_reducible rfl)⟩) hHeld ?_ rfl rfl
       simp only [Act.put, sA, sZ, sS]
       refine wpq_tk 3 (some 56) [10] (Or.inl ⟨by rfl, fun w hSw => by (obtain ⟨x0, x1, x2, s0⟩ := hSw; go_simp; with_reducible rfl)⟩) hHeld ?_ rfl rfl
       simp only [Act.put, sA, sZ, sS]
       refine wpq_tk 4 (some 57) [10] (Or.inl ⟨by rfl, fun w hSw => by (obtain ⟨x0, x1, x2, s0⟩ := hSw; go_simp; with_reducible rfl)⟩) hHeld ?_ rfl rfl
       simp only [Act.put, sA, sZ, sS]
       refine wpq_tk 5 (some 58) [10] (Or.inl ⟨by rfl, fun w hSw => by (obtain ⟨x0, x1, x2, s0⟩ := hSw; go_simp; with_reducible rfl)⟩) hHeld ?_ rfl rfl
       simp only [Act.put, sA, sZ, sS]
       refine wpq_one 6 (by kernel_rfl) rfl (fun K hK => ?_)
       go_simp
       refine (HDE.out _).mono ?_
       rintro e wx ⟨rfl, hb⟩
       replace hHeld := show wx.cell? ⟨bx, 0, none⟩ = some (.int .i64 mn) ∧ wx.cell? ⟨bx, 1, none⟩ = some (.int .i64 mx) ∧ wx.cell? ⟨bx, 2, none⟩ = some (.int .i64 (top : Int)) ∧ wx.cell? ⟨bS, 0, none⟩ = some (.int .i64 ((l1 + 1 : Nat) : Int)) from ⟨(hb.cell (p := ⟨bx, 0, none⟩) (cell_ltF hHeld.1)).trans hHeld.1, (hb.cell (p := ⟨bx, 1, none⟩) (cell_ltF hHeld.2.1)).trans hHeld.2.1, (hb.cell (p := ⟨bx, 2, none⟩) (cell_ltF hHeld.2.2.1)).trans hHeld.2.2.1, (hb.cell (p := ⟨bS, 0, none⟩) (cell_ltF hHeld.2.2.2)).trans hHeld.2.2.2⟩
       replace HO := Lib.hid (HO.out.stay hb)
       replace HS := Lib.hid (HS.out.below hb)
       replace HW := Lib.hid (HW.out.trans (hb.mono HW.out.size))
       clear hb
       generalize wx = wd at *
       refine hK.out _ _ hHeld (fun hHeld => ?_)
       clear hK K
       refine wpq_tk 7 (some 60) [10] (Or.inl ⟨by rfl, fun w hSw => by (obtain ⟨x0, x1, x2, s0⟩ := hSw; go_simp; with_reducible rfl)⟩) hHeld ?_ rfl rfl
       simp only [Act.put, sA, sZ, sS]
       refine wpq_one 8 (by kernel_rfl) rfl (fun K hK => ?_)
       go_simp
       have hb7 : Below wd.heap.size wd (wd.alloc (.cells (arcV ⟨b, l1, dd⟩).toArray 72)) := (Below.refl _ _).alloc (Nat.le_refl _) _
       refine hK.out _ _ ⟨(hb7.cell (p := ⟨bx, 0, none⟩) (cell_ltF hHeld.1)).trans hHeld.1, (hb7.cell (p := ⟨bx, 1, none⟩) (cell_ltF hHeld.2.1)).trans hHeld.2.1, (hb7.cell (p := ⟨bx, 2, none⟩) (cell_ltF hHeld.2.2.1)).trans hHeld.2.2.1, (hb7.cell (p := ⟨bS, 0, none⟩) (cell_ltF hHeld.2.2.2)).trans hHeld.2.2.2⟩ (fun hHeld2 => ?_)
       clear hK K hb7 hHeld2
       refine wpq_one 9 (by kernel_rfl) rfl (fun K hK => ?_)
       refine step_pushL (f := arcV) (x := ⟨b, l1, dd⟩) (v := .slice A nl cp) (l := out) (B := w2.heap.size) (e := 72) (sz := 3) rfl _ _ rfl elemA arcV_len (by decide) (arcV_one _) HO.out rfl rfl rfl (by have := HOL.out; have := HSL.out; have := HKL.out; omega) HW.out.size ?_
       rintro v3 w7 hown3 hg3 hfm3 hat3
       obtain ⟨A3, n3, cap3, rfl⟩ : ∃ A n cap, v3 = .slice A n cap := (by obtain ⟨A, c, h⟩ := hfm3; exact ⟨A, _, c, h⟩)
       have hgb := grown_belowL hg3 (fun x hx => (HO.out.lt x hx).1) HW.out.size
       have hS7 : BoxV bS 134 [.int .i64 ((l1 + 1 : Nat) : Int), .int .i64 (hh : Int), .int .i64 (nx : Int)] w7 := (hg3.block bS HS.out.lt (fun he => HNE.out he.symm)).trans HS.out
       have HS7 := Lib.hid hS7
       have HNE7 : Hid ((Value.slice A3 n3 cap3).ownBlock ≠ some bS) := by
        intro he
        rcases hat3 with h | ⟨k9, h1, h2⟩
        ·exact HNE.out (h.symm.trans he)
        ·rw [h2] at he
         injection he with he
         have := HS.out.lt
         omega
       have hS : w7.cell? ⟨bx, 0, none⟩ = some (.int .i64 mn) ∧ w7.cell? ⟨bx, 1, none⟩ = some (.int .i64 mx) ∧ w7.cell? ⟨bx, 2, none⟩ = some (.int .i64 (top : Int)) ∧ w7.cell? ⟨bS, 0, none⟩ = some (.int .i64 ((l1 + 1 : Nat) : Int)) := ⟨(hgb.cell (p := ⟨bx, 0, none⟩) HBX.out).trans hHeld.1, (hgb.cell (p := ⟨bx, 1, none⟩) HBX.out).trans hHeld.2.1, (hgb.cell (p := ⟨bx, 2, none⟩) HBX.out).trans hHeld.2.2.1, hS7.cell 0⟩
       have HO7 := Lib.hid hown3
       have HW7 := Lib.hid (HW.out.trans hgb)
       clear hown3 hg3 hfm3 hat3 hgb hS7
       refine hK.out _ _ hS (fun hHeld => ?_)
       clear hK K hS
       refine wpq_end 10 (by kernel_rfl) rfl (by kernel_rfl) (fun K hK => ?_)
       go_simp
       refine hK.out _ _ ?_
       clear hK K
       refine wpq_done (by kernel_rfl) ?_ _
       go_simp
       have hq1 := HBX2.out
       subst hq1
       have HNE8 := Lib.hid HNE7.out
       have HS8 := Lib.hid HS7.out
       have HSL8 := Lib.hid HS7.out.lt
       clear HO HS HW
       obtain ⟨s0, s1, s2⟩ : w7.cell? ⟨bS, 0, none⟩ = some (.int .i64 ((l1 + 1 : Nat) : Int)) ∧ w7.cell? ⟨bS, 1, none⟩ = some (.int .i64 (hh : Int)) ∧ w7.cell? ⟨bS, 2, none⟩ = some (.int .i64 (nx : Int)) := ⟨HS8.out.cell 0, HS8.out.cell 1, HS8.out.cell 2⟩
       go_wp2_with (at_builtin; refine wpl_pushL (f := arcV) (x := ⟨l1 + 1, hh, fv⟩) (v := .slice A3 n3 cap3) (l := out ++ [⟨b, l1, dd⟩]) (B := w2.heap.size) (e := 72) (sz := 3) _ _ rfl rfl elemA arcV_len (by decide) (arcV_one _) HO7.out rfl rfl rfl (by have := HOL.out; have := HSL.out; have := HKL.out; rw [List.length_append]; show out.length + 1 < _; omega) HW7.out.size ?_; intro v8 w8 hown8 hg8 hfm8 hat8; obtain ⟨A8, n8, cap8, rfl⟩ : ∃ A n cap, v8 = .slice A n cap := (by obtain ⟨A, c, h⟩ := hfm8; exact ⟨A, _, c, h⟩); have hgb8 := grown_belowL hg8 (fun x hx => (HO7.out.lt x hx).1) HW7.out.size; have hS8 := (hg8.block bS HSL8.out (fun he => HNE8.out he.symm)); have s1' := (BoxV.keep HS8.out hS8).cell 1; simp only [List.getElem?_cons_zero, List.getElem?_cons_succ] at s1')
       exact ⟨⟨k + 1, hh + 1, A8, n8, cap8, _, by simp, HKL.out, by simp, by omega, rfl, hown8, by have := HOL.out; unfold Hid; rw [List.length_append, List.length_append]; show out.length + 1 + 1 ≤ _; omega, HRN.out, HW7.out.trans hgb8⟩, by have := HKL.out; simp [intOf]; omega⟩
      ·have hbli : ¬ (b : Int) < (lo : Int) := by omega
       have HRN : Hid (R = arcsGo dd (nextC mx top count want) (out ++ [⟨lo, hh, fv⟩]) (hh + 1) (sp.drop (k + 1))) := HST.out.trans (by rw [if_neg hbl, HFV.out])
       have HNE8 := Lib.hid HNE.out
       have HS8 := Lib.hid HS.out
       have HSL8 := Lib.hid HS.out.lt
       clear hbl
       obtain ⟨x0, x1, x2⟩ : wt.cell? ⟨w.heap.size, 0, none⟩ = some (.int .i64 mn) ∧ wt.cell? ⟨w.heap.size, 1, none⟩ = some (.int .i64 mx) ∧ wt.cell? ⟨w.heap.size, 2, none⟩ = some (.int .i64 (top : Int)) := ⟨(HX.out.below HW.out).cell 0, (HX.out.below HW.out).cell 1, (HX.out.below HW.out).cell 2⟩
       obtain ⟨s0, s1, s2⟩ : wt.cell? ⟨bS, 0, none⟩ = some (.int .i64 (lo : Int)) ∧ wt.cell? ⟨bS, 1, none⟩ = some (.int .i64 (hh : Int)) ∧ wt.cell? ⟨bS, 2, none⟩ = some (.int .i64 (nx : Int)) := ⟨HS.out.cell 0, HS.out.cell 1, HS.out.cell 2⟩
       go_wp2_with (at_builtin; refine wpl_pushL (f := arcV) (x := ⟨lo, hh, fv⟩) (v := .slice A nl cp) (l := out) (B := w2.heap.size) (e := 72) (sz := 3) _ _ rfl rfl elemA arcV_len (by decide) (arcV_one _) HO.out rfl rfl rfl (by have := HOL.out; have := HSL.out; have := HKL.out; omega) HW.out.size ?_; intro v8 w8 hown8 hg8 hfm8 hat8; obtain ⟨A8, n8, cap8, rfl⟩ : ∃ A n cap, v8 = .slice A n cap := (by obtain ⟨A, c, h⟩ := hfm8; exact ⟨A, _, c, h⟩); have hgb8 := grown_belowL hg8 (fun x hx => (HO.out.lt x hx).1) HW.out.size; have hS8 := (hg8.block bS HSL8.out (fun he => HNE8.out he.symm)); have s1' := (BoxV.keep HS8.out hS8).cell 1; simp only [List.getElem?_cons_zero, List.getElem?_cons_succ] at s1')
       exact ⟨⟨k + 1, hh + 1, A8, n8, cap8, _, by simp, HKL.out, by simp, by omega, rfl, hown8, by have := HOL.out; unfold Hid; rw [List.length_append]; show out.length + 1 ≤ _; omega, HRN.out, HW.out.trans hgb8⟩, by have := HKL.out; simp [intOf]; omega⟩
     case neg =>
      have hmi : (mx == -1) = false := beq_false_of_ne hmx
      have HFV : Hid (nextC mx top count want nx = dd) := by unfold Hid nextC; rw [if_neg (fun h => h hw0), if_neg hct, if_neg hmx, HDD.out]
      obtain ⟨wt, hwt⟩ : ∃ x, x = w6 := ⟨_, rfl⟩
      subst hwt
      clear hw0 hct hmx
      by_cases hbl : b < lo
      ·obtain ⟨l1, hl1⟩ : ∃ l1, lo = l1 + 1 := ⟨lo - 1, by omega⟩
       subst hl1
       have hbli : (b : Int) < ((l1 + 1 : Nat) : Int) := by omega
       have hwr : IntKind.i64.wrap (l1 : Int) = (l1 : Int) := IntWalk.i64_in _ (by omega)
       have HRN : Hid (R = arcsGo dd (nextC mx top count want) ((out ++ [⟨b, l1, dd⟩]) ++ [⟨l1 + 1, hh, dd⟩]) (hh + 1) (sp.drop (k + 1))) := HST.out.trans (by rw [if_pos hbl, HFV.out]; rfl)
       clear hbl
       obtain ⟨x0, x1, x2⟩ : wt.cell? ⟨w.heap.size, 0, none⟩ = some (.int .i64 mn) ∧ wt.cell? ⟨w.heap.size, 1, none⟩ = some (.int .i64 mx) ∧ wt.cell? ⟨w.heap.size, 2, none⟩ = some (.int .i64 (top : Int)) := ⟨(HX.out.below HW.out).cell 0, (HX.out.below HW.out).cell 1, (HX.out.below HW.out).cell 2⟩
       obtain ⟨s0, s1, s2⟩ : wt.cell? ⟨bS, 0, none⟩ = some (.int .i64 ((l1 + 1 : Nat) : Int)) ∧ wt.cell? ⟨bS, 1, none⟩ = some (.int .i64 (hh : Int)) ∧ wt.cell? ⟨bS, 2, none⟩ = some (.int .i64 (nx : Int)) := ⟨HS.out.cell 0, HS.out.cell 1, HS.out.cell 2⟩
       go_upto_region 14 with fail
       replace HO := Lib.hid (HO.out.stay (drewBn wt))
       replace HS := Lib.hid (HS.out.below (drewBn wt))
       replace HW := Lib.hid (HW.out.trans ((drewBn wt).mono HW.out.size))
       obtain ⟨bx, hbx⟩ : ∃ bx, bx = w.heap.size := ⟨_, rfl⟩
       have HBX : Hid (bx < w2.heap.size) := by have := HX.out.lt; unfold Hid; omega
       have hS0 : wt.drew.cell? ⟨bx, 0, none⟩ = some (.int .i64 mn) ∧ wt.drew.cell? ⟨bx, 1, none⟩ = some (.int .i64 mx) ∧ wt.drew.cell? ⟨bx, 2, none⟩ = some (.int .i64 (top : Int)) ∧ wt.drew.cell? ⟨bS, 0, none⟩ = some (.int .i64 ((l1 + 1 : Nat) : Int)) := hbx ▸ ⟨x0, x1, x2, s0⟩
       rw [← hbx]
       have HBX2 : Hid (w.heap.size = bx) := hbx.symm
       clear hbx
       refine wpq_region (fun w' => w'.cell? ⟨bx, 0, none⟩ = some (.int .i64 mn) ∧ w'.cell? ⟨bx, 1, none⟩ = some (.int .i64 mx) ∧ w'.cell? ⟨bx, 2, none⟩ = some (.int .i64 (top : Int)) ∧ w'.cell? ⟨bS, 0, none⟩ = some (.int .i64 ((l1 + 1 : Nat) : Int))) 10 (by kernel_rfl) hS0 (fun hHeld => ?_)
       clear hS0 x0 x1 x2 s0 s1 s2
       generalize wt.drew = wd at *
       refine wpq_tk 0 (some 53) [10] (Or.inl ⟨by rfl, fun w hSw => by (obtain ⟨x0, x1, x2, s0⟩ := hSw; go_simp; with_reducible rfl)⟩) hHeld ?_ rfl rfl
       simp only [Act.put, sA, sZ, sS]
       refine wpq_tk 1 (some 54) [10] (Or.inl ⟨by rfl, fun w hSw => by (obtain ⟨x0, x1, x2, s0⟩ := hSw; go_simp; with_reducible rfl)⟩) hHeld ?_ rfl rfl
       simp only [Act.put, sA, sZ, sS]
       refine wpq_tk 2 (some 55) [10] (Or.inl ⟨by rfl, fun w hSw => by (obtain ⟨x0, x1, x2, s0⟩ := hSw; go_simp; with_reducible rfl)⟩) hHeld ?_ rfl rfl
       simp only [Act.put, sA, sZ, sS]
       refine wpq_tk 3 (some 56) [10] (Or.inl ⟨by rfl, fun w hSw => by (obtain ⟨x0, x1, x2, s0⟩ := hSw; go_simp; with_reducible rfl)⟩) hHeld ?_ rfl rfl
       simp only [Act.put, sA, sZ, sS]
       refine wpq_tk 4 (some 57) [10] (Or.inl ⟨by rfl, fun w hSw => by (obtain ⟨x0, x1, x2, s0⟩ := hSw; go_simp; with_reducible rfl)⟩) hHeld ?_ rfl rfl
       simp only [Act.put, sA, sZ, sS]
       refine wpq_tk 5 (some 58) [10] (Or.inl ⟨by rfl, fun w hSw => by (obtain ⟨x0, x1, x2, s0⟩ := hSw; go_simp; with_reducible rfl)⟩) hHeld ?_ rfl rfl
       simp only [Act.put, sA, sZ, sS]
       refine wpq_one 6 (by kernel_rfl) rfl (fun K hK => ?_)
       go_simp
       refine (HDE.out _).mono ?_
       rintro e wx ⟨rfl, hb⟩
       replace hHeld := show wx.cell? ⟨bx, 0, none⟩ = some (.int .i64 mn) ∧ wx.cell? ⟨bx, 1, none⟩ = some (.int .i64 mx) ∧ wx.cell? ⟨bx, 2, none⟩ = some (.int .i64 (top : Int)) ∧ wx.cell? ⟨bS, 0, none⟩ = some (.int .i64 ((l1 + 1 : Nat) : Int)) from ⟨(hb.cell (p := ⟨bx, 0, none⟩) (cell_ltF hHeld.1)).trans hHeld.1, (hb.cell (p := ⟨bx, 1, none⟩) (cell_ltF hHeld.2.1)).trans hHeld.2.1, (hb.cell (p := ⟨bx, 2, none⟩) (cell_ltF hHeld.2.2.1)).trans hHeld.2.2.1, (hb.cell (p := ⟨bS, 0, none⟩) (cell_ltF hHeld.2.2.2)).trans hHeld.2.2.2⟩
       replace HO := Lib.hid (HO.out.stay hb)
       replace HS := Lib.hid (HS.out.below hb)
       replace HW := Lib.hid (HW.out.trans (hb.mono HW.out.size))
       clear hb
       generalize wx = wd at *
       refine hK.out _ _ hHeld (fun hHeld => ?_)
       clear hK K
       refine wpq_tk 7 (some 60) [10] (Or.inl ⟨by rfl, fun w hSw => by (obtain ⟨x0, x1, x2, s0⟩ := hSw; go_simp; with_reducible rfl)⟩) hHeld ?_ rfl rfl
       simp only [Act.put, sA, sZ, sS]
       refine wpq_one 8 (by kernel_rfl) rfl (fun K hK => ?_)
       go_simp
       have hb7 : Below wd.heap.size wd (wd.alloc (.cells (arcV ⟨b, l1, dd⟩).toArray 72)) := (Below.refl _ _).alloc (Nat.le_refl _) _
       refine hK.out _ _ ⟨(hb7.cell (p := ⟨bx, 0, none⟩) (cell_ltF hHeld.1)).trans hHeld.1, (hb7.cell (p := ⟨bx, 1, none⟩) (cell_ltF hHeld.2.1)).trans hHeld.2.1, (hb7.cell (p := ⟨bx, 2, none⟩) (cell_ltF hHeld.2.2.1)).trans hHeld.2.2.1, (hb7.cell (p := ⟨bS, 0, none⟩) (cell_ltF hHeld.2.2.2)).trans hHeld.2.2.2⟩ (fun hHeld2 => ?_)
       clear hK K hb7 hHeld2
       refine wpq_one 9 (by kernel_rfl) rfl (fun K hK => ?_)
       refine step_pushL (f := arcV) (x := ⟨b, l1, dd⟩) (v := .slice A nl cp) (l := out) (B := w2.heap.size) (e := 72) (sz := 3) rfl _ _ rfl elemA arcV_len (by decide) (arcV_one _) HO.out rfl rfl rfl (by have := HOL.out; have := HSL.out; have := HKL.out; omega) HW.out.size ?_
       rintro v3 w7 hown3 hg3 hfm3 hat3
       obtain ⟨A3, n3, cap3, rfl⟩ : ∃ A n cap, v3 = .slice A n cap := (by obtain ⟨A, c, h⟩ := hfm3; exact ⟨A, _, c, h⟩)
       have hgb := grown_belowL hg3 (fun x hx => (HO.out.lt x hx).1) HW.out.size
       have hS7 : BoxV bS 134 [.int .i64 ((l1 + 1 : Nat) : Int), .int .i64 (hh : Int), .int .i64 (nx : Int)] w7 := (hg3.block bS HS.out.lt (fun he => HNE.out he.symm)).trans HS.out
       have HS7 := Lib.hid hS7
       have HNE7 : Hid ((Value.slice A3 n3 cap3).ownBlock ≠ some bS) := by
        intro he
        rcases hat3 with h | ⟨k9, h1, h2⟩
        ·exact HNE.out (h.symm.trans he)
        ·rw [h2] at he
         injection he with he
         have := HS.out.lt
         omega
       have hS : w7.cell? ⟨bx, 0, none⟩ = some (.int .i64 mn) ∧ w7.cell? ⟨bx, 1, none⟩ = some (.int .i64 mx) ∧ w7.cell? ⟨bx, 2, none⟩ = some (.int .i64 (top : Int)) ∧ w7.cell? ⟨bS, 0, none⟩ = some (.int .i64 ((l1 + 1 : Nat) : Int)) := ⟨(hgb.cell (p := ⟨bx, 0, none⟩) HBX.out).trans hHeld.1, (hgb.cell (p := ⟨bx, 1, none⟩) HBX.out).trans hHeld.2.1, (hgb.cell (p := ⟨bx, 2, none⟩) HBX.out).trans hHeld.2.2.1, hS7.cell 0⟩
       have HO7 := Lib.hid hown3
       have HW7 := Lib.hid (HW.out.trans hgb)
       clear hown3 hg3 hfm3 hat3 hgb hS7
       refine hK.out _ _ hS (fun hHeld => ?_)
       clear hK K hS
       refine wpq_end 10 (by kernel_rfl) rfl (by kernel_rfl) (fun K hK => ?_)
       go_simp
       refine hK.out _ _ ?_
       clear hK K
       refine wpq_done (by kernel_rfl) ?_ _
       go_simp
       have hq1 := HBX2.out
       subst hq1
       have HNE8 := Lib.hid HNE7.out
       have HS8 := Lib.hid HS7.out
       have HSL8 := Lib.hid HS7.out.lt
       clear HO HS HW
       obtain ⟨s0, s1, s2⟩ : w7.cell? ⟨bS, 0, none⟩ = some (.int .i64 ((l1 + 1 : Nat) : Int)) ∧ w7.cell? ⟨bS, 1, none⟩ = some (.int .i64 (hh : Int)) ∧ w7.cell? ⟨bS, 2, none⟩ = some (.int .i64 (nx : Int)) := ⟨HS8.out.cell 0, HS8.out.cell 1, HS8.out.cell 2⟩
       go_wp2_with (at_builtin; refine wpl_pushL (f := arcV) (x := ⟨l1 + 1, hh, dd⟩) (v := .slice A3 n3 cap3) (l := out ++ [⟨b, l1, dd⟩]) (B := w2.heap.size) (e := 72) (sz := 3) _ _ rfl rfl elemA arcV_len (by decide) (arcV_one _) HO7.out rfl rfl rfl (by have := HOL.out; have := HSL.out; have := HKL.out; rw [List.length_append]; show out.length + 1 < _; omega) HW7.out.size ?_; intro v8 w8 hown8 hg8 hfm8 hat8; obtain ⟨A8, n8, cap8, rfl⟩ : ∃ A n cap, v8 = .slice A n cap := (by obtain ⟨A, c, h⟩ := hfm8; exact ⟨A, _, c, h⟩); have hgb8 := grown_belowL hg8 (fun x hx => (HO7.out.lt x hx).1) HW7.out.size; have hS8 := (hg8.block bS HSL8.out (fun he => HNE8.out he.symm)); have s1' := (BoxV.keep HS8.out hS8).cell 1; simp only [List.getElem?_cons_zero, List.getElem?_cons_succ] at s1')
       exact ⟨⟨k + 1, hh + 1, A8, n8, cap8, _, by simp, HKL.out, by simp, by omega, rfl, hown8, by have := HOL.out; unfold Hid; rw [List.length_append, List.length_append]; show out.length + 1 + 1 ≤ _; omega, HRN.out, HW7.out.trans hgb8⟩, by have := HKL.out; simp [intOf]; omega⟩
      ·have hbli : ¬ (b : Int) < (lo : Int) := by omega
       have HRN : Hid (R = arcsGo dd (nextC mx top count want) (out ++ [⟨lo, hh, dd⟩]) (hh + 1) (sp.drop (k + 1))) := HST.out.trans (by rw [if_neg hbl, HFV.out])
       have HNE8 := Lib.hid HNE.out
       have HS8 := Lib.hid HS.out
       have HSL8 := Lib.hid HS.out.lt
       clear hbl
       obtain ⟨x0, x1, x2⟩ : wt.cell? ⟨w.heap.size, 0, none⟩ = some (.int .i64 mn) ∧ wt.cell? ⟨w.heap.size, 1, none⟩ = some (.int .i64 mx) ∧ wt.cell? ⟨w.heap.size, 2, none⟩ = some (.int .i64 (top : Int)) := ⟨(HX.out.below HW.out).cell 0, (HX.out.below HW.out).cell 1, (HX.out.below HW.out).cell 2⟩
       obtain ⟨s0, s1, s2⟩ : wt.cell? ⟨bS, 0, none⟩ = some (.int .i64 (lo : Int)) ∧ wt.cell? ⟨bS, 1, none⟩ = some (.int .i64 (hh : Int)) ∧ wt.cell? ⟨bS, 2, none⟩ = some (.int .i64 (nx : Int)) := ⟨HS.out.cell 0, HS.out.cell 1, HS.out.cell 2⟩
       go_wp2_with (at_builtin; refine wpl_pushL (f := arcV) (x := ⟨lo, hh, dd⟩) (v := .slice A nl cp) (l := out) (B := w2.heap.size) (e := 72) (sz := 3) _ _ rfl rfl elemA arcV_len (by decide) (arcV_one _) HO.out rfl rfl rfl (by have := HOL.out; have := HSL.out; have := HKL.out; omega) HW.out.size ?_; intro v8 w8 hown8 hg8 hfm8 hat8; obtain ⟨A8, n8, cap8, rfl⟩ : ∃ A n cap, v8 = .slice A n cap := (by obtain ⟨A, c, h⟩ := hfm8; exact ⟨A, _, c, h⟩); have hgb8 := grown_belowL hg8 (fun x hx => (HO.out.lt x hx).1) HW.out.size; have hS8 := (hg8.block bS HSL8.out (fun he => HNE8.out he.symm)); have s1' := (BoxV.keep HS8.out hS8).cell 1; simp only [List.getElem?_cons_zero, List.getElem?_cons_succ] at s1')
       exact ⟨⟨k + 1, hh + 1, A8, n8, cap8, _, by simp, HKL.out, by simp, by omega, rfl, hown8, by have := HOL.out; unfold Hid; rw [List.length_append]; show out.length + 1 ≤ _; omega, HRN.out, HW.out.trans hgb8⟩, by have := HKL.out; simp [intOf]; omega⟩
end Go.Proofs.YtpkecepelcppiaaGreatDoor
