/- formats.Names, number, Known, datakitref17.Names, the law's same walked. Conditions: none. -/
import Derived.Test.YtpkecepelcppiaaGreatDoorZd26
import Derived.Test.YtpkecepelcppiaaGreatDoorZd23
import Derived.Test.YtpkecepelcppiaaGreatDoorZd3
import Derived.Test.YtpkecepelcppiaaGreatDoorZd22
import Derived.Deep.QuietTactic
import Derived.BigQuiet
namespace Go.Proofs.YtpkecepelcppiaaGreatDoor
open Go.RowKit Go.Shelf
set_option maxHeartbeats 4000000
set_option maxRecDepth 100000

def stC (mn : Nat) (mx : Int) (top count want : Nat) : StA := ⟨decide (want = 0) && decide (mn ≤ count), arcsC mx top count want⟩
def preC (mn : Nat) (mx : Int) (top count want : Nat) : List StA := ((List.range count).flatMap fun c => (List.range 8).map (stC mn mx top c)) ++ (List.range want).map (stC mn mx top count)
theorem pre_want (mn : Nat) (mx : Int) (top count want : Nat) : preC mn mx top count (want + 1) = preC mn mx top count want ++ [stC mn mx top count want] := by
 unfold preC
 rw [List.range_succ (n := want), List.map_append, List.append_assoc]
 rfl
theorem pre_count (mn : Nat) (mx : Int) (top count : Nat) : preC mn mx top count 8 = preC mn mx top (count + 1) 0 := by
 unfold preC
 rw [List.range_succ (n := count), List.flatMap_append, List.range_zero, List.map_nil, List.append_nil]
 simp only [List.flatMap_cons, List.flatMap_nil, List.append_nil]
theorem pre_end (mn : Nat) (mx : Int) (top : Nat) : preC mn mx top (top + 1) 0 ++ [⟨false, [⟨0, 255, (top + 1) * 8⟩]⟩] = machC mn mx top := by
 unfold preC machC statesC
 rw [List.range_zero, List.map_nil, List.append_nil]
 rfl
theorem pre_len (mn : Nat) (mx : Int) (top count want : Nat) : (preC mn mx top count want).length = count * 8 + want := by
 unfold preC
 rw [List.length_append, List.length_map, List.length_range]
 congr 1
 induction count with
 | zero => rfl
 | succ c ih => rw [List.range_succ (n := c), List.flatMap_append, List.length_append, ih]; simp; omega
structure MS (mn : Nat) (mx : Int) (top : Nat) (w wr : World) (sv : Value) (ps : List (Bool × Value)) (ml : List StA) : Prop where
 bel : Below w.heap.size w wr
 c : BoxV w.heap.size 67 [.int .i64 (mn : Int), .int .i64 mx, .int .i64 (top : Int)] wr
 r : BoxV (w.heap.size + 1) 29 [.slice none 0 0] wr
 b : BoxV (w.heap.size + 2) 29 [sv] wr
 st : OwnS (w.heap.size + 3) wr sv ps ml
theorem MS.stay {mn : Nat} {mx : Int} {top : Nat} {w wr wx : World} {sv : Value} {ps : List (Bool × Value)} {ml : List StA} (h : MS mn mx top w wr sv ps ml) (hb : Below wr.heap.size wr wx) : MS mn mx top w wx sv ps ml :=
 ⟨h.bel.trans (hb.mono h.bel.size), h.c.below hb, h.r.below hb, h.b.below hb, h.st.stay hb⟩
theorem MS.push {mn : Nat} {mx : Int} {top : Nat} {w wr w7 : World} {sv v' : Value} {ps : List (Bool × Value)} {ml : List StA} {acc : Bool} {av : Value} {arcs : List ArcA} (h : MS mn mx top w wr sv ps ml) (hown : OwnL (w.heap.size + 3) 70 2 stV w7 v' (ps ++ [(acc, av)])) (hg : wr.grownBy w7 sv.ownBlock)
  (hat : v'.ownBlock = sv.ownBlock ∨ ∃ k, wr.heap.size ≤ k ∧ v'.ownBlock = some k) (ha : RdA (fun g => w.heap.size + 2 + 1 ≤ g ∧ sv.ownBlock ≠ some g) wr av arcs) : MS mn mx top w (w7.setCell ⟨w.heap.size + 2, 0, none⟩ v') v' (ps ++ [(acc, av)]) (ml ++ [⟨acc, arcs⟩]) := by
 have hgb := grown_belowL hg (fun x hx => (h.st.own.lt x hx).1) (by have := h.b.lt; omega)
 have hot : ∀ y, y ≠ w.heap.size + 2 → (w7.setCell ⟨w.heap.size + 2, 0, none⟩ v').heap[y]? = w7.heap[y]? := fun y hy => Below.heap_setCell w7 ⟨w.heap.size + 2, 0, none⟩ _ y hy
 refine ⟨(h.bel.trans (hgb.mono (by omega))).setCell (p := ⟨w.heap.size + 2, 0, none⟩) (by show _ ≤ w.heap.size + 2; omega) _, h.c.keep ((hot _ (by omega)).trans (hgb.block _ (by omega))), h.r.keep ((hot _ (by omega)).trans (hgb.block _ (by omega))), ?_, (h.st.push hown hg hat ha).keep (fun g hb _ => hot g (by omega))⟩
 exact heap_setCell_same w7 (w.heap.size + 2) 0 _ _ v' ((hgb.block _ (by omega)).trans h.b)
theorem machine_any (mn : Nat) (mx : Int) (top : Nat) (out : List StA) (w : World) (ht : top ≤ 100)
  (hleast : ∀ (N : Nat → Prop) (v : Value) (w' : World), Below w.heap.size w w' → RdS N w' v (machC mn mx top) → Calls Tryz.prog 63 #[.agg #[v]] w' fun e w'' => ∃ v', e = .returned (.agg #[v']) ∧ RdS (fun g => w'.heap.size ≤ g) w'' v' out ∧ Below w'.heap.size w' w'') :
  Calls Tryz.prog 38 #[cntV (mn : Int) mx top] w fun e w' => ∃ v', e = .returned (.agg #[v']) ∧ RdS (fun g => w.heap.size ≤ g) w' v' out ∧ Below w.heap.size w w' := by
 have hti : (top : Int) ≤ 100 := by omega
 have HT := Lib.hid ht
 have HLE := Lib.hid hleast
 have HARC := Lib.hid (fun count want w' hc hw => arcs_any (mn : Int) mx top count want w' ht hc hw)
 unfold cntV at *
 clear ht hleast
 go_enter Tryz.func38, Tryz.ntmps38
 go_upto_region 2 with fail
 generalize hW : World.alloc w _ = w1
 obtain ⟨hbx, -, hz1, hb1⟩ := alloc_of hW
 generalize hW2 : World.alloc w1 _ = w2
 obtain ⟨hbx2, -, hz2, hb2⟩ := alloc_of hW2
 generalize hW3 : World.alloc w2 _ = w3
 obtain ⟨hbx3, -, hz3, hb3⟩ := alloc_of hW3
 rw [hz1] at hbx2
 rw [hz2, hz1] at hbx3
 have HMS0 := Lib.hid (show MS mn mx top w w3 (.slice none 0 0) [] [] from ⟨hb1.trans ((hb2.trans (hb3.mono hb2.size)).mono hb1.size), (hb3.block _ (by omega)).trans ((hb2.block _ (by omega)).trans hbx), (hb3.block _ (by omega)).trans hbx2, hbx3, OwnS.nil _ _⟩)
 clear hW hbx hz1 hb1 hW2 hbx2 hz2 hb2 hW3 hbx3 hz3 hb3
 go_wp2_with fail
 go_loopw [4] (fun cv wr => ∃ (count : Nat) (A : Option Addr) (nl cp : Nat) (ps : List (Bool × Value)), cv = .int .i64 (count : Int) ∧ count ≤ top + 1 ∧ Hid (MS mn mx top w wr (.slice A nl cp) ps (preC mn mx top count 0))) (fun cv _ => top + 1 - (intOf cv).toNat)
 case atStart => exact ⟨0, none, 0, 0, [], rfl, by omega, HMS0.out⟩
 case round =>
  clear HMS0
  obtain ⟨count, A, nl, cp, ps, rfl, hc, HMS⟩ := hrel
  obtain ⟨x0, x1, x2, s0⟩ : wr.cell? ⟨w.heap.size, 0, none⟩ = some (.int .i64 (mn : Int)) ∧ wr.cell? ⟨w.heap.size, 1, none⟩ = some (.int .i64 mx) ∧ wr.cell? ⟨w.heap.size, 2, none⟩ = some (.int .i64 (top : Int)) ∧ wr.cell? ⟨w.heap.size + 2, 0, none⟩ = some (.slice A nl cp) := ⟨HMS.out.c.cell 0, HMS.out.c.cell 1, HMS.out.c.cell 2, HMS.out.b.cell 0⟩
  by_cases hlt : count ≤ top
  case neg =>
   have hge : ¬ (count : Int) ≤ (top : Int) := by omega
   have hce : count = top + 1 := by omega
   subst hce
   have HLN : Hid ((preC mn mx top (top + 1) 0).length ≤ 1000) := by unfold Hid; rw [pre_len]; have := HT.out; omega
   obtain ⟨dd, hdd⟩ : ∃ dd, dd = (top + 1) * 8 := ⟨_, rfl⟩
   have HDE := Lib.hid (fun w' => dead_any (mn : Int) mx top (by have := HT.out; omega) w')
   rw [← hdd] at HDE
   unfold cntV at HDE
   have HME : Hid (preC mn mx top (top + 1) 0 ++ [⟨false, [⟨0, 255, dd⟩]⟩] = machC mn mx top) := by unfold Hid; rw [hdd]; exact pre_end mn mx top
   clear hdd hlt hc
   go_upto_region 10 with fail
   have hd := drewBn wr
   replace HMS := Lib.hid (HMS.out.stay hd)
   obtain ⟨bx, hbx⟩ : ∃ bx, bx = w.heap.size := ⟨_, rfl⟩
   obtain ⟨b3, hb3⟩ : ∃ b3, b3 = w.heap.size + 2 := ⟨_, rfl⟩
   have hS0 : wr.drew.cell? ⟨bx, 0, none⟩ = some (.int .i64 (mn : Int)) ∧ wr.drew.cell? ⟨bx, 1, none⟩ = some (.int .i64 mx) ∧ wr.drew.cell? ⟨bx, 2, none⟩ = some (.int .i64 (top : Int)) ∧ wr.drew.cell? ⟨b3, 0, none⟩ = some (.slice A nl cp) := by rw [hbx, hb3]; exact ⟨HMS.out.c.cell 0, HMS.out.c.cell 1, HMS.out.c.cell 2, HMS.out.b.cell 0⟩
   rw [← hb3, ← hbx]
   have HBX : Hid (bx = w.heap.size) := hbx
   have HB3 : Hid (w.heap.size + 2 = b3) := hb3.symm
   clear hbx hb3 hd x0 x1 x2 s0
   refine wpq_region (fun w' => w'.cell? ⟨bx, 0, none⟩ = some (.int .i64 (mn : Int)) ∧ w'.cell? ⟨bx, 1, none⟩ = some (.int .i64 mx) ∧ w'.cell? ⟨bx, 2, none⟩ = some (.int .i64 (top : Int)) ∧ w'.cell? ⟨b3, 0, none⟩ = some (.slice A nl cp)) 10 (by kernel_rfl) hS0 (fun hHeld => ?_)
   clear hS0
   generalize wr.drew = wd at *
   refine wpq_tk 0 (some 34) [10] (Or.inl ⟨by rfl, fun w hSw => by (obtain ⟨x0, x1, x2, s0⟩ := hSw; go_simp; with_reducible rfl)⟩) hHeld ?_ rfl rfl
   simp only [Act.put, sA, sZ, sS]
   refine wpq_tk 1 (some 35) [10] (Or.inl ⟨by rfl, fun w hSw => by (obtain ⟨x0, x1, x2, s0⟩ := hSw; go_simp; with_reducible rfl)⟩) hHeld ?_ rfl rfl
   simp only [Act.put, sA, sZ, sS]
   refine wpq_tk 2 (some 36) [10] (Or.inl ⟨by rfl, fun w hSw => by (obtain ⟨x0, x1, x2, s0⟩ := hSw; go_simp; with_reducible rfl)⟩) hHeld ?_ rfl rfl
   simp only [Act.put, sA, sZ, sS]
   refine wpq_one 3 (by kernel_rfl) rfl (fun K hK => ?_)
   go_simp
   refine (HDE.out _).mono ?_
   rintro e wx ⟨rfl, hb⟩
   replace hHeld := show wx.cell? ⟨bx, 0, none⟩ = some (.int .i64 (mn : Int)) ∧ wx.cell? ⟨bx, 1, none⟩ = some (.int .i64 mx) ∧ wx.cell? ⟨bx, 2, none⟩ = some (.int .i64 (top : Int)) ∧ wx.cell? ⟨b3, 0, none⟩ = some (.slice A nl cp) from ⟨(hb.cell (p := ⟨bx, 0, none⟩) (cell_ltF hHeld.1)).trans hHeld.1, (hb.cell (p := ⟨bx, 1, none⟩) (cell_ltF hHeld.2.1)).trans hHeld.2.1, (hb.cell (p := ⟨bx, 2, none⟩) (cell_ltF hHeld.2.2.1)).trans hHeld.2.2.1, (hb.cell (p := ⟨b3, 0, none⟩) (cell_ltF hHeld.2.2.2)).trans hHeld.2.2.2⟩
   replace HMS := Lib.hid (HMS.out.stay hb)
   clear hb
   generalize wx = wd at *
   refine hK.out _ _ hHeld (fun hHeld => ?_)
   clear hK K
   refine wpq_tk 4 (some 38) [10] (Or.inl ⟨by rfl, fun w hSw => by (obtain ⟨x0, x1, x2, s0⟩ := hSw; go_simp; with_reducible rfl)⟩) hHeld ?_ rfl rfl
   simp only [Act.put, sA, sZ, sS]
   refine wpq_one 5 (by kernel_rfl) rfl (fun K hK => ?_)
   go_simp
   generalize hW : World.alloc wd _ = we
   obtain ⟨ha, -, -, hb⟩ := alloc_of hW
   have hav : SlX we (.slice (some ⟨wd.heap.size, 0, none⟩) 1 1) 1 3 (cellsAt arcV [⟨0, 255, dd⟩]) := slx_block (l := [(⟨0, 255, dd⟩ : ArcA)]) arcV_len ha (show (1 : Nat) ≤ maxLen by decide)
   have HAV := Lib.hid (show RdA (fun g => b3 + 1 ≤ g ∧ (Value.slice A nl cp).ownBlock ≠ some g) we (.slice (some ⟨wd.heap.size, 0, none⟩) 1 1) [⟨0, 255, dd⟩] from ⟨hav, fun _ => ⟨_, 0, _, _, rfl, by have := HMS.out.b.lt; rw [HB3.out] at this; omega, fun he => by have := (HMS.out.st.own.lt _ he).2; omega⟩⟩)
   replace hHeld := show we.cell? ⟨bx, 0, none⟩ = some (.int .i64 (mn : Int)) ∧ we.cell? ⟨bx, 1, none⟩ = some (.int .i64 mx) ∧ we.cell? ⟨bx, 2, none⟩ = some (.int .i64 (top : Int)) ∧ we.cell? ⟨b3, 0, none⟩ = some (.slice A nl cp) from ⟨(hb.cell (p := ⟨bx, 0, none⟩) (cell_ltF hHeld.1)).trans hHeld.1, (hb.cell (p := ⟨bx, 1, none⟩) (cell_ltF hHeld.2.1)).trans hHeld.2.1, (hb.cell (p := ⟨bx, 2, none⟩) (cell_ltF hHeld.2.2.1)).trans hHeld.2.2.1, (hb.cell (p := ⟨b3, 0, none⟩) (cell_ltF hHeld.2.2.2)).trans hHeld.2.2.2⟩
   replace HMS := Lib.hid (HMS.out.stay hb)
   clear hW ha hb hav
   generalize wd.heap.size = gA at *
   refine hK.out _ _ hHeld (fun hHeld => ?_)
   clear hK K
   generalize we = wd at *
   refine wpq_tk 6 (some 40) [10] (Or.inl ⟨by rfl, fun w hSw => by (obtain ⟨x0, x1, x2, s0⟩ := hSw; go_simp; with_reducible rfl)⟩) hHeld ?_ rfl rfl
   simp only [Act.put, sA, sZ, sS]
   refine wpq_one 7 (by kernel_rfl) rfl (fun K hK => ?_)
   go_simp
   have hb7 : Below wd.heap.size wd (wd.alloc (.cells (stV (false, .slice (some ⟨gA, 0, none⟩) 1 1)).toArray 70)) := (Below.refl _ _).alloc (Nat.le_refl _) _
   refine hK.out _ _ ⟨(hb7.cell (p := ⟨bx, 0, none⟩) (cell_ltF hHeld.1)).trans hHeld.1, (hb7.cell (p := ⟨bx, 1, none⟩) (cell_ltF hHeld.2.1)).trans hHeld.2.1, (hb7.cell (p := ⟨bx, 2, none⟩) (cell_ltF hHeld.2.2.1)).trans hHeld.2.2.1, (hb7.cell (p := ⟨b3, 0, none⟩) (cell_ltF hHeld.2.2.2)).trans hHeld.2.2.2⟩ (fun hHeld2 => ?_)
   clear hK K hb7 hHeld2
   refine wpq_one 8 (by kernel_rfl) rfl (fun K hK => ?_)
   refine step_pushL (f := stV) (x := (false, .slice (some ⟨gA, 0, none⟩) 1 1)) (v := .slice A nl cp) (l := ps) (B := w.heap.size + 3) (e := 70) (sz := 2) rfl _ _ rfl elemS stV_len (by decide) (stV_one _ _ _ _) HMS.out.st.own rfl rfl rfl (by have := HMS.out.st.len; have := HLN.out; omega) (by have := HMS.out.b.lt; omega) ?_
   rintro v3 w7 hown3 hg3 hfm3 hat3
   obtain ⟨A3, n3, cap3, rfl⟩ : ∃ A n cap, v3 = .slice A n cap := (by obtain ⟨A, c, h⟩ := hfm3; exact ⟨A, _, c, h⟩)
   have HN := Lib.hid (HMS.out.push (acc := false) hown3 hg3 hat3 (HB3.out ▸ HAV.out))
   have hgb := grown_belowL hg3 (fun x hx => (HMS.out.st.own.lt x hx).1) (by have := HMS.out.b.lt; omega)
   have hb3 : BoxV b3 29 [.slice A nl cp] w7 := HB3.out ▸ (hgb.block _ (by omega)).trans HMS.out.b
   have hf := hb3.free 0
   have hc := hb3.cell 0
   have hS : w7.cell? ⟨bx, 0, none⟩ = some (.int .i64 (mn : Int)) ∧ w7.cell? ⟨bx, 1, none⟩ = some (.int .i64 mx) ∧ w7.cell? ⟨bx, 2, none⟩ = some (.int .i64 (top : Int)) ∧ w7.cell? ⟨b3, 0, none⟩ = some (.slice A nl cp) := ⟨(hgb.cell (p := ⟨bx, 0, none⟩) (by have := HBX.out; show bx < w.heap.size + 3; omega)).trans hHeld.1, (hgb.cell (p := ⟨bx, 1, none⟩) (by have := HBX.out; show bx < w.heap.size + 3; omega)).trans hHeld.2.1, (hgb.cell (p := ⟨bx, 2, none⟩) (by have := HBX.out; show bx < w.heap.size + 3; omega)).trans hHeld.2.2.1, hc⟩
   clear hown3 hg3 hfm3 hat3 hgb hb3
   refine hK.out _ _ hS (fun hHeld => ?_)
   clear hK K hS
   refine wpq_tk 9 (some 43) [10] (Or.inl ⟨by rfl, fun w hSw => by (obtain ⟨x0, x1, x2, s0⟩ := hSw; go_simp; with_reducible rfl)⟩) hHeld ?_ rfl rfl
   simp only [Act.put, List.setIfInBounds_toArray]
   refine wpq_end 10 (by kernel_rfl) rfl (by kernel_rfl) (fun K hK => ?_)
   go_simp
   refine hK.out _ _ ?_
   clear hK K
   refine wpq_done (by kernel_rfl) ?_ _
   go_simp
   have hq1 := HBX.out
   subst hq1
   have hq2 := HB3.out
   subst hq2
   rw [HME.out] at HN
   go_upto_region 11 with fail
   generalize hW9 : World.setCell w7 _ _ = w8 at *
   have s0 := HN.out.b.cell 0
   simp only [List.getElem?_cons_zero] at s0
   clear hW9 hHeld hf hc
   go_wp2_with fail
   refine (HLE.out _ _ w8 HN.out.bel HN.out.st.rds).mono ?_
   rintro e w9 ⟨v', rfl, hrd, hb⟩
   obtain ⟨ra, rcap, rfl, -⟩ := hrd.form
   have HB9 := Lib.hid (HN.out.bel.trans (hb.mono HN.out.bel.size))
   have hr9 := HN.out.r.below hb
   have HRD := Lib.hid (hrd.mono (M := fun g => w.heap.size + 2 ≤ g) (fun g h _ => by have := HN.out.b.lt; omega))
   have z0 := hr9.cell 0
   have y0 := hr9.free 0
   simp only [List.getElem?_cons_zero] at z0
   have HR9 := Lib.hid hr9
   clear hb hrd hr9
   go_wp2_with fail
   refine bodyPost_ret (v := .agg #[.slice ra out.length rcap]) ?_ rfl ⟨_, rfl, ?_, ?_⟩
   ·have hbx : BoxV (w.heap.size + 1) 29 [.slice ra out.length rcap] (w9.setCell ⟨w.heap.size + 1, 0, none⟩ (.slice ra out.length rcap)) := heap_setCell_same w9 (w.heap.size + 1) 0 _ _ _ HR9.out
    have q0 := hbx.cell 0
    simp only [List.getElem?_cons_zero] at q0
    simp [results, Tryz.results38, go_sem, q0]
   ·exact (HRD.out.keep (fun g hg _ => Below.heap_setCell w9 ⟨w.heap.size + 1, 0, none⟩ _ g (by show g ≠ w.heap.size + 1; omega))).mono (fun g hg _ => by omega)
   ·exact HB9.out.setCell (p := ⟨w.heap.size + 1, 0, none⟩) (by show _ ≤ w.heap.size + 1; omega) _
  case pos =>
   have hlti : (count : Int) ≤ (top : Int) := by omega
   have HC := Lib.hid hlt
   clear hlt
   go_wp2_with fail
   clear x0 x1 x2 s0
   go_loopw [12] (fun tv wr => ∃ (want : Nat) (A : Option Addr) (nl cp : Nat) (ps : List (Bool × Value)), tv = .int .i64 (want : Int) ∧ want ≤ 8 ∧ Hid (MS mn mx top w wr (.slice A nl cp) ps (preC mn mx top count want))) (fun tv _ => 8 - (intOf tv).toNat)
   case atStart => exact ⟨0, A, nl, cp, ps, rfl, by omega, HMS.out⟩
   case round =>
    clear HMS
    obtain ⟨want, A, nl, cp, ps, rfl, hw, HMS⟩ := hrel
    by_cases hwt : want < 8
    case neg =>
     have hwe : want = 8 := by omega
     subst hwe
     have HM2 := Lib.hid HMS.out
     rw [pre_count] at HM2
     clear hwt
     go_wp2_with fail
     exact ⟨⟨count + 1, A, nl, cp, ps, by simp, by have := HC.out; omega, HM2.out⟩, by have := HC.out; simp [intOf]; omega⟩
    case pos =>
     have hwti : (want : Int) < 8 := by omega
     have HWT : Hid (want + 1 ≤ 8) := hwt
     have HAR := Lib.hid (fun w' => HARC.out count want w' (by have := HC.out; have := HT.out; omega) hwt)
     have HLN : Hid ((preC mn mx top count want).length ≤ 1000) := by unfold Hid; rw [pre_len]; have := HC.out; have := HT.out; omega
     obtain ⟨x0, x1, x2, s0⟩ : wr.cell? ⟨w.heap.size, 0, none⟩ = some (.int .i64 (mn : Int)) ∧ wr.cell? ⟨w.heap.size, 1, none⟩ = some (.int .i64 mx) ∧ wr.cell? ⟨w.heap.size, 2, none⟩ = some (.int .i64 (top : Int)) ∧ wr.cell? ⟨w.heap.size + 2, 0, none⟩ = some (.slice A nl cp) := ⟨HMS.out.c.cell 0, HMS.out.c.cell 1, HMS.out.c.cell 2, HMS.out.b.cell 0⟩
     by_cases hw0 : want = 0
     case neg =>
      have tw : ((want : Int) == 0) = false := beq_false_of_ne (by omega)
      have HST : Hid (stC mn mx top count want = ⟨false, arcsC mx top count want⟩) := by unfold Hid stC; rw [decide_eq_false hw0]; rfl
      clear hwt hw0
      go_upto_region 8 with fail
      have hd := drewBn wr
      replace HMS := Lib.hid (HMS.out.stay hd)
      obtain ⟨bx, hbx⟩ : ∃ bx, bx = w.heap.size := ⟨_, rfl⟩
      obtain ⟨b3, hb3⟩ : ∃ b3, b3 = w.heap.size + 2 := ⟨_, rfl⟩
      have hS0 : wr.drew.cell? ⟨bx, 0, none⟩ = some (.int .i64 (mn : Int)) ∧ wr.drew.cell? ⟨bx, 1, none⟩ = some (.int .i64 mx) ∧ wr.drew.cell? ⟨bx, 2, none⟩ = some (.int .i64 (top : Int)) ∧ wr.drew.cell? ⟨b3, 0, none⟩ = some (.slice A nl cp) := by rw [hbx, hb3]; exact ⟨HMS.out.c.cell 0, HMS.out.c.cell 1, HMS.out.c.cell 2, HMS.out.b.cell 0⟩
      rw [← hb3, ← hbx]
      have HBX : Hid (bx = w.heap.size) := hbx
      have HB3 : Hid (w.heap.size + 2 = b3) := hb3.symm
      clear hbx hb3 hd x0 x1 x2 s0
      refine wpq_region (fun w' => w'.cell? ⟨bx, 0, none⟩ = some (.int .i64 (mn : Int)) ∧ w'.cell? ⟨bx, 1, none⟩ = some (.int .i64 mx) ∧ w'.cell? ⟨bx, 2, none⟩ = some (.int .i64 (top : Int)) ∧ w'.cell? ⟨b3, 0, none⟩ = some (.slice A nl cp)) 18 (by kernel_rfl) hS0 (fun hHeld => ?_)
      clear hS0
      generalize wr.drew = wd at *
      refine wpq_tk 0 (some 15) [18] (Or.inl ⟨by rfl, fun w hSw => by (obtain ⟨x0, x1, x2, s0⟩ := hSw; go_simp; with_reducible rfl)⟩) hHeld ?_ rfl rfl
      simp only [Act.put, sA, sZ, sS]
      refine wpq_tk 1 (some 16) [18] (Or.inl ⟨by rfl, fun w hSw => by (obtain ⟨x0, x1, x2, s0⟩ := hSw; go_simp; with_reducible rfl)⟩) hHeld ?_ rfl rfl
      simp only [Act.put, sA, sZ, sS]
      refine wpq_tk 2 (some 17) [18] (Or.inl ⟨by rfl, fun w hSw => by (obtain ⟨x0, x1, x2, s0⟩ := hSw; go_simp; with_reducible rfl)⟩) hHeld ?_ rfl rfl
      simp only [Act.put, sA, sZ, sS]
      refine wpq_tk 3 (some 18) [18] (Or.inl ⟨by rfl, fun w hSw => by (obtain ⟨x0, x1, x2, s0⟩ := hSw; go_simp; with_reducible rfl)⟩) hHeld ?_ rfl rfl
      simp only [Act.put, sA, sZ, sS]
      refine wpq_tk 4 (some 19) [18] (Or.inl ⟨by rfl, fun w hSw => by (obtain ⟨x0, x1, x2, s0⟩ := hSw; go_simp; with_reducible rfl)⟩) hHeld ?_ rfl rfl
      simp only [Act.put, sA, sZ, sS]
      refine wpq_tk 5 (some 20) [18] (Or.inr ⟨by rfl, rfl⟩) hHeld ?_ rfl rfl
      simp only [Act.put, sA, sZ, sS]
      refine wpq_tk 6 (some 21) [18] (Or.inr ⟨by rfl, rfl⟩) hHeld ?_ rfl rfl
      simp only [Act.put, sA, sZ, sS]
      refine wpq_tk 7 (some 22) [18] (Or.inr ⟨by rfl, rfl⟩) hHeld ?_ rfl rfl
      simp only [Act.put, sA, sZ, sS]
      refine wpq_tk 8 (some 23) [18] (Or.inr ⟨by rfl, rfl⟩) hHeld ?_ rfl rfl
      simp only [Act.put, sA, sZ, sS]
      refine wpq_tk 9 (some 24) [18] (Or.inl ⟨by rfl, fun w hSw => by (obtain ⟨x0, x1, x2, s0⟩ := hSw; go_simp; with_reducible rfl)⟩) hHeld ?_ rfl rfl
      simp only [Act.put, sA, sZ, sS]
      refine wpq_tk 10 (some 25) [18] (Or.inl ⟨by rfl, fun w hSw => by (obtain ⟨x0, x1, x2, s0⟩ := hSw; go_simp; with_reducible rfl)⟩) hHeld ?_ rfl rfl
      simp only [Act.put, sA, sZ, sS]
      refine wpq_tk 11 (some 26) [18] (Or.inl ⟨by rfl, fun w hSw => by (obtain ⟨x0, x1, x2, s0⟩ := hSw; go_simp; with_reducible rfl)⟩) hHeld ?_ rfl rfl
      simp only [Act.put, sA, sZ, sS]
      refine wpq_tk 12 (some 27) [18] (Or.inl ⟨by rfl, fun w hSw => by (obtain ⟨x0, x1, x2, s0⟩ := hSw; go_simp; with_reducible rfl)⟩) hHeld ?_ rfl rfl
      simp only [Act.put, sA, sZ, sS]
      refine wpq_one 13 (by kernel_rfl) rfl (fun K hK => ?_)
      go_simp
      refine (HAR.out _).mono ?_
      rintro e wx ⟨av, rfl, hav, hb⟩
      replace hHeld := show wx.cell? ⟨bx, 0, none⟩ = some (.int .i64 (mn : Int)) ∧ wx.cell? ⟨bx, 1, none⟩ = some (.int .i64 mx) ∧ wx.cell? ⟨bx, 2, none⟩ = some (.int .i64 (top : Int)) ∧ wx.cell? ⟨b3, 0, none⟩ = some (.slice A nl cp) from ⟨(hb.cell (p := ⟨bx, 0, none⟩) (cell_ltF hHeld.1)).trans hHeld.1, (hb.cell (p := ⟨bx, 1, none⟩) (cell_ltF hHeld.2.1)).trans hHeld.2.1, (hb.cell (p := ⟨bx, 2, none⟩) (cell_ltF hHeld.2.2.1)).trans hHeld.2.2.1, (hb.cell (p := ⟨b3, 0, none⟩) (cell_ltF hHeld.2.2.2)).trans hHeld.2.2.2⟩
      have HAV := Lib.hid ((hav.arcs (N := fun g => wd.heap.size ≤ g) (fun g h _ => h)).mono (M := fun g => b3 + 1 ≤ g ∧ (Value.slice A nl cp).ownBlock ≠ some g) (fun g h _ => ⟨by have := HMS.out.b.lt; rw [HB3.out] at this; omega, fun he => by have := (HMS.out.st.own.lt g he).2; omega⟩))
      obtain ⟨aa, acap, haf, -⟩ := hav.form
      replace HMS := Lib.hid (HMS.out.stay hb)
      generalize arcsC mx top count want = arcs at *
      generalize arcs.length = an at *
      subst haf
      clear hb hav
      generalize wx = wd at *
      refine hK.out _ _ hHeld (fun hHeld => ?_)
      clear hK K
      refine wpq_tk 14 (some 29) [18] (Or.inl ⟨by rfl, fun w hSw => by (obtain ⟨x0, x1, x2, s0⟩ := hSw; go_simp; with_reducible rfl)⟩) hHeld ?_ rfl rfl
      simp only [Act.put, sA, sZ, sS]
      refine wpq_one 15 (by kernel_rfl) rfl (fun K hK => ?_)
      go_simp
      have hb7 : Below wd.heap.size wd (wd.alloc (.cells (stV (false, .slice aa an acap)).toArray 70)) := (Below.refl _ _).alloc (Nat.le_refl _) _
      refine hK.out _ _ ⟨(hb7.cell (p := ⟨bx, 0, none⟩) (cell_ltF hHeld.1)).trans hHeld.1, (hb7.cell (p := ⟨bx, 1, none⟩) (cell_ltF hHeld.2.1)).trans hHeld.2.1, (hb7.cell (p := ⟨bx, 2, none⟩) (cell_ltF hHeld.2.2.1)).trans hHeld.2.2.1, (hb7.cell (p := ⟨b3, 0, none⟩) (cell_ltF hHeld.2.2.2)).trans hHeld.2.2.2⟩ (fun hHeld2 => ?_)
      clear hK K hb7 hHeld2
      refine wpq_one 16 (by kernel_rfl) rfl (fun K hK => ?_)
      refine step_pushL (f := stV) (x := (false, .slice aa an acap)) (v := .slice A nl cp) (l := ps) (B := w.heap.size + 3) (e := 70) (sz := 2) rfl _ _ rfl elemS stV_len (by decide) (stV_one _ _ _ _) HMS.out.st.own rfl rfl rfl (by have := HMS.out.st.len; have := HLN.out; omega) (by have := HMS.out.b.lt; omega) ?_
      rintro v3 w7 hown3 hg3 hfm3 hat3
      obtain ⟨A3, n3, cap3, rfl⟩ : ∃ A n cap, v3 = .slice A n cap := (by obtain ⟨A, c, h⟩ := hfm3; exact ⟨A, _, c, h⟩)
      have HN := Lib.hid (HMS.out.push (acc := false) hown3 hg3 hat3 (HB3.out ▸ HAV.out))
      have hgb := grown_belowL hg3 (fun x hx => (HMS.out.st.own.lt x hx).1) (by have := HMS.out.b.lt; omega)
      have hb3 : BoxV b3 29 [.slice A nl cp] w7 := HB3.out ▸ (hgb.block _ (by omega)).trans HMS.out.b
      have hf := hb3.free 0
      have hc := hb3.cell 0
      have hS : w7.cell? ⟨bx, 0, none⟩ = some (.int .i64 (mn : Int)) ∧ w7.cell? ⟨bx, 1, none⟩ = some (.int .i64 mx) ∧ w7.cell? ⟨bx, 2, none⟩ = some (.int .i64 (top : Int)) ∧ w7.cell? ⟨b3, 0, none⟩ = some (.slice A nl cp) := ⟨(hgb.cell (p := ⟨bx, 0, none⟩) (by have := HBX.out; show bx < w.heap.size + 3; omega)).trans hHeld.1, (hgb.cell (p := ⟨bx, 1, none⟩) (by have := HBX.out; show bx < w.heap.size + 3; omega)).trans hHeld.2.1, (hgb.cell (p := ⟨bx, 2, none⟩) (by have := HBX.out; show bx < w.heap.size + 3; omega)).trans hHeld.2.2.1, hc⟩
      clear hown3 hg3 hfm3 hat3 hgb hb3
      refine hK.out _ _ hS (fun hHeld => ?_)
      clear hK K hS
      refine wpq_tk 17 (some 32) [18] (Or.inl ⟨by rfl, fun w hSw => by (obtain ⟨x0, x1, x2, s0⟩ := hSw; go_simp; with_reducible rfl)⟩) hHeld ?_ rfl rfl
      simp only [Act.put, List.setIfInBounds_toArray]
      refine wpq_end 18 (by kernel_rfl) rfl (by kernel_rfl) (fun K hK => ?_)
      go_simp
      refine hK.out _ _ ?_
      clear hK K
      refine wpq_done (by kernel_rfl) ?_ _
      go_simp
      have hq1 := HBX.out
      subst hq1
      have hq2 := HB3.out
      subst hq2
      go_wp2_with fail
      exact ⟨⟨want + 1, by simp, HWT.out, A3, n3, cap3, _, by rw [pre_want, HST.out]; exact HN.out⟩, by have := HWT.out; simp [intOf]; omega⟩
     case pos =>
      have tw : ((want : Int) == 0) = true := by rw [hw0]; rfl
      by_cases hmn : mn ≤ count
      case pos =>
       have hmi : (mn : Int) ≤ (count : Int) := by omega
       have HST : Hid (stC mn mx top count want = ⟨true, arcsC mx top count want⟩) := by unfold Hid stC; rw [decide_eq_true hw0, decide_eq_true hmn]; rfl
       clear hwt hw0 hmn
       go_upto_region 8 with fail
       have hd := drewBn wr
       replace HMS := Lib.hid (HMS.out.stay hd)
       obtain ⟨bx, hbx⟩ : ∃ bx, bx = w.heap.size := ⟨_, rfl⟩
       obtain ⟨b3, hb3⟩ : ∃ b3, b3 = w.heap.size + 2 := ⟨_, rfl⟩
       have hS0 : wr.drew.cell? ⟨bx, 0, none⟩ = some (.int .i64 (mn : Int)) ∧ wr.drew.cell? ⟨bx, 1, none⟩ = some (.int .i64 mx) ∧ wr.drew.cell? ⟨bx, 2, none⟩ = some (.int .i64 (top : Int)) ∧ wr.drew.cell? ⟨b3, 0, none⟩ = some (.slice A nl cp) := by rw [hbx, hb3]; exact ⟨HMS.out.c.cell 0, HMS.out.c.cell 1, HMS.out.c.cell 2, HMS.out.b.cell 0⟩
       rw [← hb3, ← hbx]
       have HBX : Hid (bx = w.heap.size) := hbx
       have HB3 : Hid (w.heap.size + 2 = b3) := hb3.symm
       clear hbx hb3 hd x0 x1 x2 s0
       refine wpq_region (fun w' => w'.cell? ⟨bx, 0, none⟩ = some (.int .i64 (mn : Int)) ∧ w'.cell? ⟨bx, 1, none⟩ = some (.int .i64 mx) ∧ w'.cell? ⟨bx, 2, none⟩ = some (.int .i64 (top : Int)) ∧ w'.cell? ⟨b3, 0, none⟩ = some (.slice A nl cp)) 18 (by kernel_rfl) hS0 (fun hHeld => ?_)
       clear hS0
       generalize wr.drew = wd at *
       refine wpq_tk 0 (some 15) [18] (Or.inl ⟨by rfl, fun w hSw => by (obtain ⟨x0, x1, x2, s0⟩ := hSw; go_simp; with_reducible rfl)⟩) hHeld ?_ rfl rfl
       simp only [Act.put, sA, sZ, sS]
       refine wpq_tk 1 (some 16) [18] (Or.inl ⟨by rfl, fun w hSw => by (obtain ⟨x0, x1, x2, s0⟩ := hSw; go_simp; with_reducible rfl)⟩) hHeld ?_ rfl rfl
       simp only [Act.put, sA, sZ, sS]
       refine wpq_tk 2 (some 17) [18] (Or.inl ⟨by rfl, fun w hSw => by (obtain ⟨x0, x1, x2, s0⟩ := hSw; go_simp; with_reducible rfl)⟩) hHeld ?_ rfl rfl
       simp only [Act.put, sA, sZ, sS]
       refine wpq_tk 3 (some 18) [18] (Or.inl ⟨by rfl, fun w hSw => by (obtain ⟨x0, x1, x2, s0⟩ := hSw; go_simp; with_reducible rfl)⟩) hHeld ?_ rfl rfl
       simp only [Act.put, sA, sZ, sS]
       refine wpq_tk 4 (some 19) [18] (Or.inl ⟨by rfl, fun w hSw => by (obtain ⟨x0, x1, x2, s0⟩ := hSw; go_simp; with_reducible rfl)⟩) hHeld ?_ rfl rfl
       simp only [Act.put, sA, sZ, sS]
       refine wpq_tk 5 (some 20) [18] (Or.inl ⟨by rfl, fun w hSw => by (obtain ⟨x0, x1, x2, s0⟩ := hSw; go_simp; with_reducible rfl)⟩) hHeld ?_ rfl rfl
       simp only [Act.put, sA, sZ, sS]
       refine wpq_tk 6 (some 21) [18] (Or.inl ⟨by rfl, fun w hSw => by (obtain ⟨x0, x1, x2, s0⟩ := hSw; go_simp; with_reducible rfl)⟩) hHeld ?_ rfl rfl
       simp only [Act.put, sA, sZ, sS]
       refine wpq_tk 7 (some 22) [18] (Or.inl ⟨by rfl, fun w hSw => by (obtain ⟨x0, x1, x2, s0⟩ := hSw; go_simp; with_reducible rfl)⟩) hHeld ?_ rfl rfl
       simp only [Act.put, sA, sZ, sS]
       refine wpq_tk 8 (some 23) [18] (Or.inl ⟨by rfl, fun w hSw => by (obtain ⟨x0, x1, x2, s0⟩ := hSw; go_simp; with_reducible rfl)⟩) hHeld ?_ rfl rfl
       simp only [Act.put, sA, sZ, sS]
       refine wpq_tk 9 (some 24) [18] (Or.inl ⟨by rfl, fun w hSw => by (obtain ⟨x0, x1, x2, s0⟩ := hSw; go_simp; with_reducible rfl)⟩) hHeld ?_ rfl rfl
       simp only [Act.put, sA, sZ, sS]
       refine wpq_tk 10 (some 25) [18] (Or.inl ⟨by rfl, fun w hSw => by (obtain ⟨x0, x1, x2, s0⟩ := hSw; go_simp; with_reducible rfl)⟩) hHeld ?_ rfl rfl
       simp only [Act.put, sA, sZ, sS]
       refine wpq_tk 11 (some 26) [18] (Or.inl ⟨by rfl, fun w hSw => by (obtain ⟨x0, x1, x2, s0⟩ := hSw; go_simp; with_reducible rfl)⟩) hHeld ?_ rfl rfl
       simp only [Act.put, sA, sZ, sS]
       refine wpq_tk 12 (some 27) [18] (Or.inl ⟨by rfl, fun w hSw => by (obtain ⟨x0, x1, x2, s0⟩ := hSw; go_simp; with_reducible rfl)⟩) hHeld ?_ rfl rfl
       simp only [Act.put, sA, sZ, sS]
       refine wpq_one 13 (by kernel_rfl) rfl (fun K hK => ?_)
       go_simp
       refine (HAR.out _).mono ?_
       rintro e wx ⟨av, rfl, hav, hb⟩
       replace hHeld := show wx.cell? ⟨bx, 0, none⟩ = some (.int .i64 (mn : Int)) ∧ wx.cell? ⟨bx, 1, none⟩ = some (.int .i64 mx) ∧ wx.cell? ⟨bx, 2, none⟩ = some (.int .i64 (top : Int)) ∧ wx.cell? ⟨b3, 0, none⟩ = some (.slice A nl cp) from ⟨(hb.cell (p := ⟨bx, 0, none⟩) (cell_ltF hHeld.1)).trans hHeld.1, (hb.cell (p := ⟨bx, 1, none⟩) (cell_ltF hHeld.2.1)).trans hHeld.2.1, (hb.cell (p := ⟨bx, 2, none⟩) (cell_ltF hHeld.2.2.1)).trans hHeld.2.2.1, (hb.cell (p := ⟨b3, 0, none⟩) (cell_ltF hHeld.2.2.2)).trans hHeld.2.2.2⟩
       have HAV := Lib.hid ((hav.arcs (N := fun g => wd.heap.size ≤ g) (fun g h _ => h)).mono (M := fun g => b3 + 1 ≤ g ∧ (Value.slice A nl cp).ownBlock ≠ some g) (fun g h _ => ⟨by have := HMS.out.b.lt; rw [HB3.out] at this; omega, fun he => by have := (HMS.out.st.own.lt g he).2; omega⟩))
       obtain ⟨aa, acap, haf, -⟩ := hav.form
       replace HMS := Lib.hid (HMS.out.stay hb)
       generalize arcsC mx top count want = arcs at *
       generalize arcs.length = an at *
       subst haf
       clear hb hav
       generalize wx = wd at *
       refine hK.out _ _ hHeld (fun hHeld => ?_)
       clear hK K
       refine wpq_tk 14 (some 29) [18] (Or.inl ⟨by rfl, fun w hSw => by (obtain ⟨x0, x1, x2, s0⟩ := hSw; go_simp; with_reducible rfl)⟩) hHeld ?_ rfl rfl
       simp only [Act.put, sA, sZ, sS]
       refine wpq_one 15 (by kernel_rfl) rfl (fun K hK => ?_)
       go_simp
       have hb7 : Below wd.heap.size wd (wd.alloc (.cells (stV (true, .slice aa an acap)).toArray 70)) := (Below.refl _ _).alloc (Nat.le_refl _) _
       refine hK.out _ _ ⟨(hb7.cell (p := ⟨bx, 0, none⟩) (cell_ltF hHeld.1)).trans hHeld.1, (hb7.cell (p := ⟨bx, 1, none⟩) (cell_ltF hHeld.2.1)).trans hHeld.2.1, (hb7.cell (p := ⟨bx, 2, none⟩) (cell_ltF hHeld.2.2.1)).trans hHeld.2.2.1, (hb7.cell (p := ⟨b3, 0, none⟩) (cell_ltF hHeld.2.2.2)).trans hHeld.2.2.2⟩ (fun hHeld2 => ?_)
       clear hK K hb7 hHeld2
       refine wpq_one 16 (by kernel_rfl) rfl (fun K hK => ?_)
       refine step_pushL (f := stV) (x := (true, .slice aa an acap)) (v := .slice A nl cp) (l := ps) (B := w.heap.size + 3) (e := 70) (sz := 2) rfl _ _ rfl elemS stV_len (by decide) (stV_one _ _ _ _) HMS.out.st.own rfl rfl rfl (by have := HMS.out.st.len; have := HLN.out; omega) (by have := HMS.out.b.lt; omega) ?_
       rintro v3 w7 hown3 hg3 hfm3 hat3
       obtain ⟨A3, n3, cap3, rfl⟩ : ∃ A n cap, v3 = .slice A n cap := (by obtain ⟨A, c, h⟩ := hfm3; exact ⟨A, _, c, h⟩)
       have HN := Lib.hid (HMS.out.push (acc := true) hown3 hg3 hat3 (HB3.out ▸ HAV.out))
       have hgb := grown_belowL hg3 (fun x hx => (HMS.out.st.own.lt x hx).1) (by have := HMS.out.b.lt; omega)
       have hb3 : BoxV b3 29 [.slice A nl cp] w7 := HB3.out ▸ (hgb.block _ (by omega)).trans HMS.out.b
       have hf := hb3.free 0
       have hc := hb3.cell 0
       have hS : w7.cell? ⟨bx, 0, none⟩ = some (.int .i64 (mn : Int)) ∧ w7.cell? ⟨bx, 1, none⟩ = some (.int .i64 mx) ∧ w7.cell? ⟨bx, 2, none⟩ = some (.int .i64 (top : Int)) ∧ w7.cell? ⟨b3, 0, none⟩ = some (.slice A nl cp) := ⟨(hgb.cell (p := ⟨bx, 0, none⟩) (by have := HBX.out; show bx < w.heap.size + 3; omega)).trans hHeld.1, (hgb.cell (p := ⟨bx, 1, none⟩) (by have := HBX.out; show bx < w.heap.size + 3; omega)).trans hHeld.2.1, (hgb.cell (p := ⟨bx, 2, none⟩) (by have := HBX.out; show bx < w.heap.size + 3; omega)).trans hHeld.2.2.1, hc⟩
       clear hown3 hg3 hfm3 hat3 hgb hb3
       refine hK.out _ _ hS (fun hHeld => ?_)
       clear hK K hS
       refine wpq_tk 17 (some 32) [18] (Or.inl ⟨by rfl, fun w hSw => by (obtain ⟨x0, x1, x2, s0⟩ := hSw; go_simp; with_reducible rfl)⟩) hHeld ?_ rfl rfl
       simp only [Act.put, List.setIfInBounds_toArray]
       refine wpq_end 18 (by kernel_rfl) rfl (by kernel_rfl) (fun K hK => ?_)
       go_simp
       refine hK.out _ _ ?_
       clear hK K
       refine wpq_done (by kernel_rfl) ?_ _
       go_simp
       have hq1 := HBX.out
       subst hq1
       have hq2 := HB3.out
       subst hq2
       go_wp2_with fail
       exact ⟨⟨want + 1, by simp, HWT.out, A3, n3, cap3, _, by rw [pre_want, HST.out]; exact HN.out⟩, by have := HWT.out; simp [intOf]; omega⟩
      case neg =>
       have hmi : ¬ (mn : Int) ≤ (count : Int) := by omega
       have HST : Hid (stC mn mx top count want = ⟨false, arcsC mx top count want⟩) := by unfold Hid stC; rw [decide_eq_true hw0, decide_eq_false hmn]; rfl
       clear hwt hw0 hmn
       go_upto_region 8 with fail
       have hd := drewBn wr
       replace HMS := Lib.hid (HMS.out.stay hd)
       obtain ⟨bx, hbx⟩ : ∃ bx, bx = w.heap.size := ⟨_, rfl⟩
       obtain ⟨b3, hb3⟩ : ∃ b3, b3 = w.heap.size + 2 := ⟨_, rfl⟩
       have hS0 : wr.drew.cell? ⟨bx, 0, none⟩ = some (.int .i64 (mn : Int)) ∧ wr.drew.cell? ⟨bx, 1, none⟩ = some (.int .i64 mx) ∧ wr.drew.cell? ⟨bx, 2, none⟩ = some (.int .i64 (top : Int)) ∧ wr.drew.cell? ⟨b3, 0, none⟩ = some (.slice A nl cp) := by rw [hbx, hb3]; exact ⟨HMS.out.c.cell 0, HMS.out.c.cell 1, HMS.out.c.cell 2, HMS.out.b.cell 0⟩
       rw [← hb3, ← hbx]
       have HBX : Hid (bx = w.heap.size) := hbx
       have HB3 : Hid (w.heap.size + 2 = b3) := hb3.symm
       clear hbx hb3 hd x0 x1 x2 s0
       refine wpq_region (fun w' => w'.cell? ⟨bx, 0, none⟩ = some (.int .i64 (mn : Int)) ∧ w'.cell? ⟨bx, 1, none⟩ = some (.int .i64 mx) ∧ w'.cell? ⟨bx, 2, none⟩ = some (.int .i64 (top : Int)) ∧ w'.cell? ⟨b3, 0, none⟩ = some (.slice A nl cp)) 18 (by kernel_rfl) hS0 (fun hHeld => ?_)
       clear hS0
       generalize wr.drew = wd at *
       refine wpq_tk 0 (some 15) [18] (Or.inl ⟨by rfl, fun w hSw => by (obtain ⟨x0, x1, x2, s0⟩ := hSw; go_simp; with_reducible rfl)⟩) hHeld ?_ rfl rfl
       simp only [Act.put, sA, sZ, sS]
       refine wpq_tk 1 (some 16) [18] (Or.inl ⟨by rfl, fun w hSw => by (obtain ⟨x0, x1, x2, s0⟩ := hSw; go_simp; with_reducible rfl)⟩) hHeld ?_ rfl rfl
       simp only [Act.put, sA, sZ, sS]
       refine wpq_tk 2 (some 17) [18] (Or.inl ⟨by rfl, fun w hSw => by (obtain ⟨x0, x1, x2, s0⟩ := hSw; go_simp; with_reducible rfl)⟩) hHeld ?_ rfl rfl
       simp only [Act.put, sA, sZ, sS]
       refine wpq_tk 3 (some 18) [18] (Or.inl ⟨by rfl, fun w hSw => by (obtain ⟨x0, x1, x2, s0⟩ := hSw; go_simp; with_reducible rfl)⟩) hHeld ?_ rfl rfl
       simp only [Act.put, sA, sZ, sS]
       refine wpq_tk 4 (some 19) [18] (Or.inl ⟨by rfl, fun w hSw => by (obtain ⟨x0, x1, x2, s0⟩ := hSw; go_simp; with_reducible rfl)⟩) hHeld ?_ rfl rfl
       simp only [Act.put, sA, sZ, sS]
       refine wpq_tk 5 (some 20) [18] (Or.inl ⟨by rfl, fun w hSw => by (obtain ⟨x0, x1, x2, s0⟩ := hSw; go_simp; with_reducible rfl)⟩) hHeld ?_ rfl rfl
       simp only [Act.put, sA, sZ, sS]
       refine wpq_tk 6 (some 21) [18] (Or.inl ⟨by rfl, fun w hSw => by (obtain ⟨x0, x1, x2, s0⟩ := hSw; go_simp; with_reducible rfl)⟩) hHeld ?_ rfl rfl
       simp only [Act.put, sA, sZ, sS]
       refine wpq_tk 7 (some 22) [18] (Or.inl ⟨by rfl, fun w hSw => by (obtain ⟨x0, x1, x2, s0⟩ := hSw; go_simp; with_reducible rfl)⟩) hHeld ?_ rfl rfl
       simp only [Act.put, sA, sZ, sS]
       refine wpq_tk 8 (some 23) [18] (Or.inl ⟨by rfl, fun w hSw => by (obtain ⟨x0, x1, x2, s0⟩ := hSw; go_simp; with_reducible rfl)⟩) hHeld ?_ rfl rfl
       simp only [Act.put, sA, sZ, sS]
       refine wpq_tk 9 (some 24) [18] (Or.inl ⟨by rfl, fun w hSw => by (obtain ⟨x0, x1, x2, s0⟩ := hSw; go_simp; with_reducible rfl)⟩) hHeld ?_ rfl rfl
       simp only [Act.put, sA, sZ, sS]
       refine wpq_tk 10 (some 25) [18] (Or.inl ⟨by rfl, fun w hSw => by (obtain ⟨x0, x1, x2, s0⟩ := hSw; go_simp; with_reducible rfl)⟩) hHeld ?_ rfl rfl
       simp only [Act.put, sA, sZ, sS]
       refine wpq_tk 11 (some 26) [18] (Or.inl ⟨by rfl, fun w hSw => by (obtain ⟨x0, x1, x2, s0⟩ := hSw; go_simp; with_reducible rfl)⟩) hHeld ?_ rfl rfl
       simp only [Act.put, sA, sZ, sS]
       refine wpq_tk 12 (some 27) [18] (Or.inl ⟨by rfl, fun w hSw => by (obtain ⟨x0, x1, x2, s0⟩ := hSw; go_simp; with_reducible rfl)⟩) hHeld ?_ rfl rfl
       simp only [Act.put, sA, sZ, sS]
       refine wpq_one 13 (by kernel_rfl) rfl (fun K hK => ?_)
       go_simp
       refine (HAR.out _).mono ?_
       rintro e wx ⟨av, rfl, hav, hb⟩
       replace hHeld := show wx.cell? ⟨bx, 0, none⟩ = some (.int .i64 (mn : Int)) ∧ wx.cell? ⟨bx, 1, none⟩ = some (.int .i64 mx) ∧ wx.cell? ⟨bx, 2, none⟩ = some (.int .i64 (top : Int)) ∧ wx.cell? ⟨b3, 0, none⟩ = some (.slice A nl cp) from ⟨(hb.cell (p := ⟨bx, 0, none⟩) (cell_ltF hHeld.1)).trans hHeld.1, (hb.cell (p := ⟨bx, 1, none⟩) (cell_ltF hHeld.2.1)).trans hHeld.2.1, (hb.cell (p := ⟨bx, 2, none⟩) (cell_ltF hHeld.2.2.1)).trans hHeld.2.2.1, (hb.cell (p := ⟨b3, 0, none⟩) (cell_ltF hHeld.2.2.2)).trans hHeld.2.2.2⟩
       have HAV := Lib.hid ((hav.arcs (N := fun g => wd.heap.size ≤ g) (fun g h _ => h)).mono (M := fun g => b3 + 1 ≤ g ∧ (Value.slice A nl cp).ownBlock ≠ some g) (fun g h _ => ⟨by have := HMS.out.b.lt; rw [HB3.out] at this; omega, fun he => by have := (HMS.out.st.own.lt g he).2; omega⟩))
       obtain ⟨aa, acap, haf, -⟩ := hav.form
       replace HMS := Lib.hid (HMS.out.stay hb)
       generalize arcsC mx top count want = arcs at *
       generalize arcs.length = an at *
       subst haf
       clear hb hav
       generalize wx = wd at *
       refine hK.out _ _ hHeld (fun hHeld => ?_)
       clear hK K
       refine wpq_tk 14 (some 29) [18] (Or.inl ⟨by rfl, fun w hSw => by (obtain ⟨x0, x1, x2, s0⟩ := hSw; go_simp; with_reducible rfl)⟩) hHeld ?_ rfl rfl
       simp only [Act.put, sA, sZ, sS]
       refine wpq_one 15 (by kernel_rfl) rfl (fun K hK => ?_)
       go_simp
       have hb7 : Below wd.heap.size wd (wd.alloc (.cells (stV (false, .slice aa an acap)).toArray 70)) := (Below.refl _ _).alloc (Nat.le_refl _) _
       refine hK.out _ _ ⟨(hb7.cell (p := ⟨bx, 0, none⟩) (cell_ltF hHeld.1)).trans hHeld.1, (hb7.cell (p := ⟨bx, 1, none⟩) (cell_ltF hHeld.2.1)).trans hHeld.2.1, (hb7.cell (p := ⟨bx, 2, none⟩) (cell_ltF hHeld.2.2.1)).trans hHeld.2.2.1, (hb7.cell (p := ⟨b3, 0, none⟩) (cell_ltF hHeld.2.2.2)).trans hHeld.2.2.2⟩ (fun hHeld2 => ?_)
       clear hK K hb7 hHeld2
       refine wpq_one 16 (by kernel_rfl) rfl (fun K hK => ?_)
       refine step_pushL (f := stV) (x := (false, .slice aa an acap)) (v := .slice A nl cp) (l := ps) (B := w.heap.size + 3) (e := 70) (sz := 2) rfl _ _ rfl elemS stV_len (by decide) (stV_one _ _ _ _) HMS.out.st.own rfl rfl rfl (by have := HMS.out.st.len; have := HLN.out; omega) (by have := HMS.out.b.lt; omega) ?_
       rintro v3 w7 hown3 hg3 hfm3 hat3
       obtain ⟨A3, n3, cap3, rfl⟩ : ∃ A n cap, v3 = .slice A n cap := (by obtain ⟨A, c, h⟩ := hfm3; exact ⟨A, _, c, h⟩)
       have HN := Lib.hid (HMS.out.push (acc := false) hown3 hg3 hat3 (HB3.out ▸ HAV.out))
       have hgb := grown_belowL hg3 (fun x hx => (HMS.out.st.own.lt x hx).1) (by have := HMS.out.b.lt; omega)
       have hb3 : BoxV b3 29 [.slice A nl cp] w7 := HB3.out ▸ (hgb.block _ (by omega)).trans HMS.out.b
       have hf := hb3.free 0
       have hc := hb3.cell 0
       have hS : w7.cell? ⟨bx, 0, none⟩ = some (.int .i64 (mn : Int)) ∧ w7.cell? ⟨bx, 1, none⟩ = some (.int .i64 mx) ∧ w7.cell? ⟨bx, 2, none⟩ = some (.int .i64 (top : Int)) ∧ w7.cell? ⟨b3, 0, none⟩ = some (.slice A nl cp) := ⟨(hgb.cell (p := ⟨bx, 0, none⟩) (by have := HBX.out; show bx < w.heap.size + 3; omega)).trans hHeld.1, (hgb.cell (p := ⟨bx, 1, none⟩) (by have := HBX.out; show bx < w.heap.size + 3; omega)).trans hHeld.2.1, (hgb.cell (p := ⟨bx, 2, none⟩) (by have := HBX.out; show bx < w.heap.size + 3; omega)).trans hHeld.2.2.1, hc⟩
       clear hown3 hg3 hfm3 hat3 hgb hb3
       refine hK.out _ _ hS (fun hHeld => ?_)
       clear hK K hS
       refine wpq_tk 17 (some 32) [18] (Or.inl ⟨by rfl, fun w hSw => by (obtain ⟨x0, x1, x2, s0⟩ := hSw; go_simp; with_reducible rfl)⟩) hHeld ?_ rfl rfl
       simp only [Act.put, List.setIfInBounds_toArray]
       refine wpq_end 18 (by kernel_rfl) rfl (by kernel_rfl) (fun K hK => ?_)
       go_simp
       refine hK.out _ _ ?_
       clear hK K
       refine wpq_done (by kernel_rfl) ?_ _
       go_simp
       have hq1 := HBX.out
       subst hq1
       have hq2 := HB3.out
       subst hq2
       go_wp2_with fail
       exact ⟨⟨want + 1, by simp, HWT.out, A3, n3, cap3, _, by rw [pre_want, HST.out]; exact HN.out⟩, by have := HWT.out; simp [intOf]; omega⟩
end Go.Proofs.YtpkecepelcppiaaGreatDoor

namespace Go.Proofs.YtpkecepelcppiaaGreatDoor
open Go.RowKit Go.Shelf
set_option maxHeartbeats 4000000
set_option maxRecDepth 100000

def namesB : List ByteArray := namesF.map fun l => ⟨l.toArray⟩
theorem namesB_at (i : Nat) (hi : i < namesB.length) (hi2 : i < namesF.length) : namesF[i] = L namesB[i] := by
 have h : (namesB[i]?).map L = namesF[i]? := by
  unfold namesB
  rw [List.getElem?_map]
  cases namesF[i]? with
  | none => rfl
  | some l => rfl
 rw [List.getElem?_eq_getElem hi, List.getElem?_eq_getElem hi2] at h
 exact (Option.some.inj h).symm
theorem numG_stepB (name : List UInt8) (k : Nat) (hk : k < namesB.length) : numG name k = if L namesB[k] = name then k else numG name (k + 1) := by
 have h2 : k < namesF.length := hk
 rw [numG_step name k h2]
 by_cases h : L namesB[k] = name
 ·exact (if_pos ((namesB_at k hk h2).trans h)).trans (if_pos h).symm
 ·exact (if_neg (fun h3 => h ((namesB_at k hk h2).symm.trans h3))).trans (if_neg h).symm
theorem detG_stepB (s : List UInt8) (k : Nat) (hk : k < namesB.length) : detG s (k + 1) = if chkF (L namesB[k]) s = true then detG s k ++ [L namesB[k]] else detG s k := by
 have h2 : k < namesF.length := hk
 rw [detG_step s k h2]
 by_cases h : chkF (L namesB[k]) s = true
 ·exact (if_pos (by rw [namesB_at k hk h2]; exact h)).trans ((by rw [namesB_at k hk h2] : _ = detG s k ++ [L namesB[k]]).trans (if_pos h).symm)
 ·exact (if_neg (by rw [namesB_at k hk h2]; exact h)).trans (if_neg h).symm
theorem names_blk {w : World} {g : Nat} {T : TypeId} (h : w.heap[g]? = some (.cells (namesB.flatMap strV).toArray T (0, 0))) : RdT w (.slice (some ⟨g, 0, none⟩) 12 12) namesB := slx_block strV_len h (by decide)
theorem fNames_any (w : World) : Calls Tryz.prog 25 #[] w fun e w' => ∃ v, e = .returned v ∧ RdT w' v namesB ∧ Below w.heap.size w w' := by
 go_enter Tryz.func25, Tryz.ntmps25
 go_wp2_with fail
 go_ret
 generalize hW : World.alloc w _ = w1
 obtain ⟨ha, -, hz1, hb1⟩ := alloc_of hW
 exact ⟨_, rfl, names_blk ha, hb1⟩
theorem fNumber_any (s : ByteArray) (w : World) : Calls Tryz.prog 43 #[.string s] w fun e w' => e = .returned (.int .i64 (numF (L s) : Nat)) ∧ Below w.heap.size w w' := by
 have HG := Lib.hid (num_G (L s))
 generalize numF (L s) = r at *
 go_enter Tryz.func43, Tryz.ntmps43
 go_wp2_with fail
 refine (fNames_any w).mono ?_
 rintro e w1 ⟨v, rfl, hr, hb⟩
 obtain ⟨a, cap, rfl, -⟩ := hr.form
 have HR := Lib.hid hr
 have HB := Lib.hid hb
 clear hr hb
 rw [show namesB.length = 12 from rfl]
 rw [show namesB.length = 12 from rfl] at HR
 go_wp2_with fail
 go_loopw [7] (fun kv wr => ∃ k : Nat, kv = .int .i64 (k : Int) ∧ k ≤ 12 ∧ Hid (r = numG (L s) k) ∧ w1 = wr) (fun kv _ => 12 - (intOf kv).toNat)
 case atStart => exact ⟨0, rfl, by omega, HG.out, rfl⟩
 case round =>
  clear HG
  obtain ⟨k, rfl, hk, HG, rfl⟩ := hrel
  by_cases hlt : k < 12
  case neg =>
   have hke : k = 12 := by omega
   subst hke
   have HF : Hid (r = 12) := HG.out.trans (numG_end _)
   clear hlt
   go_wp2_with fail
   go_ret
   exact ⟨by rw [HF.out]; rfl, HB.out⟩
  case pos =>
   have hlti : (k : Int) < 12 := by omega
   have hkB : k < namesB.length := hlt
   obtain ⟨g, o, rfl, hc⟩ := HR.out.at_ k hkB
   have HST := Lib.hid (HG.out.trans (numG_stepB (L s) k hkB))
   have HKL : Hid (k + 1 ≤ 12) := hlt
   generalize namesB[k] = nb at *
   by_cases he : L nb = L s
   ·have te : (nb.toList == s.toList) = true := by rw [toList_L, toList_L, he]; exact beq_self_eq_true _
    have HF : Hid (r = k) := HST.out.trans (if_pos he)
    clear hlt he hkB
    go_wp2_with fail
    go_ret
    exact ⟨by rw [HF.out]; rfl, HB.out⟩
   ·have te : (nb.toList == s.toList) = false := by rw [toList_L, toList_L]; exact beq_false_of_ne he
    have HF : Hid (r = numG (L s) (k + 1)) := HST.out.trans (if_neg he)
    clear hlt he hkB
    go_wp2_with fail
    exact ⟨⟨k + 1, by simp, HKL.out, HF.out, by first | rfl | trivial⟩, by have := HKL.out; simp [intOf]; omega⟩
theorem fSame_yes (a : List ByteArray) (v1 v2 : Value) (w : World) (h1 : RdT w v1 a) (h2 : RdT w v2 a) : Calls Tryz.prog 10 #[v1, v2] w fun e w' => e = .returned (.bool true) ∧ Below w.heap.size w w' := by
 obtain ⟨a1, c1, rfl, hl⟩ := h1.form
 obtain ⟨a2, c2, rfl, -⟩ := h2.form
 have hli : (a.length : Int) ≤ 9223372036854775807 := by simp only [maxLen] at hl; omega
 have H1 := Lib.hid h1
 have H2 := Lib.hid h2
 clear h1 h2 hl
 go_enter Tryz.func10, Tryz.ntmps10
 go_wp2_with fail
 go_loopw [5] (fun kv wr => ∃ k : Nat, kv = .int .i64 (k : Int) ∧ k ≤ a.length ∧ Hid (Below w.heap.size w wr)) (fun kv _ => a.length - (intOf kv).toNat)
 case atStart => exact ⟨0, rfl, Nat.zero_le _, Below.refl _ _⟩
 case round =>
  obtain ⟨k, rfl, hk, HB⟩ := hrel
  by_cases hlt : k < a.length
  case neg =>
   have hge : ¬ (k : Int) < a.length := by omega
   clear hlt
   go_wp2_with fail
   go_ret
   exact ⟨rfl, HB.out⟩
  case pos =>
   have hlti : (k : Int) < a.length := by omega
   obtain ⟨g1, o1, rfl, hc1⟩ := (H1.out.stay HB.out).at_ k hlt
   obtain ⟨g2, o2, rfl, hc2⟩ := (H2.out.stay HB.out).at_ k hlt
   have HK : Hid (k + 1 ≤ a.length) := hlt
   generalize a[k] = x at *
   have tx : (x.toList == x.toList) = true := beq_self_eq_true _
   clear hlt
   go_upto_region 6 with fail
   go_quiet (fail)
   go_wp2_with fail
   exact ⟨⟨k + 1, by simp, HK.out, below_drewN HB.out _⟩, by have := HK.out; simp [intOf]; omega⟩
end Go.Proofs.YtpkecepelcppiaaGreatDoor
