/- datakitref15.letter walked; printed by gen_rpb.py. Conditions: strings of at most 10^8 bytes. -/
import Derived.Test.YtggolmamacoplaaGreatDoorZy18
import Derived.RegionTactic
import Derived.BigRegion
import Derived.Test.YtggolmamacoplaaGreatDoorZy16
import Derived.Test.YtggolmamacoplaaGreatDoorZy10
namespace Go.Proofs.YtggolmamacoplaaGreatDoor
open Go.RowKit Go.Shelf
set_option maxHeartbeats 4000000
set_option maxRecDepth 100000

theorem len_sz : ∀ l : List RX, l.length ≤ SizeOf.sizeOf l
  | [] => Nat.zero_le _
  | x :: t => by
    have := len_sz t
    rw [List.cons.sizeOf_spec, List.length_cons]
    omega
theorem clone_any : ∀ (n : Nat) (p : RX) (c : PC) (w : World), SizeOf.sizeOf p ≤ n → n < 1000000000 → RdP w c p → Calls Tryz.prog 18 #[aggP c] w (RetQ (fun g => w.heap.size ≤ g) p w) := by
  intro n
  induction n with
  | zero =>
    intro p c w hn _ _
    cases p
    rw [RX.mk.sizeOf_spec] at hn
    omega
  | succ n ih =>
    intro p c w hn hn9 hv
    have HN9 := Lib.hid hn9
    clear hn9
    have IH := Lib.hid ih
    have HN := Lib.hid hn
    clear ih hn
    cases hv with
    | mk op lo hi mn mx l lv cs hl hL =>
    obtain ⟨a, cap, rfl, h1, h2, h3, h4⟩ := hl
    have HL := Lib.hid h4
    have HLi := Lib.hid hL
    have hm : (l.length : Int) ≤ 9223372036854775807 := by simp only [maxLen] at h2; omega
    clear h4 hL h1 h2 h3
    simp only [aggP]
    go_enter Tryz.func18, Tryz.ntmps18
    go_upto_region 3 with fail
    generalize hW1 : World.alloc w _ = w1
    obtain ⟨ha1, -, hz1, hb1⟩ := alloc_of hW1
    generalize hW2 : World.alloc w1 _ = w2
    obtain ⟨ha2, -, hz2, hb2⟩ := alloc_of hW2
    generalize hW3 : World.alloc w2 _ = w3
    obtain ⟨ha3, -, hz3, hb3⟩ := alloc_of hW3
    rw [hz1] at ha2
    rw [hz2, hz1] at ha3
    have hb13 : Below w1.heap.size w1 w3 := hb2.trans (hb3.mono hb2.size)
    have hb03 : Below w.heap.size w w3 := hb1.trans (hb13.mono hb1.size)
    have ha1' := (hb13.block _ (by omega)).trans ha1
    have ha2' := (hb3.block _ (by omega)).trans ha2
    have HB := Lib.hid hb03
    have H2 := Lib.hid ha2'
    have H3 := Lib.hid ha3
    have HZ : Hid (w.heap.size + 3 ≤ w3.heap.size) := by unfold Hid; omega
    obtain ⟨c0, c1, c2, c3, c4, c5⟩ := row6 ha1'
    clear hW1 hW2 hW3 ha1 ha2 hz1 hz2 hz3 hb1 hb2 hb3 hb13 hb03 ha1' ha2' ha3
    go_wp2_with fail
    go_loopw [5, 11] (fun _ iv wr => ∃ (k : Nat) (cl : List PC) (A : Option Addr) (m : Nat), k ≤ l.length ∧ iv = .int .i64 (k : Int) ∧ Hid (wr.heap[w.heap.size + 1 + 1]? = some (.cells #[.int .i64 op, .int .i64 lo, .int .i64 hi, .int .i64 mn, .int .i64 mx, .slice A k m] 25 (0, 0)))
      ∧ Hid (OwnP (fun g => w.heap.size + 3 ≤ g) (w.heap.size + 3) wr (.slice A k m) cl (l.take k)) ∧ Hid (wr.heap[w.heap.size + 1]? = some (.cells #[.int .i64 0, .int .i64 0, .int .i64 0, .int .i64 0, .int .i64 0, .slice none 0 0] 25 (0, 0))) ∧ Hid (Below w.heap.size w wr) ∧ Hid (w.heap.size + 3 ≤ wr.heap.size)) (fun _ iv _ => l.length - (intOf iv).toNat)
    case atStart =>
      exact ⟨0, [], none, 0, Nat.zero_le _, rfl, H3.out, OwnP.nil _ _ _, H2.out, HB.out, HZ.out⟩
    case round =>
      obtain ⟨k, cl, A, m, hk, rfl, HO, HW, HE, HBR, HZR⟩ := hrel
      clear H2 H3 HB HZ c0 c1 c2 c3 c4 c5
      obtain ⟨o0, o1, o2, o3, o4, o5⟩ := row6 HO.out
      by_cases hlt : k < l.length
      case neg =>
        have hge : ¬ (k : Int) < l.length := by omega
        have hkl : k = l.length := by omega
        subst hkl
        have he := HE.out
        have g0 : wr.frozen? ⟨w.heap.size + 1, 0, none⟩ = false := Lib.frozen_of_heap he 0
        have g1 : wr.frozen? ⟨w.heap.size + 1, 1, none⟩ = false := Lib.frozen_of_heap he 1
        have g2 : wr.frozen? ⟨w.heap.size + 1, 2, none⟩ = false := Lib.frozen_of_heap he 2
        have g3 : wr.frozen? ⟨w.heap.size + 1, 3, none⟩ = false := Lib.frozen_of_heap he 3
        have g4 : wr.frozen? ⟨w.heap.size + 1, 4, none⟩ = false := Lib.frozen_of_heap he 4
        have g5 : wr.frozen? ⟨w.heap.size + 1, 5, none⟩ = false := Lib.frozen_of_heap he 5
        obtain ⟨r0, r1, r2, r3, r4, r5⟩ := row6 he
        clear he hlt
        go_wp2_with fail
        generalize hW : World.setCell _ _ _ = w4
        obtain ⟨h4, hb4⟩ := set6 HE.out _ _ _ _ _ _ hW
        obtain ⟨s0, s1, s2, s3, s4, s5⟩ := row6 h4
        have hown : OwnP (fun g => w.heap.size + 3 ≤ g) (w.heap.size + 3) w4 (.slice A l.length m) cl l := by
          have := HW.out
          rw [List.take_length] at this
          refine this.keep (fun g hg _ => ?_)
          rw [← hW]
          repeat rw [Below.heap_setCell _ _ _ _ (by show g ≠ w.heap.size + 1; omega)]
        refine bodyPost_ret (v := aggP ⟨op, lo, hi, mn, mx, .slice A l.length m⟩) (by simp [results, Tryz.results18, go_sem, s0, s1, s2, s3, s4, s5]) rfl ⟨_, rfl, ?_, HBR.out.trans (hb4.mono (by omega))⟩
        exact (hown.node (fun g h _ => h) op lo hi mn mx).mono (fun g h _ => by omega)
      case pos =>
        have hlti : (k : Int) < l.length := by omega
        obtain ⟨g, o, rfl, hg, hat⟩ := HL.out (by omega)
        have HRD := Lib.hid ((HLi.out k hlt).stays HBR.out)
        have hsz := RX.sz op lo hi mn mx l k hlt
        have HSZ : Hid (SizeOf.sizeOf l[k] ≤ n) := by have := HN.out; unfold Hid; omega
        have hc6 : ∀ j, j < 6 → wr.cell? ⟨g, o + k * 6 + j, none⟩ = (cs k).cells[j]? := fun j hj => (HBR.out.cell (p := ⟨g, o + k * 6 + j, none⟩) hg).trans (hat k hlt j hj)
        have HTK := Lib.hid (List.take_succ_eq_append_getElem hlt)
        clear hsz hat
        generalize l[k] = q at *
        generalize cs k = c at *
        obtain ⟨pa, pcap, hpa⟩ := HRD.out.forms
        generalize q.args.length = pn at *
        obtain ⟨p0, p1, p2, p3, p4, p5⟩ := c
        simp only at hpa
        subst hpa
        obtain ⟨c0, c1, c2, c3, c4, c5⟩ := cells6 hc6
        simp only at c0 c1 c2 c3 c4 c5
        clear hc6 o0 o1 o2 o3 o4 o5
        go_upto_region 6 with fail
        generalize hW : World.alloc wr _ = wa
        obtain ⟨ha, -, hza, hba⟩ := alloc_of hW
        have HY := Lib.hid ha
        have HO2 := Lib.hid ((hba.block _ (Array.getElem?_eq_some_iff.1 HO.out).1).trans HO.out)
        have HE2 := Lib.hid ((hba.block _ (Array.getElem?_eq_some_iff.1 HE.out).1).trans HE.out)
        replace HBR := Lib.hid (HBR.out.trans (hba.mono HBR.out.size))
        replace HRD := Lib.hid (HRD.out.stays hba)
        have HW2 := Lib.hid (HW.out.keep (w' := wa) (fun g _ hg => hba.block g hg))
        clear hW ha hza hba c0 c1 c2 c3 c4 c5
        refine wp_region_held_drew (S := fun w' => w'.heap[wr.heap.size]? = some (.cells [.int .i64 p0, .int .i64 p1, .int .i64 p2, .int .i64 p3, .int .i64 p4, .slice pa pn pcap].toArray 25 (0, 0))) (by kernel_rfl) HY.out (fun hHeld => ?_)
        refine take_at 0 (some 15) rfl rfl (by kernel_rfl) (by kernel_rfl) (by kernel_rfl) (fun _ _ _ h => h) (Or.inl ⟨by rfl, fun w hSw => by (obtain ⟨q0, q1, q2, q3, q4, q5⟩ := row6 hSw; go_simp; with_reducible rfl)⟩) hHeld ?_
        simp only [Act.put, List.setIfInBounds_toArray, List.set_cons_zero, List.set_cons_succ]
        refine take_at 2 (some 17) rfl rfl (by kernel_rfl) (by kernel_rfl) (by kernel_rfl) (fun _ _ _ h => h) (Or.inl ⟨by rfl, fun w hSw => by (obtain ⟨q0, q1, q2, q3, q4, q5⟩ := row6 hSw; go_simp; with_reducible rfl)⟩) hHeld ?_
        simp only [Act.put, List.setIfInBounds_toArray, List.set_cons_zero, List.set_cons_succ]
        refine wpAnyH_ready (rs := [1, 3]) (by kernel_rfl) (by simp) ?_
        refine AllReadyH.cons rfl (fun K hK => ?_) (AllReadyH.cons rfl (fun K hK => ?_) AllReadyH.nil)
        · obtain ⟨o0, o1, o2, o3, o4, o5⟩ := row6 HO2.out
          go_simp
          have HRd := Lib.hid (HRD.out.stays (drewBn wa))
          have HBd := Lib.hid (drewBn wa)
          have HYd : Hid ((wa.drew).heap[wr.heap.size]? = _) := HY.out
          generalize wa.drew = wd at *
          clear hHeld
          refine hK.out _ _ HYd.out (fun hHeld => ?_)
          clear hK K
          refine wpAnyH_ready (rs := [3]) (by kernel_rfl) (by simp) ?_
          refine AllReadyH.cons rfl (fun K hK => ?_) AllReadyH.nil
          go_simp
          refine (IH.out q _ wd HSZ.out (by have := HN9.out; omega) HRd.out).mono ?_
          rintro e u1 ⟨c1, rfl, hq1, hb1⟩
          have HQ1 := Lib.hid hq1
          have HB1 := Lib.hid hb1
          have HY1 := Lib.hid ((hb1.block _ (Array.getElem?_eq_some_iff.1 HYd.out).1).trans HYd.out)
          clear hq1 hb1 hHeld
          refine hK.out _ _ HY1.out (fun hHeld => ?_)
          clear hK K
          refine wpAnyH_ready (rs := [4]) (by kernel_rfl) (by simp) ?_
          refine AllReadyH.cons rfl (fun K hK => ?_) AllReadyH.nil
          go_simp
          have HO1 := Lib.hid ((HB1.out.block _ (by have := HBd.out.size; have := (Array.getElem?_eq_some_iff.1 HO2.out).1; omega)).trans ((HBd.out.block _ (Array.getElem?_eq_some_iff.1 HO2.out).1).trans HO2.out))
          have HW3 := Lib.hid ((HW2.out.keep (w' := wd) (fun g _ hg => HBd.out.block g hg)).keep (w' := u1) (fun g _ hg => HB1.out.block g hg))
          have hY2 : (u1.alloc (Obj.cells #[.int .i64 c1.op, .int .i64 c1.lo, .int .i64 c1.hi, .int .i64 c1.mn, .int .i64 c1.mx, c1.a] 25)).heap[wr.heap.size]? = _ := (heap_alloc_old u1 _ (Array.getElem?_eq_some_iff.1 HY1.out).1).trans HY1.out
          clear hHeld
          refine hK.out _ _ hY2 (fun hHeld => ?_)
          clear hK K hHeld
          refine wpAnyH_ready (rs := [5]) (by kernel_rfl) (by simp) ?_
          refine AllReadyH.cons rfl (fun K hK => ?_) AllReadyH.nil
          rw [if_pos (by kernel_rfl)]
          refine wp_pushP (N := fun g => w.heap.size + 3 ≤ g) (B := w.heap.size + 3) (c := c1) (p := q) (v := .slice A k m) (cs := cl) (ps := l.take k) _ _ rfl HW3.out ?hq rfl rfl rfl ?hn ?hb ?_
          case hq =>
            refine HQ1.out.mono (fun g hg _ => ?_)
            have h1 := HBd.out.size
            have h2 := (Array.getElem?_eq_some_iff.1 HY.out).1
            have h3 := HZR.out
            refine ⟨by omega, fun he => ?_⟩
            have h4 := (HW.out.1.lt g he.symm).2
            omega
          case hn =>
            have h1 := HW.out.2.1
            rw [List.length_take] at h1
            have h2 := len_sz l
            have h3 := HN.out
            have h4 := HN9.out
            rw [RX.mk.sizeOf_spec] at h3
            omega
          case hb =>
            have h1 := HBd.out.size
            have h2 := (Array.getElem?_eq_some_iff.1 HY.out).1
            have h3 := HZR.out
            have h4 := HB1.out.size
            omega
          rintro v' u3 hown3 hg3 ⟨A3, m3, rfl⟩
          have hcl : cl.length = k := by
            have h1 := HW.out.2.1
            rw [List.length_take] at h1
            omega
          rw [hcl] at hown3
          rw [hcl]
          have HOWN := Lib.hid hown3
          have hlt2 : ∀ x, (some x = (Value.slice A k m).ownBlock) → w.heap.size + 3 ≤ x ∧ x < wr.heap.size := fun x hx => HW.out.1.lt x hx.symm
          have HO3 := Lib.hid ((hg3.block (w.heap.size + 1 + 1) (Array.getElem?_eq_some_iff.1 HO1.out).1 (fun he => by have := (hlt2 _ he).1; omega)).trans HO1.out)
          have hY3 := (hg3.block wr.heap.size (Array.getElem?_eq_some_iff.1 HY1.out).1 (fun he => by have := (hlt2 _ he).2; omega)).trans HY1.out
          refine hK.out _ _ hY3 (fun hHeld => ?_)
          clear hK K
          refine wpAnyH_ready (rs := [6]) (by kernel_rfl) (by simp) ?_
          refine AllReadyH.cons rfl (fun K hK => ?_) AllReadyH.nil
          go_simp
          clear hHeld
          refine hK.out _ _ hY3 (fun hHeld => ?_)
          clear hK K
          refine wpAnyH_ready (rs := [7]) (by kernel_rfl) (by simp) ?_
          refine AllReadyH.cons rfl (fun K hK => ?_) AllReadyH.nil
          have hfz : u3.frozen? ⟨w.heap.size + 1 + 1, 5, none⟩ = false := Lib.frozen_of_heap HO3.out 5
          obtain ⟨t0, t1, t2, t3, t4, t5⟩ := row6 HO3.out
          go_simp
          have HO4 := Lib.hid (heap_setCell_same u3 (w.heap.size + 1 + 1) 5 _ _ (.slice A3 (k + 1) m3) HO3.out)
          generalize hWs : World.setCell u3 _ _ = u4 at *
          have hoth : ∀ x, x ≠ w.heap.size + 1 + 1 → u4.heap[x]? = u3.heap[x]? := fun x hx => by
            rw [← hWs]
            exact Below.heap_setCell _ _ _ _ hx
          have hsz4 : u4.heap.size = u3.heap.size := by rw [← hWs]; simp
          have hY4 := (hoth wr.heap.size (by have := HZR.out; omega)).trans hY3
          have HB4 : Hid (Below w.heap.size w u4) := by
            have h1 := HBR.out.trans (HBd.out.mono HBR.out.size)
            have h2 := h1.trans (HB1.out.mono h1.size)
            have h3 := h2.grown hg3 h2.size (fun x hx => by have := (hlt2 x hx.symm).1; omega)
            rw [← hWs]
            exact h3.setCell (p := ⟨w.heap.size + 1 + 1, 5, none⟩) (by show _ ≤ w.heap.size + 1 + 1; omega) _
          have hel := (Array.getElem?_eq_some_iff.1 HE.out).1
          have hyl := (Array.getElem?_eq_some_iff.1 HY.out).1
          have HE4 : Hid (u4.heap[w.heap.size + 1]? = some (.cells #[.int .i64 0, .int .i64 0, .int .i64 0, .int .i64 0, .int .i64 0, .slice none 0 0] 25 (0, 0))) := by
            have h1 := (HBd.out.block _ (Array.getElem?_eq_some_iff.1 HE2.out).1).trans HE2.out
            have h2 := (HB1.out.block _ (Array.getElem?_eq_some_iff.1 h1).1).trans h1
            have h3 := (hg3.block _ (Array.getElem?_eq_some_iff.1 h2).1 (fun he => by have := (hlt2 _ he).1; omega)).trans h2
            exact (hoth _ (by omega)).trans h3
          have HZ4 : Hid (w.heap.size + 3 ≤ u4.heap.size) := by
            have h1 := HBd.out.size
            have h2 := HB1.out.size
            have h3 := hg3.size
            have h4 := HZR.out
            unfold Hid
            omega
          have HW4 : Hid (OwnP (fun g => w.heap.size + 3 ≤ g) (w.heap.size + 3) u4 (.slice A3 (k + 1) m3) (cl ++ [c1]) (l.take (k + 1))) := by
            unfold Hid
            rw [HTK.out]
            exact HOWN.out.keep (fun g hg _ => hoth g (by omega))
          clear hHeld
          refine hK.out _ _ hY4 (fun hHeld => ?_)
          clear hK K
          refine wpAnyH_done (by kernel_rfl) ?_ _
          clear hHeld
          go_simp
          go_wp2_with fail
          exact ⟨⟨k + 1, cl ++ [c1], A3, m3, by omega, rfl, HO4.out, HW4.out, HE4.out, HB4.out, HZ4.out⟩, by simp [intOf]; omega⟩
        · go_simp
          have HRd := Lib.hid (HRD.out.stays (drewBn wa))
          have HBd := Lib.hid (drewBn wa)
          have HYd : Hid ((wa.drew).heap[wr.heap.size]? = _) := HY.out
          generalize wa.drew = wd at *
          refine (IH.out q _ wd HSZ.out (by have := HN9.out; omega) HRd.out).mono ?_
          rintro e u1 ⟨c1, rfl, hq1, hb1⟩
          have HQ1 := Lib.hid hq1
          have HB1 := Lib.hid hb1
          have HY1 := Lib.hid ((hb1.block _ (Array.getElem?_eq_some_iff.1 HYd.out).1).trans HYd.out)
          clear hq1 hb1 hHeld
          refine hK.out _ _ HY1.out (fun hHeld => ?_)
          clear hK K
          have HO1 := Lib.hid ((HB1.out.block _ (by have := HBd.out.size; have := (Array.getElem?_eq_some_iff.1 HO2.out).1; omega)).trans ((HBd.out.block _ (Array.getElem?_eq_some_iff.1 HO2.out).1).trans HO2.out))
          have HW3 := Lib.hid ((HW2.out.keep (w' := wd) (fun g _ hg => HBd.out.block g hg)).keep (w' := u1) (fun g _ hg => HB1.out.block g hg))
          refine wpAnyH_ready (rs := [1, 4]) (by kernel_rfl) (by simp) ?_
          refine AllReadyH.cons rfl (fun K hK => ?_) (AllReadyH.cons rfl (fun K hK => ?_) AllReadyH.nil)
          · obtain ⟨o0, o1, o2, o3, o4, o5⟩ := row6 HO1.out
            go_simp
            clear hHeld
            refine hK.out _ _ HY1.out (fun hHeld => ?_)
            clear hK K
            refine wpAnyH_ready (rs := [4]) (by kernel_rfl) (by simp) ?_
            refine AllReadyH.cons rfl (fun K hK => ?_) AllReadyH.nil
            go_simp
            have hY2 : (u1.alloc (Obj.cells #[.int .i64 c1.op, .int .i64 c1.lo, .int .i64 c1.hi, .int .i64 c1.mn, .int .i64 c1.mx, c1.a] 25)).heap[wr.heap.size]? = _ := (heap_alloc_old u1 _ (Array.getElem?_eq_some_iff.1 HY1.out).1).trans HY1.out
            clear hHeld
            refine hK.out _ _ hY2 (fun hHeld => ?_)
            clear hK K hHeld
            refine wpAnyH_ready (rs := [5]) (by kernel_rfl) (by simp) ?_
            refine AllReadyH.cons rfl (fun K hK => ?_) AllReadyH.nil
            rw [if_pos (by kernel_rfl)]
            refine wp_pushP (N := fun g => w.heap.size + 3 ≤ g) (B := w.heap.size + 3) (c := c1) (p := q) (v := .slice A k m) (cs := cl) (ps := l.take k) _ _ rfl HW3.out ?hq rfl rfl rfl ?hn ?hb ?_
            case hq =>
              refine HQ1.out.mono (fun g hg _ => ?_)
              have h1 := HBd.out.size
              have h2 := (Array.getElem?_eq_some_iff.1 HY.out).1
              have h3 := HZR.out
              refine ⟨by omega, fun he => ?_⟩
              have h4 := (HW.out.1.lt g he.symm).2
              omega
            case hn =>
              have h1 := HW.out.2.1
              rw [List.length_take] at h1
              have h2 := len_sz l
              have h3 := HN.out
              have h4 := HN9.out
              rw [RX.mk.sizeOf_spec] at h3
              omega
            case hb =>
              have h1 := HBd.out.size
              have h2 := (Array.getElem?_eq_some_iff.1 HY.out).1
              have h3 := HZR.out
              have h4 := HB1.out.size
              omega
            rintro v' u3 hown3 hg3 ⟨A3, m3, rfl⟩
            have hcl : cl.length = k := by
              have h1 := HW.out.2.1
              rw [List.length_take] at h1
              omega
            rw [hcl] at hown3
            rw [hcl]
            have HOWN := Lib.hid hown3
            have hlt2 : ∀ x, (some x = (Value.slice A k m).ownBlock) → w.heap.size + 3 ≤ x ∧ x < wr.heap.size := fun x hx => HW.out.1.lt x hx.symm
            have HO3 := Lib.hid ((hg3.block (w.heap.size + 1 + 1) (Array.getElem?_eq_some_iff.1 HO1.out).1 (fun he => by have := (hlt2 _ he).1; omega)).trans HO1.out)
            have hY3 := (hg3.block wr.heap.size (Array.getElem?_eq_some_iff.1 HY1.out).1 (fun he => by have := (hlt2 _ he).2; omega)).trans HY1.out
            refine hK.out _ _ hY3 (fun hHeld => ?_)
            clear hK K
            refine wpAnyH_ready (rs := [6]) (by kernel_rfl) (by simp) ?_
            refine AllReadyH.cons rfl (fun K hK => ?_) AllReadyH.nil
            go_simp
            clear hHeld
            refine hK.out _ _ hY3 (fun hHeld => ?_)
            clear hK K
            refine wpAnyH_ready (rs := [7]) (by kernel_rfl) (by simp) ?_
            refine AllReadyH.cons rfl (fun K hK => ?_) AllReadyH.nil
            have hfz : u3.frozen? ⟨w.heap.size + 1 + 1, 5, none⟩ = false := Lib.frozen_of_heap HO3.out 5
            obtain ⟨t0, t1, t2, t3, t4, t5⟩ := row6 HO3.out
            go_simp
            have HO4 := Lib.hid (heap_setCell_same u3 (w.heap.size + 1 + 1) 5 _ _ (.slice A3 (k + 1) m3) HO3.out)
            generalize hWs : World.setCell u3 _ _ = u4 at *
            have hoth : ∀ x, x ≠ w.heap.size + 1 + 1 → u4.heap[x]? = u3.heap[x]? := fun x hx => by
              rw [← hWs]
              exact Below.heap_setCell _ _ _ _ hx
            have hsz4 : u4.heap.size = u3.heap.size := by rw [← hWs]; simp
            have hY4 := (hoth wr.heap.size (by have := HZR.out; omega)).trans hY3
            have HB4 : Hid (Below w.heap.size w u4) := by
              have h1 := HBR.out.trans (HBd.out.mono HBR.out.size)
              have h2 := h1.trans (HB1.out.mono h1.size)
              have h3 := h2.grown hg3 h2.size (fun x hx => by have := (hlt2 x hx.symm).1; omega)
              rw [← hWs]
              exact h3.setCell (p := ⟨w.heap.size + 1 + 1, 5, none⟩) (by show _ ≤ w.heap.size + 1 + 1; omega) _
            have hel := (Array.getElem?_eq_some_iff.1 HE.out).1
            have hyl := (Array.getElem?_eq_some_iff.1 HY.out).1
            have HE4 : Hid (u4.heap[w.heap.size + 1]? = some (.cells #[.int .i64 0, .int .i64 0, .int .i64 0, .int .i64 0, .int .i64 0, .slice none 0 0] 25 (0, 0))) := by
              have h1 := (HBd.out.block _ (Array.getElem?_eq_some_iff.1 HE2.out).1).trans HE2.out
              have h2 := (HB1.out.block _ (Array.getElem?_eq_some_iff.1 h1).1).trans h1
              have h3 := (hg3.block _ (Array.getElem?_eq_some_iff.1 h2).1 (fun he => by have := (hlt2 _ he).1; omega)).trans h2
              exact (hoth _ (by omega)).trans h3
            have HZ4 : Hid (w.heap.size + 3 ≤ u4.heap.size) := by
              have h1 := HBd.out.size
              have h2 := HB1.out.size
              have h3 := hg3.size
              have h4 := HZR.out
              unfold Hid
              omega
            have HW4 : Hid (OwnP (fun g => w.heap.size + 3 ≤ g) (w.heap.size + 3) u4 (.slice A3 (k + 1) m3) (cl ++ [c1]) (l.take (k + 1))) := by
              unfold Hid
              rw [HTK.out]
              exact HOWN.out.keep (fun g hg _ => hoth g (by omega))
            clear hHeld
            refine hK.out _ _ hY4 (fun hHeld => ?_)
            clear hK K
            refine wpAnyH_done (by kernel_rfl) ?_ _
            clear hHeld
            go_simp
            go_wp2_with fail
            exact ⟨⟨k + 1, cl ++ [c1], A3, m3, by omega, rfl, HO4.out, HW4.out, HE4.out, HB4.out, HZ4.out⟩, by simp [intOf]; omega⟩
          · go_simp
            have hY2 : (u1.alloc (Obj.cells #[.int .i64 c1.op, .int .i64 c1.lo, .int .i64 c1.hi, .int .i64 c1.mn, .int .i64 c1.mx, c1.a] 25)).heap[wr.heap.size]? = _ := (heap_alloc_old u1 _ (Array.getElem?_eq_some_iff.1 HY1.out).1).trans HY1.out
            clear hHeld
            refine hK.out _ _ hY2 (fun hHeld => ?_)
            clear hK K
            refine wpAnyH_ready (rs := [1]) (by kernel_rfl) (by simp) ?_
            refine AllReadyH.cons rfl (fun K hK => ?_) AllReadyH.nil
            have hO2 : (u1.alloc (Obj.cells #[.int .i64 c1.op, .int .i64 c1.lo, .int .i64 c1.hi, .int .i64 c1.mn, .int .i64 c1.mx, c1.a] 25)).heap[w.heap.size + 1 + 1]? = _ := (heap_alloc_old u1 _ (Array.getElem?_eq_some_iff.1 HO1.out).1).trans HO1.out
            obtain ⟨o0, o1, o2, o3, o4, o5⟩ := row6 hO2
            go_simp
            clear hHeld
            refine hK.out _ _ hY2 (fun hHeld => ?_)
            clear hK K hHeld o0 o1 o2 o3 o4 o5
            refine wpAnyH_ready (rs := [5]) (by kernel_rfl) (by simp) ?_
            refine AllReadyH.cons rfl (fun K hK => ?_) AllReadyH.nil
            rw [if_pos (by kernel_rfl)]
            refine wp_pushP (N := fun g => w.heap.size + 3 ≤ g) (B := w.heap.size + 3) (c := c1) (p := q) (v := .slice A k m) (cs := cl) (ps := l.take k) _ _ rfl HW3.out ?hq rfl rfl rfl ?hn ?hb ?_
            case hq =>
              refine HQ1.out.mono (fun g hg _ => ?_)
              have h1 := HBd.out.size
              have h2 := (Array.getElem?_eq_some_iff.1 HY.out).1
              have h3 := HZR.out
              refine ⟨by omega, fun he => ?_⟩
              have h4 := (HW.out.1.lt g he.symm).2
              omega
            case hn =>
              have h1 := HW.out.2.1
              rw [List.length_take] at h1
              have h2 := len_sz l
              have h3 := HN.out
              have h4 := HN9.out
              rw [RX.mk.sizeOf_spec] at h3
              omega
            case hb =>
              have h1 := HBd.out.size
              have h2 := (Array.getElem?_eq_some_iff.1 HY.out).1
              have h3 := HZR.out
              have h4 := HB1.out.size
              omega
            rintro v' u3 hown3 hg3 ⟨A3, m3, rfl⟩
            have hcl : cl.length = k := by
              have h1 := HW.out.2.1
              rw [List.length_take] at h1
              omega
            rw [hcl] at hown3
            rw [hcl]
            have HOWN := Lib.hid hown3
            have hlt2 : ∀ x, (some x = (Value.slice A k m).ownBlock) → w.heap.size + 3 ≤ x ∧ x < wr.heap.size := fun x hx => HW.out.1.lt x hx.symm
            have HO3 := Lib.hid ((hg3.block (w.heap.size + 1 + 1) (Array.getElem?_eq_some_iff.1 HO1.out).1 (fun he => by have := (hlt2 _ he).1; omega)).trans HO1.out)
            have hY3 := (hg3.block wr.heap.size (Array.getElem?_eq_some_iff.1 HY1.out).1 (fun he => by have := (hlt2 _ he).2; omega)).trans HY1.out
            refine hK.out _ _ hY3 (fun hHeld => ?_)
            clear hK K
            refine wpAnyH_ready (rs := [6]) (by kernel_rfl) (by simp) ?_
            refine AllReadyH.cons rfl (fun K hK => ?_) AllReadyH.nil
            go_simp
            clear hHeld
            refine hK.out _ _ hY3 (fun hHeld => ?_)
            clear hK K
            refine wpAnyH_ready (rs := [7]) (by kernel_rfl) (by simp) ?_
            refine AllReadyH.cons rfl (fun K hK => ?_) AllReadyH.nil
            have hfz : u3.frozen? ⟨w.heap.size + 1 + 1, 5, none⟩ = false := Lib.frozen_of_heap HO3.out 5
            obtain ⟨t0, t1, t2, t3, t4, t5⟩ := row6 HO3.out
            go_simp
            have HO4 := Lib.hid (heap_setCell_same u3 (w.heap.size + 1 + 1) 5 _ _ (.slice A3 (k + 1) m3) HO3.out)
            generalize hWs : World.setCell u3 _ _ = u4 at *
            have hoth : ∀ x, x ≠ w.heap.size + 1 + 1 → u4.heap[x]? = u3.heap[x]? := fun x hx => by
              rw [← hWs]
              exact Below.heap_setCell _ _ _ _ hx
            have hsz4 : u4.heap.size = u3.heap.size := by rw [← hWs]; simp
            have hY4 := (hoth wr.heap.size (by have := HZR.out; omega)).trans hY3
            have HB4 : Hid (Below w.heap.size w u4) := by
              have h1 := HBR.out.trans (HBd.out.mono HBR.out.size)
              have h2 := h1.trans (HB1.out.mono h1.size)
              have h3 := h2.grown hg3 h2.size (fun x hx => by have := (hlt2 x hx.symm).1; omega)
              rw [← hWs]
              exact h3.setCell (p := ⟨w.heap.size + 1 + 1, 5, none⟩) (by show _ ≤ w.heap.size + 1 + 1; omega) _
            have hel := (Array.getElem?_eq_some_iff.1 HE.out).1
            have hyl := (Array.getElem?_eq_some_iff.1 HY.out).1
            have HE4 : Hid (u4.heap[w.heap.size + 1]? = some (.cells #[.int .i64 0, .int .i64 0, .int .i64 0, .int .i64 0, .int .i64 0, .slice none 0 0] 25 (0, 0))) := by
              have h1 := (HBd.out.block _ (Array.getElem?_eq_some_iff.1 HE2.out).1).trans HE2.out
              have h2 := (HB1.out.block _ (Array.getElem?_eq_some_iff.1 h1).1).trans h1
              have h3 := (hg3.block _ (Array.getElem?_eq_some_iff.1 h2).1 (fun he => by have := (hlt2 _ he).1; omega)).trans h2
              exact (hoth _ (by omega)).trans h3
            have HZ4 : Hid (w.heap.size + 3 ≤ u4.heap.size) := by
              have h1 := HBd.out.size
              have h2 := HB1.out.size
              have h3 := hg3.size
              have h4 := HZR.out
              unfold Hid
              omega
            have HW4 : Hid (OwnP (fun g => w.heap.size + 3 ≤ g) (w.heap.size + 3) u4 (.slice A3 (k + 1) m3) (cl ++ [c1]) (l.take (k + 1))) := by
              unfold Hid
              rw [HTK.out]
              exact HOWN.out.keep (fun g hg _ => hoth g (by omega))
            clear hHeld
            refine hK.out _ _ hY4 (fun hHeld => ?_)
            clear hK K
            refine wpAnyH_done (by kernel_rfl) ?_ _
            clear hHeld
            go_simp
            go_wp2_with fail
            exact ⟨⟨k + 1, cl ++ [c1], A3, m3, by omega, rfl, HO4.out, HW4.out, HE4.out, HB4.out, HZ4.out⟩, by simp [intOf]; omega⟩
end Go.Proofs.YtggolmamacoplaaGreatDoor

namespace Go.Proofs.YtggolmamacoplaaGreatDoor
open Go.RowKit Go.Shelf
set_option maxHeartbeats 4000000
set_option maxRecDepth 100000

theorem conv_at (w : World) (k : Nat) (a : Int) (h : w.heap[k]? = some (.cells #[.int .u8 a] 5)) : (convert 51 9 (.slice (some ⟨k, 0, none⟩) 1 1)).run Tryz.prog w = .ok (.string ⟨#[UInt8.ofNat a.toNat]⟩) w := by
  refine run_convert_bytes_arg (P := Tryz.prog) _ 51 5 Tryz.underlying51 Tryz.underlying5 k 0 1 1 [a] rfl (fun i hi => ?_) 9 Tryz.underlying9
  obtain rfl : i = 0 := by simp at hi; omega
  exact cell_of_row w k _ _ _ (0, 0) h
theorem hexI_le (c : Int) (hc : -1 ≤ c ∧ c ≤ 255) : -1 ≤ hexI c ∧ hexI c ≤ 15 := by
  unfold hexI
  split
  · omega
  split
  · omega
  · omega
theorem letter_any (s : ByteArray) (i : Nat) (hs : s.size ≤ 100000000) (hi : i ≤ 100000100) (w : World) :
    Calls Tryz.prog 80 #[.string s, .int .i64 (i : Int)] w fun e w' => LetO s i (oneQ ((L s).drop i)) e ∧ Below w.heap.size w w' := by
  have hsi : (s.size : Int) ≤ 100000000 := by omega
  have hii : (i : Int) ≤ 100000100 := by omega
  have HA0 := Lib.hid (fun w' => at_any s i hs (by omega) w')
  have HA1 := Lib.hid (fun w' => show Calls Tryz.prog 26 #[.string s, .int .i64 ((i : Int) + 1)] w' fun e w'' => e = .returned (.int .i64 (hdI ((L s).drop (i + 1)))) ∧ w' = w'' from by
    have := at_any s (i + 1) hs (by omega) w'
    rwa [show ((i + 1 : Nat) : Int) = (i : Int) + 1 by omega] at this)
  have HA2 := Lib.hid (fun w' => show Calls Tryz.prog 26 #[.string s, .int .i64 ((i : Int) + 2)] w' fun e w'' => e = .returned (.int .i64 (hdI ((L s).drop (i + 2)))) ∧ w' = w'' from by
    have := at_any s (i + 2) hs (by omega) w'
    rwa [show ((i + 2 : Nat) : Int) = (i : Int) + 2 by omega] at this)
  have HA3 := Lib.hid (fun w' => show Calls Tryz.prog 26 #[.string s, .int .i64 ((i : Int) + 3)] w' fun e w'' => e = .returned (.int .i64 (hdI ((L s).drop (i + 3)))) ∧ w' = w'' from by
    have := at_any s (i + 3) hs (by omega) w'
    rwa [show ((i + 3 : Nat) : Int) = (i : Int) + 3 by omega] at this)
  have HS := Lib.hid hs
  have HI := Lib.hid hi
  clear hs hi
  go_enter Tryz.func80, Tryz.ntmps80
  go_wp2_with fail
  refine (HA0.out w).mono ?_
  rintro e w1 ⟨rfl, rfl⟩
  cases hl : (L s).drop i with
  | nil =>
    have HOK : Hid (LetO s i (oneQ ((L s).drop i)) (.returned (.tuple #[.int .i64 (-1), .int .i64 (i : Int)]))) := by rw [hl]; rfl
    rw [show hdI [] = -1 from rfl]
    have HBW : Hid (Below w.heap.size w w.drew) := drewBn w
    clear hl
    go_upto_region 3 with fail
    refine wpq_region (fun _ => True) 10 (by kernel_rfl) trivial (fun hHeld => ?_)
    generalize w.drew = wd at *
    refine wpq_take 0 (some 14) [1, 2, 10] rfl rfl (by kernel_rfl) (by kernel_rfl) (by kernel_rfl) (by kernel_rfl) (fun _ _ _ h => h) (Or.inl ⟨by rfl, fun w hSw => by (go_simp; with_reducible rfl)⟩) hHeld ?_
    simp only [Act.put, List.setIfInBounds_toArray, List.set_cons_zero, List.set_cons_succ]
    refine wpq_take 1 (some 15) [2, 10] rfl rfl (by kernel_rfl) (by kernel_rfl) (by kernel_rfl) (by kernel_rfl) (fun _ _ _ h => h) (Or.inl ⟨by rfl, fun w hSw => by (go_simp; with_reducible rfl)⟩) hHeld ?_
    simp only [Act.put, List.setIfInBounds_toArray, List.set_cons_zero, List.set_cons_succ]
    refine wpq_one 2 (by kernel_rfl) rfl (fun K hK => ?_)
    go_simp
    refine hK.out _ _ trivial (fun hHeld => ?_)
    clear hK K
    refine wpq_take 3 (some 17) [4, 9, 10] rfl rfl (by kernel_rfl) (by kernel_rfl) (by kernel_rfl) (by kernel_rfl) (fun _ _ _ h => h) (Or.inr ⟨by rfl, rfl⟩) hHeld ?_
    simp only [Act.put, List.setIfInBounds_toArray, List.set_cons_zero, List.set_cons_succ]
    refine wpq_take 5 (some 19) [6, 7, 8, 9, 10] rfl rfl (by kernel_rfl) (by kernel_rfl) (by kernel_rfl) (by kernel_rfl) (fun _ _ _ h => h) (Or.inr ⟨by rfl, rfl⟩) hHeld ?_
    simp only [Act.put, List.setIfInBounds_toArray, List.set_cons_zero, List.set_cons_succ]
    refine wpq_take 6 (some 20) [7, 8, 9, 10] rfl rfl (by kernel_rfl) (by kernel_rfl) (by kernel_rfl) (by kernel_rfl) (fun _ _ _ h => h) (Or.inr ⟨by rfl, rfl⟩) hHeld ?_
    simp only [Act.put, List.setIfInBounds_toArray, List.set_cons_zero, List.set_cons_succ]
    refine wpq_two 4 7 (by kernel_rfl) rfl rfl (fun K hK => ?_) (fun K hK => ?_)
    · go_simp
      refine hK.out _ _ trivial (fun hHeld => ?_)
      clear hK K
      refine wpq_one 7 (by kernel_rfl) rfl (fun K hK => ?_)
      go_simp
      refine hK.out _ _ trivial (fun hHeld => ?_)
      clear hK K
      refine wpq_one 8 (by kernel_rfl) rfl (fun K hK => ?_)
      go_simp
      refine hK.out _ _ trivial (fun hHeld => ?_)
      clear hK K
      refine wpq_one 9 (by kernel_rfl) rfl (fun K hK => ?_)
      go_simp
      refine hK.out _ _ trivial (fun hHeld => ?_)
      clear hK K
      refine wpq_end 10 (by kernel_rfl) rfl (by kernel_rfl) (fun K hK => ?_)
      go_simp
      refine hK.out _ _ ?_
      clear hK K
      refine wpq_done (by kernel_rfl) ?_ _
      go_simp
      go_wp2_with fail
      go_ret2
      exact ⟨HOK.out, HBW.out⟩
    · go_simp
      refine hK.out _ _ trivial (fun hHeld => ?_)
      clear hK K
      refine wpq_two 4 8 (by kernel_rfl) rfl rfl (fun K hK => ?_) (fun K hK => ?_)
      · go_simp
        refine hK.out _ _ trivial (fun hHeld => ?_)
        clear hK K
        refine wpq_one 8 (by kernel_rfl) rfl (fun K hK => ?_)
        go_simp
        refine hK.out _ _ trivial (fun hHeld => ?_)
        clear hK K
        refine wpq_one 9 (by kernel_rfl) rfl (fun K hK => ?_)
        go_simp
        refine hK.out _ _ trivial (fun hHeld => ?_)
        clear hK K
        refine wpq_end 10 (by kernel_rfl) rfl (by kernel_rfl) (fun K hK => ?_)
        go_simp
        refine hK.out _ _ ?_
        clear hK K
        refine wpq_done (by kernel_rfl) ?_ _
        go_simp
        go_wp2_with fail
        go_ret2
        exact ⟨HOK.out, HBW.out⟩
      · go_simp
        refine hK.out _ _ trivial (fun hHeld => ?_)
        clear hK K
        refine wpq_one 4 (by kernel_rfl) rfl (fun K hK => ?_)
        go_simp
        refine hK.out _ _ trivial (fun hHeld => ?_)
        clear hK K
        refine wpq_one 9 (by kernel_rfl) rfl (fun K hK => ?_)
        go_simp
        refine hK.out _ _ trivial (fun hHeld => ?_)
        clear hK K
        refine wpq_end 10 (by kernel_rfl) rfl (by kernel_rfl) (fun K hK => ?_)
        go_simp
        refine hK.out _ _ ?_
        clear hK K
        refine wpq_done (by kernel_rfl) ?_ _
        go_simp
        go_wp2_with fail
        go_ret2
        exact ⟨HOK.out, HBW.out⟩
  | cons b t =>
    have hilt : i < s.size := by
      rcases Nat.lt_or_ge i s.size with h | h
      · exact h
      · rw [List.drop_of_length_le (by rw [L_len]; exact h)] at hl
        cases hl
    have hdr : ∀ j, (L s).drop (i + j) = (b :: t).drop j := fun j => by rw [← hl, List.drop_drop]
    obtain ⟨c, hc⟩ : ∃ c, c = b.toNat := ⟨_, rfl⟩
    have hcb : c ≤ 255 := by have := b.toNat_lt; omega
    rw [show hdI (b :: t) = (c : Int) by rw [hc]; rfl]
    have HCB := Lib.hid hcb
    by_cases h92 : c = 92
    · have hb92 : b = 92 := by
        rw [← UInt8.ofNat_toNat (x := b), ← hc, h92]
        rfl
      have h1 := hdr 1
      have h2 := hdr 2
      have h3 := hdr 3
      have HK4 : Hid (3 ≤ t.length → (L s).drop (i + 4) = t.drop 3 ∧ i + 4 ≤ s.size) := by
        intro h
        refine ⟨hdr 4, ?_⟩
        have := congrArg List.length hl
        rw [List.length_drop, L_len, List.length_cons] at this
        omega
      rw [show ((b :: t).drop 1) = t from rfl] at h1
      rw [show ((b :: t).drop 2) = t.drop 1 from rfl] at h2
      rw [show ((b :: t).drop 3) = t.drop 2 from rfl] at h3
      rw [h1] at HA1
      rw [h2] at HA2
      rw [h3] at HA3
      have HX2 := Lib.hid (fun w' => hexI_any (hdI (t.drop 1)) (hdI_le _) w')
      have HX3 := Lib.hid (fun w' => hexI_any (hdI (t.drop 2)) (hdI_le _) w')
      have HYES : Hid (t.head? = some 120 → ∀ a2 a3, t[1]?.bind hexQ = some a2 → t[2]?.bind hexQ = some a3 → oneQ ((L s).drop i) = some (a2 * 16 + a3, t.drop 3)) := by
        intro g1 a2 a3 g2 g3
        rw [hl, oneQ, if_pos hb92, if_pos g1, g2, g3]
      have HNO : Hid ((t.head? ≠ some 120 ∨ t[1]?.bind hexQ = none ∨ t[2]?.bind hexQ = none) → oneQ ((L s).drop i) = none) := by
        intro g
        rw [hl, oneQ, if_pos hb92]
        split
        · rename_i h120
          rcases g with g | g | g
          · exact absurd h120 g
          · rw [g]
          · rw [g]
            cases t[1]?.bind hexQ <;> rfl
        · rfl
      have HH : Hid (∀ j, hexI (hdI (t.drop j)) = match t[j]?.bind hexQ with | none => -1 | some a => (a : Int)) := by
        intro j
        rw [hdI_at]
        cases t[j]? with
        | none => rfl
        | some x => exact hexQ_I x
      subst h92
      clear hc hcb hl hdr h1 h2 h3
      have h120 : (hdI t = 120) ↔ t.head? = some 120 := by
        cases t with
        | nil => exact ⟨fun h => (by cases h), fun h => (by cases h)⟩
        | cons x u =>
          show ((x.toNat : Int) = 120) ↔ some x = some 120
          constructor
          · intro h
            have h2 : x.toNat = 120 := by omega
            rw [← UInt8.ofNat_toNat (x := x), h2]
            rfl
          · intro h
            cases h
            rfl
      have H120 := Lib.hid h120
      clear h120
      obtain ⟨A, hA⟩ : ∃ A, A = hexI (hdI (t.drop 1)) := ⟨_, rfl⟩
      obtain ⟨B, hB⟩ : ∃ B, B = hexI (hdI (t.drop 2)) := ⟨_, rfl⟩
      obtain ⟨C, hC⟩ : ∃ C, C = hdI t := ⟨_, rfl⟩
      have HAE : Hid (A = match t[1]?.bind hexQ with | none => -1 | some a => (a : Int)) := hA.trans (HH.out 1)
      have HBE : Hid (B = match t[2]?.bind hexQ with | none => -1 | some a => (a : Int)) := hB.trans (HH.out 2)
      have hA1 := hexI_le (hdI (t.drop 1)) (hdI_le _)
      have hB1 := hexI_le (hdI (t.drop 2)) (hdI_le _)
      rw [← hA] at HX2 hA1
      rw [← hB] at HX3 hB1
      rw [← hC] at HA1 H120
      have h3l : Hid (∀ a, t[2]?.bind hexQ = some a → 3 ≤ t.length) := by
        intro a h
        rcases Nat.lt_or_ge 2 t.length with h2 | h2
        · exact h2
        · rw [List.getElem?_eq_none h2] at h
          cases h
      clear hA hB hC HH
      generalize hdI (t.drop 1) = D2 at *
      generalize hdI (t.drop 2) = D3 at *
      go_wp2_with fail
      refine (HA2.out w).mono ?_
      rintro e w1 ⟨rfl, rfl⟩
      go_wp2_with fail
      refine (HX2.out w).mono ?_
      rintro e w1 ⟨rfl, rfl⟩
      go_wp2_with fail
      refine (HA3.out w).mono ?_
      rintro e w1 ⟨rfl, rfl⟩
      go_wp2_with fail
      refine (HX3.out w).mono ?_
      rintro e w1 ⟨rfl, rfl⟩
      go_wp2_with fail
      refine (HA1.out w).mono ?_
      rintro e w1 ⟨rfl, rfl⟩
      by_cases hc1 : C = 120
      case neg =>
        have e1 : (C != 120) = true := bne_iff_ne.2 hc1
        have HOK : Hid (LetO s i (oneQ ((L s).drop i)) (.returned (.tuple #[.int .i64 (-1), .int .i64 (i : Int)]))) := by
          unfold Hid
          rw [HNO.out (.inl (fun h => hc1 (H120.out.2 h)))]
          rfl
        clear hc1
        go_wp2_with fail
        go_ret2
        exact ⟨HOK.out, Below.refl _ _⟩
      case pos =>
        have HY1 := Lib.hid (HYES.out (H120.out.1 hc1))
        subst hc1
        by_cases hA0 : A < 0
        · have HOK : Hid (LetO s i (oneQ ((L s).drop i)) (.returned (.tuple #[.int .i64 (-1), .int .i64 (i : Int)]))) := by
            unfold Hid
            rw [HNO.out (.inr (.inl (by
              cases h : t[1]?.bind hexQ with
              | none => rfl
              | some a =>
                have h2 := HAE.out
                rw [h] at h2
                simp only at h2
                omega)))]
            rfl
          clear hA1 hB1
          go_wp2_with fail
          go_ret2
          exact ⟨HOK.out, Below.refl _ _⟩
        by_cases hB0 : B < 0
        · have HOK : Hid (LetO s i (oneQ ((L s).drop i)) (.returned (.tuple #[.int .i64 (-1), .int .i64 (i : Int)]))) := by
            unfold Hid
            rw [HNO.out (.inr (.inr (by
              cases h : t[2]?.bind hexQ with
              | none => rfl
              | some a =>
                have h2 := HBE.out
                rw [h] at h2
                simp only at h2
                omega)))]
            rfl
          clear hA1 hB1
          go_wp2_with fail
          go_ret2
          exact ⟨HOK.out, Below.refl _ _⟩
        have HOK : Hid (LetO s i (oneQ ((L s).drop i)) (.returned (.tuple #[.int .i64 (A * 16 + B), .int .i64 ((i : Int) + 4)]))) := by
          unfold Hid
          have h2 := HAE.out
          have h3 := HBE.out
          cases g2 : t[1]?.bind hexQ with
          | none => rw [g2] at h2; simp only at h2; omega
          | some a =>
            cases g3 : t[2]?.bind hexQ with
            | none => rw [g3] at h3; simp only at h3; omega
            | some b2 =>
              rw [g2] at h2
              rw [g3] at h3
              simp only at h2 h3
              rw [HY1.out a b2 g2 g3]
              obtain ⟨k1, k2⟩ := HK4.out (h3l.out b2 g3)
              refine ⟨i + 4, by omega, k2, k1, by omega, ?_⟩
              rw [h2, h3]
              rfl
        have hm : A * 16 ≤ 240 := by omega
        have hm0 : 0 ≤ A * 16 := by omega
        go_wp2_with fail
        go_ret2
        exact ⟨HOK.out, Below.refl _ _⟩
    · have e92 : ((c : Int) != 92) = true := bne_iff_ne.2 (by omega)
      have hci : (0 : Int) ≤ (c : Int) := by omega
      have hmod : (c : Int) % 256 = c := by omega
      have hwu : IntKind.u8.wrap (c : Int) = c := by rw [IntKind.wrap_u8]; exact hmod
      have HYES : Hid (byteT c = [UInt8.ofNat c] → LetO s i (oneQ ((L s).drop i)) (.returned (.tuple #[.int .i64 (c : Int), .int .i64 ((i : Int) + 1)]))) := by
        intro hq
        have hbc : UInt8.ofNat c = b := by rw [hc]; exact UInt8.ofNat_toNat
        rw [hl, oneQ, if_neg (fun h => h92 (by rw [hc, h]; rfl)), if_pos (by rw [← hc, hq, hbc])]
        exact ⟨i + 1, by omega, by omega, (hdr 1).trans rfl, by omega, by rw [← hc]; rfl⟩
      have HNO : Hid (¬ byteT c = [UInt8.ofNat c] → LetO s i (oneQ ((L s).drop i)) (.returned (.tuple #[.int .i64 (-1), .int .i64 (i : Int)]))) := by
        intro hq
        have hbc : UInt8.ofNat c = b := by rw [hc]; exact UInt8.ofNat_toNat
        rw [hl, oneQ, if_neg (fun h => h92 (by rw [hc, h]; rfl)), if_neg (fun h => hq (by rw [hc, h, ← hc, hbc]))]
        rfl
      clear hc hcb hl h92 hdr
      have HBW : Hid (Below w.heap.size w w.drew) := drewBn w
      go_upto_region 3 with fail
      refine wpq_region (fun _ => True) 10 (by kernel_rfl) trivial (fun hHeld => ?_)
      generalize w.drew = wd at *
      refine wpq_take 0 (some 14) [1, 2, 10] rfl rfl (by kernel_rfl) (by kernel_rfl) (by kernel_rfl) (by kernel_rfl) (fun _ _ _ h => h) (Or.inl ⟨by rfl, fun w hSw => by (go_simp; with_reducible rfl)⟩) hHeld ?_
      simp only [Act.put, List.setIfInBounds_toArray, List.set_cons_zero, List.set_cons_succ]
      refine wpq_take 1 (some 15) [2, 10] rfl rfl (by kernel_rfl) (by kernel_rfl) (by kernel_rfl) (by kernel_rfl) (fun _ _ _ h => h) (Or.inl ⟨by rfl, fun w hSw => by (go_simp; with_reducible rfl)⟩) hHeld ?_
      simp only [Act.put, List.setIfInBounds_toArray, List.set_cons_zero, List.set_cons_succ]
      refine wpq_one 2 (by kernel_rfl) rfl (fun K hK => ?_)
      go_simp
      refine hK.out _ _ trivial (fun hHeld => ?_)
      clear hK K
      refine wpq_take 3 (some 17) [4, 9, 10] rfl rfl (by kernel_rfl) (by kernel_rfl) (by kernel_rfl) (by kernel_rfl) (fun _ _ _ h => h) (Or.inl ⟨by rfl, fun w hSw => by (go_simp; with_reducible rfl)⟩) hHeld ?_
      simp only [Act.put, List.setIfInBounds_toArray, List.set_cons_zero, List.set_cons_succ]
      refine wpq_take 5 (some 19) [6, 7, 8, 9, 10] rfl rfl (by kernel_rfl) (by kernel_rfl) (by kernel_rfl) (by kernel_rfl) (fun _ _ _ h => h) (Or.inl ⟨by rfl, fun w hSw => by (go_simp; with_reducible rfl)⟩) hHeld ?_
      simp only [Act.put, List.setIfInBounds_toArray, List.set_cons_zero, List.set_cons_succ]
      refine wpq_take 6 (some 20) [7, 8, 9, 10] rfl rfl (by kernel_rfl) (by kernel_rfl) (by kernel_rfl) (by kernel_rfl) (fun _ _ _ h => h) (Or.inl ⟨by rfl, fun w hSw => by (go_simp; with_reducible rfl)⟩) hHeld ?_
      simp only [Act.put, List.setIfInBounds_toArray, List.set_cons_zero, List.set_cons_succ]
      clear hmod hwu hci e92
      refine wpq_two 4 7 (by kernel_rfl) rfl rfl (fun K hK => ?_) (fun K hK => ?_)
      · go_simp
        refine (byteR_any c HCB.out _).mono ?_
        rintro e wd2 ⟨⟨u, rfl, hu⟩, hb⟩
        have HU := Lib.hid hu

        have HBW2 := Lib.hid (HBW.out.trans (hb.mono HBW.out.size))
        clear hu hb HBW
        refine hK.out _ _ trivial (fun hHeld => ?_)
        clear hK K
        have HBW := HBW2
        clear HBW2
        generalize wd2 = wd at *
        refine wpq_one 7 (by kernel_rfl) rfl (fun K hK => ?_)
        go_simp
        have hb6 : Below wd.heap.size wd (wd.alloc (.cells #[.int .u8 (c : Int)] 5)) := (Below.refl _ _).alloc (Nat.le_refl _) _
        have HRW := Lib.hid (show (wd.alloc (.cells #[.int .u8 (c : Int)] 5)).heap[wd.heap.size]? = some (.cells #[.int .u8 (c : Int)] 5) from heap_alloc_new wd _)
        have HBW2 := Lib.hid (HBW.out.trans (hb6.mono HBW.out.size))
        clear hb6 HBW
        refine hK.out _ _ trivial (fun hHeld => ?_)
        clear hK K
        have HBW := HBW2
        clear HBW2
        generalize wd.heap.size = kb at *
        generalize wd.alloc (.cells #[.int .u8 (c : Int)] 5) = wd at *
        have hcv := conv_at wd kb (c : Int) HRW.out
        refine wpq_one 8 (by kernel_rfl) rfl (fun K hK => ?_)
        go_simp
        refine hK.out _ _ trivial (fun hHeld => ?_)
        clear hK K hcv
        refine wpq_one 9 (by kernel_rfl) rfl (fun K hK => ?_)
        go_simp
        refine hK.out _ _ trivial (fun hHeld => ?_)
        clear hK K
        refine wpq_end 10 (by kernel_rfl) rfl (by kernel_rfl) (fun K hK => ?_)
        go_simp
        refine hK.out _ _ ?_
        clear hK K
        refine wpq_done (by kernel_rfl) ?_ _
        go_simp
        by_cases hq : byteT c = [UInt8.ofNat c]
        · have hqq : (u.toList == [UInt8.ofNat c]) = true := by rw [toList_L, HU.out]; exact beq_true hq
          rw [hqq]
          have HOK := Lib.hid (HYES.out hq)
          clear hq
          go_wp2_with fail
          go_ret2
          exact ⟨HOK.out, HBW.out⟩
        · have hqq : (u.toList == [UInt8.ofNat c]) = false := by rw [toList_L, HU.out]; exact beq_false hq
          rw [hqq]
          have HOK := Lib.hid (HNO.out hq)
          clear hq
          go_wp2_with fail
          go_ret2
          exact ⟨HOK.out, HBW.out⟩
      · go_simp
        have hb6 : Below wd.heap.size wd (wd.alloc (.cells #[.int .u8 (c : Int)] 5)) := (Below.refl _ _).alloc (Nat.le_refl _) _
        have HRW := Lib.hid (show (wd.alloc (.cells #[.int .u8 (c : Int)] 5)).heap[wd.heap.size]? = some (.cells #[.int .u8 (c : Int)] 5) from heap_alloc_new wd _)
        have HBW2 := Lib.hid (HBW.out.trans (hb6.mono HBW.out.size))
        clear hb6 HBW
        refine hK.out _ _ trivial (fun hHeld => ?_)
        clear hK K
        have HBW := HBW2
        clear HBW2
        generalize wd.heap.size = kb at *
        generalize wd.alloc (.cells #[.int .u8 (c : Int)] 5) = wd at *
        refine wpq_two 4 8 (by kernel_rfl) rfl rfl (fun K hK => ?_) (fun K hK => ?_)
        · go_simp
          refine (byteR_any c HCB.out _).mono ?_
          rintro e wd2 ⟨⟨u, rfl, hu⟩, hb⟩
          have HU := Lib.hid hu
          have HRW2 := Lib.hid ((hb.block kb (Array.getElem?_eq_some_iff.1 HRW.out).1).trans HRW.out)
          have HBW2 := Lib.hid (HBW.out.trans (hb.mono HBW.out.size))
          clear hu hb HBW HRW
          refine hK.out _ _ trivial (fun hHeld => ?_)
          clear hK K
          have HRW := HRW2
          clear HRW2
          have HBW := HBW2
          clear HBW2
          generalize wd2 = wd at *
          have hcv := conv_at wd kb (c : Int) HRW.out
          refine wpq_one 8 (by kernel_rfl) rfl (fun K hK => ?_)
          go_simp
          refine hK.out _ _ trivial (fun hHeld => ?_)
          clear hK K hcv
          refine wpq_one 9 (by kernel_rfl) rfl (fun K hK => ?_)
          go_simp
          refine hK.out _ _ trivial (fun hHeld => ?_)
          clear hK K
          refine wpq_end 10 (by kernel_rfl) rfl (by kernel_rfl) (fun K hK => ?_)
          go_simp
          refine hK.out _ _ ?_
          clear hK K
          refine wpq_done (by kernel_rfl) ?_ _
          go_simp
          by_cases hq : byteT c = [UInt8.ofNat c]
          · have hqq : (u.toList == [UInt8.ofNat c]) = true := by rw [toList_L, HU.out]; exact beq_true hq
            rw [hqq]
            have HOK := Lib.hid (HYES.out hq)
            clear hq
            go_wp2_with fail
            go_ret2
            exact ⟨HOK.out, HBW.out⟩
          · have hqq : (u.toList == [UInt8.ofNat c]) = false := by rw [toList_L, HU.out]; exact beq_false hq
            rw [hqq]
            have HOK := Lib.hid (HNO.out hq)
            clear hq
            go_wp2_with fail
            go_ret2
            exact ⟨HOK.out, HBW.out⟩
        · have hcv := conv_at wd kb (c : Int) HRW.out
          go_simp
          refine hK.out _ _ trivial (fun hHeld => ?_)
          clear hK K hcv
          refine wpq_one 4 (by kernel_rfl) rfl (fun K hK => ?_)
          go_simp
          refine (byteR_any c HCB.out _).mono ?_
          rintro e wd2 ⟨⟨u, rfl, hu⟩, hb⟩
          have HU := Lib.hid hu

          have HBW2 := Lib.hid (HBW.out.trans (hb.mono HBW.out.size))
          clear hu hb HBW
          refine hK.out _ _ trivial (fun hHeld => ?_)
          clear hK K
          have HBW := HBW2
          clear HBW2
          generalize wd2 = wd at *
          refine wpq_one 9 (by kernel_rfl) rfl (fun K hK => ?_)
          go_simp
          refine hK.out _ _ trivial (fun hHeld => ?_)
          clear hK K
          refine wpq_end 10 (by kernel_rfl) rfl (by kernel_rfl) (fun K hK => ?_)
          go_simp
          refine hK.out _ _ ?_
          clear hK K
          refine wpq_done (by kernel_rfl) ?_ _
          go_simp
          by_cases hq : byteT c = [UInt8.ofNat c]
          · have hqq : (u.toList == [UInt8.ofNat c]) = true := by rw [toList_L, HU.out]; exact beq_true hq
            rw [hqq]
            have HOK := Lib.hid (HYES.out hq)
            clear hq
            go_wp2_with fail
            go_ret2
            exact ⟨HOK.out, HBW.out⟩
          · have hqq : (u.toList == [UInt8.ofNat c]) = false := by rw [toList_L, HU.out]; exact beq_false hq
            rw [hqq]
            have HOK := Lib.hid (HNO.out hq)
            clear hq
            go_wp2_with fail
            go_ret2
            exact ⟨HOK.out, HBW.out⟩
end Go.Proofs.YtggolmamacoplaaGreatDoor
