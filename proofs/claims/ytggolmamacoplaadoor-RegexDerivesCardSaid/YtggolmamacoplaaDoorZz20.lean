/- regex.clone walked. Conditions: a pattern of size less than 10^9. -/
import Derived.Test.YtggolmamacoplaaDoorZz19
import Derived.RegionTactic
import Derived.BigRegion
namespace Go.Proofs.YtggolmamacoplaaDoor
open Go.RowKit Go.Shelf
set_option maxHeartbeats 4000000
set_option maxRecDepth 100000

theorem len_sz : ∀ l : List RX, l.length ≤ SizeOf.sizeOf l
  | [] => Nat.zero_le _
  | x :: t => by
    have := len_sz t
    rw [List.cons.sizeOf_spec, List.length_cons]
    omega
theorem clone_any : ∀ (n : Nat) (p : RX) (c : PC) (w : World), SizeOf.sizeOf p ≤ n → n < 1000000000 → RdP w c p → Calls Tryd.prog 37 #[aggP c] w (RetQ (fun g => w.heap.size ≤ g) p w) := by
  intro n
  induction n with
  | zero =>
    intro p c w hn _ _
    cases p
    rw [RX.mk.sizeOf_spec] at hn
    omega
  | succ n ih =>
    intro p c w hn hn9 hv
    have HN9 := Lib.hid hn9
    clear hn9
    have IH := Lib.hid ih
    have HN := Lib.hid hn
    clear ih hn
    cases hv with
    | mk op lo hi mn mx l lv cs hl hL =>
    obtain ⟨a, cap, rfl, h1, h2, h3, h4⟩ := hl
    have HL := Lib.hid h4
    have HLi := Lib.hid hL
    have hm : (l.length : Int) ≤ 9223372036854775807 := by simp only [maxLen] at h2; omega
    clear h4 hL h1 h2 h3
    simp only [aggP]
    go_enter Tryd.func37, Tryd.ntmps37
    go_upto_region 3 with fail
    generalize hW1 : World.alloc w _ = w1
    obtain ⟨ha1, -, hz1, hb1⟩ := alloc_of hW1
    generalize hW2 : World.alloc w1 _ = w2
    obtain ⟨ha2, -, hz2, hb2⟩ := alloc_of hW2
    generalize hW3 : World.alloc w2 _ = w3
    obtain ⟨ha3, -, hz3, hb3⟩ := alloc_of hW3
    rw [hz1] at ha2
    rw [hz2, hz1] at ha3
    have hb13 : Below w1.heap.size w1 w3 := hb2.trans (hb3.mono hb2.size)
    have hb03 : Below w.heap.size w w3 := hb1.trans (hb13.mono hb1.size)
    have ha1' := (hb13.block _ (by omega)).trans ha1
    have ha2' := (hb3.block _ (by omega)).trans ha2
    have HB := Lib.hid hb03
    have H2 := Lib.hid ha2'
    have H3 := Lib.hid ha3
    have HZ : Hid (w.heap.size + 3 ≤ w3.heap.size) := by unfold Hid; omega
    obtain ⟨c0, c1, c2, c3, c4, c5⟩ := row6 ha1'
    clear hW1 hW2 hW3 ha1 ha2 hz1 hz2 hz3 hb1 hb2 hb3 hb13 hb03 ha1' ha2' ha3
    go_wp2_with fail
    go_loopw [5, 11] (fun _ iv wr => ∃ (k : Nat) (cl : List PC) (A : Option Addr) (m : Nat), k ≤ l.length ∧ iv = .int .i64 (k : Int) ∧ Hid (wr.heap[w.heap.size + 1 + 1]? = some (.cells #[.int .i64 op, .int .i64 lo, .int .i64 hi, .int .i64 mn, .int .i64 mx, .slice A k m] 24 (0, 0)))
      ∧ Hid (OwnP (fun g => w.heap.size + 3 ≤ g) (w.heap.size + 3) wr (.slice A k m) cl (l.take k)) ∧ Hid (wr.heap[w.heap.size + 1]? = some (.cells #[.int .i64 0, .int .i64 0, .int .i64 0, .int .i64 0, .int .i64 0, .slice none 0 0] 24 (0, 0))) ∧ Hid (Below w.heap.size w wr) ∧ Hid (w.heap.size + 3 ≤ wr.heap.size)) (fun _ iv _ => l.length - (intOf iv).toNat)
    case atStart =>
      exact ⟨0, [], none, 0, Nat.zero_le _, rfl, H3.out, OwnP.nil _ _ _, H2.out, HB.out, HZ.out⟩
    case round =>
      obtain ⟨k, cl, A, m, hk, rfl, HO, HW, HE, HBR, HZR⟩ := hrel
      clear H2 H3 HB HZ c0 c1 c2 c3 c4 c5
      obtain ⟨o0, o1, o2, o3, o4, o5⟩ := row6 HO.out
      by_cases hlt : k < l.length
      case neg =>
        have hge : ¬ (k : Int) < l.length := by omega
        have hkl : k = l.length := by omega
        subst hkl
        have he := HE.out
        have g0 : wr.frozen? ⟨w.heap.size + 1, 0, none⟩ = false := Lib.frozen_of_heap he 0
        have g1 : wr.frozen? ⟨w.heap.size + 1, 1, none⟩ = false := Lib.frozen_of_heap he 1
        have g2 : wr.frozen? ⟨w.heap.size + 1, 2, none⟩ = false := Lib.frozen_of_heap he 2
        have g3 : wr.frozen? ⟨w.heap.size + 1, 3, none⟩ = false := Lib.frozen_of_heap he 3
        have g4 : wr.frozen? ⟨w.heap.size + 1, 4, none⟩ = false := Lib.frozen_of_heap he 4
        have g5 : wr.frozen? ⟨w.heap.size + 1, 5, none⟩ = false := Lib.frozen_of_heap he 5
        obtain ⟨r0, r1, r2, r3, r4, r5⟩ := row6 he
        clear he hlt
        go_wp2_with fail
        generalize hW : World.setCell _ _ _ = w4
        obtain ⟨h4, hb4⟩ := set6 HE.out _ _ _ _ _ _ hW
        obtain ⟨s0, s1, s2, s3, s4, s5⟩ := row6 h4
        have hown : OwnP (fun g => w.heap.size + 3 ≤ g) (w.heap.size + 3) w4 (.slice A l.length m) cl l := by
          have := HW.out
          rw [List.take_length] at this
          refine this.keep (fun g hg _ => ?_)
          rw [← hW]
          repeat rw [Below.heap_setCell _ _ _ _ (by show g ≠ w.heap.size + 1; omega)]
        refine bodyPost_ret (v := aggP ⟨op, lo, hi, mn, mx, .slice A l.length m⟩) (by simp [results, Tryd.results37, go_sem, s0, s1, s2, s3, s4, s5]) rfl ⟨_, rfl, ?_, HBR.out.trans (hb4.mono (by omega))⟩
        exact (hown.node (fun g h _ => h) op lo hi mn mx).mono (fun g h _ => by omega)
      case pos =>
        have hlti : (k : Int) < l.length := by omega
        obtain ⟨g, o, rfl, hg, hat⟩ := HL.out (by omega)
        have HRD := Lib.hid ((HLi.out k hlt).stays HBR.out)
        have hsz := RX.sz op lo hi mn mx l k hlt
        have HSZ : Hid (SizeOf.sizeOf l[k] ≤ n) := by have := HN.out; unfold Hid; omega
        have hc6 : ∀ j, j < 6 → wr.cell? ⟨g, o + k * 6 + j, none⟩ = (cs k).cells[j]? := fun j hj => (HBR.out.cell (p := ⟨g, o + k * 6 + j, none⟩) hg).trans (hat k hlt j hj)
        have HTK := Lib.hid (List.take_succ_eq_append_getElem hlt)
        clear hsz hat
        generalize l[k] = q at *
        generalize cs k = c at *
        obtain ⟨pa, pcap, hpa⟩ := HRD.out.forms
        generalize q.args.length = pn at *
        obtain ⟨p0, p1, p2, p3, p4, p5⟩ := c
        simp only at hpa
        subst hpa
        obtain ⟨c0, c1, c2, c3, c4, c5⟩ := cells6 hc6
        simp only at c0 c1 c2 c3 c4 c5
        clear hc6 o0 o1 o2 o3 o4 o5
        go_upto_region 6 with fail
        generalize hW : World.alloc wr _ = wa
        obtain ⟨ha, -, hza, hba⟩ := alloc_of hW
        have HY := Lib.hid ha
        have HO2 := Lib.hid ((hba.block _ (Array.getElem?_eq_some_iff.1 HO.out).1).trans HO.out)
        have HE2 := Lib.hid ((hba.block _ (Array.getElem?_eq_some_iff.1 HE.out).1).trans HE.out)
        replace HBR := Lib.hid (HBR.out.trans (hba.mono HBR.out.size))
        replace HRD := Lib.hid (HRD.out.stays hba)
        have HW2 := Lib.hid (HW.out.keep (w' := wa) (fun g _ hg => hba.block g hg))
        clear hW ha hza hba c0 c1 c2 c3 c4 c5
        refine wp_region_held_drew (S := fun w' => w'.heap[wr.heap.size]? = some (.cells [.int .i64 p0, .int .i64 p1, .int .i64 p2, .int .i64 p3, .int .i64 p4, .slice pa pn pcap].toArray 24 (0, 0))) (by kernel_rfl) HY.out (fun hHeld => ?_)
        refine take_at 0 (some 15) rfl rfl (by kernel_rfl) (by kernel_rfl) (by kernel_rfl) (fun _ _ _ h => h) (Or.inl ⟨by rfl, fun w hSw => by (obtain ⟨q0, q1, q2, q3, q4, q5⟩ := row6 hSw; go_simp; with_reducible rfl)⟩) hHeld ?_
        simp only [Act.put, List.setIfInBounds_toArray, List.set_cons_zero, List.set_cons_succ]
        refine take_at 2 (some 17) rfl rfl (by kernel_rfl) (by kernel_rfl) (by kernel_rfl) (fun _ _ _ h => h) (Or.inl ⟨by rfl, fun w hSw => by (obtain ⟨q0, q1, q2, q3, q4, q5⟩ := row6 hSw; go_simp; with_reducible rfl)⟩) hHeld ?_
        simp only [Act.put, List.setIfInBounds_toArray, List.set_cons_zero, List.set_cons_succ]
        refine wpAnyH_ready (rs := [1, 3]) (by kernel_rfl) (by simp) ?_
        refine AllReadyH.cons rfl (fun K hK => ?_) (AllReadyH.cons rfl (fun K hK => ?_) AllReadyH.nil)
        · obtain ⟨o0, o1, o2, o3, o4, o5⟩ := row6 HO2.out
          go_simp
          have HRd := Lib.hid (HRD.out.stays (drewBn wa))
          have HBd := Lib.hid (drewBn wa)
          have HYd : Hid ((wa.drew).heap[wr.heap.size]? = _) := HY.out
          generalize wa.drew = wd at *
          clear hHeld
          refine hK.out _ _ HYd.out (fun hHeld => ?_)
          clear hK K
          refine wpAnyH_ready (rs := [3]) (by kernel_rfl) (by simp) ?_
          refine AllReadyH.cons rfl (fun K hK => ?_) AllReadyH.nil
          go_simp
          refine (IH.out q _ wd HSZ.out (by have := HN9.out; omega) HRd.out).mono ?_
          rintro e u1 ⟨c1, rfl, hq1, hb1⟩
          have HQ1 := Lib.hid hq1
          have HB1 := Lib.hid hb1
          have HY1 := Lib.hid ((hb1.block _ (Array.getElem?_eq_some_iff.1 HYd.out).1).trans HYd.out)
          clear hq1 hb1 hHeld
          refine hK.out _ _ HY1.out (fun hHeld => ?_)
          clear hK K
          refine wpAnyH_ready (rs := [4]) (by kernel_rfl) (by simp) ?_
          refine AllReadyH.cons rfl (fun K hK => ?_) AllReadyH.nil
          go_simp
          have HO1 := Lib.hid ((HB1.out.block _ (by have := HBd.out.size; have := (Array.getElem?_eq_some_iff.1 HO2.out).1; omega)).trans ((HBd.out.block _ (Array.getElem?_eq_some_iff.1 HO2.out).1).trans HO2.out))
          have HW3 := Lib.hid ((HW2.out.keep (w' := wd) (fun g _ hg => HBd.out.block g hg)).keep (w' := u1) (fun g _ hg => HB1.out.block g hg))
          have hY2 : (u1.alloc (Obj.cells #[.int .i64 c1.op, .int .i64 c1.lo, .int .i64 c1.hi, .int .i64 c1.mn, .int .i64 c1.mx, c1.a] 24)).heap[wr.heap.size]? = _ := (heap_alloc_old u1 _ (Array.getElem?_eq_some_iff.1 HY1.out).1).trans HY1.out
          clear hHeld
          refine hK.out _ _ hY2 (fun hHeld => ?_)
          clear hK K hHeld
          refine wpAnyH_ready (rs := [5]) (by kernel_rfl) (by simp) ?_
          refine AllReadyH.cons rfl (fun K hK => ?_) AllReadyH.nil
          rw [if_pos (by kernel_rfl)]
          refine wp_pushP (N := fun g => w.heap.size + 3 ≤ g) (B := w.heap.size + 3) (c := c1) (p := q) (v := .slice A k m) (cs := cl) (ps := l.take k) _ _ rfl HW3.out ?hq rfl rfl rfl ?hn ?hb ?_
          case hq =>
            refine HQ1.out.mono (fun g hg _ => ?_)
            have h1 := HBd.out.size
            have h2 := (Array.getElem?_eq_some_iff.1 HY.out).1
            have h3 := HZR.out
            refine ⟨by omega, fun he => ?_⟩
            have h4 := (HW.out.1.lt g he.symm).2
            omega
          case hn =>
            have h1 := HW.out.2.1
            rw [List.length_take] at h1
            have h2 := len_sz l
            have h3 := HN.out
            have h4 := HN9.out
            rw [RX.mk.sizeOf_spec] at h3
            omega
          case hb =>
            have h1 := HBd.out.size
            have h2 := (Array.getElem?_eq_some_iff.1 HY.out).1
            have h3 := HZR.out
            have h4 := HB1.out.size
            omega
          rintro v' u3 hown3 hg3 ⟨A3, m3, rfl⟩
          have hcl : cl.length = k := by
            have h1 := HW.out.2.1
            rw [List.length_take] at h1
            omega
          rw [hcl] at hown3
          rw [hcl]
          have HOWN := Lib.hid hown3
          have hlt2 : ∀ x, (some x = (Value.slice A k m).ownBlock) → w.heap.size + 3 ≤ x ∧ x < wr.heap.size := fun x hx => HW.out.1.lt x hx.symm
          have HO3 := Lib.hid ((hg3.block (w.heap.size + 1 + 1) (Array.getElem?_eq_some_iff.1 HO1.out).1 (fun he => by have := (hlt2 _ he).1; omega)).trans HO1.out)
          have hY3 := (hg3.block wr.heap.size (Array.getElem?_eq_some_iff.1 HY1.out).1 (fun he => by have := (hlt2 _ he).2; omega)).trans HY1.out
          refine hK.out _ _ hY3 (fun hHeld => ?_)
          clear hK K
          refine wpAnyH_ready (rs := [6]) (by kernel_rfl) (by simp) ?_
          refine AllReadyH.cons rfl (fun K hK => ?_) AllReadyH.nil
          go_simp
          clear hHeld
          refine hK.out _ _ hY3 (fun hHeld => ?_)
          clear hK K
          refine wpAnyH_ready (rs := [7]) (by kernel_rfl) (by simp) ?_
          refine AllReadyH.cons rfl (fun K hK => ?_) AllReadyH.nil
          have hfz : u3.frozen? ⟨w.heap.size + 1 + 1, 5, none⟩ = false := Lib.frozen_of_heap HO3.out 5
          obtain ⟨t0, t1, t2, t3, t4, t5⟩ := row6 HO3.out
          go_simp
          have HO4 := Lib.hid (heap_setCell_same u3 (w.heap.size + 1 + 1) 5 _ _ (.slice A3 (k + 1) m3) HO3.out)
          generalize hWs : World.setCell u3 _ _ = u4 at *
          have hoth : ∀ x, x ≠ w.heap.size + 1 + 1 → u4.heap[x]? = u3.heap[x]? := fun x hx => by
            rw [← hWs]
            exact Below.heap_setCell _ _ _ _ hx
          have hsz4 : u4.heap.size = u3.heap.size := by rw [← hWs]; simp
          have hY4 := (hoth wr.heap.size (by have := HZR.out; omega)).trans hY3
          have HB4 : Hid (Below w.heap.size w u4) := by
            have h1 := HBR.out.trans (HBd.out.mono HBR.out.size)
            have h2 := h1.trans (HB1.out.mono h1.size)
            have h3 := h2.grown hg3 h2.size (fun x hx => by have := (hlt2 x hx.symm).1; omega)
            rw [← hWs]
            exact h3.setCell (p := ⟨w.heap.size + 1 + 1, 5, none⟩) (by show _ ≤ w.heap.size + 1 + 1; omega) _
          have hel := (Array.getElem?_eq_some_iff.1 HE.out).1
          have hyl := (Array.getElem?_eq_some_iff.1 HY.out).1
          have HE4 : Hid (u4.heap[w.heap.size + 1]? = some (.cells #[.int .i64 0, .int .i64 0, .int .i64 0, .int .i64 0, .int .i64 0, .slice none 0 0] 24 (0, 0))) := by
            have h1 := (HBd.out.block _ (Array.getElem?_eq_some_iff.1 HE2.out).1).trans HE2.out
            have h2 := (HB1.out.block _ (Array.getElem?_eq_some_iff.1 h1).1).trans h1
            have h3 := (hg3.block _ (Array.getElem?_eq_some_iff.1 h2).1 (fun he => by have := (hlt2 _ he).1; omega)).trans h2
            exact (hoth _ (by omega)).trans h3
          have HZ4 : Hid (w.heap.size + 3 ≤ u4.heap.size) := by
            have h1 := HBd.out.size
            have h2 := HB1.out.size
            have h3 := hg3.size
            have h4 := HZR.out
            unfold Hid
            omega
          have HW4 : Hid (OwnP (fun g => w.heap.size + 3 ≤ g) (w.heap.size + 3) u4 (.slice A3 (k + 1) m3) (cl ++ [c1]) (l.take (k + 1))) := by
            unfold Hid
            rw [HTK.out]
            exact HOWN.out.keep (fun g hg _ => hoth g (by omega))
          clear hHeld
          refine hK.out _ _ hY4 (fun hHeld => ?_)
          clear hK K
          refine wpAnyH_done (by kernel_rfl) ?_ _
          clear hHeld
          go_simp
          go_wp2_with fail
          exact ⟨⟨k + 1, cl ++ [c1], A3, m3, by omega, rfl, HO4.out, HW4.out, HE4.out, HB4.out, HZ4.out⟩, by simp [intOf]; omega⟩
        · go_simp
          have HRd := Lib.hid (HRD.out.stays (drewBn wa))
          have HBd := Lib.hid (drewBn wa)
          have HYd : Hid ((wa.drew).heap[wr.heap.size]? = _) := HY.out
          generalize wa.drew = wd at *
          refine (IH.out q _ wd HSZ.out (by have := HN9.out; omega) HRd.out).mono ?_
          rintro e u1 ⟨c1, rfl, hq1, hb1⟩
          have HQ1 := Lib.hid hq1
          have HB1 := Lib.hid hb1
          have HY1 := Lib.hid ((hb1.block _ (Array.getElem?_eq_some_iff.1 HYd.out).1).trans HYd.out)
          clear hq1 hb1 hHeld
          refine hK.out _ _ HY1.out (fun hHeld => ?_)
          clear hK K
          have HO1 := Lib.hid ((HB1.out.block _ (by have := HBd.out.size; have := (Array.getElem?_eq_some_iff.1 HO2.out).1; omega)).trans ((HBd.out.block _ (Array.getElem?_eq_some_iff.1 HO2.out).1).trans HO2.out))
          have HW3 := Lib.hid ((HW2.out.keep (w' := wd) (fun g _ hg => HBd.out.block g hg)).keep (w' := u1) (fun g _ hg => HB1.out.block g hg))
          refine wpAnyH_ready (rs := [1, 4]) (by kernel_rfl) (by simp) ?_
          refine AllReadyH.cons rfl (fun K hK => ?_) (AllReadyH.cons rfl (fun K hK => ?_) AllReadyH.nil)
          · obtain ⟨o0, o1, o2, o3, o4, o5⟩ := row6 HO1.out
            go_simp
            clear hHeld
            refine hK.out _ _ HY1.out (fun hHeld => ?_)
            clear hK K
            refine wpAnyH_ready (rs := [4]) (by kernel_rfl) (by simp) ?_
            refine AllReadyH.cons rfl (fun K hK => ?_) AllReadyH.nil
            go_simp
            have hY2 : (u1.alloc (Obj.cells #[.int .i64 c1.op, .int .i64 c1.lo, .int .i64 c1.hi, .int .i64 c1.mn, .int .i64 c1.mx, c1.a] 24)).heap[wr.heap.size]? = _ := (heap_alloc_old u1 _ (Array.getElem?_eq_some_iff.1 HY1.out).1).trans HY1.out
            clear hHeld
            refine hK.out _ _ hY2 (fun hHeld => ?_)
            clear hK K hHeld
            refine wpAnyH_ready (rs := [5]) (by kernel_rfl) (by simp) ?_
            refine AllReadyH.cons rfl (fun K hK => ?_) AllReadyH.nil
            rw [if_pos (by kernel_rfl)]
            refine wp_pushP (N := fun g => w.heap.size + 3 ≤ g) (B := w.heap.size + 3) (c := c1) (p := q) (v := .slice A k m) (cs := cl) (ps := l.take k) _ _ rfl HW3.out ?hq rfl rfl rfl ?hn ?hb ?_
            case hq =>
              refine HQ1.out.mono (fun g hg _ => ?_)
              have h1 := HBd.out.size
              have h2 := (Array.getElem?_eq_some_iff.1 HY.out).1
              have h3 := HZR.out
              refine ⟨by omega, fun he => ?_⟩
              have h4 := (HW.out.1.lt g he.symm).2
              omega
            case hn =>
              have h1 := HW.out.2.1
              rw [List.length_take] at h1
              have h2 := len_sz l
              have h3 := HN.out
              have h4 := HN9.out
              rw [RX.mk.sizeOf_spec] at h3
              omega
            case hb =>
              have h1 := HBd.out.size
              have h2 := (Array.getElem?_eq_some_iff.1 HY.out).1
              have h3 := HZR.out
              have h4 := HB1.out.size
              omega
            rintro v' u3 hown3 hg3 ⟨A3, m3, rfl⟩
            have hcl : cl.length = k := by
              have h1 := HW.out.2.1
              rw [List.length_take] at h1
              omega
            rw [hcl] at hown3
            rw [hcl]
            have HOWN := Lib.hid hown3
            have hlt2 : ∀ x, (some x = (Value.slice A k m).ownBlock) → w.heap.size + 3 ≤ x ∧ x < wr.heap.size := fun x hx => HW.out.1.lt x hx.symm
            have HO3 := Lib.hid ((hg3.block (w.heap.size + 1 + 1) (Array.getElem?_eq_some_iff.1 HO1.out).1 (fun he => by have := (hlt2 _ he).1; omega)).trans HO1.out)
            have hY3 := (hg3.block wr.heap.size (Array.getElem?_eq_some_iff.1 HY1.out).1 (fun he => by have := (hlt2 _ he).2; omega)).trans HY1.out
            refine hK.out _ _ hY3 (fun hHeld => ?_)
            clear hK K
            refine wpAnyH_ready (rs := [6]) (by kernel_rfl) (by simp) ?_
            refine AllReadyH.cons rfl (fun K hK => ?_) AllReadyH.nil
            go_simp
            clear hHeld
            refine hK.out _ _ hY3 (fun hHeld => ?_)
            clear hK K
            refine wpAnyH_ready (rs := [7]) (by kernel_rfl) (by simp) ?_
            refine AllReadyH.cons rfl (fun K hK => ?_) AllReadyH.nil
            have hfz : u3.frozen? ⟨w.heap.size + 1 + 1, 5, none⟩ = false := Lib.frozen_of_heap HO3.out 5
            obtain ⟨t0, t1, t2, t3, t4, t5⟩ := row6 HO3.out
            go_simp
            have HO4 := Lib.hid (heap_setCell_same u3 (w.heap.size + 1 + 1) 5 _ _ (.slice A3 (k + 1) m3) HO3.out)
            generalize hWs : World.setCell u3 _ _ = u4 at *
            have hoth : ∀ x, x ≠ w.heap.size + 1 + 1 → u4.heap[x]? = u3.heap[x]? := fun x hx => by
              rw [← hWs]
              exact Below.heap_setCell _ _ _ _ hx
            have hsz4 : u4.heap.size = u3.heap.size := by rw [← hWs]; simp
            have hY4 := (hoth wr.heap.size (by have := HZR.out; omega)).trans hY3
            have HB4 : Hid (Below w.heap.size w u4) := by
              have h1 := HBR.out.trans (HBd.out.mono HBR.out.size)
              have h2 := h1.trans (HB1.out.mono h1.size)
              have h3 := h2.grown hg3 h2.size (fun x hx => by have := (hlt2 x hx.symm).1; omega)
              rw [← hWs]
              exact h3.setCell (p := ⟨w.heap.size + 1 + 1, 5, none⟩) (by show _ ≤ w.heap.size + 1 + 1; omega) _
            have hel := (Array.getElem?_eq_some_iff.1 HE.out).1
            have hyl := (Array.getElem?_eq_some_iff.1 HY.out).1
            have HE4 : Hid (u4.heap[w.heap.size + 1]? = some (.cells #[.int .i64 0, .int .i64 0, .int .i64 0, .int .i64 0, .int .i64 0, .slice none 0 0] 24 (0, 0))) := by
              have h1 := (HBd.out.block _ (Array.getElem?_eq_some_iff.1 HE2.out).1).trans HE2.out
              have h2 := (HB1.out.block _ (Array.getElem?_eq_some_iff.1 h1).1).trans h1
              have h3 := (hg3.block _ (Array.getElem?_eq_some_iff.1 h2).1 (fun he => by have := (hlt2 _ he).1; omega)).trans h2
              exact (hoth _ (by omega)).trans h3
            have HZ4 : Hid (w.heap.size + 3 ≤ u4.heap.size) := by
              have h1 := HBd.out.size
              have h2 := HB1.out.size
              have h3 := hg3.size
              have h4 := HZR.out
              unfold Hid
              omega
            have HW4 : Hid (OwnP (fun g => w.heap.size + 3 ≤ g) (w.heap.size + 3) u4 (.slice A3 (k + 1) m3) (cl ++ [c1]) (l.take (k + 1))) := by
              unfold Hid
              rw [HTK.out]
              exact HOWN.out.keep (fun g hg _ => hoth g (by omega))
            clear hHeld
            refine hK.out _ _ hY4 (fun hHeld => ?_)
            clear hK K
            refine wpAnyH_done (by kernel_rfl) ?_ _
            clear hHeld
            go_simp
            go_wp2_with fail
            exact ⟨⟨k + 1, cl ++ [c1], A3, m3, by omega, rfl, HO4.out, HW4.out, HE4.out, HB4.out, HZ4.out⟩, by simp [intOf]; omega⟩
          · go_simp
            have hY2 : (u1.alloc (Obj.cells #[.int .i64 c1.op, .int .i64 c1.lo, .int .i64 c1.hi, .int .i64 c1.mn, .int .i64 c1.mx, c1.a] 24)).heap[wr.heap.size]? = _ := (heap_alloc_old u1 _ (Array.getElem?_eq_some_iff.1 HY1.out).1).trans HY1.out
            clear hHeld
            refine hK.out _ _ hY2 (fun hHeld => ?_)
            clear hK K
            refine wpAnyH_ready (rs := [1]) (by kernel_rfl) (by simp) ?_
            refine AllReadyH.cons rfl (fun K hK => ?_) AllReadyH.nil
            have hO2 : (u1.alloc (Obj.cells #[.int .i64 c1.op, .int .i64 c1.lo, .int .i64 c1.hi, .int .i64 c1.mn, .int .i64 c1.mx, c1.a] 24)).heap[w.heap.size + 1 + 1]? = _ := (heap_alloc_old u1 _ (Array.getElem?_eq_some_iff.1 HO1.out).1).trans HO1.out
            obtain ⟨o0, o1, o2, o3, o4, o5⟩ := row6 hO2
            go_simp
            clear hHeld
            refine hK.out _ _ hY2 (fun hHeld => ?_)
            clear hK K hHeld o0 o1 o2 o3 o4 o5
            refine wpAnyH_ready (rs := [5]) (by kernel_rfl) (by simp) ?_
            refine AllReadyH.cons rfl (fun K hK => ?_) AllReadyH.nil
            rw [if_pos (by kernel_rfl)]
            refine wp_pushP (N := fun g => w.heap.size + 3 ≤ g) (B := w.heap.size + 3) (c := c1) (p := q) (v := .slice A k m) (cs := cl) (ps := l.take k) _ _ rfl HW3.out ?hq rfl rfl rfl ?hn ?hb ?_
            case hq =>
              refine HQ1.out.mono (fun g hg _ => ?_)
              have h1 := HBd.out.size
              have h2 := (Array.getElem?_eq_some_iff.1 HY.out).1
              have h3 := HZR.out
              refine ⟨by omega, fun he => ?_⟩
              have h4 := (HW.out.1.lt g he.symm).2
              omega
            case hn =>
              have h1 := HW.out.2.1
              rw [List.length_take] at h1
              have h2 := len_sz l
              have h3 := HN.out
              have h4 := HN9.out
              rw [RX.mk.sizeOf_spec] at h3
              omega
            case hb =>
              have h1 := HBd.out.size
              have h2 := (Array.getElem?_eq_some_iff.1 HY.out).1
              have h3 := HZR.out
              have h4 := HB1.out.size
              omega
            rintro v' u3 hown3 hg3 ⟨A3, m3, rfl⟩
            have hcl : cl.length = k := by
              have h1 := HW.out.2.1
              rw [List.length_take] at h1
              omega
            rw [hcl] at hown3
            rw [hcl]
            have HOWN := Lib.hid hown3
            have hlt2 : ∀ x, (some x = (Value.slice A k m).ownBlock) → w.heap.size + 3 ≤ x ∧ x < wr.heap.size := fun x hx => HW.out.1.lt x hx.symm
            have HO3 := Lib.hid ((hg3.block (w.heap.size + 1 + 1) (Array.getElem?_eq_some_iff.1 HO1.out).1 (fun he => by have := (hlt2 _ he).1; omega)).trans HO1.out)
            have hY3 := (hg3.block wr.heap.size (Array.getElem?_eq_some_iff.1 HY1.out).1 (fun he => by have := (hlt2 _ he).2; omega)).trans HY1.out
            refine hK.out _ _ hY3 (fun hHeld => ?_)
            clear hK K
            refine wpAnyH_ready (rs := [6]) (by kernel_rfl) (by simp) ?_
            refine AllReadyH.cons rfl (fun K hK => ?_) AllReadyH.nil
            go_simp
            clear hHeld
            refine hK.out _ _ hY3 (fun hHeld => ?_)
            clear hK K
            refine wpAnyH_ready (rs := [7]) (by kernel_rfl) (by simp) ?_
            refine AllReadyH.cons rfl (fun K hK => ?_) AllReadyH.nil
            have hfz : u3.frozen? ⟨w.heap.size + 1 + 1, 5, none⟩ = false := Lib.frozen_of_heap HO3.out 5
            obtain ⟨t0, t1, t2, t3, t4, t5⟩ := row6 HO3.out
            go_simp
            have HO4 := Lib.hid (heap_setCell_same u3 (w.heap.size + 1 + 1) 5 _ _ (.slice A3 (k + 1) m3) HO3.out)
            generalize hWs : World.setCell u3 _ _ = u4 at *
            have hoth : ∀ x, x ≠ w.heap.size + 1 + 1 → u4.heap[x]? = u3.heap[x]? := fun x hx => by
              rw [← hWs]
              exact Below.heap_setCell _ _ _ _ hx
            have hsz4 : u4.heap.size = u3.heap.size := by rw [← hWs]; simp
            have hY4 := (hoth wr.heap.size (by have := HZR.out; omega)).trans hY3
            have HB4 : Hid (Below w.heap.size w u4) := by
              have h1 := HBR.out.trans (HBd.out.mono HBR.out.size)
              have h2 := h1.trans (HB1.out.mono h1.size)
              have h3 := h2.grown hg3 h2.size (fun x hx => by have := (hlt2 x hx.symm).1; omega)
              rw [← hWs]
              exact h3.setCell (p := ⟨w.heap.size + 1 + 1, 5, none⟩) (by show _ ≤ w.heap.size + 1 + 1; omega) _
            have hel := (Array.getElem?_eq_some_iff.1 HE.out).1
            have hyl := (Array.getElem?_eq_some_iff.1 HY.out).1
            have HE4 : Hid (u4.heap[w.heap.size + 1]? = some (.cells #[.int .i64 0, .int .i64 0, .int .i64 0, .int .i64 0, .int .i64 0, .slice none 0 0] 24 (0, 0))) := by
              have h1 := (HBd.out.block _ (Array.getElem?_eq_some_iff.1 HE2.out).1).trans HE2.out
              have h2 := (HB1.out.block _ (Array.getElem?_eq_some_iff.1 h1).1).trans h1
              have h3 := (hg3.block _ (Array.getElem?_eq_some_iff.1 h2).1 (fun he => by have := (hlt2 _ he).1; omega)).trans h2
              exact (hoth _ (by omega)).trans h3
            have HZ4 : Hid (w.heap.size + 3 ≤ u4.heap.size) := by
              have h1 := HBd.out.size
              have h2 := HB1.out.size
              have h3 := hg3.size
              have h4 := HZR.out
              unfold Hid
              omega
            have HW4 : Hid (OwnP (fun g => w.heap.size + 3 ≤ g) (w.heap.size + 3) u4 (.slice A3 (k + 1) m3) (cl ++ [c1]) (l.take (k + 1))) := by
              unfold Hid
              rw [HTK.out]
              exact HOWN.out.keep (fun g hg _ => hoth g (by omega))
            clear hHeld
            refine hK.out _ _ hY4 (fun hHeld => ?_)
            clear hK K
            refine wpAnyH_done (by kernel_rfl) ?_ _
            clear hHeld
            go_simp
            go_wp2_with fail
            exact ⟨⟨k + 1, cl ++ [c1], A3, m3, by omega, rfl, HO4.out, HW4.out, HE4.out, HB4.out, HZ4.out⟩, by simp [intOf]; omega⟩
end Go.Proofs.YtggolmamacoplaaDoor
