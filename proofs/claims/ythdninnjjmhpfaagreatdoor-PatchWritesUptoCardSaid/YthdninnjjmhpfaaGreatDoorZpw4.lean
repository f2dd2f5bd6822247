/- PatchWrites returns true for every list of changes whose bulk is within the bound; its tied card. Conditions: the bound of the second form. -/
import Derived.Test.YthdninnjjmhpfaaGreatDoorZpw3
import Derived.Test.YthdninnjjmhpfaaGreatDoorCf
import Derived.Test.YthdninnjjmhpfaaGreatDoorTs
import Derived.Test.YthdninnjjmhpfaaGreatDoorCh
import Derived.Test.YthdninnjjmhpfaaGreatDoorTo
import Derived.Test.YthdninnjjmhpfaaGreatDoorRows
import Derived.ProofKit
import Derived.OpenVars
import Derived.Test.YthdninnjjmhpfaaGreatDoorCards
import Derived.Test.YthdninnjjmhpfaaGreatDoorTie
import Derived.OpenShut
import Derived.Deep.DeepHandedRow
import Derived.Lay
import Derived.LaidMore
import Derived.Stop.LaidErr
import Derived.Lib.TrailingZeros
namespace Go.Proofs.YthdninnjjmhpfaaGreatDoor
open Go.RowKit
set_option maxHeartbeats 16000000
set_option maxRecDepth 100000

theorem RdC.lt' {w : World} {S : Nat → Prop} {c : CC} {x : Ch} (h : RdC w S c x) : RdC w (fun b => b < w.heap.size) c x := stbC.mono (stbC.kept h (fun _ _ _ => rfl) (Nat.le_refl _)) (fun _ h => h.2)
/-- One element more: the row grown, then stored. -/
theorem ListAt.push {wc w5 w6 : World} {go B : Nat} {F F' : Value} {ll : List V} {cs : List VC} {c : VC} {x : V} (h : ListAt wc go B F ll) (hB : B ≤ go) (hcl : cs.length = ll.length)
    (hrd : ∀ i (h : i < ll.length) (h' : i < cs.length), RdI wc (fun b => TB B go b ∧ some b ≠ F.ownBlock) cs[i] ll[i]) (hx : RdI wc (fun b => TB B go b ∧ some b ≠ F.ownBlock) c x) (hown : w5.ownsRow (go + 1) 30 13 F' (ll.length + 1) (cs.flatMap VC.cells ++ VC.cells c))
    (hg : wc.grownBy w5 F.ownBlock) (hf : FreshRow wc F F') (hW : w5.setRow go (VC.cells ⟨hdK 6, .slice none 0 0, F', .slice none 0 0⟩).toArray = w6) : ListAt w6 go B F' (ll ++ [x]) := by
  have hlt := h.lt
  obtain ⟨m1, m2⟩ := h
  have hblk := m2.blk
  have hne : some go ≠ F.ownBlock := fun h => by have := (hblk go h.symm).1; omega
  have h5 := (hg.block go hlt hne).trans m1
  obtain ⟨c1, c2, c3, c4⟩ := setRow_of hW h5
  refine ⟨c1, OwnN.push (w := wc) stbV hcl hrd hx ?_ (fun b hT hb' hn => ?_) ?_ hf⟩
  · exact hown.kept (row := some go) ⟨(c4 go (Nat.le_refl _)).os, (c4 go (Nat.le_refl _)).tape, (c4 go (Nat.le_refl _)).output, by omega, fun b hb hne => c2 b (fun h => hne (by rw [h]))⟩ (.inr (fun h => by have := (hown.lt go h).1; omega))
  · exact (c2 b (by rcases hT with h | h <;> omega)).trans (hg.block b hb' hn)
  · have := hg.size; omega
theorem RWrite_any (v : Value) (xs : List Ch) (w : World) (hf : fewB xs = true) (hv : RdL w v xs) (hok : okC xs) (hw : WordsOk w) :
    Calls Tryz.prog 18 #[v] w (WrPost w xs) := by
  have HOUT : Hid (∀ w' c q, Below w.heap.size w w' → q = (wrR xs).2 → RdV w' c (wrR xs).1 → WrPost w xs (.returned (.tuple #[aggV c, .int .i64 (q : Nat)])) w') := fun w' c q hb hq hr => ⟨c, by rw [hq], hr, hb⟩
  have HV := Lib.hid hv
  have HWD0 := Lib.hid hw
  have HCHK := Lib.hid (fun w' (hb : Below w.heap.size w w') => RChk_any v xs w' hok (hv.below hb))
  have HOK := Lib.hid hok
  have HNOD := Lib.hid (nod_wrL xs hf)
  have HALL := Lib.hid (first_all (xs := xs))
  have HWR : Hid (wrR xs = if (firstL xs).2 ≠ 0 then (v0, (firstL xs).2) else if checkV (wrL xs) ≠ 0 then (v0, checkV (wrL xs)) else (wrL xs, 0)) := rfl
  obtain ⟨hn, hfew⟩ := fewB_is hf
  have HF := Lib.hid hfew
  obtain ⟨cc, ⟨a, cap, rfl, h1, ⟨h2, -⟩, h3, h4⟩, hc⟩ := hv
  have HA := Lib.hid h4
  have HC := Lib.hid hc
  generalize (firstL xs).2 = q at *
  generalize wrR xs = RR at *
  clear h4 h3 hc hfew hf hw hok
  go_enter Tryz.func18, Tryz.ntmps18
  go_wp2_with fail
  generalize hW : World.alloc w _ = w1
  obtain ⟨ha1, -, hz1, hb1⟩ := alloc_of hW
  clear hW
  refine (HCHK.out _ hb1).mono ?_
  rintro e w2 ⟨rfl, hb2⟩
  have HB2 := Lib.hid (hb1.trans (hb2.mono hb1.size))
  have HX2 : Hid (w2.heap[w.heap.size]? = some (.cells (VC.cells c0V).toArray 30 (0, 0))) := (hb2.block w.heap.size (by omega)).trans ha1
  have HZ2 : Hid (w.heap.size < w2.heap.size) := by unfold Hid; have := hb2.size; omega
  have HONE0 := Lib.hid (vc_one (v0_rd w (fun _ => True)))
  clear ha1 hz1 hb1 hb2 HCHK
  by_cases hq : q = 0
  case neg =>
    have qn : ((q : Int) != 0) = true := by rw [bne_iff_ne]; omega
    replace HWR : Hid (RR = (v0, q)) := by unfold Hid; rw [HWR.out, if_pos hq]
    clear hq
    go_wp2_with (refine wpl_store rfl rfl stVk.2 rfl rfl (cs := VC.cells c0V) rfl (cells_len _) HONE0.out HX2.out (Nat.le_refl 13) (row := VC.cells c0V) rfl ?_; generalize hW3 : World.setRow _ _ _ = w3; obtain ⟨hd3, hk3, hz3, hb3⟩ := setRow_of hW3 HX2.out; clear hW3)
    obtain ⟨⟨z0, z1, z2, z3, z4, z5, z6, z7, z8, z9, z10, z11, z12⟩, zf⟩ := box13 hd3
    exact bodyPost_ret (v := .tuple #[aggV c0V, .int .i64 q]) (by simp [results, Tryz.results18, go_sem, z0, z1, z2, z3, z4, z5, z6, z7, z8, z9, z10, z11, z12]) rfl (HOUT.out _ c0V q (HB2.out.trans (hb3 _ (Nat.le_refl _))) (by rw [HWR.out]) (by rw [HWR.out]; exact v0_rd _ _))
  subst hq
  replace HALL := Lib.hid (HALL.out rfl)
  replace HWR : Hid (RR = if checkV (wrL xs) ≠ 0 then (v0, checkV (wrL xs)) else (wrL xs, 0)) := by unfold Hid; rw [HWR.out]; rfl
  go_wp2_with fail
  generalize hW : World.alloc w2 _ = w3
  obtain ⟨ha3, -, hz3, hb3⟩ := alloc_of hW
  have HB3 := Lib.hid (HB2.out.trans (hb3.mono HB2.out.size))
  have HX3 := Lib.hid ((hb3.block _ HZ2.out).trans HX2.out)
  have HL3 : Hid (∃ F, ListAt w3 w2.heap.size w.heap.size F ((xs.take 0).map wrV)) := ⟨.slice none 0 0, ha3, OwnN.nil⟩
  have hgo : w.heap.size < w2.heap.size := HZ2.out
  clear hW ha3 hz3 hb3 HB2 HX2 HZ2
  generalize w2.heap.size = go at *
  go_loopw [6] (fun iv wr => ∃ k : Nat, k ≤ xs.length ∧ iv = .int .i64 k ∧ Hid (∃ F, ListAt wr go w.heap.size F ((xs.take k).map wrV)) ∧ Hid (Below w.heap.size w wr) ∧ Hid (wr.heap[w.heap.size]? = some (.cells (VC.cells c0V).toArray 30 (0, 0)))) (fun iv _ => xs.length - (intOf iv).toNat)
  case atStart => exact ⟨0, Nat.zero_le _, rfl, HL3, HB3, HX3⟩
  case round =>
    clear HL3 HB3 HX3
    obtain ⟨k, hk, rfl, HL, HB, HX⟩ := hrel
    by_cases hlt : k < xs.length
    case neg =>
      have hkx : xs.take k = xs := List.take_of_length_le (by omega)
      rw [hkx] at HL
      obtain ⟨Fo, hla⟩ := HL.out
      have hrds := hla.rdS (S := fun b => b ≠ w.heap.size) (by rw [List.length_map]; omega) (fun b hb => by rcases hb with h | h <;> omega)
      have hrd := hrds.any
      have HRDS := Lib.hid hrds
      clear hrds
      have HMC : Hid (∀ j, j < 13 → wr.cell? ⟨go, 0 + j, none⟩ = (VC.cells ⟨hdK 6, .slice none 0 0, Fo, .slice none 0 0⟩)[j]?) := rowV hla.1
      have HONE := Lib.hid (vc_one hrd)
      have HCK := Lib.hid (Check7_any (wrL xs) _ wr HNOD.out hrd)
      have HRD := Lib.hid hrd
      have hgol := hla.lt
      have HGO := Lib.hid hla.1
      clear hla hrd hkx HL
      generalize hq : checkV (wrL xs) = q at *
      clear hq
      go_wp2_with (refine wpl_load rfl rfl stVk rfl (cells_len _) HMC.out ?_)
      refine HCK.out.mono ?_
      rintro e w4 ⟨rfl, hb4⟩
      have HX4 := Lib.hid ((hb4.block _ (by omega)).trans HX.out)
      have HMC4 : Hid (∀ j, j < 13 → w4.cell? ⟨go, 0 + j, none⟩ = (VC.cells ⟨hdK 6, .slice none 0 0, Fo, .slice none 0 0⟩)[j]?) := rowV ((hb4.block _ hgol).trans HGO.out)
      have HB4 := Lib.hid (HB.out.trans (hb4.mono HB.out.size))
      have HRD4 := Lib.hid (HRDS.out.stays hb4)
      have HZ4 : Hid (w.heap.size < w4.heap.size) := by unfold Hid; have := hb4.size; omega
      clear hb4 HMC HCK HRD HGO HRDS
      by_cases hq0 : q = 0
      case neg =>
        have qn : ((q : Int) != 0) = true := by rw [bne_iff_ne]; omega
        replace HWR : Hid (RR = (v0, q)) := by unfold Hid; rw [HWR.out, if_pos hq0]
        clear hq0
        go_wp2_with (refine wpl_store rfl rfl stVk.2 rfl rfl (cs := VC.cells c0V) rfl (cells_len _) HONE0.out HX4.out (Nat.le_refl 13) (row := VC.cells c0V) rfl ?_; generalize hW3 : World.setRow _ _ _ = w5; obtain ⟨hd3, hk3, hz3, hb3⟩ := setRow_of hW3 HX4.out; clear hW3)
        obtain ⟨⟨z0, z1, z2, z3, z4, z5, z6, z7, z8, z9, z10, z11, z12⟩, zf⟩ := box13 hd3
        exact bodyPost_ret (v := .tuple #[aggV c0V, .int .i64 q]) (by simp [results, Tryz.results18, go_sem, z0, z1, z2, z3, z4, z5, z6, z7, z8, z9, z10, z11, z12]) rfl (HOUT.out _ c0V q (HB4.out.trans (hb3 _ (Nat.le_refl _))) (by rw [HWR.out]) (by rw [HWR.out]; exact v0_rd _ _))
      subst hq0
      replace HWR : Hid (RR = (wrL xs, 0)) := by unfold Hid; rw [HWR.out]; rfl
      go_wp2_with (first
        | refine wpl_load rfl rfl stVk rfl (cells_len _) HMC4.out ?_
        | (refine wpl_store rfl rfl stVk.2 rfl rfl (cs := VC.cells ⟨hdK 6, .slice none 0 0, Fo, .slice none 0 0⟩) rfl (cells_len _) HONE.out HX4.out (Nat.le_refl 13) (row := VC.cells ⟨hdK 6, .slice none 0 0, Fo, .slice none 0 0⟩) rfl ?_; generalize hW3 : World.setRow _ _ _ = w5; obtain ⟨hd3, hk3, hz3, hb3⟩ := setRow_of hW3 HX4.out; clear hW3))
      obtain ⟨⟨z0, z1, z2, z3, z4, z5, z6, z7, z8, z9, z10, z11, z12⟩, zf⟩ := box13 hd3
      exact bodyPost_ret (v := .tuple #[aggV ⟨hdK 6, .slice none 0 0, Fo, .slice none 0 0⟩, .int .i64 (0 : Nat)]) (by simp [results, Tryz.results18, go_sem, z0, z1, z2, z3, z4, z5, z6, z7, z8, z9, z10, z11, z12]) rfl (HOUT.out _ _ 0 (HB4.out.trans (hb3 _ (Nat.le_refl _))) (by rw [HWR.out]) (by rw [HWR.out]; exact (HRD4.out.kept (fun b hb _ => hk3 b hb) (by omega)).any))
    obtain ⟨g, o, rfl, hg, hat⟩ := HA.out (by omega)
    have hrd := HC.out k hlt
    have HSX : Hid (∀ w', Below w.heap.size w w' → ∀ j, j < 29 → w'.cell? ⟨g, o + k * 29 + j, none⟩ = (cc k).cells[j]?) := fun w' hb j hj => (hb.cell hg).trans (hat k hlt j hj)
    have HONEc := Lib.hid (ccells_one hrd)
    obtain ⟨hp1, hp2, hp3, hp4⟩ := one_ok (HALL.out k hlt)
    have HTM : Hid ((xs.take (k + 1)).map wrV = (xs.take k).map wrV ++ [wrV xs[k]]) := by unfold Hid; rw [List.take_succ_eq_append_getElem hlt, List.map_append]; rfl
    have hrdB : RdC w (fun b => b < w.heap.size) (cc k) xs[k] := hrd.lt'
    have HWD : Hid (∀ w', Below w.heap.size w w' → Calls Tryz.prog 42 #[.agg (cc k).cells.toArray] w' (WdPost w' w.heap.size xs[k])) := fun w' hb => written_any xs[k] (cc k) w' w.heap.size hb.size (hrdB.stays hb) (by omega) (by omega) hp1 hp2 hp3 (HWD0.out.below hb)
    have HTL : Hid (((xs.take k).map wrV).length < 100000000000) := by unfold Hid; rw [List.length_map, List.length_take]; omega
    have hk0 : (0 : Int) ≤ (k : Int) := by omega
    have hk1 : (k : Int) < (xs.length : Int) := by omega
    clear hat hrd hrdB hp1 hp2 hp3 hp4
    generalize xs[k] = x at *
    generalize cc k = c at *
    generalize (xs.take k).map wrV = ll at *
    obtain ⟨Fo, hla⟩ := HL.out
    obtain ⟨cs0, -, hown0, -⟩ := hla.2
    obtain ⟨va, vcap, rfl⟩ := own_form hown0
    have HLA := Lib.hid (hla.below (drewB wr))
    have HBW := Lib.hid (HB.out.trans ((drewB wr).mono HB.out.size))
    have HXW : Hid (wr.drew.heap[w.heap.size]? = some (.cells (VC.cells c0V).toArray 30 (0, 0))) := HX.out
    clear hown0 hla HL HB HX
    go_wp2_with fail
    refine wp_region_held_drew (S := fun w' => ∀ j, j < 29 → w'.cell? ⟨g, o + k * 29 + j, none⟩ = c.cells[j]?) (by kernel_rfl) (HSX.out _ HBW.out) (fun hHeld => ?_)
    generalize wr.drew = wd at *
    refine take_at 0 (some 21) rfl rfl (by kernel_rfl) (by kernel_rfl) (by kernel_rfl) (fun _ _ _ h => h) (Or.inl ⟨by rfl, fun w hSw => by (go_simp; with_reducible rfl)⟩) hHeld ?_
    simp only [Act.put, List.setIfInBounds_toArray, List.set_cons_zero, List.set_cons_succ]
    refine take_at 2 (some 23) rfl rfl (by kernel_rfl) (by kernel_rfl) (by kernel_rfl) (fun _ _ _ h => h) (Or.inl ⟨by rfl, fun w hSw => by (go_simp; with_reducible rfl)⟩) hHeld ?_
    simp only [Act.put, List.setIfInBounds_toArray, List.set_cons_zero, List.set_cons_succ]
    refine take_at 3 (some 24) rfl rfl (by kernel_rfl) (by kernel_rfl) (by kernel_rfl) (fun _ _ _ h => h) (Or.inl ⟨by rfl, fun w hSw => by (go_simp; with_reducible rfl)⟩) hHeld ?_
    simp only [Act.put, List.setIfInBounds_toArray, List.set_cons_zero, List.set_cons_succ]
    refine take_at 4 (some 25) rfl rfl (by kernel_rfl) (by kernel_rfl) (by kernel_rfl) (fun _ _ _ h => h) (Or.inl ⟨by rfl, fun w hSw => by (go_simp; with_reducible rfl)⟩) hHeld ?_
    simp only [Act.put, List.setIfInBounds_toArray, List.set_cons_zero, List.set_cons_succ]
    refine take_at 5 (some 26) rfl rfl (by kernel_rfl) (by kernel_rfl) (by kernel_rfl) (fun _ _ _ h => h) (yl_load (cs := CC.cells c) stC (ccells_len _) _ _ (fun w hS => hS) rfl _ rfl rfl) hHeld ?_
    simp only [Act.put, List.setIfInBounds_toArray, List.set_cons_zero, List.set_cons_succ]
    refine wpAnyH_ready (rs := [1, 6]) (by kernel_rfl) (by simp) ?_
    refine AllReadyH.cons rfl (fun K hK => ?_) (AllReadyH.cons rfl (fun K hK => ?_) (AllReadyH.nil))
    · obtain ⟨⟨-, -, -, -, -, -, -, -, -, -, -, x11, -⟩, -⟩ := box13 HLA.out.1
      go_simp
      refine hK.out _ _ (HSX.out _ HBW.out) (fun hHeld => ?_)
      clear hK K x11
      refine wpAnyH_ready (rs := [6]) (by kernel_rfl) (by simp) ?_
      refine AllReadyH.cons rfl (fun K hK => ?_) (AllReadyH.nil)
      go_simp
      refine (HWD.out _ HBW.out).mono ?_
      rintro e x2 ⟨c5, rfl, hrd5, hb⟩
      have hla := HLA.out
      have hblk := hla.2.blk
      have hgl := hla.lt
      have HXV : Hid (RdI x2 (fun b => TB w.heap.size go b ∧ some b ≠ (Value.slice va ll.length vcap).ownBlock) c5 (wrV x)) := hrd5.mono fun b hb => by
        refine ⟨by rcases hb with h | h; exact .inl h; exact .inr (by omega), fun h => ?_⟩
        have := hblk b h.symm
        rcases hb with h | h <;> omega
      have HONE5 := Lib.hid (vc_one hrd5.any)
      replace HXW := Lib.hid ((hb.block _ (by omega)).trans HXW.out)
      replace HLA := Lib.hid (hla.below hb)
      replace HBW := Lib.hid (HBW.out.trans (hb.mono HBW.out.size))
      clear hb hrd5 hla hblk hgl
      obtain ⟨cs, hcl, hown, hrds⟩ := HLA.out.2
      have HCL := Lib.hid hcl
      have HOWN := Lib.hid hown
      have HRS := Lib.hid hrds
      clear hcl hown hrds
      have HNE : Hid (some go ≠ (Value.slice va ll.length vcap).ownBlock) := fun h => by have := (HOWN.out.lt go h.symm).1; omega
      have HZG : Hid (go + 1 ≤ x2.heap.size) := HLA.out.lt
      refine hK.out _ _ (HSX.out _ HBW.out) (fun hHeld => ?_)
      clear hK K
      refine wpAnyH_ready (rs := [7]) (by kernel_rfl) (by simp) ?_
      refine AllReadyH.cons rfl (fun K hK => ?_) (AllReadyH.nil)
      go_simp
      refine hK.out _ _ (HSX.out _ (HBW.out.trans (((Below.refl _ _).alloc (Nat.le_refl _) _).mono HBW.out.size))) (fun hHeld => ?_)
      clear hK K
      refine wpAnyH_ready (rs := [8]) (by kernel_rfl) (by simp) ?_
      refine AllReadyH.cons rfl (fun K hK => ?_) AllReadyH.nil
      refine step_push2 elemV (by rfl) _ _ (by rfl) HOWN.out (VC.cells c5) (by rfl) HONE5.out (by rfl) (by rfl) HTL.out HZG.out ?_
      intro v5 w5 hown5 hg5 hb5 hf5 hq5
      clear hq5
      obtain ⟨va5, vcap5, rfl⟩ := own_form hown5
      have hgo5 := (hg5.block go HLA.out.lt HNE.out).trans HLA.out.1
      have HBW5 := Lib.hid (HBW.out.trans (hb5.mono (by omega)))
      refine hK.out _ _ (HSX.out _ HBW5.out) (fun hHeld => ?_)
      clear hK K
      refine take_at 9 (some 30) rfl rfl (by kernel_rfl) (by kernel_rfl) (by kernel_rfl) (fun _ _ _ h => h) (Or.inl ⟨by rfl, fun w hSw => by (go_simp; with_reducible rfl)⟩) hHeld ?_
      simp only [Act.put, List.setIfInBounds_toArray]
      refine wpAnyH_ready (rs := [10]) (by kernel_rfl) (by simp) ?_
      refine AllReadyH.cons rfl (fun K hK => ?_) AllReadyH.nil
      refine step_store (cs := [.slice va5 (ll.length + 1) vcap5]) _ rfl _ _ rfl st27 go 11 rfl rfl rfl rfl (by intro u hu; rw [List.mem_singleton.1 hu]; rfl) hgo5 (Nat.le_succ 12) rfl ?_
      generalize hW6 : World.setRow _ _ _ = w6
      have HF : Hid (∃ F, ListAt w6 go w.heap.size F (ll ++ [wrV x])) := ⟨_, HLA.out.push (by omega) HCL.out HRS.out HXV.out hown5 hg5 hf5 hW6⟩
      obtain ⟨-, hk6, hz6, hb6⟩ := setRow_of hW6 hgo5
      have HBW6 := Lib.hid (HBW5.out.trans (hb6 _ (by omega)))
      have HX6 := Lib.hid ((hk6 w.heap.size (by omega)).trans ((hb5.block _ (by omega)).trans HXW.out))
      refine hK.out _ _ (HSX.out _ HBW6.out) (fun hHeld => ?_)
      clear hK K hHeld hown5 hg5 hb5 hf5 hW6 hgo5 hk6 hz6 hb6
      refine wpAnyH_done (by kernel_rfl) ?_ _
      go_wp2_with fail
      exact ⟨⟨k + 1, by omega, rfl, by unfold Hid; rw [HTM.out]; exact HF.out, HBW6.out, HX6.out⟩, by simp [intOf]; omega⟩
    · go_simp
      refine (HWD.out _ HBW.out).mono ?_
      rintro e x4 ⟨c5, rfl, hrd5, hb⟩
      have hla := HLA.out
      have hblk := hla.2.blk
      have hgl := hla.lt
      have HXV : Hid (RdI x4 (fun b => TB w.heap.size go b ∧ some b ≠ (Value.slice va ll.length vcap).ownBlock) c5 (wrV x)) := hrd5.mono fun b hb => by
        refine ⟨by rcases hb with h | h; exact .inl h; exact .inr (by omega), fun h => ?_⟩
        have := hblk b h.symm
        rcases hb with h | h <;> omega
      have HONE5 := Lib.hid (vc_one hrd5.any)
      replace HXW := Lib.hid ((hb.block _ (by omega)).trans HXW.out)
      replace HLA := Lib.hid (hla.below hb)
      replace HBW := Lib.hid (HBW.out.trans (hb.mono HBW.out.size))
      clear hb hrd5 hla hblk hgl
      obtain ⟨cs, hcl, hown, hrds⟩ := HLA.out.2
      have HCL := Lib.hid hcl
      have HOWN := Lib.hid hown
      have HRS := Lib.hid hrds
      clear hcl hown hrds
      have HNE : Hid (some go ≠ (Value.slice va ll.length vcap).ownBlock) := fun h => by have := (HOWN.out.lt go h.symm).1; omega
      have HZG : Hid (go + 1 ≤ x4.heap.size) := HLA.out.lt
      refine hK.out _ _ (HSX.out _ HBW.out) (fun hHeld => ?_)
      clear hK K
      refine wpAnyH_ready (rs := [1, 7]) (by kernel_rfl) (by simp) ?_
      refine AllReadyH.cons rfl (fun K hK => ?_) (AllReadyH.cons rfl (fun K hK => ?_) (AllReadyH.nil))
      · obtain ⟨⟨-, -, -, -, -, -, -, -, -, -, -, x11, -⟩, -⟩ := box13 HLA.out.1
        go_simp
        refine hK.out _ _ (HSX.out _ HBW.out) (fun hHeld => ?_)
        clear hK K x11
        refine wpAnyH_ready (rs := [7]) (by kernel_rfl) (by simp) ?_
        refine AllReadyH.cons rfl (fun K hK => ?_) (AllReadyH.nil)
        go_simp
        refine hK.out _ _ (HSX.out _ (HBW.out.trans (((Below.refl _ _).alloc (Nat.le_refl _) _).mono HBW.out.size))) (fun hHeld => ?_)
        clear hK K
        refine wpAnyH_ready (rs := [8]) (by kernel_rfl) (by simp) ?_
        refine AllReadyH.cons rfl (fun K hK => ?_) AllReadyH.nil
        refine step_push2 elemV (by rfl) _ _ (by rfl) HOWN.out (VC.cells c5) (by rfl) HONE5.out (by rfl) (by rfl) HTL.out HZG.out ?_
        intro v5 w5 hown5 hg5 hb5 hf5 hq5
        clear hq5
        obtain ⟨va5, vcap5, rfl⟩ := own_form hown5
        have hgo5 := (hg5.block go HLA.out.lt HNE.out).trans HLA.out.1
        have HBW5 := Lib.hid (HBW.out.trans (hb5.mono (by omega)))
        refine hK.out _ _ (HSX.out _ HBW5.out) (fun hHeld => ?_)
        clear hK K
        refine take_at 9 (some 30) rfl rfl (by kernel_rfl) (by kernel_rfl) (by kernel_rfl) (fun _ _ _ h => h) (Or.inl ⟨by rfl, fun w hSw => by (go_simp; with_reducible rfl)⟩) hHeld ?_
        simp only [Act.put, List.setIfInBounds_toArray]
        refine wpAnyH_ready (rs := [10]) (by kernel_rfl) (by simp) ?_
        refine AllReadyH.cons rfl (fun K hK => ?_) AllReadyH.nil
        refine step_store (cs := [.slice va5 (ll.length + 1) vcap5]) _ rfl _ _ rfl st27 go 11 rfl rfl rfl rfl (by intro u hu; rw [List.mem_singleton.1 hu]; rfl) hgo5 (Nat.le_succ 12) rfl ?_
        generalize hW6 : World.setRow _ _ _ = w6
        have HF : Hid (∃ F, ListAt w6 go w.heap.size F (ll ++ [wrV x])) := ⟨_, HLA.out.push (by omega) HCL.out HRS.out HXV.out hown5 hg5 hf5 hW6⟩
        obtain ⟨-, hk6, hz6, hb6⟩ := setRow_of hW6 hgo5
        have HBW6 := Lib.hid (HBW5.out.trans (hb6 _ (by omega)))
        have HX6 := Lib.hid ((hk6 w.heap.size (by omega)).trans ((hb5.block _ (by omega)).trans HXW.out))
        refine hK.out _ _ (HSX.out _ HBW6.out) (fun hHeld => ?_)
        clear hK K hHeld hown5 hg5 hb5 hf5 hW6 hgo5 hk6 hz6 hb6
        refine wpAnyH_done (by kernel_rfl) ?_ _
        go_wp2_with fail
        exact ⟨⟨k + 1, by omega, rfl, by unfold Hid; rw [HTM.out]; exact HF.out, HBW6.out, HX6.out⟩, by simp [intOf]; omega⟩
      · go_simp
        refine hK.out _ _ (HSX.out _ (HBW.out.trans (((Below.refl _ _).alloc (Nat.le_refl _) _).mono HBW.out.size))) (fun hHeld => ?_)
        clear hK K
        refine wpAnyH_ready (rs := [1]) (by kernel_rfl) (by simp) ?_
        refine AllReadyH.cons rfl (fun K hK => ?_) (AllReadyH.nil)
        obtain ⟨⟨-, -, -, -, -, -, -, -, -, -, -, x11, -⟩, -⟩ := box13 HLA.out.1
        have hgl := HLA.out.lt
        go_simp
        refine hK.out _ _ (HSX.out _ (HBW.out.trans (((Below.refl _ _).alloc (Nat.le_refl _) _).mono HBW.out.size))) (fun hHeld => ?_)
        clear hK K x11 hgl
        refine wpAnyH_ready (rs := [8]) (by kernel_rfl) (by simp) ?_
        refine AllReadyH.cons rfl (fun K hK => ?_) AllReadyH.nil
        refine step_push2 elemV (by rfl) _ _ (by rfl) HOWN.out (VC.cells c5) (by rfl) HONE5.out (by rfl) (by rfl) HTL.out HZG.out ?_
        intro v5 w5 hown5 hg5 hb5 hf5 hq5
        clear hq5
        obtain ⟨va5, vcap5, rfl⟩ := own_form hown5
        have hgo5 := (hg5.block go HLA.out.lt HNE.out).trans HLA.out.1
        have HBW5 := Lib.hid (HBW.out.trans (hb5.mono (by omega)))
        refine hK.out _ _ (HSX.out _ HBW5.out) (fun hHeld => ?_)
        clear hK K
        refine take_at 9 (some 30) rfl rfl (by kernel_rfl) (by kernel_rfl) (by kernel_rfl) (fun _ _ _ h => h) (Or.inl ⟨by rfl, fun w hSw => by (go_simp; with_reducible rfl)⟩) hHeld ?_
        simp only [Act.put, List.setIfInBounds_toArray]
        refine wpAnyH_ready (rs := [10]) (by kernel_rfl) (by simp) ?_
        refine AllReadyH.cons rfl (fun K hK => ?_) AllReadyH.nil
        refine step_store (cs := [.slice va5 (ll.length + 1) vcap5]) _ rfl _ _ rfl st27 go 11 rfl rfl rfl rfl (by intro u hu; rw [List.mem_singleton.1 hu]; rfl) hgo5 (Nat.le_succ 12) rfl ?_
        generalize hW6 : World.setRow _ _ _ = w6
        have HF : Hid (∃ F, ListAt w6 go w.heap.size F (ll ++ [wrV x])) := ⟨_, HLA.out.push (by omega) HCL.out HRS.out HXV.out hown5 hg5 hf5 hW6⟩
        obtain ⟨-, hk6, hz6, hb6⟩ := setRow_of hW6 hgo5
        have HBW6 := Lib.hid (HBW5.out.trans (hb6 _ (by omega)))
        have HX6 := Lib.hid ((hk6 w.heap.size (by omega)).trans ((hb5.block _ (by omega)).trans HXW.out))
        refine hK.out _ _ (HSX.out _ HBW6.out) (fun hHeld => ?_)
        clear hK K hHeld hown5 hg5 hb5 hf5 hW6 hgo5 hk6 hz6 hb6
        refine wpAnyH_done (by kernel_rfl) ?_ _
        go_wp2_with fail
        exact ⟨⟨k + 1, by omega, rfl, by unfold Hid; rw [HTM.out]; exact HF.out, HBW6.out, HX6.out⟩, by simp [intOf]; omega⟩
end Go.Proofs.YthdninnjjmhpfaaGreatDoor

namespace Go.Proofs.YthdninnjjmhpfaaGreatDoor
open Go.RowKit
set_option maxHeartbeats 4000000
set_option maxRecDepth 100000

theorem okC_fewW {xs : List Ch} (h : fewB xs = true) : okC xs := by
  obtain ⟨h1, h2⟩ := fewB_is h
  refine ⟨by omega, fun i hi => ?_⟩
  obtain ⟨a, _, b, _⟩ := fewOne_is (h2 i hi)
  omega
theorem WritesL_any (v : Value) (xs : List Ch) (w : World) (hv : RdL w v xs) (he : EnvT w) (hw : WordsOk w) :
    Calls Tryz.prog 5 #[v] w fun e w' => e = .returned (.bool true) ∧ Below w.heap.size w w' := by
  have HFEW := Lib.hid (few_any v xs w hv)
  have HP := Lib.hid (fun w' (hf : fewB xs = true) (hb : Below w.heap.size w w') => PWrite_any v xs w' hf (hv.below hb) (okC_fewW hf) (he.below hb))
  have HR := Lib.hid (fun w' (hf : fewB xs = true) (hb : Below w.heap.size w w') => RWrite_any v xs w' hf (hv.below hb) (okC_fewW hf) (hw.below hb))
  clear hv he hw
  generalize fewB xs = q at *
  cases q with
  | false =>
    go_enter Tryz.func5, Tryz.ntmps5
    go_wp2_with fail
    refine HFEW.out.mono ?_
    rintro e w1 ⟨rfl, hb1⟩
    go_wp2_with fail
    go_ret
    exact ⟨rfl, hb1⟩
  | true =>
  replace HP := Lib.hid (fun w' hb => HP.out w' rfl hb)
  replace HR := Lib.hid (fun w' hb => HR.out w' rfl hb)
  go_enter Tryz.func5, Tryz.ntmps5
  go_wp2_with fail
  refine HFEW.out.mono ?_
  rintro e w1 ⟨rfl, hb1⟩
  have HB1 := Lib.hid hb1
  clear hb1 HFEW
  go_wp2_with fail
  refine (HP.out _ HB1.out).mono ?_
  rintro e w2 ⟨ca, rfl, hra, hb2⟩
  have HB2 := Lib.hid (HB1.out.trans (hb2.mono HB1.out.size))
  have HRA := Lib.hid hra
  have HONEa := Lib.hid (vc_one hra)
  clear hb2 hra HB1 HP
  go_wp2_with (refine wpl_new rfl rfl stV rfl (cs := VC.cells ca) rfl (cells_len _) HONEa.out rfl rfl rfl ?_; generalize hW1 : World.alloc _ _ = w3; obtain ⟨ha3, -, hz3, hb3⟩ := alloc_of hW1; have HA3 := Lib.hid ha3; have HB3 := Lib.hid (HB2.out.trans (hb3.mono HB2.out.size)); have HRA3 := Lib.hid (HRA.out.stays hb3); have HZ3 := Lib.hid hz3; clear hW1 ha3 hb3 hz3)
  generalize w2.heap.size = ga at *
  refine (HR.out _ HB3.out).mono ?_
  rintro e w4 ⟨cb, rfl, hrb, hb4⟩
  have HB4 := Lib.hid (HB3.out.trans (hb4.mono HB3.out.size))
  have HRB := Lib.hid hrb
  have HRA4 := Lib.hid (HRA3.out.stays hb4)
  have HA4 := Lib.hid ((hb4.block ga (by rw [HZ3.out]; omega)).trans HA3.out)
  have HONEb := Lib.hid (vc_one hrb)
  have HZ4 : Hid (ga < w4.heap.size) := by unfold Hid; have := hb4.size; have := HZ3.out; omega
  clear hb4 hrb HR HB3 HRA3 HRA HA3
  go_wp2_with (first
    | (refine wpl_new rfl rfl stV rfl (cs := VC.cells cb) rfl (cells_len _) HONEb.out rfl rfl rfl ?_; generalize hW1 : World.alloc _ _ = w5; obtain ⟨ha5, -, hz5, hb5⟩ := alloc_of hW1; have HA5 := Lib.hid (rowV ha5); have HB5 := Lib.hid (HB4.out.trans (hb5.mono HB4.out.size)); have HRA5 := Lib.hid (HRA4.out.stays hb5); have HRB5 := Lib.hid (HRB.out.stays hb5); have HC5 := Lib.hid (rowV ((hb5.block ga HZ4.out).trans HA4.out)); clear hW1 ha5 hb5 hz5)
    | refine wpl_loadG rfl stV rfl rfl (cells_len _) HC5.out ?_
    | refine wpl_loadG rfl stV rfl rfl (cells_len _) HA5.out ?_)
  refine (RSame_any _ (wrR xs).1 (wrR xs).1 ca cb w5 (Nat.le_refl _) HRA5.out HRB5.out).mono ?_
  rintro e w6 ⟨rfl, hb6⟩
  rw [eqV_self]
  have HB6 := Lib.hid (HB5.out.trans (hb6.mono HB5.out.size))
  clear hb6
  go_wp2_with fail
  go_ret
  exact ⟨rfl, HB6.out⟩
end Go.Proofs.YthdninnjjmhpfaaGreatDoor

namespace Go.Proofs.YthdninnjjmhpfaaGreatDoor
open Go.RowKit Go.ChangeShapes Go.Deep
set_option maxRecDepth 100000
set_option maxHeartbeats 1000000

section
variable {H : Type} {enc : TypeId × Value → H} {W : World}
theorem Rd.of_sl {v : Value} {n : Nat} {c : Nat → List Value} (h : Sl W v n 3 c) (hp : ∀ i, i < n → ∃ s : St, c i = stk s) : ∃ l, Rd W v l := by
  obtain ⟨f, hf⟩ := pick ((false, ⟨#[]⟩, 0) : St) hp
  obtain ⟨a, cap, rfl, h1, ⟨h2, h2'⟩, h3, h4⟩ := h
  refine ⟨(List.range n).map f, a, cap, by simp, by simpa using h1, h2', h3, fun hne => ?_⟩
  have h0 : 0 < n := by
    rcases Nat.eq_zero_or_pos n with h0 | h0
    · subst h0; exact absurd rfl hne
    · exact h0
  obtain ⟨g, o, ha, hg, hat⟩ := h4 h0
  refine ⟨g, o, ha, hg, fun i hi => ?_⟩
  rw [List.length_map, List.length_range] at hi
  have c0 := hat i hi 0 (by decide)
  have c1 := hat i hi 1 (by decide)
  have c2 := hat i hi 2 (by decide)
  rw [hf i hi] at c0 c1 c2
  simp only [List.getElem_map, List.getElem_range]
  exact ⟨c0, c1, c2⟩
theorem rdp_of {fuel : Nat} {v : Value} {x : DataW H × List MemPlace} (h : DataW.trod enc Tryz.prog W 0 (fun _ => true) true fuel 52 [v] = some x) (hw : WOk Tryz.prog 52 x.1) : ∃ l, Rd W v l := by
  have c1 : Tryz.prog.cellsOf 4 = 1 := by kernel_rfl
  have c2 : Tryz.prog.cellsOf 9 = 1 := by kernel_rfl
  have c3 : Tryz.prog.cellsOf 3 = 1 := by kernel_rfl
  obtain ⟨n, c, hs, _, hp⟩ := sl_of (size := 3) (v := v) (e := 94) (by kernel_rfl) (by decide) (p := fun cs => ∃ s : St, cs = stk s) Tryz.underlying52 h hw
    (fun k cs y _ h8 w8 => by
      obtain ⟨n2, _, hlen, hf⟩ := open_struct Tryz.underlying94 h8 w8
      rw [show Tryz.prog.cellsOf 94 = 3 by kernel_rfl] at hlen
      match cs, hlen with
      | [a, b, c], _ =>
        obtain ⟨z0, g0, _⟩ := hf 0 _ rfl
        obtain ⟨z1, g1, _⟩ := hf 1 _ rfl
        obtain ⟨z2, g2, _⟩ := hf 2 _ rfl
        have g0 : DataW.trod enc Tryz.prog W 0 (fun _ => true) true n2 4 (([a, b, c].drop 0).take (Tryz.prog.cellsOf 4)) = some z0 := g0
        have g1 : DataW.trod enc Tryz.prog W 0 (fun _ => true) true n2 9 (([a, b, c].drop 1).take (Tryz.prog.cellsOf 9)) = some z1 := g1
        have g2 : DataW.trod enc Tryz.prog W 0 (fun _ => true) true n2 3 (([a, b, c].drop 2).take (Tryz.prog.cellsOf 3)) = some z2 := g2
        rw [c1] at g0
        rw [c2] at g1
        rw [c3] at g2
        obtain ⟨b0, e0, _⟩ := DataW.trod_bool Tryz.underlying4 g0
        obtain ⟨b1, e1, _⟩ := DataW.trod_string Tryz.underlying9 g1
        obtain ⟨b2, e2, _⟩ := DataW.trod_int Tryz.underlying3 g2
        have e0' : a = .bool b0 := by simpa using e0
        have e1' : b = .string b1 := by simpa using e1
        have e2' : c = .int .i64 b2 := by simpa using e2
        exact ⟨(b0, b1, b2), by rw [e0', e1', e2']; rfl⟩) (fun cs h => by obtain ⟨s, rfl⟩ := h; rfl)
  exact Rd.of_sl hs hp
theorem rdc_of {fuel : Nat} {cs : List Value} {x : DataW H × List MemPlace} (h : DataW.trod enc Tryz.prog W 0 (fun _ => true) true fuel 54 cs = some x) (hw : WOk Tryz.prog 54 x.1) :
    ∃ c y, cs = CC.cells c ∧ RdC W (fun _ => True) c y := by
  obtain ⟨n, _, hlen, hf⟩ := open_struct Tryz.underlying54 h hw
  have c3 : Tryz.prog.cellsOf 3 = 1 := by kernel_rfl
  have c4 : Tryz.prog.cellsOf 52 = 1 := by kernel_rfl
  have c5 : Tryz.prog.cellsOf 30 = 13 := by kernel_rfl
  rw [show Tryz.prog.cellsOf 54 = 29 by kernel_rfl] at hlen
  match cs, hlen with
  | [a0, a1, a2, a3, a4, a5, a6, a7, a8, a9, a10, a11, a12, a13, a14, a15, a16, a17, a18, a19, a20, a21, a22, a23, a24, a25, a26, a27, a28], _ =>
    obtain ⟨z0, g0, _⟩ := hf 0 _ rfl
    obtain ⟨z1, g1, w1⟩ := hf 1 _ rfl
    obtain ⟨z2, g2, _⟩ := hf 2 _ rfl
    obtain ⟨z3, g3, w3⟩ := hf 3 _ rfl
    obtain ⟨z4, g4, w4⟩ := hf 4 _ rfl
    have g0 : DataW.trod enc Tryz.prog W 0 (fun _ => true) true n 3 (([a0, a1, a2, a3, a4, a5, a6, a7, a8, a9, a10, a11, a12, a13, a14, a15, a16, a17, a18, a19, a20, a21, a22, a23, a24, a25, a26, a27, a28].drop 0).take (Tryz.prog.cellsOf 3)) = some z0 := g0
    have g1 : DataW.trod enc Tryz.prog W 0 (fun _ => true) true n 52 (([a0, a1, a2, a3, a4, a5, a6, a7, a8, a9, a10, a11, a12, a13, a14, a15, a16, a17, a18, a19, a20, a21, a22, a23, a24, a25, a26, a27, a28].drop 1).take (Tryz.prog.cellsOf 52)) = some z1 := g1
    have g2 : DataW.trod enc Tryz.prog W 0 (fun _ => true) true n 3 (([a0, a1, a2, a3, a4, a5, a6, a7, a8, a9, a10, a11, a12, a13, a14, a15, a16, a17, a18, a19, a20, a21, a22, a23, a24, a25, a26, a27, a28].drop 2).take (Tryz.prog.cellsOf 3)) = some z2 := g2
    have g3 : DataW.trod enc Tryz.prog W 0 (fun _ => true) true n 30 (([a0, a1, a2, a3, a4, a5, a6, a7, a8, a9, a10, a11, a12, a13, a14, a15, a16, a17, a18, a19, a20, a21, a22, a23, a24, a25, a26, a27, a28].drop 3).take (Tryz.prog.cellsOf 30)) = some z3 := g3
    have g4 : DataW.trod enc Tryz.prog W 0 (fun _ => true) true n 30 (([a0, a1, a2, a3, a4, a5, a6, a7, a8, a9, a10, a11, a12, a13, a14, a15, a16, a17, a18, a19, a20, a21, a22, a23, a24, a25, a26, a27, a28].drop 16).take (Tryz.prog.cellsOf 30)) = some z4 := g4
    rw [c3] at g0 g2
    rw [c4] at g1
    rw [c5] at g3 g4
    obtain ⟨b0, e0, _, wf0⟩ := DataW.trod_int Tryz.underlying3 g0
    obtain ⟨b2, e2, _, wf2⟩ := DataW.trod_int Tryz.underlying3 g2
    obtain ⟨l, hl⟩ := rdp_of (v := a1) (by simpa using g1) w1
    obtain ⟨co, o, eo, ho⟩ := rdv_of _ _ _ _ (Nat.le_refl _) g3 w3
    obtain ⟨cn, nn, en, hn⟩ := rdv_of _ _ _ _ (Nat.le_refl _) g4 w4
    refine ⟨⟨b0, a1, b2, co, cn⟩, ⟨b0, l, b2, o, nn⟩, ?_, ⟨rfl, rfl, i64_of_wf wf0, i64_of_wf wf2, hl, (fun _ _ _ _ _ _ _ => trivial), ho, hn⟩⟩
    have e0' : a0 = .int .i64 b0 := by simpa using e0
    have e2' : a2 = .int .i64 b2 := by simpa using e2
    unfold CC.cells
    rw [← eo, ← en, e0', e2']
    rfl
theorem rdl_of {fuel : Nat} {v : Value} {x : DataW H × List MemPlace} (h : DataW.trod enc Tryz.prog W 0 (fun _ => true) true fuel 31 [v] = some x) (hw : WOk Tryz.prog 31 x.1) : ∃ xs, RdL W v xs := by
  obtain ⟨n, c, hs, _, hp⟩ := sl_of (size := 29) (v := v) (e := 54) (by kernel_rfl) (by decide) (p := fun cs => ∃ c y, cs = CC.cells c ∧ RdC W (fun _ => True) c y) Tryz.underlying31 h hw
    (fun k cs y _ h8 w8 => rdc_of h8 w8) (fun cs h => by obtain ⟨c, y, rfl, _⟩ := h; rfl)
  obtain ⟨cc, hcc⟩ := pick (⟨0, .slice none 0 0, 0, ⟨⟨0, false, false, ⟨#[]⟩, 0, 0, 0, 0, 0, ⟨#[]⟩, []⟩, .slice none 0 0, .slice none 0 0, .slice none 0 0⟩, ⟨⟨0, false, false, ⟨#[]⟩, 0, 0, 0, 0, 0, ⟨#[]⟩, []⟩, .slice none 0 0, .slice none 0 0, .slice none 0 0⟩⟩ : CC) hp
  obtain ⟨ys, hys⟩ := pick (⟨0, [], 0, .mk ⟨0, false, false, ⟨#[]⟩, 0, 0, 0, 0, 0, ⟨#[]⟩, []⟩ [] [], .mk ⟨0, false, false, ⟨#[]⟩, 0, 0, 0, 0, 0, ⟨#[]⟩, []⟩ [] []⟩ : Ch) hcc
  refine ⟨(List.range n).map ys, cc, ?_, fun i hi => ?_⟩
  · rw [List.length_map, List.length_range]
    obtain ⟨a, cap, e1, e2, e3, e4, e5⟩ := hs
    refine ⟨a, cap, e1, e2, e3, e4, fun hn => ?_⟩
    obtain ⟨g, o, e6, e7, e8⟩ := e5 hn
    exact ⟨g, o, e6, e7, fun i hi j hj => by rw [e8 i hi j hj, (hys i hi).1]⟩
  · rw [List.length_map, List.length_range] at hi
    simp only [List.getElem_map, List.getElem_range]
    exact (hys i hi).2
end
end Go.Proofs.YthdninnjjmhpfaaGreatDoor

namespace Go.Proofs.YthdninnjjmhpfaaGreatDoor
open Go.ChangeShapes Go.WideShapes Go.ChangeAt Go.RowKit
set_option maxRecDepth 100000
set_option maxHeartbeats 1000000

theorem Tryz.own : ownKnob Tryz.prog.godebug = none := by kernel_rfl
theorem Tryz.laidOut : laidOutB Tryz.prog = true := by kernel_rfl
theorem trodAll_stays {H : Type} {enc : TypeId × Value → H} {P : Program} {W W' : World} {sp' : Nat → Bool} (hl : laidOutB P = true) :
    ∀ {ts : List TypeId} {vs : List Value} {ds : List (DataW H)} {ps : List MemPlace}, ts.all (fun t => P.readableRec t && decide (t < P.types.size)) = true →
      DataW.TrodAll enc P W 0 (fun _ => true) true ts vs ds ps → (∀ p ∈ ps, W.sameAt W' p) → (∀ p ∈ ps, sp' p.block = true) → DataW.TrodAll enc P W' 0 sp' true ts vs ds ps
  | [], [], [], _, _, h, _, _ => h
  | t :: ts, v :: vs, d :: ds, ps, ht, ⟨p, q, h1, h2, e⟩, hs, hsp => by
    simp only [List.all_cons, Bool.and_eq_true, decide_eq_true_eq] at ht
    refine ⟨p, q, WideElems.Trod_stays hl ht.1.1 ht.1.2 h1 (fun x hx => hs x ?_) (fun x hx => hsp x ?_), trodAll_stays hl ht.2 h2 (fun x hx => hs x ?_) (fun x hx => hsp x ?_), e⟩
    · rw [e]; exact List.mem_append_left _ hx
    · rw [e]; exact List.mem_append_left _ hx
    · rw [e]; exact List.mem_append_right _ hx
    · rw [e]; exact List.mem_append_right _ hx
theorem post_law {H : Type} {enc : TypeId × Value → H} {f : Func} {s : ChangeSpec} {fresh handsOn again : Bool} {W W' : World} {args : Array Value} {ds gs : List (DataW H)} {before : List MemPlace}
    (hW : DataW.Whole enc Tryz.prog f.params.toList s.vars false W args.toList ds gs before) (hv : s.vars = [])
    (hp : f.params.toList.all (fun t => Tryz.prog.readableRec t && decide (t < Tryz.prog.types.size)) = true)
    (hr : f.resultTypes = #[4]) (hfn : s.fn H (ds ++ gs) = { results := [.lit (.bool true)], args := ds })
    (hk : Below W.heap.size W W') : s.post enc Tryz.prog f false fresh handsOn again W args (.bool true) W' := by
  have hW' := hW
  obtain ⟨p, q, hA, hV, hps, hfz, _⟩ := hW
  rw [hv] at hV
  obtain ⟨rfl, rfl⟩ := trodVars_none hV
  rw [List.append_nil] at hps
  subst hps
  have hlt : ∀ x ∈ before, x.block < W.heap.size := fun x hx => hW'.lt x hx
  have hargs : ∀ sp' : Nat → Bool, (∀ x ∈ before, sp' x.block = true) → DataW.TrodAll enc Tryz.prog W' 0 sp' true f.params.toList args.toList ds before :=
    fun sp' hsp => trodAll_stays Tryz.laidOut hp hA (fun x hx => hk.same (hlt x hx)) hsp
  have hres : ∀ (b : Nat) (sp : Nat → Bool) (hd : Bool), DataW.TrodAll enc Tryz.prog W' b sp hd f.resultTypes.toList ((Value.bool true).resultList f.resultTypes.size) [.lit (.bool true)] [] := by
    intro b sp hd
    rw [hr]
    exact trodAll_mk1 (shut_bool Tryz.underlying4 true)
  refine ⟨ds, [], before, [], before, [], hW', by rw [hfn]; exact hres _ _ _, by rw [hfn]; exact hargs _ (fun x hx => by simpa using hlt x hx), by rw [hfn, hv]; exact rfl, hk.frame _, fun _ => ⟨ok_one hr rfl (okWide_bool_mk Tryz.underlying4 _), [.lit (.bool true)] ++ ds, [], before, ⟨[] ++ before, [], trodAll_append (hargs _ (fun _ _ => rfl)) (hres _ _ _), by rw [hv]; exact rfl, by simp, ?_, fun h => by cases h⟩, fun x hx _ => hx⟩⟩
  intro b off hx
  rw [← hfz b off hx]
  exact hk.frozen (p := ⟨b, off, none⟩) (hlt _ hx)
end Go.Proofs.YthdninnjjmhpfaaGreatDoor

namespace Go.Proofs.YthdninnjjmhpfaaGreatDoor
open Go.ChangeShapes Go.WideShapes Go.ChangeAt Go.RowKit
set_option maxRecDepth 100000

theorem str_bytes {s : ByteArray} {l : List UInt8} (h : s.data.toList = l) : s = ⟨l.toArray⟩ := by
  subst h
  rfl
/-- An array of strings that reads as listed holds them. -/
theorem cells_of_strs {H : Type} {enc : TypeId × Value → H} {P : Program} {w : World} {base : Nat} {sp : Nat → Bool} {held : Bool} {fuel : Nat} {t e : TypeId} {n : Nat} {cs : List Value} {zs : List (List UInt8)} {p : List MemPlace}
    (ht : P.underlying t = some (.array n e)) (he : P.underlying e = some .string) (hce : P.cellsOf e = 1) (hct : P.cellsOf t = n)
    (h : DataW.trod enc P w base sp held fuel t cs = some (.agg (zs.map fun z => .lit (.string z)), p)) : cs = zs.map fun z => Value.string ⟨z.toArray⟩ := by
  cases fuel with
  | zero => simp [DataW.trod] at h
  | succ fuel =>
    simp only [DataW.trod, ht, hce, hct, Nat.mul_one] at h
    split at h
    · rename_i hl
      obtain ⟨xs, hm, hx⟩ := Option.map_eq_some_iff.1 h
      have hxs : xs.map (·.1) = zs.map fun z => (DataW.lit (.string z) : DataW H) := by
        have := congrArg Prod.fst hx
        simpa using this
      have hxl : xs.length = n := by simpa using Lib.mapM_length hm
      have hzl : zs.length = n := by
        have := congrArg List.length hxs
        simp at this
        omega
      apply List.ext_getElem?
      intro i
      by_cases hi : i < n
      · obtain ⟨b, hb, hf⟩ := Lib.mapM_at hm i i (by simp [hi])
        obtain ⟨z, hc, rfl, _⟩ := DataW.trod_string he hf
        have h1 : cs[i]? = some (.string z) := by
          have := congrArg (·[0]?) hc
          simpa [List.getElem?_take, List.getElem?_drop] using this
        have h2 : (xs.map (·.1))[i]? = some (DataW.lit (.string z.data.toList) : DataW H) := by simp [hb]
        rw [hxs] at h2
        simp only [List.getElem?_map, Option.map_eq_some_iff, DataW.lit.injEq, Lit.string.injEq] at h2
        obtain ⟨z', hz', h3⟩ := h2
        rw [str_bytes h3.symm] at h1
        simp [h1, hz']
      · rw [List.getElem?_eq_none (by omega), List.getElem?_eq_none (by simp; omega)]
    · cases h
theorem words_of_head {W : World} {rest : List (String × DataW Unit)} (h : laidMet Tryz.prog (("datakit/datakitref56.words", Rows.laid_datakit_datakitref56_words) :: rest) W) : WordsOk W := by
  obtain ⟨ps, ⟨g', t', cs, fuel, p, q, hg', ht', hvar, hd, _, _⟩, _⟩ := h
  have hg : Tryz.prog.globalNamed "datakit/datakitref56.words" = some 0 := by kernel_rfl
  obtain rfl := Option.some.inj (hg.symm.trans hg')
  have hty : (Tryz.prog.globals[0]?).map (·.type) = some 105 := by kernel_rfl
  obtain rfl := Option.some.inj (hty.symm.trans ht')
  have hcs := cells_of_strs (zs := [[], [114, 101, 112, 108, 97, 99, 101], [105, 110, 115, 101, 114, 116], [114, 101, 109, 111, 118, 101], [116, 101, 115, 116]]) Tryz.underlying105 Tryz.underlying9 (by kernel_rfl) (by kernel_rfl) hd
  have hc : ∀ n, W.cell? ⟨0, n, none⟩ = cs.toList[n]? := fun n => (World.var?_cell hg hvar n).trans Array.getElem?_toList.symm
  refine ⟨?_, fun n h1 h4 => ?_⟩
  · have h1 := hc 1
    rw [hcs] at h1
    rcases Nat.lt_or_ge 0 W.heap.size with h' | h'
    · exact h'
    · rw [World.cell?, Array.getElem?_eq_none h'] at h1
      cases h1
  · rw [hc, hcs]
    match n, h1, h4 with
    | 1, _, _ => rfl
    | 2, _, _ => rfl
    | 3, _, _ => rfl
    | 4, _, _ => rfl
theorem env_of_laidW {W : World} (h : laidMetH Tryz.prog Rows.patchWritesUptoRow.laid W) : EnvT W ∧ WordsOk W := by
  rw [MakeChecks.laidMetH_plain _ _ _ (by kernel_rfl)] at h
  have hw := words_of_head h
  have h1 := laidMet.tail (laidMet.tail h)
  have h2 := laidMet.tail h1
  have d1 : (Rows.laid_math_bits_deBruijn64tab : DataW Unit) = Lib.tabData .u8 (Lib.deBruijn64tab.map fun n : Nat => (n : Int)) := by kernel_rfl
  have d2 : (Rows.laid_internal_strconv_uint64pow10 : DataW Unit) = Lib.tabData .u64 Lib.pow10Tab := by kernel_rfl
  rw [d1] at h1
  rw [d2] at h2
  have t4 := Lib.tabIs_of_head (P := Tryz.prog) (g := 8) (by kernel_rfl) (by kernel_rfl) Tryz.underlying221 Tryz.underlying5 (by kernel_rfl) (by kernel_rfl) h1
  have t2 := Lib.tabIs_of_head (P := Tryz.prog) (g := 3) (by kernel_rfl) (by kernel_rfl) Tryz.underlying201 Tryz.underlying179 (by kernel_rfl) (by kernel_rfl) h2
  have c4 := t4.cell (g := 8) (by kernel_rfl) 15 (by decide)
  have c4' : W.cell? ⟨8, 15, none⟩ = some (.int .u8 4) := c4
  have c2 := t2.cell (g := 3) (by kernel_rfl) 0 (by decide)
  have lt : ∀ {g i : Nat} {v : Value}, W.cell? ⟨g, i, none⟩ = some v → g < W.heap.size := by
    intro g i v h
    rcases Nat.lt_or_ge g W.heap.size with h' | h'
    · exact h'
    · simp [World.cell?, Array.getElem?_eq_none h'] at h
  exact ⟨⟨t2, lt c2, lt c4', c4'⟩, hw⟩
theorem patchWrites_contract (H : Type) (enc : TypeId × Value → H) (W : World) (base : Nat) (args : Array Value) (ds gs : List (DataW H)) (before : List MemPlace)
    (hval0 : ∀ (j : Nat) t v, Tryz.f5.params[j]? = some t → args[j]? = some v → Value.okWide Tryz.prog W .any base t v)
    (hW : DataW.Whole enc Tryz.prog Tryz.f5.params.toList Rows.patchWritesSpec.vars false W args.toList ds gs before) (hk : Rows.uptoSmall H (ds ++ gs) = true) (hl : laidMetH Tryz.prog Rows.patchWritesUptoRow.laid W) :
    Calls Tryz.prog 5 args W fun e W' => ∃ v, e = .returned v ∧ Rows.patchWritesSpec.post enc Tryz.prog Tryz.f5 false true false false W args v W' := by
  have hval := hval0
  have hW' := hW
  obtain ⟨p, q, hA0, hV, hps, hfz, hnd⟩ := hW
  have hA : DataW.TrodAll enc Tryz.prog W 0 (fun _ => true) true Tryz.f5.params.toList args.toList ds p := hA0
  rw [Tryz.params5] at hA hval
  obtain ⟨v0, vs0, d0, ds0, p0, q0, hargs, rfl, rfl, h0, r0⟩ := trodAll_cons hA
  obtain ⟨rfl, rfl, rfl⟩ := trodAll_nil r0
  obtain rfl : args = #[v0] := by cases args; simp_all
  obtain ⟨rfl, rfl⟩ := trodVars_none hV
  obtain ⟨fuel, hf⟩ := h0
  obtain ⟨a, len, cap, rfl⟩ := okWide_slice Tryz.underlying31 (hval 0 31 v0 rfl rfl)
  obtain ⟨xs, hxs⟩ := rdl_of hf (wok_all hk (by simp))
  obtain ⟨he0, hw0⟩ := env_of_laidW hl
  refine (WritesL_any _ xs W hxs he0 hw0).mono fun e W' ⟨he, hb⟩ => ?_
  subst he
  exact ⟨_, rfl, post_law hW' rfl (by kernel_rfl) (by kernel_rfl) rfl hb⟩
theorem patchWrites_met (os : Os) : laidMet Tryz.prog Rows.patchWritesUptoRow.laid ((World.laidAll Tryz.prog os Rows.patchWritesUptoRow.laid).forCall (fun _ _ => 0) ⟨#[], #[.slice none 0 0], []⟩).memory :=
  laidMet_laidAll _ (by kernel_rfl) (by kernel_rfl)
theorem patchWrites_reads (os : Os) {H : Type} (enc : TypeId × Value → H) : ∃ places, DataW.whole enc Tryz.prog ((World.laidAll Tryz.prog os Rows.patchWritesUptoRow.laid).forCall (fun _ _ => 0) ⟨#[], #[.slice none 0 0], []⟩).memory Tryz.f5.params.toList Rows.patchWritesSpec.vars false #[Value.slice none 0 0].toList 8 = some ([.nil], [], places) :=
  ⟨[], by kernel_rfl⟩
theorem patchWrites_lifted (os : Os) (started : os.Started) (H : Type) (enc : TypeId × Value → H) (F : Stop.Interp) :
    ReturnsInHanded {} Tryz.checked os 5 .any ((Rows.OpenSpec.upto Rows.patchWritesSpec).preRow enc Tryz.prog Tryz.f5 Rows.patchWritesUptoRow.domain false Rows.patchWritesUptoRow.laid) (((Rows.OpenSpec.upto Rows.patchWritesSpec).at F).post enc Tryz.prog Tryz.f5 false true false false) := by
  obtain ⟨places, hx⟩ := patchWrites_reads os enc
  refine returnsInHanded_of_row (C := Tryz.checked) (s := Rows.OpenSpec.upto Rows.patchWritesSpec) Tryz.own started (by kernel_rfl) Tryz.func5
    (witness_row_at (enc := enc) (C := Tryz.checked) false (World.laidAll Tryz.prog os Rows.patchWritesUptoRow.laid) #[.slice none 0 0] (World.laidAll_os _ _ _) (by kernel_rfl) (by kernel_rfl) (by kernel_rfl)
      (OpenSpec.preRow_of_cond 8 hx (by kernel_rfl) (fun k hk => by cases hk; kernel_rfl) (by kernel_rfl) (patchWrites_met os))) ?_
  intro W base args ds gs before hval hW _ hk _ hl _ _
  exact patchWrites_contract H enc W base args ds gs before hval hW (hk _ rfl) hl
theorem patchWritesUpto_holds : Rows.PatchWritesUptoSaid :=
  OpenClaim.holds_of_cond 5 Tryz.f5 rfl rfl rfl rfl rfl rfl rfl ⟨rfl, rfl, rfl, rfl, rfl⟩ rfl rfl rfl rfl rfl (by kernel_rfl) Tryz.func5 (by kernel_rfl)
    (of_decide_eq_true (by kernel_rfl)) (by unfold Func.isWrapper; first | (rw [if_pos (by decide +kernel)]; kernel_rfl) | (rw [if_neg (by decide +kernel)]; exact ⟨rfl, rfl⟩))
    (fun os started H enc _ F => by rw [OpenClaim.pre_eq_preRow]; exact patchWrites_lifted os started H enc F)
theorem patchWrites_plain (f : FuncId) (fn : Func) (hf : Tryz.pinned.checked.prog.funcNamed "datakit/datakitlaw56.PatchWrites" = some f) (hfn : Tryz.pinned.checked.prog.funcs[f]? = some fn) :
    true = Tryz.pinned.checked.prog.looks [] ∧ ∀ (j : Nat) t, fn.params[j]? = some t → Tryz.pinned.checked.prog.wantsStandIn t = false := by
  obtain rfl : f = 5 := Option.some.inj ((show Tryz.prog.funcNamed "datakit/datakitlaw56.PatchWrites" = some 5 by kernel_rfl).symm.trans hf) |>.symm
  obtain rfl : fn = Tryz.f5 := (Option.some.inj (Tryz.func5.symm.trans hfn)).symm
  refine ⟨by kernel_rfl, fun j t ht => ?_⟩
  rw [Tryz.params5] at ht
  obtain rfl : t = 31 := by simpa using Array.mem_of_getElem? ht
  exact (show Tryz.prog.wantsStandIn 31 = false by kernel_rfl)
theorem patchWritesUpto_card : Rows.PatchWritesUptoCardSaid :=
  Claim7.holds_tied_plain_at .later [] _ _ _ _ patchWritesUpto_holds (fun _ h => by cases h) (by kernel_rfl) (fun _ h => by cases h) patchWritesUpto_row_tie rfl ⟨rfl, rfl⟩ (by kernel_rfl) rfl patchWrites_plain (by kernel_rfl)
end Go.Proofs.YthdninnjjmhpfaaGreatDoor
