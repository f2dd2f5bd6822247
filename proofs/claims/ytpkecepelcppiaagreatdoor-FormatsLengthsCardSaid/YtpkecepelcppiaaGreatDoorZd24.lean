/- datakitref16.classes walked; printed by gen_gc.py. Conditions: fewer than 1000 states. -/
import Derived.Test.YtpkecepelcppiaaGreatDoorZd22
import Derived.Test.YtpkecepelcppiaaGreatDoorZd23
import Derived.Maps.OwnSet
namespace Go.Proofs.YtpkecepelcppiaaGreatDoor
open Go.RowKit Go.Shelf Go.Maps
set_option maxHeartbeats 8000000
set_option maxRecDepth 100000

theorem cell_ltA {w : World} {g o : Nat} {v : Value} (h : w.cell? ⟨g, o, none⟩ = some v) : g < w.heap.size := by
 rcases Nat.lt_or_ge g w.heap.size with h1 | h1
 ·exact h1
 ·simp [World.cell?, Array.getElem?_eq_none h1] at h
theorem step_pushLA {α : Type} {ops : Array Oper} {o : Oper} {a : Act} {w : World} {K : Act → World → Prop} {Q : Exit → Act → World → Prop} {E : Prop} {B k sz : Nat} {S e : TypeId} {f : α → List Value} {v : Value} {l : List α} {x : α}
  (hgd : o.guard = none) (s y : Operand)
  (ho : o.op = .call { callee := .builtin .append, args := #[s, y], argTypes := #[S, S] }) (hel : Elem Tryz.prog S e sz)
  (hf : ∀ a, (f a).length = sz) (hsz0 : 0 < sz) (hone : ∀ u ∈ f x, u.oneCell' = true) (hown : OwnL B e sz f w v l) (hs : a.eval s = v) (hx : a.eval y = .slice (some ⟨k, 0, none⟩) 1 1) (hk : k = w.heap.size) (hn : l.length < 1000000000) (hbase : B ≤ w.heap.size)
  (h : ∀ v' w', OwnL B e sz f w' v' (l ++ [x]) → w.grownBy w' v.ownBlock → (∃ A cap, v' = .slice A (l.length + 1) cap) → (v'.ownBlock = v.ownBlock ∨ ∃ k, w.heap.size ≤ k ∧ v'.ownBlock = some k) → K (a.put o.dst v') w') :
  if Region.wanted o (yielded ops a.tmps) = true then o.wp Tryz.prog a (w.alloc (.cells (f x).toArray e)) K Q else E := by
 have hw : Region.wanted o (yielded ops a.tmps) = true := by simp [Region.wanted, hgd]
 rw [if_pos hw]
 exact wp_pushL s y ho hel hf hsz0 hone hown hs hx hk hn hbase h
theorem keyedStr : Keyed Tryz.prog 9 := string_keyed Tryz.underlying9
theorem zeroInt (w : World) : (zeroValue 3).run Tryz.prog w = .ok (.int .i64 0) w := by kernel_rfl
theorem slice_infoZ : (Tryz.prog.info? 82).map (fun i => (i.zero, i.size, i.bytes)) = some (some (.slice none 0 0), 1, 24) := by kernel_rfl
theorem int_infoZ : (Tryz.prog.info? 3).map (fun i => (i.zero, i.size, i.bytes)) = some (some (.int .i64 0), 1, 8) := by kernel_rfl
theorem val_lo {m : List StA} (hv : valA m = true) (i : Nat) (hi : i < m.length) (j : Nat) (hj : j < m[i].arcs.length) : (m[i].arcs[j]).lo ≤ 255 := by
 have h : ∀ (n : Nat) (l : List ArcA) (b : Nat), okArcs n b l = true → ∀ (j : Nat) (hj : j < l.length), (l[j]).lo ≤ 255 := by
  intro n l
  induction l with
  | nil => intro b _ j hj; exact absurd hj (Nat.not_lt_zero _)
  | cons a t ih =>
   intro b h j hj
   unfold okArcs at h
   simp only [Bool.and_eq_true, decide_eq_true_eq] at h
   cases j with
   | zero => show a.lo ≤ 255; omega
   | succ j => exact ih _ h.2 j (by simpa using hj)
 exact h _ _ _ (val_at hv i hi) j hj
theorem starts_len (m : List StA) : (startsA m).length ≤ 256 := stG_len m 256
theorem valA_pos {m : List StA} (hv : valA m = true) : 0 < m.length := by
 unfold valA at hv
 simp only [Bool.and_eq_true, decide_eq_true_eq] at hv
 exact hv.1.1
theorem starts_bp (m : List StA) : ∀ i b, (startsA m)[i + 1]? = some b → 1 ≤ b ∧ b ≤ 255 := by
 intro i b hb
 have hp : (startsA m).Pairwise (· < ·) := List.Pairwise.filter _ List.pairwise_lt_range
 obtain ⟨h1, h2⟩ := List.getElem?_eq_some_iff.1 hb
 have h3 := List.pairwise_iff_getElem.1 hp i (i + 1) (by omega) h1 (Nat.lt_succ_self i)
 have h4 := List.mem_range.1 (List.mem_filter.1 (List.getElem_mem h1)).1
 rw [h2] at h3 h4
 omega
def ItoaQ (n : Nat) (w : World) : Prop := ∀ c : Nat, c ≤ n → ∀ w', Below w.heap.size w w' → Calls Tryz.prog 122 #[.int .i64 (c : Int)] w' fun e w'' => e = .returned (.string ⟨(decT c).toArray⟩) ∧ Below w'.heap.size w' w''
theorem least_any (N : Nat → Prop) (f : Nat) (m out : List StA) (v : Value) (w : World) (hm : RdS N w v m) (hv : valA m = true) (hn : m.length < 1000) (hf : leastA f m = some out) (hff : f ≤ 1000)
  (hit : ItoaQ m.length w) :
  Calls Tryz.prog 95 #[.agg #[v]] w fun e w' => ∃ v', e = .returned (.agg #[v']) ∧ RdS (fun g => w.heap.size ≤ g) w' v' out ∧ Below w.heap.size w w' := by
 obtain ⟨a, cap, rfl, hml⟩ := hm.form
 have hmi : (m.length : Int) < 1000 := by omega
 have HIT := Lib.hid hit
 have HM := Lib.hid hm
 have HV := Lib.hid hv
 have HLO := Lib.hid (fun i hi j hj => val_lo hv i hi j hj)
 have HN := Lib.hid hn
 have HF := Lib.hid hf
 have HFF := Lib.hid hff
 have HM0L := Lib.hid (valA_pos hv)
 have HBP := Lib.hid (starts_bp m)
 have hmkN := run_make_row' (P := Tryz.prog) 158 82 (.slice none 0 0) 24 Tryz.underlying158 slice_infoZ rfl .i64 .i64 m.length (by omega) (by omega)
 have hmkC := run_make_row' (P := Tryz.prog) 82 3 (.int .i64 0) 8 Tryz.underlying82 int_infoZ rfl .i64 .i64 m.length (by omega) (by omega)
 clear hml hm hv hn hf hff hit
 go_enter Tryz.func95, Tryz.ntmps95
 go_upto_region 1 with fail
 generalize hW : World.alloc w _ = w1
 obtain ⟨hbx, -, hz1, hb1⟩ := alloc_of hW
 have HX := Lib.hid (show BoxV w.heap.size 29 [.slice a m.length cap] w1 from hbx)
 generalize hWb : World.alloc w1 _ = w1b
 obtain ⟨hbx2, -, hz2, hb2⟩ := alloc_of hWb
 rw [hz1] at hbx2
 have HR := Lib.hid (show BoxV (w.heap.size + 1) 29 [.slice none 0 0] w1b from hbx2)
 replace HX := Lib.hid (HX.out.below hb2)
 have HB := Lib.hid (hb1.trans (hb2.mono hb1.size))
 have HZ : Hid (w1b.heap.size = w.heap.size + 2) := by unfold Hid; rw [hz2, hz1]
 clear hW hbx hz1 hb1 hWb hbx2 hz2 hb2
 have x0 : w1b.cell? ⟨w.heap.size, 0, none⟩ = some (.slice a m.length cap) := HX.out.cell 0
 go_wp2_with fail
 generalize hW : World.alloc w1b _ = w2
 obtain ⟨hbx, -, hz1, hb1⟩ := alloc_of hW
 have h0 : w2.cell? ⟨w1b.heap.size, 0, none⟩ = some (.slice a m.length cap) := (show BoxV w1b.heap.size 29 [.slice a m.length cap] w2 from hbx).cell 0
 have HC0 := Lib.hid (starts_any N m (.slice a m.length cap) w1b.heap.size w2 h0 (by omega) (HM.out.stay (HB.out.trans (hb1.mono HB.out.size))) HLO.out)
 replace HX := Lib.hid (HX.out.below hb1)
 replace HR := Lib.hid (HR.out.below hb1)
 replace HB := Lib.hid (HB.out.trans (hb1.mono HB.out.size))
 clear hW hbx hz1 hb1 x0 h0 HZ
 refine HC0.out.mono ?_
 rintro e w3 ⟨vb, rfl, hbr, hb⟩
 replace HX := Lib.hid (HX.out.below hb)
 replace HR := Lib.hid (HR.out.below hb)
 replace HB := Lib.hid (HB.out.trans (hb.mono HB.out.size))
 have HBY := Lib.hid hbr
 obtain ⟨ba, bcap, rfl, -⟩ := hbr.form
 have HLEN := Lib.hid (starts_len m)
 obtain ⟨bytes, hby⟩ : ∃ bytes, bytes = startsA m := ⟨_, rfl⟩
 rw [← hby] at HBY HLEN HBP ⊢
 have HBE := Lib.hid hby
 have hbl : (bytes.length : Int) ≤ 256 := by have := HLEN.out; omega
 clear hbr hb HC0 hby
 have x0 : w3.cell? ⟨w.heap.size, 0, none⟩ = some (.slice a m.length cap) := HX.out.cell 0
 go_upto_region 3 with fail
 generalize hW : World.alloc w3 _ = w4
 have hnx := show w4.rowIs w3.heap.size 82 m.length (fun _ => .slice none 0 0) from hW ▸ World.rowIs_made w3 _ m.length _
 obtain ⟨-, -, hz1, hb1⟩ := alloc_of hW
 have x0 : w4.cell? ⟨w.heap.size, 0, none⟩ = some (.slice a m.length cap) := (HX.out.below hb1).cell 0
 go_upto_region 4 with fail
 generalize hW2 : World.alloc w4 _ = w5
 have hcl := show w5.rowIs w4.heap.size 3 m.length (fun _ => .int .i64 0) from hW2 ▸ World.rowIs_made w4 _ m.length _
 obtain ⟨-, -, hz2, hb2⟩ := alloc_of hW2
 rw [hz1] at hcl
 have HLA := Lib.hid (show LA m.length m bytes 0 (fun _ => .slice none 0 0) w3 w5 from ⟨hb1.trans (hb2.mono hb1.size), World.rowIs.congr (hnx.of_block (hb2.block _ (by omega))) (fun i _ => by rw [if_neg (by omega)]), World.rowIs.congr hcl (fun i _ => by rw [if_neg (by omega)]), fun i hi => absurd hi (Nat.not_lt_zero _)⟩)
 clear hW hnx hz1 hb1 hW2 hcl hz2 hb2 hmkN hmkC
 have x0 : w5.cell? ⟨w.heap.size, 0, none⟩ = some (.slice a m.length cap) := (HX.out.below HLA.out.bel).cell 0
 go_wp2_with fail
 clear x0
 go_loopw [33] (fun qv wr => ∃ (q : Nat) (RV : Nat → Value), qv = .int .i64 (q : Int) ∧ q ≤ m.length ∧ Hid (LA m.length m bytes q RV w3 wr)) (fun qv _ => m.length - (intOf qv).toNat)
 case atStart => exact ⟨0, _, rfl, Nat.zero_le _, HLA.out⟩
 case round =>
  clear HLA
  obtain ⟨q, RV, rfl, hq, HLA⟩ := hrel
  by_cases hlt : q < m.length
  case neg =>
   have hqe : q = m.length := by omega
   subst hqe
   have hge : ¬ (m.length : Int) < m.length := by omega
   obtain ⟨clF, hcl, hnum⟩ := least_parts HF.out
   rw [← HBE.out] at hcl hnum
   have HNUM := Lib.hid hnum
   have HP0 : Hid (LC m.length m bytes clF wr (.slice (some ⟨w3.heap.size + 1, 0, none⟩) m.length m.length) (.int .i64 0) wr f (w3.heap.size + 1) 0 (cl0 m)) := ⟨rfl, rfl, World.rowIs.congr HLA.out.cl (fun i hi => by rw [cl0_at hi]; congr 1; by_cases h : accOf m i = true; rw [if_pos ⟨hi, h⟩, if_pos h]; rfl; rw [if_neg (fun h2 => h h2.2), if_neg h]; rfl), by simp [cl0], fun i => by
    unfold cl0
    rw [List.getD_eq_getElem?_getD, List.getElem?_map]
    cases m[i]? with
    | none => exact Nat.zero_le _
    | some s => have := HM0L.out; show (if s.acc then 1 else 0) ≤ m.length; split <;> omega, Nat.zero_le _, hcl, Below.refl _ _⟩
   have HV2 := Lib.hid (fun q (hq : q < m.length) (b : Nat) => stepL_lt m[q].arcs 0 b (val_at HV.out q hq) (by omega))
   clear hlt hq hnum hcl
   obtain ⟨wA, hwA⟩ : ∃ x, x = wr := ⟨_, rfl⟩
   subst hwA
   go_wp2_with fail
   go_loopw [5, 10] (fun cv kv wr => ∃ (f gc known : Nat) (cl : List Nat), Hid (LC m.length m bytes clF wA cv kv wr f gc known cl)) (fun cv kv wr => minN (fun f => ∃ gc known cl, LC m.length m bytes clF wA cv kv wr f gc known cl))
   case atStart => exact ⟨f, _, 0, cl0 m, HP0.out⟩
   case round =>
    clear HP0
    obtain ⟨f0, gc0, known0, cl00, h0⟩ := hrel
    obtain ⟨μ, gc, known, cl, hP, hμ⟩ := h0.out.least
    have hcv := hP.cv
    have hkv := hP.kv
    subst hcv
    subst hkv
    have HMU := Lib.hid hμ
    cases μ with
    | zero => exact absurd hP.ev (by rw [loopA]; intro h; cases h)
    | succ f1 =>
     have HP := Lib.hid hP
     clear hP hμ h0 f0 gc0 known0 cl00
     have hki : (known : Int) ≤ 1000 := by have := HP.out.kn; have := HN.out; omega
     have HKL := Lib.hid ((keysA_len cl (nxL m bytes)).trans HP.out.len)
     have hmk := @run_makeMap Tryz.prog
     have hmkC := run_make_row' (P := Tryz.prog) 82 3 (.int .i64 0) 8 Tryz.underlying82 int_infoZ rfl .i64 .i64 m.length (by omega) (by omega)
     obtain ⟨wB, hwB⟩ : ∃ x, x = wr := ⟨_, rfl⟩
     subst hwB
     go_upto_region 17 with fail
     generalize hW : World.alloc wB _ = w6
     have hmap := show w6.ownsMap (H := Unit) Tryz.prog 9 (plainElem Tryz.prog 3) wB.heap.size 0 (.map []) from hW ▸ World.ownsMap_made wB _ _ _
     obtain ⟨-, -, hz1, hb1⟩ := alloc_of hW
     go_upto_region 18 with fail
     generalize hW2 : World.alloc w6 _ = w7
     have hfin := show w7.rowIs w6.heap.size 3 m.length (fun _ => .int .i64 0) from hW2 ▸ World.rowIs_made w6 _ m.length _
     obtain ⟨-, -, hz2, hb2⟩ := alloc_of hW2
     rw [hz1] at hfin
     have HM0 := Lib.hid (hmap.kept (grown_of_below hb2 none) (by simp))
     have HF0 := Lib.hid (show w7.rowIs (wB.heap.size + 1) 3 m.length (fun i => .int .i64 ((([] : List Nat).getD i 0 : Nat) : Int)) from hfin)
     have HB7 := Lib.hid (hb1.trans (hb2.mono hb1.size))
     clear hW hmap hz1 hb1 hW2 hfin hz2 hb2 hmk hmkC
     go_wp2_with fail
     go_loopw [70] (fun qv wr => ∃ (q : Nat) (D : DataW Unit) (seen : List (List UInt8)) (fin : List Nat), qv = .int .i64 (q : Int) ∧ q ≤ m.length ∧ Hid (wr.ownsMap (H := Unit) Tryz.prog 9 (plainElem Tryz.prog 3) wB.heap.size q D) ∧ Hid (NumM (fun l : List UInt8 => Lit.string l) D seen) ∧ Hid (wr.rowIs (wB.heap.size + 1) 3 m.length (fun i => .int .i64 ((fin.getD i 0 : Nat) : Int))) ∧ Hid (RI (keysA cl (nxL m bytes)) fin seen q) ∧ Hid (Below wB.heap.size wB wr)) (fun qv _ => m.length - (intOf qv).toNat)
     case atStart => exact ⟨0, .map [], [], [], rfl, Nat.zero_le _, HM0.out, NumM.nil _, HF0.out, RI.nil _, HB7.out⟩
     case round =>
      clear HM0 HF0 HB7
      obtain ⟨q, D, seen, fin, rfl, hq, HMP, HNU, HFI, HRI, HBW⟩ := hrel
      obtain ⟨wD, hwD⟩ : ∃ x, x = wr := ⟨_, rfl⟩
      subst hwD
      by_cases hlt : q < m.length
      case neg =>
       have hgeq : ¬ (q : Int) < m.length := by omega
       have HRD := Lib.hid (HRI.out.done (by rw [HKL.out]; omega))
       have hlen : ∀ ty, (Builtin.len_ #[159] ty #[.map (some wB.heap.size)]).run Tryz.prog wD = .ok (.int .i64 (seen.length : Int)) wD := fun ty => by
        rw [← HNU.out.len]
        exact HMP.out.len Tryz.underlying159 ty
       have HSL : Hid (seen.length ≤ m.length) := by have := HRI.out.few; unfold Hid; omega
       clear hlt
       by_cases hkn : seen.length = known
       case pos =>
        have hkni : ((seen.length : Int) == (known : Int)) = true := by rw [hkn]; exact beq_self_eq_true _
        have hclF : fin = clF := by
         have h1 := HP.out.ev
         rw [loopA_succ _ _ _ _ _ _ HRD.out, if_pos hkn] at h1
         exact Option.some.inj h1
        have hbA : Below wA.heap.size wA wD := HP.out.bel.trans (HBW.out.mono HP.out.bel.size)
        have hbD : Below w3.heap.size w3 wD := HLA.out.bel.trans (hbA.mono HLA.out.bel.size)
        have HLD := Lib.hid (HLA.out.stay hbA)
        have HXD := Lib.hid (HX.out.below hbD)
        have HRR := Lib.hid (HR.out.below hbD)
        have HBD := Lib.hid (HB.out.trans (hbD.mono HB.out.size))
        have hfl : ∀ i, fin.getD i 0 < 1000 := fun i => by
         rw [List.getD_eq_getElem?_getD]
         cases hg : fin[i]? with
         | none => show (0 : Nat) < 1000; omega
         | some c => have := HRI.out.lt c (List.mem_of_getElem? hg); have := HRI.out.few; have := HN.out; show c < 1000; omega
        have hfi := HFI.out
        rw [hclF] at hfl hfi
        have HNB := Lib.hid (numbered_any N f m out bytes clF (nxL m bytes) (.slice a m.length cap) (.slice ba bytes.length bcap) w3.heap.size (wB.heap.size + 1) RV wD (HM.out.stay HBD.out) HN.out HM0L.out (HBY.out.stay hbD) HLEN.out HBP.out (World.rowIs.congr HLD.out.nx (fun i hi => by rw [if_pos hi])) (fun q hq => ⟨by rw [nxL_at hq]; exact (HLD.out.rows q hq).1, by rw [nxL_at hq, List.length_map]; exact Nat.le_refl _, by rw [nxL_at hq]; intro t ht; obtain ⟨b, -, rfl⟩ := List.mem_map.1 ht; rw [accs_eq hq]; exact HV2.out q hq b⟩) hfi hfl HFF.out HNUM.out)
        have x0 := HXD.out.cell 0
        simp only [List.getElem?_cons_zero] at x0
        clear hkn hclF hbA hbD hfl hfi
        go_wp2_with fail
        refine HNB.out.mono ?_
        rintro e w9 ⟨v', rfl, hr, hb⟩
        obtain ⟨ra, rcap, rfl, -⟩ := hr.form
        have HR9 := Lib.hid (HRR.out.below hb)
        have HB9 := Lib.hid (HBD.out.trans (hb.mono HBD.out.size))
        have HRS := Lib.hid (hr.mono (M := fun g => w.heap.size + 1 < g) (fun g h _ => Nat.lt_of_lt_of_le HRR.out.lt h))
        have z0 := HR9.out.cell 0
        have y0 := HR9.out.free 0
        simp only [List.getElem?_cons_zero] at z0
        clear hr hb x0
        go_wp2_with fail
        refine bodyPost_ret (v := .agg #[.slice ra out.length rcap]) ?_ rfl ⟨_, rfl, ?_, HB9.out.setCell (p := ⟨w.heap.size + 1, 0, none⟩) (by show w.heap.size ≤ w.heap.size + 1; omega) _⟩
        ·have hbx : BoxV (w.heap.size + 1) 29 [.slice ra out.length rcap] (w9.setCell ⟨w.heap.size + 1, 0, none⟩ (.slice ra out.length rcap)) := heap_setCell_same w9 (w.heap.size + 1) 0 _ _ _ HR9.out
         have q0 := hbx.cell 0
         simp only [List.getElem?_cons_zero] at q0
         simp [results, Tryz.results95, go_sem, q0]
        ·exact (HRS.out.keep (fun g hg _ => Below.heap_setCell w9 ⟨w.heap.size + 1, 0, none⟩ _ g (by show g ≠ w.heap.size + 1; omega))).mono (fun g hg _ => by omega)
       case neg =>
        have hkni : ((seen.length : Int) == (known : Int)) = false := beq_false_of_ne (by omega)
        have HPN : Hid (LC m.length m bytes clF wA (.slice (some ⟨wB.heap.size + 1, 0, none⟩) m.length m.length) (.int .i64 (seen.length : Int)) wD f1 (wB.heap.size + 1) seen.length fin) := ⟨rfl, rfl, HFI.out, by rw [HRI.out.len]; omega, fun i => by
         rw [List.getD_eq_getElem?_getD]
         cases hg : fin[i]? with
         | none => exact Nat.zero_le _
         | some c => have := HRI.out.lt c (List.mem_of_getElem? hg); have := HSL.out; show c ≤ m.length; omega, HSL.out, by
         have h1 := HP.out.ev
         rw [loopA_succ _ _ _ _ _ _ HRD.out, if_neg hkn] at h1
         exact h1, HP.out.bel.trans (HBW.out.mono HP.out.bel.size)⟩
        clear hkn
        go_wp2_with fail
        exact ⟨⟨f1, _, _, fin, HPN.out⟩, by rw [HMU.out]; exact Nat.lt_succ_of_le (minN_le ⟨_, _, _, HPN.out⟩)⟩
      case pos =>
       have hlti : (q : Int) < m.length := by omega
       have c1 := (HP.out.row.of_block (HBW.out.block _ HP.out.row.lt)).cell hlt
       have HLR := Lib.hid (HLA.out.stay ((HP.out.bel.trans (HBW.out.mono HP.out.bel.size))))
       have n1 := HLR.out.nx.cell hlt
       rw [if_pos hlt] at n1
       have HRR0 := Lib.hid (HLR.out.rows q hlt)
       have HNR := Lib.hid (nxL_at (bytes := bytes) hlt)
       have HTL : Hid (∀ t ∈ bytes.map (stepL (arcsOf m q)), t < m.length) := by
        intro t ht
        obtain ⟨b, -, rfl⟩ := List.mem_map.1 ht
        rw [accs_eq hlt]
        exact HV2.out q hlt b
       have hnl : (bytes.map (stepL (arcsOf m q))).length ≤ 256 := by rw [List.length_map]; exact HLEN.out
       generalize bytes.map (stepL (arcsOf m q)) = nr at *
       obtain ⟨ra, rcap, hrv, -⟩ := HRR0.out.1.form
       rw [hrv] at n1
       have HRR := Lib.hid HRR0.out.1
       rw [hrv] at HRR
       have hnli : (nr.length : Int) ≤ 256 := by omega
       have HNL := Lib.hid hnl
       have HQ := Lib.hid hlt
       obtain ⟨cq, hcq⟩ : ∃ c, c = cl.getD q 0 := ⟨_, rfl⟩
       have HCQL := HP.out.lt q
       rw [← hcq] at c1 HCQL
       have HCQE := Lib.hid hcq
       have HCQ := Lib.hid (HIT.out cq HCQL)
       have HBWD := Lib.hid (HB.out.trans ((HLA.out.bel.trans ((HP.out.bel.trans (HBW.out.mono HP.out.bel.size)).mono HLA.out.bel.size)).mono HB.out.size))
       clear hlt hrv HRR0 hnl HLR HCQL hcq
       go_wp2_with fail
       refine (HCQ.out _ HBWD.out).mono ?_
       rintro e wx ⟨rfl, hbx⟩
       have HBX := Lib.hid hbx
       replace n1 := (hbx.cell (p := ⟨w3.heap.size, q, none⟩) (cell_ltA n1)).trans n1
       clear hbx c1
       go_wp2_with fail
       have HW0 : Hid (L (⟨(decT cq).toArray⟩ : ByteArray) = decN cq ++ (nr.take 0).flatMap (fun t => 44 :: decN (cl.getD t 0)) ∧ (⟨(decT cq).toArray⟩ : ByteArray).size ≤ 3) := ⟨by rw [L_mk, List.take_zero]; simp [decN], by have := decT_len cq; simpa [ByteArray.size] using this⟩
       generalize (⟨(decT cq).toArray⟩ : ByteArray) = u0 at *
       clear n1
       go_loopw [14, 83] (fun sv jv wr => ∃ (j : Nat) (s : ByteArray), sv = .string s ∧ jv = .int .i64 (j : Int) ∧ j ≤ nr.length ∧ Hid (L s = decN cq ++ (nr.take j).flatMap (fun t => 44 :: decN (cl.getD t 0))) ∧ Hid (s.size ≤ 3 + 4 * j) ∧ Hid (Below wD.heap.size wD wr)) (fun _ jv _ => nr.length - (intOf jv).toNat)
       case atStart => exact ⟨0, u0, rfl, rfl, Nat.zero_le _, HW0.out.1, HW0.out.2, HBX.out⟩
       case round =>
        clear HW0 HBX
        obtain ⟨j, s, rfl, rfl, hj, HS, HSZ, HBJ⟩ := hrel
        have HBWR := Lib.hid (HBW.out.trans (HBJ.out.mono HBW.out.size))
        have hsz : (s.size : Int) ≤ 1100 := by have := HSZ.out; omega
        by_cases hjt : j < nr.length
        case pos =>
         have hjti : (j : Int) < nr.length := by omega
         obtain ⟨gr, orr, rfl, hcr⟩ := (HRR.out.stay HBJ.out).at_ j hjt
         have HTK := Lib.hid (List.take_succ_eq_append_getElem hjt)
         have htn := HTL.out nr[j] (List.getElem_mem hjt)
         have HJ : Hid (j + 1 ≤ nr.length) := hjt
         generalize nr[j] = t at *
         have c2 := (HP.out.row.of_block (HBWR.out.block _ HP.out.row.lt)).cell htn
         have hti : (t : Int) < m.length := by omega
         obtain ⟨ct, hct⟩ : ∃ c, c = cl.getD t 0 := ⟨_, rfl⟩
         have HCTL := HP.out.lt t
         rw [← hct] at c2 HCTL
         have HCTE := Lib.hid hct
         have HCT := Lib.hid (HIT.out ct HCTL)
         clear hjt htn hct HCTL
         go_wp2_with fail
         refine (HCT.out _ (HBWD.out.trans (HBJ.out.mono HBWD.out.size))).mono ?_
         rintro e wx ⟨rfl, hbx⟩
         replace HBJ := Lib.hid (HBJ.out.trans (hbx.mono HBJ.out.size))
         clear hbx c2 hcr
         have HU : Hid (L (⟨(decT ct).toArray⟩ : ByteArray) = decN ct ∧ (⟨(decT ct).toArray⟩ : ByteArray).size ≤ 3) := ⟨L_mk _, by have := decT_len ct; simpa [ByteArray.size] using this⟩
         generalize (⟨(decT ct).toArray⟩ : ByteArray) = u at *
         have hu3 : (u.size : Int) ≤ 3 := by have := HU.out.2; omega
         go_wp2_with fail
         refine ⟨⟨j + 1, _, rfl, by simp, HJ.out, ?_, ?_, HBJ.out⟩, by have := HJ.out; simp [intOf]; omega⟩
         ·unfold Hid
          rw [L_append, L_append, HS.out, HU.out.1, HTK.out, List.flatMap_append, List.append_assoc, List.flatMap_cons, List.flatMap_nil, List.append_nil, ← HCTE.out]
          rfl
         ·unfold Hid
          rw [ByteArray.size_append, ByteArray.size_append]
          have h1 := HU.out.2
          have h2 := HSZ.out
          show s.size + (1 + u.size) ≤ _
          omega
        case neg =>
         have hgej : ¬ (j : Int) < nr.length := by omega
         replace HMP := Lib.hid (HMP.out.kept (grown_of_below HBJ.out none) (by simp))
         replace HFI := Lib.hid (HFI.out.of_block (HBJ.out.block _ HFI.out.lt))
         replace HBW := HBWR
         have HKEY : Hid (L s = (keysA cl (nxL m bytes))[q]'(by rw [HKL.out]; exact HQ.out)) := by
          unfold Hid
          rw [keysA_at, HS.out, List.take_of_length_le (by omega)]
          unfold keyA
          rw [HNR.out, HCQE.out]
         have hqk : q < (keysA cl (nxL m bytes)).length := by rw [HKL.out]; exact HQ.out
         have HKO := Lib.hid (Go.WideMaps.keyOf_string_mk (P := Tryz.prog) (k := 9) Tryz.underlying9 (s := s) (by unfold maxLen; omega))
         have hf := World.rowIs.frozen HFI.out q
         have hc := HFI.out.cell HQ.out
         cases hfi : seen.findIdx? (fun y => decide (y = L s)) with
         | some i =>
          have hhas : has D (Lit.string s.data.toList) = true := by rw [show Lit.string s.data.toList = (fun l : List UInt8 => Lit.string l) (L s) from rfl, HNU.out.has_, hfi]; rfl
          have hnum := HNU.out.num (L s) i hfi
          have HR2 := Lib.hid (HRI.out.hit hqk (by rw [← HKEY.out]; exact hfi))
          have HHAS := Lib.hid hhas
          have HNUM2 := Lib.hid hnum
          clear hhas hnum hfi hqk hjt
          go_wp2_with (refine wpl_look_ok rfl rfl keyedStr Tryz.underlying159 Tryz.underlying3 (zeroInt _) rfl HMP.out rfl HKO.out true (i : Int) HHAS.out HNUM2.out ?_)
          exact ⟨⟨q + 1, D, seen, fin ++ [i], by simp, HQ.out, (HMP.out.setCell (a := ⟨wB.heap.size + 1, q, none⟩) (by show wB.heap.size ≠ wB.heap.size + 1; omega) _).mono (Nat.le_succ q), HNU.out, row_snoc HFI.out HRI.out.len, HR2.out, HBW.out.setCell (p := ⟨wB.heap.size + 1, q, none⟩) (by show wB.heap.size ≤ wB.heap.size + 1; omega) _⟩, by have := HQ.out; simp [intOf]; omega⟩
         | none =>
          have hhas : has D (Lit.string s.data.toList) = false := by rw [show Lit.string s.data.toList = (fun l : List UInt8 => Lit.string l) (L s) from rfl, HNU.out.has_, hfi]; rfl
          have HHAS := Lib.hid hhas
          have HZE := Lib.hid (HNU.out.zero hfi)
          have HR2 : Hid (RI (keysA cl (nxL m bytes)) (fin ++ [seen.length]) (seen ++ [L s]) (q + 1)) := by
           unfold Hid
           rw [HKEY.out]
           exact HRI.out.miss hqk (by rw [← HKEY.out]; exact hfi)
          have HPU := Lib.hid (NumM.push (kf := fun l : List UInt8 => Lit.string l) (fun x y h => by injection h) (fun x => show WideAt.IsKeyLit (Lit.string x) from trivial) HNU.out (L s) hfi)
          have hlen : ∀ ty, (Builtin.len_ #[159] ty #[.map (some wB.heap.size)]).run Tryz.prog wr = .ok (.int .i64 (seen.length : Int)) wr := fun ty => by
           rw [← HNU.out.len]
           exact HMP.out.len Tryz.underlying159 ty
          have HSL : Hid (seen.length < 1000) := by have := HRI.out.few; have := HN.out; have := HQ.out; unfold Hid; omega
          have HGF := Lib.hid HFI.out.lt
          have HWF : Hid ((Lit.int .i64 (seen.length : Int)).wf = true) := by
           have := HSL.out
           show (decide (IntKind.i64.min ≤ (seen.length : Int)) && decide ((seen.length : Int) ≤ IntKind.i64.max)) = true
           rw [Bool.and_eq_true]
           exact ⟨decide_eq_true (by show (-9223372036854775808 : Int) ≤ _; omega), decide_eq_true (by show _ ≤ (9223372036854775807 : Int); omega)⟩
          clear hhas hfi hqk hjt hf hc
          go_wp2_with (first
           | refine wpl_look_ok rfl rfl keyedStr Tryz.underlying159 Tryz.underlying3 (zeroInt _) rfl HMP.out rfl HKO.out false 0 HHAS.out HZE.out ?_
           | (at_mapUpdate; refine wpList_mapUpdate_own _ rfl _ _ _ 159 rfl 9 3 keyedStr Tryz.underlying159 _ wB.heap.size q D rfl HMP.out (by have := HQ.out; have := HN.out; unfold maxLen; omega) _ _ _ rfl rfl HKO.out _ [] (plainElem_int Tryz.underlying3 HWF.out) ?_; intro w8 hown8 hg8; have HM8 := Lib.hid hown8; have HF8 := Lib.hid (HFI.out.of_block (hg8.block _ HGF.out (fun h => by injection h with h; omega))); have HB8 := Lib.hid (HBW.out.grown hg8 HBW.out.size (fun j hj => by cases hj; exact Nat.le_refl _)); have hf8 := World.rowIs.frozen HF8.out q; have hc8 := HF8.out.cell HQ.out; clear hown8 hg8))
          exact ⟨⟨q + 1, _, seen ++ [L s], fin ++ [seen.length], by simp, HQ.out, HM8.out.setCell (a := ⟨wB.heap.size + 1, q, none⟩) (by show wB.heap.size ≠ wB.heap.size + 1; omega) _, HPU.out, row_snoc HF8.out HRI.out.len, HR2.out, HB8.out.setCell (p := ⟨wB.heap.size + 1, q, none⟩) (by show wB.heap.size ≤ wB.heap.size + 1; omega) _⟩, by have := HQ.out; simp [intOf]; omega⟩
  case pos =>
   have hlti : (q : Int) < m.length := by omega
   obtain ⟨g, o, b0, k0, c0, rfl, m0, m1, hk0, ha⟩ := HM.out.at_ q hlt
   have hgl := HM.out.lt0 (by omega)
   have hbw := HB.out.trans (HLA.out.bel.mono HB.out.size)
   replace m0 := (hbw.cell (p := ⟨g, o + q * 2, none⟩) hgl).trans m0
   replace m1 := (hbw.cell (p := ⟨g, o + q * 2 + 1, none⟩) hgl).trans m1
   have HAC := Lib.hid (acc_eq hlt)
   have HST : Hid (∀ w', Below w3.heap.size w3 w' → ∀ b : Nat, Calls Tryz.prog 121 #[.agg #[.slice (some ⟨g, o, none⟩) m.length cap], .int .i64 (q : Int), .int .i64 (b : Int)] w' fun e w'' => e = .returned (.int .i64 (stepL (arcsOf m q) b : Nat)) ∧ Below w'.heap.size w' w'') := fun w' hb b => by
    rw [accs_eq hlt]
    exact step_any N m _ q b w' (HM.out.stay (HB.out.trans (hb.mono HB.out.size))) hlt
   have HQ := Lib.hid hlt
   generalize m[q].acc = acc at *
   clear hlt ha hbw hgl hk0
   go_upto_region 7 with fail
   generalize hW : World.alloc wr _ = w6
   obtain ⟨hbx, -, hz1, hb1⟩ := alloc_of hW
   have HS := Lib.hid (show BoxV wr.heap.size 70 [.bool acc, .slice b0 k0 c0] w6 from hbx)
   have HLB := Lib.hid (HLA.out.stay hb1).inner
   have HBS : Hid (w3.heap.size + 2 ≤ wr.heap.size ∧ wr.heap.size < w6.heap.size) := ⟨by have := HLA.out.cl.lt; omega, by omega⟩
   generalize wr.heap.size = bS at *
   obtain ⟨B, hBe⟩ : ∃ B, B = w6.heap.size := ⟨_, rfl⟩
   rw [← hBe] at HLB HBS
   clear hW hbx hz1 hb1 m0 m1 HLA hBe
   go_wp2_with fail
   go_loopw [40] (fun kv wr => ∃ (k : Nat) (A : Option Addr) (nl cap2 : Nat), kv = .int .i64 (k : Int) ∧ k ≤ bytes.length ∧ Hid (LB m.length m bytes q k B RV (.slice A nl cap2) w3 wr) ∧ Hid (BoxV bS 70 [.bool acc, .slice b0 k0 c0] wr)) (fun kv _ => bytes.length - (intOf kv).toNat)
   case atStart => exact ⟨0, none, 0, 0, rfl, Nat.zero_le _, HLB.out, HS.out⟩
   case round =>
    clear HLB HS
    obtain ⟨k, A, nl, cap2, rfl, hk, HL, HS⟩ := hrel
    by_cases hkt : k < bytes.length
    case neg =>
     have hge : ¬ (k : Int) < bytes.length := by omega
     have hke : bytes.length ≤ k := by omega
     have s0 : wr.cell? ⟨bS, 0, none⟩ = some (.bool acc) := HS.out.cell 0
     cases acc with
     | false =>
      have HD := Lib.hid (HL.out.done hke HAC.out)
      clear hkt hke
      go_wp2_with fail
      exact ⟨⟨q + 1, _, by simp, HQ.out, HD.out⟩, by have := HQ.out; simp [intOf]; omega⟩
     | true =>
      have HD := Lib.hid (HL.out.done1 hke HAC.out HQ.out)
      have hc := HL.out.cl.cell HQ.out
      have hf := World.rowIs.frozen HL.out.cl q
      clear hkt hke
      go_wp2_with fail
      exact ⟨⟨q + 1, _, by simp, HQ.out, HD.out⟩, by have := HQ.out; simp [intOf]; omega⟩
    case pos =>
     have hkti : (k : Int) < bytes.length := by omega
     obtain ⟨gb, ob, rfl, hcb⟩ := (HBY.out.stay HL.out.bel).at_ k hkt
     obtain ⟨b, hbk⟩ : ∃ b, b = bytes[k] := ⟨_, rfl⟩
     rw [← hbk] at hcb
     have HBK := Lib.hid hbk
     have HKB := Lib.hid hkt
     have x0 := (HX.out.below HL.out.bel).cell 0
     have y0 := HL.out.nx.cell HQ.out
     rw [if_neg (Nat.lt_irrefl q), if_pos rfl] at y0
     have hS0 : wr.drew.cell? ⟨w.heap.size, 0, none⟩ = some (.slice (some ⟨g, o, none⟩) m.length cap) ∧ wr.drew.cell? ⟨w3.heap.size, q, none⟩ = some (.slice A nl cap2) := ⟨x0, y0⟩
     replace HL := Lib.hid (HL.out.stay (drewBn wr))
     replace HS := Lib.hid (HS.out.below (drewBn wr))
     clear hbk x0 y0
     go_upto_region 10 with fail
     obtain ⟨gN, hgn⟩ : ∃ gN, gN = w3.heap.size := ⟨_, rfl⟩
     obtain ⟨bx, hbx⟩ : ∃ bx, bx = w.heap.size := ⟨_, rfl⟩
     rw [← hgn, ← hbx] at hS0
     rw [← hgn, ← hbx]
     have HGN : Hid (w3.heap.size = gN) := hgn.symm
     have HBX : Hid (bx < gN) := by have := HX.out.lt; unfold Hid; omega
     have HBX2 : Hid (w.heap.size = bx) := hbx.symm
     rw [HGN.out] at HBS
     clear hgn hbx
     refine wpq_region (fun w' => w'.cell? ⟨bx, 0, none⟩ = some (.slice (some ⟨g, o, none⟩) m.length cap) ∧ w'.cell? ⟨gN, q, none⟩ = some (.slice A nl cap2)) 13 (by kernel_rfl) hS0 (fun hHeld => ?_)
     clear hS0
     generalize wr.drew = wd at *
     refine wpq_tk 0 (some 44) [13] (Or.inl ⟨by rfl, fun w hSw => by (obtain ⟨x0, y0⟩ := hSw; go_simp; with_reducible rfl)⟩) hHeld ?_ rfl rfl
     simp only [Act.put, sA, sZ, sS]
     refine wpq_tk 1 (some 45) [13] (Or.inl ⟨by rfl, fun w hSw => by (obtain ⟨x0, y0⟩ := hSw; go_simp; with_reducible rfl)⟩) hHeld ?_ rfl rfl
     simp only [Act.put, sA, sZ, sS]
     refine wpq_tk 2 (some 46) [13] (Or.inl ⟨by rfl, fun w hSw => by (obtain ⟨x0, y0⟩ := hSw; go_simp; with_reducible rfl)⟩) hHeld ?_ rfl rfl
     simp only [Act.put, sA, sZ, sS]
     refine wpq_tk 3 (some 47) [13] (Or.inl ⟨by rfl, fun w hSw => by (obtain ⟨x0, y0⟩ := hSw; go_simp; with_reducible rfl)⟩) hHeld ?_ rfl rfl
     simp only [Act.put, sA, sZ, sS]
     refine wpq_tk 4 (some 48) [13] (Or.inl ⟨by rfl, fun w hSw => by (obtain ⟨x0, y0⟩ := hSw; go_simp; with_reducible rfl)⟩) hHeld ?_ rfl rfl
     simp only [Act.put, sA, sZ, sS]
     refine wpq_tk 5 (some 49) [13] (Or.inl ⟨by rfl, fun w hSw => by (obtain ⟨x0, y0⟩ := hSw; go_simp; with_reducible rfl)⟩) hHeld ?_ rfl rfl
     simp only [Act.put, sA, sZ, sS]
     refine wpq_tk 6 (some 50) [13] (Or.inl ⟨by rfl, fun w hSw => by (obtain ⟨x0, y0⟩ := hSw; go_simp; with_reducible rfl)⟩) hHeld ?_ rfl rfl
     simp only [Act.put, sA, sZ, sS]
     refine wpq_tk 7 (some 51) [13] (Or.inl ⟨by rfl, fun w hSw => by (obtain ⟨x0, y0⟩ := hSw; go_simp; with_reducible rfl)⟩) hHeld ?_ rfl rfl
     simp only [Act.put, sA, sZ, sS]
     refine wpq_tk 8 (some 52) [13] (Or.inl ⟨by rfl, fun w hSw => by (obtain ⟨x0, y0⟩ := hSw; go_simp; with_reducible rfl)⟩) hHeld ?_ rfl rfl
     simp only [Act.put, sA, sZ, sS]
     refine wpq_one 9 (by kernel_rfl) rfl (fun K hK => ?_)
     go_simp
     refine (HST.out _ HL.out.bel b).mono ?_
     rintro e wx ⟨rfl, hb⟩
     replace hHeld := show wx.cell? ⟨bx, 0, none⟩ = some (.slice (some ⟨g, o, none⟩) m.length cap) ∧ wx.cell? ⟨gN, q, none⟩ = some (.slice A nl cap2) from ⟨(hb.cell (p := ⟨bx, 0, none⟩) (cell_ltA hHeld.1)).trans hHeld.1, (hb.cell (p := ⟨gN, q, none⟩) (cell_ltA hHeld.2)).trans hHeld.2⟩
     replace HL := Lib.hid (HL.out.stay hb)
     replace HS := Lib.hid (HS.out.below hb)
     clear hb
     generalize wx = wd at *
     refine hK.out _ _ hHeld (fun hHeld => ?_)
     clear hK K
     refine wpq_one 10 (by kernel_rfl) rfl (fun K hK => ?_)
     go_simp
     have hb7 : Below wd.heap.size wd (wd.alloc (.cells (natV (stepL (arcsOf m q) b)).toArray 3)) := (Below.refl _ _).alloc (Nat.le_refl _) _
     refine hK.out _ _ ⟨(hb7.cell (p := ⟨bx, 0, none⟩) (cell_ltA hHeld.1)).trans hHeld.1, (hb7.cell (p := ⟨gN, q, none⟩) (cell_ltA hHeld.2)).trans hHeld.2⟩ (fun hHeld2 => ?_)
     clear hK K hb7 hHeld2
     refine wpq_one 11 (by kernel_rfl) rfl (fun K hK => ?_)
     refine step_pushLA (f := natV) (x := stepL (arcsOf m q) b) (v := .slice A nl cap2) (l := (bytes.map (stepL (arcsOf m q))).take k) (B := B) (e := 3) (sz := 1) rfl _ _ rfl elemIn natV_len (by decide) (natV_one _) HL.out.own rfl rfl rfl (by rw [List.length_take]; have := HLEN.out; rw [List.length_map]; omega) HL.out.base.2 ?_
     rintro v3 w7 hown3 hg3 hfm3 hat3
     have hb7 : Below B wd w7 := grown_belowL hg3 (fun y hy => (HL.out.own.lt y hy).1) HL.out.base.2
     have hbase : gN + 2 ≤ B := by have := HL.out.base.1; rw [HGN.out] at this; exact this
     have HN := Lib.hid (HL.out.push HKB.out (by rw [HBK.out]) HQ.out hown3 hg3)
     rw [HGN.out] at HN
     have HS7 := Lib.hid (show BoxV bS 70 [.bool acc, .slice b0 k0 c0] (w7.setCell ⟨gN, q, none⟩ v3) from (Below.heap_setCell w7 ⟨gN, q, none⟩ v3 bS (by have := HBS.out; show bS ≠ gN; omega)).trans ((hb7.block bS (by have := HBS.out; omega)).trans HS.out))
     have hnx7 := HL.out.nx.of_block (hb7.block _ (by have := HL.out.base.1; omega))
     rw [HGN.out] at hnx7
     have hf := World.rowIs.frozen hnx7 q
     have hS : w7.cell? ⟨bx, 0, none⟩ = some (.slice (some ⟨g, o, none⟩) m.length cap) ∧ w7.cell? ⟨gN, q, none⟩ = some (.slice A nl cap2) := ⟨(hb7.cell (p := ⟨bx, 0, none⟩) (by have := HBX.out; show bx < B; omega)).trans hHeld.1, (hb7.cell (p := ⟨gN, q, none⟩) (by show gN < B; omega)).trans hHeld.2⟩
     have hc := hS.2
     obtain ⟨A3, n3, cap3, rfl⟩ : ∃ A n cap, v3 = .slice A n cap := by obtain ⟨A, c, h⟩ := hfm3; exact ⟨A, _, c, h⟩
     clear hfm3 hown3 hg3 hat3 hb7 hnx7 hbase
     refine hK.out _ _ hS (fun hHeld => ?_)
     clear hK K hS
     refine wpq_tk 12 (some 56) [13] (Or.inl ⟨by rfl, fun w hSw => by (obtain ⟨x0, y0⟩ := hSw; go_simp; with_reducible rfl)⟩) hHeld ?_ rfl rfl
     simp only [Act.put, List.setIfInBounds_toArray]
     refine wpq_end 13 (by kernel_rfl) rfl (by kernel_rfl) (fun K hK => ?_)
     go_simp
     refine hK.out _ _ ?_
     clear hK K
     refine wpq_done (by kernel_rfl) ?_ _
     go_simp
     have hq1 := HBX2.out
     subst hq1
     have hq2 := HGN.out
     subst hq2
     go_wp2_with fail
     exact ⟨⟨k + 1, A3, n3, cap3, by simp, HKB.out, HN.out, HS7.out⟩, by have := HKB.out; simp [intOf]; omega⟩
end Go.Proofs.YtpkecepelcppiaaGreatDoor

namespace Go.Proofs.YtpkecepelcppiaaGreatDoor
open Go.RowKit Go.Shelf
set_option maxHeartbeats 8000000
set_option maxRecDepth 100000

structure RK (K : List (List Nat)) (fin : List Nat) (S : List (List Nat)) (q : Nat) : Prop where
 eq : roundG K [] = (fin ++ (roundG (K.drop q) S).1, (roundG (K.drop q) S).2)
 len : fin.length = q
 few : S.length ≤ q
 lt : ∀ c ∈ fin, c < S.length
theorem RK.nil (K : List (List Nat)) : RK K [] [] 0 := ⟨by rw [List.drop_zero]; rfl, rfl, Nat.le_refl _, fun c hc => by cases hc⟩
theorem RK.hit {K : List (List Nat)} {fin : List Nat} {S : List (List Nat)} {q i : Nat} (h : RK K fin S q) (hq : q < K.length) (hi : idxG S K[q] = some i) : RK K (fin ++ [i]) S (q + 1) := by
 refine ⟨?_, by rw [List.length_append, h.len]; rfl, Nat.le_succ_of_le h.few, fun c hc => ?_⟩
 ·rw [h.eq, List.drop_eq_getElem_cons hq, roundG_hit hi, List.append_assoc]
  rfl
 ·rcases List.mem_append.1 hc with hc | hc
  ·exact h.lt c hc
  ·rw [List.mem_singleton.1 hc]
   exact (List.getElem?_eq_some_iff.1 (idxG_some hi)).1
theorem RK.miss {K : List (List Nat)} {fin : List Nat} {S : List (List Nat)} {q : Nat} (h : RK K fin S q) (hq : q < K.length) (hi : idxG S K[q] = none) : RK K (fin ++ [S.length]) (S ++ [K[q]]) (q + 1) := by
 refine ⟨?_, by rw [List.length_append, h.len]; rfl, by rw [List.length_append]; exact Nat.succ_le_succ h.few, fun c hc => ?_⟩
 ·rw [h.eq, List.drop_eq_getElem_cons hq, roundG_miss hi, List.append_assoc]
  rfl
 ·rw [List.length_append]
  rcases List.mem_append.1 hc with hc | hc
  ·have := h.lt c hc
   exact Nat.lt_succ_of_lt this
  ·rw [List.mem_singleton.1 hc]
   exact Nat.lt_succ_self _
theorem RK.done {K : List (List Nat)} {fin : List Nat} {S : List (List Nat)} {q : Nat} (h : RK K fin S q) (hq : K.length ≤ q) : roundG K [] = (fin, S.length) := by
 rw [h.eq, List.drop_of_length_le hq]
 show (fin ++ [], S.length) = _
 rw [List.append_nil]
def lxA (cl : List Nat) (nr : List Nat) (q j : Nat) : List Nat := cl.getD q 0 :: (nr.take j).map (fun t => cl.getD t 0)
theorem lxA_len (cl nr : List Nat) (q j : Nat) (h : j ≤ nr.length) : (lxA cl nr q j).length = j + 1 := by
 unfold lxA
 rw [List.length_cons, List.length_map, List.length_take]
 omega
theorem lxA_succ (cl nr : List Nat) (q j : Nat) (h : j < nr.length) : lxA cl nr q (j + 1) = lxA cl nr q j ++ [cl.getD nr[j] 0] := by
 unfold lxA
 rw [List.take_succ_eq_append_getElem h, List.map_append]
 rfl
theorem loop_of_round {nx : List (List Nat)} {f : Nat} {cl : List Nat} {known : Nat} {fin : List Nat} {n : Nat} (hc : ∀ i, cl.getD i 0 < 1000) (h : roundG (rowsK cl nx) [] = (fin, n)) : loopA nx (f + 1) cl known = if n = known then some fin else loopA nx f fin n :=
 loopA_succ nx f cl known fin n (by rw [← h, ← round_rows nx hc]; rfl)
theorem OwnL.nums {B : Nat} {e : TypeId} {w : World} {v : Value} {l : List Nat} (h : OwnL B e 1 natV w v l) : RdNm w v l := (h.slx natV_len).1
theorem next_step0 {n : Nat} : ∀ (l : List ArcA) (x : Nat), okArcs n 0 l = true → nextL l x = stepL l x := by
 have h : ∀ (l : List ArcA) (b x : Nat), okArcs n b l = true → b ≤ x → nextL l x = stepL l x := by
  intro l
  induction l with
  | nil => intro _ _ _ _; rfl
  | cons a t ih =>
   intro b x h hx
   unfold okArcs at h
   simp only [Bool.and_eq_true, decide_eq_true_eq] at h
   rw [nextL, stepL]
   by_cases e : x ≤ a.hi
   ·rw [if_pos ⟨by omega, e⟩, if_pos e]
   ·rw [if_neg (fun h2 => e h2.2), if_neg e]
    exact ih _ x h.2 (by omega)
 exact fun l x h1 => h l 0 x h1 (Nat.zero_le _)
theorem classes_any (N : Nat → Prop) (f : Nat) (m : List StA) (v : Value) (clF : List Nat) (w : World) (hm : RdS N w v m) (hv : valA m = true) (hn : m.length < 1000) (hf : loopA (nxL m (startsA m)) f (cl0 m) 0 = some clF) :
  Calls Tryz.prog 124 #[.agg #[v]] w fun e w' => ∃ gc, e = .returned (.slice (some ⟨gc, 0, none⟩) m.length m.length) ∧ w'.rowIs gc 3 m.length (fun i => .int .i64 ((clF.getD i 0 : Nat) : Int)) ∧ w.heap.size ≤ gc ∧ Below w.heap.size w w' ∧ ∀ i, clF.getD i 0 ≤ m.length := by
 obtain ⟨a, cap, rfl, hml⟩ := hm.form
 have hmi : (m.length : Int) < 1000 := by omega
 have HM := Lib.hid hm
 have HN := Lib.hid hn
 have HF := Lib.hid hf
 have HM0L := Lib.hid (valA_pos hv)
 have HV := Lib.hid hv
 have HLO := Lib.hid (fun i hi j hj => val_lo hv i hi j hj)
 have hmkC := run_make_row' (P := Tryz.prog) 82 3 (.int .i64 0) 8 Tryz.underlying82 int_infoZ rfl .i64 .i64 m.length (by omega) (by omega)
 clear hml hm hv hn hf
 go_enter Tryz.func124, Tryz.ntmps124
 go_upto_region 1 with fail
 generalize hW : World.alloc w _ = w1
 obtain ⟨hbx, -, hz1, hb1⟩ := alloc_of hW
 have HX := Lib.hid (show BoxV w.heap.size 29 [.slice a m.length cap] w1 from hbx)
 have HB := Lib.hid hb1
 clear hW hbx hz1 hb1
 have x0 : w1.cell? ⟨w.heap.size, 0, none⟩ = some (.slice a m.length cap) := HX.out.cell 0
 go_wp2_with fail
 generalize hW : World.alloc w1 _ = w2
 obtain ⟨hbx, -, hz1, hb1⟩ := alloc_of hW
 have h0 : w2.cell? ⟨w1.heap.size, 0, none⟩ = some (.slice a m.length cap) := (show BoxV w1.heap.size 29 [.slice a m.length cap] w2 from hbx).cell 0
 have HC0 := Lib.hid (cuts_any N m (.slice a m.length cap) w1.heap.size w2 h0 (by omega) (HM.out.stay (HB.out.trans (hb1.mono HB.out.size))) HLO.out)
 replace HX := Lib.hid (HX.out.below hb1)
 replace HB := Lib.hid (HB.out.trans (hb1.mono HB.out.size))
 clear hW hbx hz1 hb1 x0 h0
 refine HC0.out.mono ?_
 rintro e w3 ⟨vb, rfl, hbr, hb⟩
 replace HX := Lib.hid (HX.out.below hb)
 replace HB := Lib.hid (HB.out.trans (hb.mono HB.out.size))
 have HBY := Lib.hid hbr
 obtain ⟨ba, bcap, rfl, -⟩ := hbr.form
 have HLEN := Lib.hid (starts_len m)
 obtain ⟨bytes, hby⟩ : ∃ bytes, bytes = startsA m := ⟨_, rfl⟩
 rw [← hby] at HBY HLEN HF ⊢
 have HBE := Lib.hid hby
 have hbl : (bytes.length : Int) ≤ 256 := by have := HLEN.out; omega
 clear hbr hb HC0 hby
 have x0 : w3.cell? ⟨w.heap.size, 0, none⟩ = some (.slice a m.length cap) := HX.out.cell 0
 go_upto_region 3 with fail
 generalize hW2 : World.alloc w3 _ = w5
 have hcl := show w5.rowIs w3.heap.size 3 m.length (fun _ => .int .i64 0) from hW2 ▸ World.rowIs_made w3 _ m.length _
 obtain ⟨-, -, hz2, hb2⟩ := alloc_of hW2
 have HCL := Lib.hid (show w5.rowIs w3.heap.size 3 m.length (fun i => .int .i64 (if i < 0 ∧ accOf m i = true then 1 else 0)) from World.rowIs.congr hcl (fun i _ => by rw [if_neg (by omega)]))
 have HB5 : Hid (Below w3.heap.size w3 w5) := hb2
 have HXL := Lib.hid HX.out.lt
 clear hW2 hcl hz2 hb2 x0 hmkC
 go_wp2_with fail
 go_loopw [5] (fun qv wr => ∃ q : Nat, qv = .int .i64 (q : Int) ∧ q ≤ m.length ∧ Hid (wr.rowIs w3.heap.size 3 m.length (fun i => .int .i64 (if i < q ∧ accOf m i = true then 1 else 0))) ∧ Hid (Below w3.heap.size w3 wr)) (fun qv _ => m.length - (intOf qv).toNat)
 case atStart => exact ⟨0, rfl, Nat.zero_le _, HCL.out, HB5.out⟩
 case round =>
  clear HCL HB5
  obtain ⟨q, rfl, hq, HCL, HBW⟩ := hrel
  have x0 : wr.cell? ⟨w.heap.size, 0, none⟩ = some (.slice a m.length cap) := (HX.out.below HBW.out).cell 0
  by_cases hlt : q < m.length
  case pos =>
   have hlti : (q : Int) < m.length := by omega
   obtain ⟨g, o, b0, k0, c0, rfl, m0, -, -, -⟩ := HM.out.at_ q hlt
   have hgl := HM.out.lt0 (by omega)
   replace m0 := ((HB.out.trans (HBW.out.mono HB.out.size)).cell (p := ⟨g, o + q * 2, none⟩) hgl).trans m0
   have HAC := Lib.hid (acc_eq hlt)
   have HQ := Lib.hid hlt
   generalize m[q].acc = acc at *
   cases acc with
   | false =>
    have HCN := Lib.hid (show wr.rowIs w3.heap.size 3 m.length (fun i => .int .i64 (if i < q + 1 ∧ accOf m i = true then 1 else 0)) from World.rowIs.congr HCL.out (fun i _ => by
     by_cases h2 : i = q
     ·rw [h2, HAC.out]; simp
     ·have : (i < q) ↔ (i < q + 1) := by omega
      simp only [this]))
    clear hlt hgl
    go_wp2_with fail
    exact ⟨⟨q + 1, by simp, HQ.out, HCN.out, HBW.out⟩, by have := HQ.out; simp [intOf]; omega⟩
   | true =>
    have hc := HCL.out.cell HQ.out
    have hfz := World.rowIs.frozen HCL.out q
    have HCN : Hid ((wr.setCell ⟨w3.heap.size, q, none⟩ (.int .i64 1)).rowIs w3.heap.size 3 m.length (fun i => .int .i64 (if i < q + 1 ∧ accOf m i = true then 1 else 0))) := World.rowIs.congr (HCL.out.set q (.int .i64 1)) (fun i _ => by
     by_cases h2 : i = q
     ·rw [if_pos h2, h2, if_pos ⟨by omega, HAC.out⟩]
     ·rw [if_neg h2]
      have : (i < q) ↔ (i < q + 1) := by omega
      simp only [this])
    clear hlt hgl
    go_wp2_with fail
    exact ⟨⟨q + 1, by simp, HQ.out, HCN.out, HBW.out.setCell (p := ⟨w3.heap.size, q, none⟩) (Nat.le_refl _) _⟩, by have := HQ.out; simp [intOf]; omega⟩
  case neg =>
   have hqe : q = m.length := by omega
   subst hqe
   have hge : ¬ (m.length : Int) < m.length := by omega
   have HP0 : Hid (LC m.length m bytes clF wr (.slice (some ⟨w3.heap.size, 0, none⟩) m.length m.length) (.int .i64 0) wr f w3.heap.size 0 (cl0 m)) := ⟨rfl, rfl, World.rowIs.congr HCL.out (fun i hi => by rw [cl0_at hi]; congr 1; by_cases h : accOf m i = true; rw [if_pos ⟨hi, h⟩, if_pos h]; rfl; rw [if_neg (fun h2 => h h2.2), if_neg h]; rfl), by simp [cl0], fun i => by
    unfold cl0
    rw [List.getD_eq_getElem?_getD, List.getElem?_map]
    cases m[i]? with
    | none => exact Nat.zero_le _
    | some s => have := HM0L.out; show (if s.acc then 1 else 0) ≤ m.length; split <;> omega, Nat.zero_le _, HF.out, Below.refl _ _⟩
   have HV2 := Lib.hid (fun q (hq : q < m.length) (b : Nat) => stepL_lt m[q].arcs 0 b (val_at HV.out q hq) (by have := HM0L.out; omega))
   have HG3 : Hid (w.heap.size ≤ w3.heap.size) := HB.out.size
   clear hlt hq x0 HLO HCL
   obtain ⟨wA, hwA⟩ : ∃ x, x = wr := ⟨_, rfl⟩
   subst hwA
   go_wp2_with fail
   go_loopw [4, 6] (fun cv kv wr => ∃ (f gc known : Nat) (cl : List Nat), Hid (LC m.length m bytes clF wA cv kv wr f gc known cl) ∧ Hid (w3.heap.size ≤ gc)) (fun cv kv wr => minN (fun f => ∃ gc known cl, LC m.length m bytes clF wA cv kv wr f gc known cl))
   case atStart => exact ⟨f, _, 0, cl0 m, HP0.out, Nat.le_refl _⟩
   case round =>
    clear HP0
    obtain ⟨f0, gc0, known0, cl00, h0, hgc0⟩ := hrel
    obtain ⟨μ, gc, known, cl, hP, hμ⟩ := h0.out.least
    have hcv := hP.cv
    have hkv := hP.kv
    have hgcE : gc = gc0 := by
     have := h0.out.cv
     rw [hcv] at this
     injection this with h1
     injection h1 with h1
     injection h1
    have HGC : Hid (w3.heap.size ≤ gc) := by rw [hgcE]; exact hgc0.out
    clear hgcE hgc0
    subst hcv
    subst hkv
    have HMU := Lib.hid hμ
    cases μ with
    | zero => exact absurd hP.ev (by rw [loopA]; intro h; cases h)
    | succ f1 =>
     have HP := Lib.hid hP
     clear hP hμ h0 f0 gc0 known0 cl00
     have hki : (known : Int) ≤ 1000 := by have := HP.out.kn; have := HN.out; omega
     have HKL := Lib.hid ((rowsK_len cl (nxL m bytes)).trans HP.out.len)
     have HC3 : Hid (∀ i, cl.getD i 0 < 1000) := fun i => by have := HP.out.lt i; have := HN.out; omega
     have hmkC := run_make_row' (P := Tryz.prog) 82 3 (.int .i64 0) 8 Tryz.underlying82 int_infoZ rfl .i64 .i64 m.length (by omega) (by omega)
     obtain ⟨wB, hwB⟩ : ∃ x, x = wr := ⟨_, rfl⟩
     subst hwB
     go_upto_region 11 with fail
     generalize hW2 : World.alloc wB _ = w7
     have hfin := show w7.rowIs wB.heap.size 3 m.length (fun _ => .int .i64 0) from hW2 ▸ World.rowIs_made wB _ m.length _
     obtain ⟨-, -, hz2, hb2⟩ := alloc_of hW2
     have HF0 := Lib.hid (show w7.rowIs wB.heap.size 3 m.length (fun i => .int .i64 ((([] : List Nat).getD i 0 : Nat) : Int)) from hfin)
     have HB7 := Lib.hid hb2
     clear hW2 hfin hz2 hb2 hmkC
     go_wp2_with fail
     go_loopw [7, 9] (fun sv qv wr => ∃ (q : Nat) (A : Option Addr) (scap : Nat) (vs : List Value) (S : List (List Nat)) (fin : List Nat), sv = .slice A S.length scap ∧ qv = .int .i64 (q : Int) ∧ q ≤ m.length ∧ Hid (OwnR (wB.heap.size + 1) wr (.slice A S.length scap) vs S) ∧ Hid (wr.rowIs wB.heap.size 3 m.length (fun i => .int .i64 ((fin.getD i 0 : Nat) : Int))) ∧ Hid (RK (rowsK cl (nxL m bytes)) fin S q) ∧ Hid (Below wB.heap.size wB wr)) (fun _ qv _ => m.length - (intOf qv).toNat)
     case atStart => exact ⟨0, none, 0, [], [], [], rfl, rfl, Nat.zero_le _, OwnR.nil _ _, HF0.out, RK.nil _, HB7.out⟩
     case round =>
      clear HF0 HB7
      obtain ⟨q, A, scap, vs, S, fin, rfl, rfl, hq, HS, HFI, HRI, HBW2⟩ := hrel
      obtain ⟨wD, hwD⟩ : ∃ x, x = wr := ⟨_, rfl⟩
      subst hwD
      have HSL : Hid (S.length ≤ m.length) := by have := HRI.out.few; unfold Hid; omega
      have hsl : (S.length : Int) ≤ 1000 := by have := HSL.out; have := HN.out; omega
      by_cases hlt : q < m.length
      case neg =>
       have hgeq : ¬ (q : Int) < m.length := by omega
       have HRD := Lib.hid (HRI.out.done (by rw [HKL.out]; omega))
       have HEV := Lib.hid ((loop_of_round (f := f1) (known := known) HC3.out HRD.out).symm.trans HP.out.ev)
       have HFL : Hid (∀ i, fin.getD i 0 ≤ m.length) := fun i => by
        rw [List.getD_eq_getElem?_getD]
        cases hg : fin[i]? with
        | none => exact Nat.zero_le _
        | some c => have := HRI.out.lt c (List.mem_of_getElem? hg); have := HSL.out; show c ≤ m.length; omega
       clear hlt
       by_cases hkn : S.length = known
       case pos =>
        have hkni : ((S.length : Int) == (known : Int)) = true := by rw [hkn]; exact beq_self_eq_true _
        have HCE : Hid (fin = clF) := by
         have h1 := HEV.out
         rw [if_pos hkn] at h1
         exact Option.some.inj h1
        have hbD : Below w3.heap.size w3 wD := HBW.out.trans ((HP.out.bel.trans (HBW2.out.mono HP.out.bel.size)).mono HBW.out.size)
        have HBD := Lib.hid (HB.out.trans (hbD.mono HB.out.size))
        have HGB : Hid (w.heap.size ≤ wB.heap.size) := by have h1 := HP.out.row.lt; have h2 := HGC.out; have h3 := HG3.out; unfold Hid; omega
        clear hkn hbD
        go_wp2_with fail
        go_ret
        exact ⟨wB.heap.size, rfl, by rw [← HCE.out]; exact HFI.out, HGB.out, HBD.out, by rw [← HCE.out]; exact HFL.out⟩
       case neg =>
        have hkni : ((S.length : Int) == (known : Int)) = false := beq_false_of_ne (by omega)
        have HPN : Hid (LC m.length m bytes clF wA (.slice (some ⟨wB.heap.size, 0, none⟩) m.length m.length) (.int .i64 (S.length : Int)) wD f1 wB.heap.size S.length fin) := ⟨rfl, rfl, HFI.out, by rw [HRI.out.len]; omega, HFL.out, HSL.out, by
         have h1 := HEV.out
         rw [if_neg hkn] at h1
         exact h1, HP.out.bel.trans (HBW2.out.mono HP.out.bel.size)⟩
        have HGN : Hid (w3.heap.size ≤ wB.heap.size) := by have h1 := HP.out.row.lt; have h2 := HGC.out; unfold Hid; omega
        clear hkn
        go_wp2_with fail
        exact ⟨⟨f1, _, _, fin, HPN.out, HGN.out⟩, by rw [HMU.out]; exact Nat.lt_succ_of_le (minN_le ⟨_, _, _, HPN.out⟩)⟩
      case pos =>
       have hlti : (q : Int) < m.length := by omega
       have c1 := (HP.out.row.of_block (HBW2.out.block _ HP.out.row.lt)).cell hlt
       have HNR := Lib.hid (nxL_at (bytes := bytes) hlt)
       have HTL : Hid (∀ t ∈ bytes.map (stepL (arcsOf m q)), t < m.length) := by
        intro t ht
        obtain ⟨b, -, rfl⟩ := List.mem_map.1 ht
        rw [accs_eq hlt]
        exact HV2.out q hlt b
       have HNL : Hid ((bytes.map (stepL (arcsOf m q))).length = bytes.length) := by unfold Hid; rw [List.length_map]
       have HNA : Hid (∀ j (h1 : j < (bytes.map (stepL (arcsOf m q))).length) (h2 : j < bytes.length), (bytes.map (stepL (arcsOf m q)))[j] = nextL (arcsOf m q) bytes[j]) := fun j h1 h2 => by
        exact (List.getElem_map (stepL (arcsOf m q))).trans ((congrArg (fun l => stepL l bytes[j]) (accs_eq hlt)).trans ((next_step0 _ _ (val_at HV.out q hlt)).symm.trans (congrArg (fun l => nextL l bytes[j]) (accs_eq hlt)).symm))
       have HNX : Hid (∀ b w', Below wD.heap.size wD w' → Calls Tryz.prog 40 #[.agg #[.slice a m.length cap], .int .i64 (q : Int), .int .i64 ((b : Nat) : Int)] w' fun e w'' => e = .returned (.int .i64 (nextL (arcsOf m q) b : Nat)) ∧ Below w'.heap.size w' w'') := fun b w' hb => by
        rw [accs_eq hlt]
        exact Next_any N m _ q b w' (HM.out.stay ((HB.out.trans ((HBW.out.trans ((HP.out.bel.trans (HBW2.out.mono HP.out.bel.size)).mono HBW.out.size)).mono HB.out.size)).trans (hb.mono (by have h1 := HP.out.row.lt; have h2 := HGC.out; have h3 := HG3.out; have h4 := HBW2.out.size; omega)))) hlt
       generalize bytes.map (stepL (arcsOf m q)) = nr at *
       have HQ := Lib.hid hlt
       obtain ⟨cq, hcq⟩ : ∃ c, c = cl.getD q 0 := ⟨_, rfl⟩
       rw [← hcq] at c1
       have HCQE := Lib.hid hcq
       have HXD := Lib.hid ((HX.out.below HBW.out).below (HP.out.bel.trans (HBW2.out.mono HP.out.bel.size)))
       have HYD := Lib.hid ((HBY.out.stay HBW.out).stay (HP.out.bel.trans (HBW2.out.mono HP.out.bel.size)))
       have HROW := Lib.hid (HP.out.row.of_block (HBW2.out.block _ HP.out.row.lt))
       clear hlt hcq
       go_upto_region 15 with fail
       generalize hW : World.alloc wD _ = w6
       obtain ⟨hbx, -, hz1, hb1⟩ := alloc_of hW
       have HO0 := Lib.hid (show OwnL wD.heap.size 3 1 natV w6 (.slice (some ⟨wD.heap.size, 0, none⟩) (0 + 1) 1) (lxA cl nr q 0) from by
        unfold lxA
        rw [List.take_zero, List.map_nil, ← HCQE.out]
        exact ⟨rfl, .inr ⟨wD.heap.size, 1, _, rfl, Nat.le_refl _, hbx, Nat.le_refl _, by decide, rfl, rfl⟩⟩)
       have HBJ0 := Lib.hid hb1
       have HZ6 : Hid (wD.heap.size < w6.heap.size) := by unfold Hid; omega
       obtain ⟨Bx, hBx⟩ : ∃ B, B = wD.heap.size := ⟨_, rfl⟩
       rw [← hBx] at HO0 HBJ0 HZ6 ⊢
       have HBX := Lib.hid hBx
       clear hW hbx hz1 hb1 c1 hBx
       go_wp2_with fail
       go_loopw [10, 11] (fun xv jv wr => ∃ (j : Nat) (A2 : Option Addr) (cap2 : Nat), xv = .slice A2 (j + 1) cap2 ∧ jv = .int .i64 (j : Int) ∧ j ≤ nr.length ∧ Hid (OwnL Bx 3 1 natV wr (.slice A2 (j + 1) cap2) (lxA cl nr q j)) ∧ Hid (Below Bx wD wr) ∧ Hid (Bx < wr.heap.size)) (fun _ jv _ => nr.length - (intOf jv).toNat)
       case atStart => exact ⟨0, some ⟨Bx, 0, none⟩, 1, rfl, rfl, Nat.zero_le _, HO0.out, HBJ0.out, HZ6.out⟩
       case round =>
        clear HO0 HBJ0 HZ6
        obtain ⟨j, A2, cap2, rfl, rfl, hj, HO, HBJ, HBZ0⟩ := hrel
        have hji2 : (j : Int) ≤ 256 := by have := HNL.out; omega
        by_cases hjt : j < nr.length
        case pos =>
         have hjb : j < bytes.length := by have := HNL.out; omega
         have hjti : (j : Int) < bytes.length := by omega
         obtain ⟨gb, ob, rfl, y0⟩ := HYD.out.at_ j hjb
         have HT := Lib.hid (HNA.out j hjt hjb)
         have htn := HTL.out nr[j] (List.getElem_mem hjt)
         have HLS := Lib.hid (lxA_succ cl nr q j hjt)
         have HLK := Lib.hid (lxA_len cl nr q j hj)
         generalize nr[j] = t at *
         generalize bytes[j] = b at *
         have HJ : Hid (j + 1 ≤ nr.length) := hjt
         have hti : (t : Int) < m.length := by omega
         have z0 := HROW.out.cell htn
         obtain ⟨ct, hct⟩ : ∃ c, c = cl.getD t 0 := ⟨_, rfl⟩
         rw [← hct] at z0 HLS
         have HNX2 := Lib.hid (HNX.out b)
         rw [← HT.out] at HNX2
         generalize lxA cl nr q j = lxK at *
         have x0 := HXD.out.cell 0
         simp only [List.getElem?_cons_zero] at x0
         have HS3 : Hid (w.heap.size < Bx ∧ gb < Bx ∧ gc < Bx) := by
          rw [HBX.out]
          exact ⟨cell_ltG x0, cell_ltG y0, cell_ltG z0⟩
         have hbJ' : Below wD.heap.size wD wr := HBX.out ▸ HBJ.out
         replace x0 := (hbJ'.cell (p := ⟨w.heap.size, 0, none⟩) (cell_ltG x0)).trans x0
         replace y0 := (hbJ'.cell (p := ⟨gb, ob + j, none⟩) (cell_ltG y0)).trans y0
         replace z0 := (hbJ'.cell (p := ⟨gc, t, none⟩) (cell_ltG z0)).trans z0
         clear hjt htn hct hjb hbJ'
         obtain ⟨bx, hbxe⟩ : ∃ bx, bx = w.heap.size := ⟨_, rfl⟩
         rw [← hbxe] at x0 HS3 ⊢
         have HBXE : Hid (w.heap.size = bx) := hbxe.symm
         clear hbxe
         go_upto_region 18 with fail
         have hS0 : wr.drew.cell? ⟨bx, 0, none⟩ = some (.slice a m.length cap) ∧ wr.drew.cell? ⟨gb, ob + j, none⟩ = some (.int .i64 (b : Int)) ∧ wr.drew.cell? ⟨gc, t, none⟩ = some (.int .i64 (ct : Int)) := ⟨x0, y0, z0⟩
         replace HO := Lib.hid (HO.out.stay (drewBn wr))
         replace HBJ := Lib.hid (show Below wD.heap.size wD wr.drew from HBX.out ▸ HBJ.out.trans ((drewBn wr).mono (Nat.le_of_lt HBZ0.out)))
         have HBZ : Hid (Bx ≤ wr.drew.heap.size) := Nat.le_of_lt HBZ0.out
         clear x0 y0 z0
         refine wpq_region (fun w' => w'.cell? ⟨bx, 0, none⟩ = some (.slice a m.length cap) ∧ w'.cell? ⟨gb, ob + j, none⟩ = some (.int .i64 (b : Int)) ∧ w'.cell? ⟨gc, t, none⟩ = some (.int .i64 (ct : Int))) 13 (by kernel_rfl) hS0 (fun hHeld => ?_)
         clear hS0
         have HBZ1 : Hid (Bx < wr.drew.heap.size) := HBZ0.out
         generalize wr.drew = wd at *
         refine wpq_tk 0 (some 55) [13] (Or.inl ⟨by rfl, fun w hSw => by (obtain ⟨x0, y0, z0⟩ := hSw; go_simp; with_reducible rfl)⟩) hHeld ?_ rfl rfl
         simp only [Act.put, sA, sZ, sS]
         refine wpq_tk 1 (some 56) [13] (Or.inl ⟨by rfl, fun w hSw => by (obtain ⟨x0, y0, z0⟩ := hSw; go_simp; with_reducible rfl)⟩) hHeld ?_ rfl rfl
         simp only [Act.put, sA, sZ, sS]
         refine wpq_tk 2 (some 57) [13] (Or.inl ⟨by rfl, fun w hSw => by (obtain ⟨x0, y0, z0⟩ := hSw; go_simp; with_reducible rfl)⟩) hHeld ?_ rfl rfl
         simp only [Act.put, sA, sZ, sS]
         refine wpq_tk 3 (some 58) [13] (Or.inl ⟨by rfl, fun w hSw => by (obtain ⟨x0, y0, z0⟩ := hSw; go_simp; with_reducible rfl)⟩) hHeld ?_ rfl rfl
         simp only [Act.put, sA, sZ, sS]
         refine wpq_tk 4 (some 59) [13] (Or.inl ⟨by rfl, fun w hSw => by (obtain ⟨x0, y0, z0⟩ := hSw; go_simp; with_reducible rfl)⟩) hHeld ?_ rfl rfl
         simp only [Act.put, sA, sZ, sS]
         refine wpq_tk 5 (some 60) [13] (Or.inl ⟨by rfl, fun w hSw => by (obtain ⟨x0, y0, z0⟩ := hSw; go_simp; with_reducible rfl)⟩) hHeld ?_ rfl rfl
         simp only [Act.put, sA, sZ, sS]
         refine wpq_tk 6 (some 61) [13] (Or.inl ⟨by rfl, fun w hSw => by (obtain ⟨x0, y0, z0⟩ := hSw; go_simp; with_reducible rfl)⟩) hHeld ?_ rfl rfl
         simp only [Act.put, sA, sZ, sS]
         refine wpq_tk 7 (some 62) [13] (Or.inl ⟨by rfl, fun w hSw => by (obtain ⟨x0, y0, z0⟩ := hSw; go_simp; with_reducible rfl)⟩) hHeld ?_ rfl rfl
         simp only [Act.put, sA, sZ, sS]
         refine wpq_one 8 (by kernel_rfl) rfl (fun K hK => ?_)
         go_simp
         refine (HNX2.out _ HBJ.out).mono ?_
         rintro e wx ⟨rfl, hb⟩
         replace hHeld := show wx.cell? ⟨bx, 0, none⟩ = some (.slice a m.length cap) ∧ wx.cell? ⟨gb, ob + j, none⟩ = some (.int .i64 (b : Int)) ∧ wx.cell? ⟨gc, t, none⟩ = some (.int .i64 (ct : Int)) from ⟨(hb.cell (p := ⟨bx, 0, none⟩) (cell_ltG hHeld.1)).trans hHeld.1, (hb.cell (p := ⟨gb, ob + j, none⟩) (cell_ltG hHeld.2.1)).trans hHeld.2.1, (hb.cell (p := ⟨gc, t, none⟩) (cell_ltG hHeld.2.2)).trans hHeld.2.2⟩
         replace HO := Lib.hid (HO.out.stay hb)
         replace HBJ := Lib.hid (HBJ.out.trans (hb.mono HBJ.out.size))
         replace HBZ := Lib.hid (Nat.le_trans HBZ.out hb.size)
         replace HBZ1 := Lib.hid (Nat.lt_of_lt_of_le HBZ1.out hb.size)
         clear hb
         generalize wx = wd at *
         refine hK.out _ _ hHeld (fun hHeld => ?_)
         clear hK K
         refine wpq_tk 9 (some 64) [13] (Or.inl ⟨by rfl, fun w hSw => by (obtain ⟨x0, y0, z0⟩ := hSw; go_simp; with_reducible rfl)⟩) hHeld ?_ rfl rfl
         simp only [Act.put, sA, sZ, sS]
         refine wpq_tk 10 (some 65) [13] (Or.inl ⟨by rfl, fun w hSw => by (obtain ⟨x0, y0, z0⟩ := hSw; go_simp; with_reducible rfl)⟩) hHeld ?_ rfl rfl
         simp only [Act.put, sA, sZ, sS]
         refine wpq_one 11 (by kernel_rfl) rfl (fun K hK => ?_)
         go_simp
         have hb7 : Below wd.heap.size wd (wd.alloc (.cells (natV ct).toArray 3)) := (Below.refl _ _).alloc (Nat.le_refl _) _
         refine hK.out _ _ ⟨(hb7.cell (p := ⟨bx, 0, none⟩) (cell_ltG hHeld.1)).trans hHeld.1, (hb7.cell (p := ⟨gb, ob + j, none⟩) (cell_ltG hHeld.2.1)).trans hHeld.2.1, (hb7.cell (p := ⟨gc, t, none⟩) (cell_ltG hHeld.2.2)).trans hHeld.2.2⟩ (fun hHeld2 => ?_)
         clear hK K hb7 hHeld2
         refine wpq_one 12 (by kernel_rfl) rfl (fun K hK => ?_)
         refine step_pushLG (f := natV) (x := ct) (v := .slice A2 (j + 1) cap2) (l := lxK) (B := Bx) (e := 3) (sz := 1) rfl _ _ rfl elemIn natV_len (by decide) (natV_one _) HO.out rfl rfl rfl (by have := HLK.out; omega) HBZ.out ?_
         rintro v3 w7 hown3 hg3 hfm3 hat3
         have hb7 : Below Bx wd w7 := grown_belowL hg3 (fun y hy => (HO.out.lt y hy).1) HBZ.out
         have HBZ2 : Hid (Bx < w7.heap.size) := Nat.lt_of_lt_of_le HBZ1.out hg3.size
         obtain ⟨A3, cap3, rfl⟩ : ∃ A cap, v3 = .slice A (j + 1 + 1) cap := by obtain ⟨A, c, h⟩ := hfm3; exact ⟨A, c, by rw [h, HLK.out]⟩
         have hS : w7.cell? ⟨bx, 0, none⟩ = some (.slice a m.length cap) ∧ w7.cell? ⟨gb, ob + j, none⟩ = some (.int .i64 (b : Int)) ∧ w7.cell? ⟨gc, t, none⟩ = some (.int .i64 (ct : Int)) := ⟨(hb7.cell (p := ⟨bx, 0, none⟩) HS3.out.1).trans hHeld.1, (hb7.cell (p := ⟨gb, ob + j, none⟩) HS3.out.2.1).trans hHeld.2.1, (hb7.cell (p := ⟨gc, t, none⟩) HS3.out.2.2).trans hHeld.2.2⟩
         have HON := Lib.hid hown3
         replace HBJ := Lib.hid (show Below wD.heap.size wD w7 from HBJ.out.trans (HBX.out ▸ hb7))
         clear hfm3 hown3 hg3 hat3 hb7
         refine hK.out _ _ hS (fun hHeld => ?_)
         clear hK K hS
         refine wpq_end 13 (by kernel_rfl) rfl (by kernel_rfl) (fun K hK => ?_)
         go_simp
         refine hK.out _ _ ?_
         clear hK K
         refine wpq_done (by kernel_rfl) ?_ _
         go_simp
         go_simp
         have hq1 := HBXE.out
         subst hq1
         go_wp2_with fail
         exact ⟨⟨j + 1, A3, cap3, rfl, by simp, HJ.out, by rw [HLS.out]; exact HON.out, by rw [HBX.out]; exact HBJ.out, HBZ2.out⟩, by have := HJ.out; simp [intOf]; omega⟩
        case neg =>
         have hgej : ¬ (j : Int) < bytes.length := by have := HNL.out; omega
         have hje : j = nr.length := by omega
         have HXK : Hid (lxA cl nr q j = (rowsK cl (nxL m bytes))[q]'(by rw [HKL.out]; exact HQ.out)) := by
          unfold Hid
          refine (Option.some.inj ((List.getElem?_eq_getElem (by rw [HKL.out]; exact HQ.out)).symm.trans (rowsK_at cl (nxL m bytes) q (by rw [HP.out.len]; exact HQ.out)))).symm ▸ ?_
          unfold lxA rowK
          rw [HNR.out, hje, List.take_of_length_le (Nat.le_refl _)]
         have HLK := Lib.hid (lxA_len cl nr q j hj)
         obtain ⟨x, hx⟩ : ∃ x, x = lxA cl nr q j := ⟨_, rfl⟩
         rw [← hx] at HO HXK HLK
         have hbJ' : Below wD.heap.size wD wr := HBX.out ▸ HBJ.out
         have HSW := Lib.hid (HS.out.stay hbJ')
         have HFW := Lib.hid (HFI.out.of_block (hbJ'.block _ HFI.out.lt))
         have HBB := Lib.hid (HBW2.out.trans (hbJ'.mono HBW2.out.size))
         have HXR := Lib.hid (HO.out.nums)
         rw [show (Value.slice A2 (j + 1) cap2) = Value.slice A2 x.length cap2 by rw [HLK.out]] at HXR
         have HFD := Lib.hid (findR_any (wB.heap.size + 1) S vs x _ _ wr HSW.out HXR.out (by have := HSL.out; have := HN.out; omega))
         rw [HLK.out] at HFD
         have hqk : q < (rowsK cl (nxL m bytes)).length := by rw [HKL.out]; exact HQ.out
         have HXO : Hid (RdN2 (fun g => Bx ≤ g) wr (.slice A2 (j + 1) cap2) x) := by
          obtain ⟨h1, h2⟩ := HO.out.slx natV_len
          exact ⟨h1, fun hl => by obtain ⟨g, c2, hv, hb, -⟩ := h2 hl; exact ⟨g, 0, _, c2, hv, hb⟩⟩
         have HOWN : Hid (∀ g, (Value.slice A S.length scap).ownBlock = some g → g < Bx) := fun g hg => by rw [HBX.out]; exact (HS.out.own.lt g hg).2
         have HBB2 : Hid (wB.heap.size + 1 ≤ Bx) := by rw [HBX.out]; exact HFI.out.lt
         clear hbJ' hx hje hjt HS HFI
         cases hfi : idxG S x with
         | some i =>
          have HR2 := Lib.hid (HRI.out.hit hqk (by rw [← HXK.out]; exact hfi))
          rw [hfi] at HFD
          have hil : (i : Int) < S.length := by have := (List.getElem?_eq_some_iff.1 (idxG_some hfi)).1; omega
          have hi0 : ¬ (i : Int) < 0 := by omega
          clear hfi hqk
          go_wp2_with fail
          refine HFD.out.mono ?_
          rintro e w8 ⟨rfl, hb⟩
          replace HSW := Lib.hid (HSW.out.stay hb)
          replace HFW := Lib.hid (HFW.out.of_block (hb.block _ HFW.out.lt))
          replace HBB := Lib.hid (HBB.out.trans (hb.mono HBB.out.size))
          have hfz := World.rowIs.frozen HFW.out q
          have hcl := HFW.out.cell HQ.out
          have HST : Hid (∀ y, y ≠ wB.heap.size → (w8.setCell ⟨wB.heap.size, q, none⟩ (.int .i64 (i : Int))).heap[y]? = w8.heap[y]?) := fun y hy => Below.heap_setCell w8 ⟨wB.heap.size, q, none⟩ _ y hy
          clear hb
          simp only [idxV]
          go_wp2_with fail
          exact ⟨⟨q + 1, A, scap, vs, S, fin ++ [i], rfl, by simp, HQ.out, HSW.out.keep (fun g hg _ => HST.out g (by omega)), row_snoc HFW.out HRI.out.len, HR2.out, HBB.out.setCell (p := ⟨wB.heap.size, q, none⟩) (Nat.le_refl _) _⟩, by have := HQ.out; simp [intOf]; omega⟩
         | none =>
          have HR2 : Hid (RK (rowsK cl (nxL m bytes)) (fin ++ [S.length]) (S ++ [x]) (q + 1)) := by
           unfold Hid
           rw [HXK.out]
           exact HRI.out.miss hqk (by rw [← HXK.out]; exact hfi)
          rw [hfi] at HFD
          clear hfi hqk
          go_wp2_with fail
          refine HFD.out.mono ?_
          rintro e w8 ⟨rfl, hb⟩
          replace HSW := Lib.hid (HSW.out.stay hb)
          replace HFW := Lib.hid (HFW.out.of_block (hb.block _ HFW.out.lt))
          replace HBB := Lib.hid (HBB.out.trans (hb.mono HBB.out.size))
          have HX8 : Hid (RdN2 (fun g => wB.heap.size + 1 ≤ g ∧ (Value.slice A S.length scap).ownBlock ≠ some g) w8 (.slice A2 (j + 1) cap2) x) := by
           have h1 : RdN2 (fun g => Bx ≤ g ∧ g < wr.heap.size) wr (.slice A2 (j + 1) cap2) x := HXO.out.mono (fun g hg hl => ⟨hg, hl⟩)
           exact (h1.keep (fun g hg _ => hb.block g hg.2)).mono (fun g hg _ => ⟨Nat.le_trans HBB2.out hg.1, fun he => by have := HOWN.out g he; omega⟩)
          clear hb HFD
          simp only [idxV]
          go_wp2_with (at_builtin; refine wpl_pushL (f := slV) (x := .slice A2 (j + 1) cap2) (v := .slice A S.length scap) (l := vs) (B := wB.heap.size + 1) (e := 82) (sz := 1) _ _ rfl rfl elemR slV_len (by decide) (slV_one _ _ _) HSW.out.own rfl rfl rfl (by have h1 := HSW.out.len; have h2 := HSL.out; have h3 := HN.out; omega) HFW.out.lt ?_; intro v3 w9 hown3 hg3 hfm3 hat3; obtain ⟨A3, cap3, rfl⟩ := hfm3; have HSN := Lib.hid (HSW.out.push hown3 hg3 hat3 HX8.out); have HB9 : Hid (Below (wB.heap.size + 1) w8 w9) := grown_belowL hg3 (fun y hy => (HSW.out.own.lt y hy).1) HFW.out.lt; have HF9 := Lib.hid (HFW.out.of_block (HB9.out.block _ (Nat.lt_succ_self _))); have hfz := World.rowIs.frozen HF9.out q; have hcl := HF9.out.cell HQ.out; clear hown3 hg3 hat3)
          have HLN : Hid (vs.length + 1 = (S ++ [x]).length) := by have := HSW.out.len; unfold Hid; rw [List.length_append, ← this]; rfl
          rw [HLN.out] at HSN
          have HST : Hid (∀ y, y ≠ wB.heap.size → (w9.setCell ⟨wB.heap.size, q, none⟩ (.int .i64 (S.length : Int))).heap[y]? = w9.heap[y]?) := fun y hy => Below.heap_setCell w9 ⟨wB.heap.size, q, none⟩ _ y hy
          exact ⟨⟨q + 1, A3, cap3, _, S ++ [x], fin ++ [S.length], by rw [← HLN.out], by simp, HQ.out, HSN.out.keep (fun g hg _ => HST.out g (by omega)), row_snoc HF9.out HRI.out.len, HR2.out, (HBB.out.trans (HB9.out.mono (Nat.le_succ _))).setCell (p := ⟨wB.heap.size, q, none⟩) (Nat.le_refl _) _⟩, by have := HQ.out; simp [intOf]; omega⟩
end Go.Proofs.YtpkecepelcppiaaGreatDoor
