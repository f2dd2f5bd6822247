/- formats.spans, counter.dead, state, arcs walked; printed by gen_fr.py. Conditions: at most 100 characters are told apart. -/
import Derived.Test.YtpkecepelcppiaaDoorZc22
import Derived.Test.YtpkecepelcppiaaDoorZc23
import Derived.Maps.OwnSet
import Derived.Test.YtpkecepelcppiaaDoorZc11
import Derived.Deep.DeepCutAuto
import Derived.Deep.CutBlock
namespace Go.Proofs.YtpkecepelcppiaaDoor
open Go.RowKit Go.Shelf Go.Maps
set_option maxHeartbeats 8000000
set_option maxRecDepth 100000

theorem cell_ltA {w : World} {g o : Nat} {v : Value} (h : w.cell? ⟨g, o, none⟩ = some v) : g < w.heap.size := by
 rcases Nat.lt_or_ge g w.heap.size with h1 | h1
 ·exact h1
 ·simp [World.cell?, Array.getElem?_eq_none h1] at h
theorem step_pushLA {α : Type} {ops : Array Oper} {o : Oper} {a : Act} {w : World} {K : Act → World → Prop} {Q : Exit → Act → World → Prop} {E : Prop} {B k sz : Nat} {S e : TypeId} {f : α → List Value} {v : Value} {l : List α} {x : α}
  (hgd : o.guard = none) (s y : Operand)
  (ho : o.op = .call { callee := .builtin .append, args := #[s, y], argTypes := #[S, S] }) (hel : Elem Tryd.prog S e sz)
  (hf : ∀ a, (f a).length = sz) (hsz0 : 0 < sz) (hone : ∀ u ∈ f x, u.oneCell' = true) (hown : OwnL B e sz f w v l) (hs : a.eval s = v) (hx : a.eval y = .slice (some ⟨k, 0, none⟩) 1 1) (hk : k = w.heap.size) (hn : l.length < 1000000000) (hbase : B ≤ w.heap.size)
  (h : ∀ v' w', OwnL B e sz f w' v' (l ++ [x]) → w.grownBy w' v.ownBlock → (∃ A cap, v' = .slice A (l.length + 1) cap) → (v'.ownBlock = v.ownBlock ∨ ∃ k, w.heap.size ≤ k ∧ v'.ownBlock = some k) → K (a.put o.dst v') w') :
  if Region.wanted o (yielded ops a.tmps) = true then o.wp Tryd.prog a (w.alloc (.cells (f x).toArray e)) K Q else E := by
 have hw : Region.wanted o (yielded ops a.tmps) = true := by simp [Region.wanted, hgd]
 rw [if_pos hw]
 exact wp_pushL s y ho hel hf hsz0 hone hown hs hx hk hn hbase h
theorem keyedStr : Keyed Tryd.prog 9 := string_keyed Tryd.underlying9
theorem zeroInt (w : World) : (zeroValue 3).run Tryd.prog w = .ok (.int .i64 0) w := by kernel_rfl
theorem slice_infoZ : (Tryd.prog.info? 64).map (fun i => (i.zero, i.size, i.bytes)) = some (some (.slice none 0 0), 1, 24) := by kernel_rfl
theorem int_infoZ : (Tryd.prog.info? 3).map (fun i => (i.zero, i.size, i.bytes)) = some (some (.int .i64 0), 1, 8) := by kernel_rfl
theorem val_lo {m : List StA} (hv : valA m = true) (i : Nat) (hi : i < m.length) (j : Nat) (hj : j < m[i].arcs.length) : (m[i].arcs[j]).lo ≤ 255 := by
 have h : ∀ (n : Nat) (l : List ArcA) (b : Nat), okArcs n b l = true → ∀ (j : Nat) (hj : j < l.length), (l[j]).lo ≤ 255 := by
  intro n l
  induction l with
  | nil => intro b _ j hj; exact absurd hj (Nat.not_lt_zero _)
  | cons a t ih =>
   intro b h j hj
   unfold okArcs at h
   simp only [Bool.and_eq_true, decide_eq_true_eq] at h
   cases j with
   | zero => show a.lo ≤ 255; omega
   | succ j => exact ih _ h.2 j (by simpa using hj)
 exact h _ _ _ (val_at hv i hi) j hj
theorem starts_len (m : List StA) : (startsA m).length ≤ 256 := stG_len m 256
theorem valA_pos {m : List StA} (hv : valA m = true) : 0 < m.length := by
 unfold valA at hv
 simp only [Bool.and_eq_true, decide_eq_true_eq] at hv
 exact hv.1.1
theorem starts_bp (m : List StA) : ∀ i b, (startsA m)[i + 1]? = some b → 1 ≤ b ∧ b ≤ 255 := by
 intro i b hb
 have hp : (startsA m).Pairwise (· < ·) := List.Pairwise.filter _ List.pairwise_lt_range
 obtain ⟨h1, h2⟩ := List.getElem?_eq_some_iff.1 hb
 have h3 := List.pairwise_iff_getElem.1 hp i (i + 1) (by omega) h1 (Nat.lt_succ_self i)
 have h4 := List.mem_range.1 (List.mem_filter.1 (List.getElem_mem h1)).1
 rw [h2] at h3 h4
 omega
def ItoaQ (n : Nat) (w : World) : Prop := ∀ c : Nat, c ≤ n → ∀ w', Below w.heap.size w w' → Calls Tryd.prog 34 #[.int .i64 (c : Int)] w' fun e w'' => e = .returned (.string ⟨(decT c).toArray⟩) ∧ Below w'.heap.size w' w''
theorem least_any (N : Nat → Prop) (f : Nat) (m out : List StA) (v : Value) (w : World) (hm : RdS N w v m) (hv : valA m = true) (hn : m.length < 1000) (hf : leastA f m = some out) (hff : f ≤ 1000)
  (hit : ItoaQ m.length w) :
  Calls Tryd.prog 26 #[.agg #[v]] w fun e w' => ∃ v', e = .returned (.agg #[v']) ∧ RdS (fun g => w.heap.size ≤ g) w' v' out ∧ Below w.heap.size w w' := by
 obtain ⟨a, cap, rfl, hml⟩ := hm.form
 have hmi : (m.length : Int) < 1000 := by omega
 have HIT := Lib.hid hit
 have HM := Lib.hid hm
 have HV := Lib.hid hv
 have HLO := Lib.hid (fun i hi j hj => val_lo hv i hi j hj)
 have HN := Lib.hid hn
 have HF := Lib.hid hf
 have HFF := Lib.hid hff
 have HM0L := Lib.hid (valA_pos hv)
 have HBP := Lib.hid (starts_bp m)
 have hmkN := run_make_row' (P := Tryd.prog) 67 64 (.slice none 0 0) 24 Tryd.underlying67 slice_infoZ rfl .i64 .i64 m.length (by omega) (by omega)
 have hmkC := run_make_row' (P := Tryd.prog) 64 3 (.int .i64 0) 8 Tryd.underlying64 int_infoZ rfl .i64 .i64 m.length (by omega) (by omega)
 clear hml hm hv hn hf hff hit
 go_enter Tryd.func26, Tryd.ntmps26
 go_upto_region 1 with fail
 generalize hW : World.alloc w _ = w1
 obtain ⟨hbx, -, hz1, hb1⟩ := alloc_of hW
 have HX := Lib.hid (show BoxV w.heap.size 24 [.slice a m.length cap] w1 from hbx)
 generalize hWb : World.alloc w1 _ = w1b
 obtain ⟨hbx2, -, hz2, hb2⟩ := alloc_of hWb
 rw [hz1] at hbx2
 have HR := Lib.hid (show BoxV (w.heap.size + 1) 24 [.slice none 0 0] w1b from hbx2)
 replace HX := Lib.hid (HX.out.below hb2)
 have HB := Lib.hid (hb1.trans (hb2.mono hb1.size))
 have HZ : Hid (w1b.heap.size = w.heap.size + 2) := by unfold Hid; rw [hz2, hz1]
 clear hW hbx hz1 hb1 hWb hbx2 hz2 hb2
 have x0 : w1b.cell? ⟨w.heap.size, 0, none⟩ = some (.slice a m.length cap) := HX.out.cell 0
 go_wp2_with fail
 generalize hW : World.alloc w1b _ = w2
 obtain ⟨hbx, -, hz1, hb1⟩ := alloc_of hW
 have h0 : w2.cell? ⟨w1b.heap.size, 0, none⟩ = some (.slice a m.length cap) := (show BoxV w1b.heap.size 24 [.slice a m.length cap] w2 from hbx).cell 0
 have HC0 := Lib.hid (starts_any N m (.slice a m.length cap) w1b.heap.size w2 h0 (by omega) (HM.out.stay (HB.out.trans (hb1.mono HB.out.size))) HLO.out)
 replace HX := Lib.hid (HX.out.below hb1)
 replace HR := Lib.hid (HR.out.below hb1)
 replace HB := Lib.hid (HB.out.trans (hb1.mono HB.out.size))
 clear hW hbx hz1 hb1 x0 h0 HZ
 refine HC0.out.mono ?_
 rintro e w3 ⟨vb, rfl, hbr, hb⟩
 replace HX := Lib.hid (HX.out.below hb)
 replace HR := Lib.hid (HR.out.below hb)
 replace HB := Lib.hid (HB.out.trans (hb.mono HB.out.size))
 have HBY := Lib.hid hbr
 obtain ⟨ba, bcap, rfl, -⟩ := hbr.form
 have HLEN := Lib.hid (starts_len m)
 obtain ⟨bytes, hby⟩ : ∃ bytes, bytes = startsA m := ⟨_, rfl⟩
 rw [← hby] at HBY HLEN HBP ⊢
 have HBE := Lib.hid hby
 have hbl : (bytes.length : Int) ≤ 256 := by have := HLEN.out; omega
 clear hbr hb HC0 hby
 have x0 : w3.cell? ⟨w.heap.size, 0, none⟩ = some (.slice a m.length cap) := HX.out.cell 0
 go_upto_region 3 with fail
 generalize hW : World.alloc w3 _ = w4
 have hnx := show w4.rowIs w3.heap.size 64 m.length (fun _ => .slice none 0 0) from hW ▸ World.rowIs_made w3 _ m.length _
 obtain ⟨-, -, hz1, hb1⟩ := alloc_of hW
 have x0 : w4.cell? ⟨w.heap.size, 0, none⟩ = some (.slice a m.length cap) := (HX.out.below hb1).cell 0
 go_upto_region 4 with fail
 generalize hW2 : World.alloc w4 _ = w5
 have hcl := show w5.rowIs w4.heap.size 3 m.length (fun _ => .int .i64 0) from hW2 ▸ World.rowIs_made w4 _ m.length _
 obtain ⟨-, -, hz2, hb2⟩ := alloc_of hW2
 rw [hz1] at hcl
 have HLA := Lib.hid (show LA m.length m bytes 0 (fun _ => .slice none 0 0) w3 w5 from ⟨hb1.trans (hb2.mono hb1.size), World.rowIs.congr (hnx.of_block (hb2.block _ (by omega))) (fun i _ => by rw [if_neg (by omega)]), World.rowIs.congr hcl (fun i _ => by rw [if_neg (by omega)]), fun i hi => absurd hi (Nat.not_lt_zero _)⟩)
 clear hW hnx hz1 hb1 hW2 hcl hz2 hb2 hmkN hmkC
 have x0 : w5.cell? ⟨w.heap.size, 0, none⟩ = some (.slice a m.length cap) := (HX.out.below HLA.out.bel).cell 0
 go_wp2_with fail
 clear x0
 go_loopw [33] (fun qv wr => ∃ (q : Nat) (RV : Nat → Value), qv = .int .i64 (q : Int) ∧ q ≤ m.length ∧ Hid (LA m.length m bytes q RV w3 wr)) (fun qv _ => m.length - (intOf qv).toNat)
 case atStart => exact ⟨0, _, rfl, Nat.zero_le _, HLA.out⟩
 case round =>
  clear HLA
  obtain ⟨q, RV, rfl, hq, HLA⟩ := hrel
  by_cases hlt : q < m.length
  case neg =>
   have hqe : q = m.length := by omega
   subst hqe
   have hge : ¬ (m.length : Int) < m.length := by omega
   obtain ⟨clF, hcl, hnum⟩ := least_parts HF.out
   rw [← HBE.out] at hcl hnum
   have HNUM := Lib.hid hnum
   have HP0 : Hid (LC m.length m bytes clF wr (.slice (some ⟨w3.heap.size + 1, 0, none⟩) m.length m.length) (.int .i64 0) wr f (w3.heap.size + 1) 0 (cl0 m)) := ⟨rfl, rfl, World.rowIs.congr HLA.out.cl (fun i hi => by rw [cl0_at hi]; congr 1; by_cases h : accOf m i = true; rw [if_pos ⟨hi, h⟩, if_pos h]; rfl; rw [if_neg (fun h2 => h h2.2), if_neg h]; rfl), by simp [cl0], fun i => by
    unfold cl0
    rw [List.getD_eq_getElem?_getD, List.getElem?_map]
    cases m[i]? with
    | none => exact Nat.zero_le _
    | some s => have := HM0L.out; show (if s.acc then 1 else 0) ≤ m.length; split <;> omega, Nat.zero_le _, hcl, Below.refl _ _⟩
   have HV2 := Lib.hid (fun q (hq : q < m.length) (b : Nat) => stepL_lt m[q].arcs 0 b (val_at HV.out q hq) (by omega))
   clear hlt hq hnum hcl
   obtain ⟨wA, hwA⟩ : ∃ x, x = wr := ⟨_, rfl⟩
   subst hwA
   go_wp2_with fail
   go_loopw [5, 10] (fun cv kv wr => ∃ (f gc known : Nat) (cl : List Nat), Hid (LC m.length m bytes clF wA cv kv wr f gc known cl)) (fun cv kv wr => minN (fun f => ∃ gc known cl, LC m.length m bytes clF wA cv kv wr f gc known cl))
   case atStart => exact ⟨f, _, 0, cl0 m, HP0.out⟩
   case round =>
    clear HP0
    obtain ⟨f0, gc0, known0, cl00, h0⟩ := hrel
    obtain ⟨μ, gc, known, cl, hP, hμ⟩ := h0.out.least
    have hcv := hP.cv
    have hkv := hP.kv
    subst hcv
    subst hkv
    have HMU := Lib.hid hμ
    cases μ with
    | zero => exact absurd hP.ev (by rw [loopA]; intro h; cases h)
    | succ f1 =>
     have HP := Lib.hid hP
     clear hP hμ h0 f0 gc0 known0 cl00
     have hki : (known : Int) ≤ 1000 := by have := HP.out.kn; have := HN.out; omega
     have HKL := Lib.hid ((keysA_len cl (nxL m bytes)).trans HP.out.len)
     have hmk := @run_makeMap Tryd.prog
     have hmkC := run_make_row' (P := Tryd.prog) 64 3 (.int .i64 0) 8 Tryd.underlying64 int_infoZ rfl .i64 .i64 m.length (by omega) (by omega)
     obtain ⟨wB, hwB⟩ : ∃ x, x = wr := ⟨_, rfl⟩
     subst hwB
     go_upto_region 17 with fail
     generalize hW : World.alloc wB _ = w6
     have hmap := show w6.ownsMap (H := Unit) Tryd.prog 9 (plainElem Tryd.prog 3) wB.heap.size 0 (.map []) from hW ▸ World.ownsMap_made wB _ _ _
     obtain ⟨-, -, hz1, hb1⟩ := alloc_of hW
     go_upto_region 18 with fail
     generalize hW2 : World.alloc w6 _ = w7
     have hfin := show w7.rowIs w6.heap.size 3 m.length (fun _ => .int .i64 0) from hW2 ▸ World.rowIs_made w6 _ m.length _
     obtain ⟨-, -, hz2, hb2⟩ := alloc_of hW2
     rw [hz1] at hfin
     have HM0 := Lib.hid (hmap.kept (grown_of_below hb2 none) (by simp))
     have HF0 := Lib.hid (show w7.rowIs (wB.heap.size + 1) 3 m.length (fun i => .int .i64 ((([] : List Nat).getD i 0 : Nat) : Int)) from hfin)
     have HB7 := Lib.hid (hb1.trans (hb2.mono hb1.size))
     clear hW hmap hz1 hb1 hW2 hfin hz2 hb2 hmk hmkC
     go_wp2_with fail
     go_loopw [70] (fun qv wr => ∃ (q : Nat) (D : DataW Unit) (seen : List (List UInt8)) (fin : List Nat), qv = .int .i64 (q : Int) ∧ q ≤ m.length ∧ Hid (wr.ownsMap (H := Unit) Tryd.prog 9 (plainElem Tryd.prog 3) wB.heap.size q D) ∧ Hid (NumM (fun l : List UInt8 => Lit.string l) D seen) ∧ Hid (wr.rowIs (wB.heap.size + 1) 3 m.length (fun i => .int .i64 ((fin.getD i 0 : Nat) : Int))) ∧ Hid (RI (keysA cl (nxL m bytes)) fin seen q) ∧ Hid (Below wB.heap.size wB wr)) (fun qv _ => m.length - (intOf qv).toNat)
     case atStart => exact ⟨0, .map [], [], [], rfl, Nat.zero_le _, HM0.out, NumM.nil _, HF0.out, RI.nil _, HB7.out⟩
     case round =>
      clear HM0 HF0 HB7
      obtain ⟨q, D, seen, fin, rfl, hq, HMP, HNU, HFI, HRI, HBW⟩ := hrel
      obtain ⟨wD, hwD⟩ : ∃ x, x = wr := ⟨_, rfl⟩
      subst hwD
      by_cases hlt : q < m.length
      case neg =>
       have hgeq : ¬ (q : Int) < m.length := by omega
       have HRD := Lib.hid (HRI.out.done (by rw [HKL.out]; omega))
       have hlen : ∀ ty, (Builtin.len_ #[68] ty #[.map (some wB.heap.size)]).run Tryd.prog wD = .ok (.int .i64 (seen.length : Int)) wD := fun ty => by
        rw [← HNU.out.len]
        exact HMP.out.len Tryd.underlying68 ty
       have HSL : Hid (seen.length ≤ m.length) := by have := HRI.out.few; unfold Hid; omega
       clear hlt
       by_cases hkn : seen.length = known
       case pos =>
        have hkni : ((seen.length : Int) == (known : Int)) = true := by rw [hkn]; exact beq_self_eq_true _
        have hclF : fin = clF := by
         have h1 := HP.out.ev
         rw [loopA_succ _ _ _ _ _ _ HRD.out, if_pos hkn] at h1
         exact Option.some.inj h1
        have hbA : Below wA.heap.size wA wD := HP.out.bel.trans (HBW.out.mono HP.out.bel.size)
        have hbD : Below w3.heap.size w3 wD := HLA.out.bel.trans (hbA.mono HLA.out.bel.size)
        have HLD := Lib.hid (HLA.out.stay hbA)
        have HXD := Lib.hid (HX.out.below hbD)
        have HRR := Lib.hid (HR.out.below hbD)
        have HBD := Lib.hid (HB.out.trans (hbD.mono HB.out.size))
        have hfl : ∀ i, fin.getD i 0 < 1000 := fun i => by
         rw [List.getD_eq_getElem?_getD]
         cases hg : fin[i]? with
         | none => show (0 : Nat) < 1000; omega
         | some c => have := HRI.out.lt c (List.mem_of_getElem? hg); have := HRI.out.few; have := HN.out; show c < 1000; omega
        have hfi := HFI.out
        rw [hclF] at hfl hfi
        have HNB := Lib.hid (numbered_any N f m out bytes clF (nxL m bytes) (.slice a m.length cap) (.slice ba bytes.length bcap) w3.heap.size (wB.heap.size + 1) RV wD (HM.out.stay HBD.out) HN.out HM0L.out (HBY.out.stay hbD) HLEN.out HBP.out (World.rowIs.congr HLD.out.nx (fun i hi => by rw [if_pos hi])) (fun q hq => ⟨by rw [nxL_at hq]; exact (HLD.out.rows q hq).1, by rw [nxL_at hq, List.length_map]; exact Nat.le_refl _, by rw [nxL_at hq]; intro t ht; obtain ⟨b, -, rfl⟩ := List.mem_map.1 ht; rw [accs_eq hq]; exact HV2.out q hq b⟩) hfi hfl HFF.out HNUM.out)
        have x0 := HXD.out.cell 0
        simp only [List.getElem?_cons_zero] at x0
        clear hkn hclF hbA hbD hfl hfi
        go_wp2_with fail
        refine HNB.out.mono ?_
        rintro e w9 ⟨v', rfl, hr, hb⟩
        obtain ⟨ra, rcap, rfl, -⟩ := hr.form
        have HR9 := Lib.hid (HRR.out.below hb)
        have HB9 := Lib.hid (HBD.out.trans (hb.mono HBD.out.size))
        have HRS := Lib.hid (hr.mono (M := fun g => w.heap.size + 1 < g) (fun g h _ => Nat.lt_of_lt_of_le HRR.out.lt h))
        have z0 := HR9.out.cell 0
        have y0 := HR9.out.free 0
        simp only [List.getElem?_cons_zero] at z0
        clear hr hb x0
        go_wp2_with fail
        refine bodyPost_ret (v := .agg #[.slice ra out.length rcap]) ?_ rfl ⟨_, rfl, ?_, HB9.out.setCell (p := ⟨w.heap.size + 1, 0, none⟩) (by show w.heap.size ≤ w.heap.size + 1; omega) _⟩
        ·have hbx : BoxV (w.heap.size + 1) 24 [.slice ra out.length rcap] (w9.setCell ⟨w.heap.size + 1, 0, none⟩ (.slice ra out.length rcap)) := heap_setCell_same w9 (w.heap.size + 1) 0 _ _ _ HR9.out
         have q0 := hbx.cell 0
         simp only [List.getElem?_cons_zero] at q0
         simp [results, Tryd.results26, go_sem, q0]
        ·exact (HRS.out.keep (fun g hg _ => Below.heap_setCell w9 ⟨w.heap.size + 1, 0, none⟩ _ g (by show g ≠ w.heap.size + 1; omega))).mono (fun g hg _ => by omega)
       case neg =>
        have hkni : ((seen.length : Int) == (known : Int)) = false := beq_false_of_ne (by omega)
        have HPN : Hid (LC m.length m bytes clF wA (.slice (some ⟨wB.heap.size + 1, 0, none⟩) m.length m.length) (.int .i64 (seen.length : Int)) wD f1 (wB.heap.size + 1) seen.length fin) := ⟨rfl, rfl, HFI.out, by rw [HRI.out.len]; omega, fun i => by
         rw [List.getD_eq_getElem?_getD]
         cases hg : fin[i]? with
         | none => exact Nat.zero_le _
         | some c => have := HRI.out.lt c (List.mem_of_getElem? hg); have := HSL.out; show c ≤ m.length; omega, HSL.out, by
         have h1 := HP.out.ev
         rw [loopA_succ _ _ _ _ _ _ HRD.out, if_neg hkn] at h1
         exact h1, HP.out.bel.trans (HBW.out.mono HP.out.bel.size)⟩
        clear hkn
        go_wp2_with fail
        exact ⟨⟨f1, _, _, fin, HPN.out⟩, by rw [HMU.out]; exact Nat.lt_succ_of_le (minN_le ⟨_, _, _, HPN.out⟩)⟩
      case pos =>
       have hlti : (q : Int) < m.length := by omega
       have c1 := (HP.out.row.of_block (HBW.out.block _ HP.out.row.lt)).cell hlt
       have HLR := Lib.hid (HLA.out.stay ((HP.out.bel.trans (HBW.out.mono HP.out.bel.size))))
       have n1 := HLR.out.nx.cell hlt
       rw [if_pos hlt] at n1
       have HRR0 := Lib.hid (HLR.out.rows q hlt)
       have HNR := Lib.hid (nxL_at (bytes := bytes) hlt)
       have HTL : Hid (∀ t ∈ bytes.map (stepL (arcsOf m q)), t < m.length) := by
        intro t ht
        obtain ⟨b, -, rfl⟩ := List.mem_map.1 ht
        rw [accs_eq hlt]
        exact HV2.out q hlt b
       have hnl : (bytes.map (stepL (arcsOf m q))).length ≤ 256 := by rw [List.length_map]; exact HLEN.out
       generalize bytes.map (stepL (arcsOf m q)) = nr at *
       obtain ⟨ra, rcap, hrv, -⟩ := HRR0.out.1.form
       rw [hrv] at n1
       have HRR := Lib.hid HRR0.out.1
       rw [hrv] at HRR
       have hnli : (nr.length : Int) ≤ 256 := by omega
       have HNL := Lib.hid hnl
       have HQ := Lib.hid hlt
       obtain ⟨cq, hcq⟩ : ∃ c, c = cl.getD q 0 := ⟨_, rfl⟩
       have HCQL := HP.out.lt q
       rw [← hcq] at c1 HCQL
       have HCQE := Lib.hid hcq
       have HCQ := Lib.hid (HIT.out cq HCQL)
       have HBWD := Lib.hid (HB.out.trans ((HLA.out.bel.trans ((HP.out.bel.trans (HBW.out.mono HP.out.bel.size)).mono HLA.out.bel.size)).mono HB.out.size))
       clear hlt hrv HRR0 hnl HLR HCQL hcq
       go_wp2_with fail
       refine (HCQ.out _ HBWD.out).mono ?_
       rintro e wx ⟨rfl, hbx⟩
       have HBX := Lib.hid hbx
       replace n1 := (hbx.cell (p := ⟨w3.heap.size, q, none⟩) (cell_ltA n1)).trans n1
       clear hbx c1
       go_wp2_with fail
       have HW0 : Hid (L (⟨(decT cq).toArray⟩ : ByteArray) = decN cq ++ (nr.take 0).flatMap (fun t => 44 :: decN (cl.getD t 0)) ∧ (⟨(decT cq).toArray⟩ : ByteArray).size ≤ 3) := ⟨by rw [L_mk, List.take_zero]; simp [decN], by have := decT_len cq; simpa [ByteArray.size] using this⟩
       generalize (⟨(decT cq).toArray⟩ : ByteArray) = u0 at *
       clear n1
       go_loopw [14, 83] (fun sv jv wr => ∃ (j : Nat) (s : ByteArray), sv = .string s ∧ jv = .int .i64 (j : Int) ∧ j ≤ nr.length ∧ Hid (L s = decN cq ++ (nr.take j).flatMap (fun t => 44 :: decN (cl.getD t 0))) ∧ Hid (s.size ≤ 3 + 4 * j) ∧ Hid (Below wD.heap.size wD wr)) (fun _ jv _ => nr.length - (intOf jv).toNat)
       case atStart => exact ⟨0, u0, rfl, rfl, Nat.zero_le _, HW0.out.1, HW0.out.2, HBX.out⟩
       case round =>
        clear HW0 HBX
        obtain ⟨j, s, rfl, rfl, hj, HS, HSZ, HBJ⟩ := hrel
        have HBWR := Lib.hid (HBW.out.trans (HBJ.out.mono HBW.out.size))
        have hsz : (s.size : Int) ≤ 1100 := by have := HSZ.out; omega
        by_cases hjt : j < nr.length
        case pos =>
         have hjti : (j : Int) < nr.length := by omega
         obtain ⟨gr, orr, rfl, hcr⟩ := (HRR.out.stay HBJ.out).at_ j hjt
         have HTK := Lib.hid (List.take_succ_eq_append_getElem hjt)
         have htn := HTL.out nr[j] (List.getElem_mem hjt)
         have HJ : Hid (j + 1 ≤ nr.length) := hjt
         generalize nr[j] = t at *
         have c2 := (HP.out.row.of_block (HBWR.out.block _ HP.out.row.lt)).cell htn
         have hti : (t : Int) < m.length := by omega
         obtain ⟨ct, hct⟩ : ∃ c, c = cl.getD t 0 := ⟨_, rfl⟩
         have HCTL := HP.out.lt t
         rw [← hct] at c2 HCTL
         have HCTE := Lib.hid hct
         have HCT := Lib.hid (HIT.out ct HCTL)
         clear hjt htn hct HCTL
         go_wp2_with fail
         refine (HCT.out _ (HBWD.out.trans (HBJ.out.mono HBWD.out.size))).mono ?_
         rintro e wx ⟨rfl, hbx⟩
         replace HBJ := Lib.hid (HBJ.out.trans (hbx.mono HBJ.out.size))
         clear hbx c2 hcr
         have HU : Hid (L (⟨(decT ct).toArray⟩ : ByteArray) = decN ct ∧ (⟨(decT ct).toArray⟩ : ByteArray).size ≤ 3) := ⟨L_mk _, by have := decT_len ct; simpa [ByteArray.size] using this⟩
         generalize (⟨(decT ct).toArray⟩ : ByteArray) = u at *
         have hu3 : (u.size : Int) ≤ 3 := by have := HU.out.2; omega
         go_wp2_with fail
         refine ⟨⟨j + 1, _, rfl, by simp, HJ.out, ?_, ?_, HBJ.out⟩, by have := HJ.out; simp [intOf]; omega⟩
         ·unfold Hid
          rw [L_append, L_append, HS.out, HU.out.1, HTK.out, List.flatMap_append, List.append_assoc, List.flatMap_cons, List.flatMap_nil, List.append_nil, ← HCTE.out]
          rfl
         ·unfold Hid
          rw [ByteArray.size_append, ByteArray.size_append]
          have h1 := HU.out.2
          have h2 := HSZ.out
          show s.size + (1 + u.size) ≤ _
          omega
        case neg =>
         have hgej : ¬ (j : Int) < nr.length := by omega
         replace HMP := Lib.hid (HMP.out.kept (grown_of_below HBJ.out none) (by simp))
         replace HFI := Lib.hid (HFI.out.of_block (HBJ.out.block _ HFI.out.lt))
         replace HBW := HBWR
         have HKEY : Hid (L s = (keysA cl (nxL m bytes))[q]'(by rw [HKL.out]; exact HQ.out)) := by
          unfold Hid
          rw [keysA_at, HS.out, List.take_of_length_le (by omega)]
          unfold keyA
          rw [HNR.out, HCQE.out]
         have hqk : q < (keysA cl (nxL m bytes)).length := by rw [HKL.out]; exact HQ.out
         have HKO := Lib.hid (Go.WideMaps.keyOf_string_mk (P := Tryd.prog) (k := 9) Tryd.underlying9 (s := s) (by unfold maxLen; omega))
         have hf := World.rowIs.frozen HFI.out q
         have hc := HFI.out.cell HQ.out
         cases hfi : seen.findIdx? (fun y => decide (y = L s)) with
         | some i =>
          have hhas : has D (Lit.string s.data.toList) = true := by rw [show Lit.string s.data.toList = (fun l : List UInt8 => Lit.string l) (L s) from rfl, HNU.out.has_, hfi]; rfl
          have hnum := HNU.out.num (L s) i hfi
          have HR2 := Lib.hid (HRI.out.hit hqk (by rw [← HKEY.out]; exact hfi))
          have HHAS := Lib.hid hhas
          have HNUM2 := Lib.hid hnum
          clear hhas hnum hfi hqk hjt
          go_wp2_with (refine wpl_look_ok rfl rfl keyedStr Tryd.underlying68 Tryd.underlying3 (zeroInt _) rfl HMP.out rfl HKO.out true (i : Int) HHAS.out HNUM2.out ?_)
          exact ⟨⟨q + 1, D, seen, fin ++ [i], by simp, HQ.out, (HMP.out.setCell (a := ⟨wB.heap.size + 1, q, none⟩) (by show wB.heap.size ≠ wB.heap.size + 1; omega) _).mono (Nat.le_succ q), HNU.out, row_snoc HFI.out HRI.out.len, HR2.out, HBW.out.setCell (p := ⟨wB.heap.size + 1, q, none⟩) (by show wB.heap.size ≤ wB.heap.size + 1; omega) _⟩, by have := HQ.out; simp [intOf]; omega⟩
         | none =>
          have hhas : has D (Lit.string s.data.toList) = false := by rw [show Lit.string s.data.toList = (fun l : List UInt8 => Lit.string l) (L s) from rfl, HNU.out.has_, hfi]; rfl
          have HHAS := Lib.hid hhas
          have HZE := Lib.hid (HNU.out.zero hfi)
          have HR2 : Hid (RI (keysA cl (nxL m bytes)) (fin ++ [seen.length]) (seen ++ [L s]) (q + 1)) := by
           unfold Hid
           rw [HKEY.out]
           exact HRI.out.miss hqk (by rw [← HKEY.out]; exact hfi)
          have HPU := Lib.hid (NumM.push (kf := fun l : List UInt8 => Lit.string l) (fun x y h => by injection h) (fun x => show WideAt.IsKeyLit (Lit.string x) from trivial) HNU.out (L s) hfi)
          have hlen : ∀ ty, (Builtin.len_ #[68] ty #[.map (some wB.heap.size)]).run Tryd.prog wr = .ok (.int .i64 (seen.length : Int)) wr := fun ty => by
           rw [← HNU.out.len]
           exact HMP.out.len Tryd.underlying68 ty
          have HSL : Hid (seen.length < 1000) := by have := HRI.out.few; have := HN.out; have := HQ.out; unfold Hid; omega
          have HGF := Lib.hid HFI.out.lt
          have HWF : Hid ((Lit.int .i64 (seen.length : Int)).wf = true) := by
           have := HSL.out
           show (decide (IntKind.i64.min ≤ (seen.length : Int)) && decide ((seen.length : Int) ≤ IntKind.i64.max)) = true
           rw [Bool.and_eq_true]
           exact ⟨decide_eq_true (by show (-9223372036854775808 : Int) ≤ _; omega), decide_eq_true (by show _ ≤ (9223372036854775807 : Int); omega)⟩
          clear hhas hfi hqk hjt hf hc
          go_wp2_with (first
           | refine wpl_look_ok rfl rfl keyedStr Tryd.underlying68 Tryd.underlying3 (zeroInt _) rfl HMP.out rfl HKO.out false 0 HHAS.out HZE.out ?_
           | (at_mapUpdate; refine wpList_mapUpdate_own _ rfl _ _ _ 68 rfl 9 3 keyedStr Tryd.underlying68 _ wB.heap.size q D rfl HMP.out (by have := HQ.out; have := HN.out; unfold maxLen; omega) _ _ _ rfl rfl HKO.out _ [] (plainElem_int Tryd.underlying3 HWF.out) ?_; intro w8 hown8 hg8; have HM8 := Lib.hid hown8; have HF8 := Lib.hid (HFI.out.of_block (hg8.block _ HGF.out (fun h => by injection h with h; omega))); have HB8 := Lib.hid (HBW.out.grown hg8 HBW.out.size (fun j hj => by cases hj; exact Nat.le_refl _)); have hf8 := World.rowIs.frozen HF8.out q; have hc8 := HF8.out.cell HQ.out; clear hown8 hg8))
          exact ⟨⟨q + 1, _, seen ++ [L s], fin ++ [seen.length], by simp, HQ.out, HM8.out.setCell (a := ⟨wB.heap.size + 1, q, none⟩) (by show wB.heap.size ≠ wB.heap.size + 1; omega) _, HPU.out, row_snoc HF8.out HRI.out.len, HR2.out, HB8.out.setCell (p := ⟨wB.heap.size + 1, q, none⟩) (by show wB.heap.size ≤ wB.heap.size + 1; omega) _⟩, by have := HQ.out; simp [intOf]; omega⟩
  case pos =>
   have hlti : (q : Int) < m.length := by omega
   obtain ⟨g, o, b0, k0, c0, rfl, m0, m1, hk0, ha⟩ := HM.out.at_ q hlt
   have hgl := HM.out.lt0 (by omega)
   have hbw := HB.out.trans (HLA.out.bel.mono HB.out.size)
   replace m0 := (hbw.cell (p := ⟨g, o + q * 2, none⟩) hgl).trans m0
   replace m1 := (hbw.cell (p := ⟨g, o + q * 2 + 1, none⟩) hgl).trans m1
   have HAC := Lib.hid (acc_eq hlt)
   have HST : Hid (∀ w', Below w3.heap.size w3 w' → ∀ b : Nat, Calls Tryd.prog 33 #[.agg #[.slice (some ⟨g, o, none⟩) m.length cap], .int .i64 (q : Int), .int .i64 (b : Int)] w' fun e w'' => e = .returned (.int .i64 (stepL (arcsOf m q) b : Nat)) ∧ Below w'.heap.size w' w'') := fun w' hb b => by
    rw [accs_eq hlt]
    exact step_any N m _ q b w' (HM.out.stay (HB.out.trans (hb.mono HB.out.size))) hlt
   have HQ := Lib.hid hlt
   generalize m[q].acc = acc at *
   clear hlt ha hbw hgl hk0
   go_upto_region 7 with fail
   generalize hW : World.alloc wr _ = w6
   obtain ⟨hbx, -, hz1, hb1⟩ := alloc_of hW
   have HS := Lib.hid (show BoxV wr.heap.size 44 [.bool acc, .slice b0 k0 c0] w6 from hbx)
   have HLB := Lib.hid (HLA.out.stay hb1).inner
   have HBS : Hid (w3.heap.size + 2 ≤ wr.heap.size ∧ wr.heap.size < w6.heap.size) := ⟨by have := HLA.out.cl.lt; omega, by omega⟩
   generalize wr.heap.size = bS at *
   obtain ⟨B, hBe⟩ : ∃ B, B = w6.heap.size := ⟨_, rfl⟩
   rw [← hBe] at HLB HBS
   clear hW hbx hz1 hb1 m0 m1 HLA hBe
   go_wp2_with fail
   go_loopw [40] (fun kv wr => ∃ (k : Nat) (A : Option Addr) (nl cap2 : Nat), kv = .int .i64 (k : Int) ∧ k ≤ bytes.length ∧ Hid (LB m.length m bytes q k B RV (.slice A nl cap2) w3 wr) ∧ Hid (BoxV bS 44 [.bool acc, .slice b0 k0 c0] wr)) (fun kv _ => bytes.length - (intOf kv).toNat)
   case atStart => exact ⟨0, none, 0, 0, rfl, Nat.zero_le _, HLB.out, HS.out⟩
   case round =>
    clear HLB HS
    obtain ⟨k, A, nl, cap2, rfl, hk, HL, HS⟩ := hrel
    by_cases hkt : k < bytes.length
    case neg =>
     have hge : ¬ (k : Int) < bytes.length := by omega
     have hke : bytes.length ≤ k := by omega
     have s0 : wr.cell? ⟨bS, 0, none⟩ = some (.bool acc) := HS.out.cell 0
     cases acc with
     | false =>
      have HD := Lib.hid (HL.out.done hke HAC.out)
      clear hkt hke
      go_wp2_with fail
      exact ⟨⟨q + 1, _, by simp, HQ.out, HD.out⟩, by have := HQ.out; simp [intOf]; omega⟩
     | true =>
      have HD := Lib.hid (HL.out.done1 hke HAC.out HQ.out)
      have hc := HL.out.cl.cell HQ.out
      have hf := World.rowIs.frozen HL.out.cl q
      clear hkt hke
      go_wp2_with fail
      exact ⟨⟨q + 1, _, by simp, HQ.out, HD.out⟩, by have := HQ.out; simp [intOf]; omega⟩
    case pos =>
     have hkti : (k : Int) < bytes.length := by omega
     obtain ⟨gb, ob, rfl, hcb⟩ := (HBY.out.stay HL.out.bel).at_ k hkt
     obtain ⟨b, hbk⟩ : ∃ b, b = bytes[k] := ⟨_, rfl⟩
     rw [← hbk] at hcb
     have HBK := Lib.hid hbk
     have HKB := Lib.hid hkt
     have x0 := (HX.out.below HL.out.bel).cell 0
     have y0 := HL.out.nx.cell HQ.out
     rw [if_neg (Nat.lt_irrefl q), if_pos rfl] at y0
     have hS0 : wr.drew.cell? ⟨w.heap.size, 0, none⟩ = some (.slice (some ⟨g, o, none⟩) m.length cap) ∧ wr.drew.cell? ⟨w3.heap.size, q, none⟩ = some (.slice A nl cap2) := ⟨x0, y0⟩
     replace HL := Lib.hid (HL.out.stay (drewBn wr))
     replace HS := Lib.hid (HS.out.below (drewBn wr))
     clear hbk x0 y0
     go_upto_region 10 with fail
     obtain ⟨gN, hgn⟩ : ∃ gN, gN = w3.heap.size := ⟨_, rfl⟩
     obtain ⟨bx, hbx⟩ : ∃ bx, bx = w.heap.size := ⟨_, rfl⟩
     rw [← hgn, ← hbx] at hS0
     rw [← hgn, ← hbx]
     have HGN : Hid (w3.heap.size = gN) := hgn.symm
     have HBX : Hid (bx < gN) := by have := HX.out.lt; unfold Hid; omega
     have HBX2 : Hid (w.heap.size = bx) := hbx.symm
     rw [HGN.out] at HBS
     clear hgn hbx
     refine wpq_region (fun w' => w'.cell? ⟨bx, 0, none⟩ = some (.slice (some ⟨g, o, none⟩) m.length cap) ∧ w'.cell? ⟨gN, q, none⟩ = some (.slice A nl cap2)) 13 (by kernel_rfl) hS0 (fun hHeld => ?_)
     clear hS0
     generalize wr.drew = wd at *
     refine wpq_tk 0 (some 44) [13] (Or.inl ⟨by rfl, fun w hSw => by (obtain ⟨x0, y0⟩ := hSw; go_simp; with_reducible rfl)⟩) hHeld ?_ rfl rfl
     simp only [Act.put, sA, sZ, sS]
     refine wpq_tk 1 (some 45) [13] (Or.inl ⟨by rfl, fun w hSw => by (obtain ⟨x0, y0⟩ := hSw; go_simp; with_reducible rfl)⟩) hHeld ?_ rfl rfl
     simp only [Act.put, sA, sZ, sS]
     refine wpq_tk 2 (some 46) [13] (Or.inl ⟨by rfl, fun w hSw => by (obtain ⟨x0, y0⟩ := hSw; go_simp; with_reducible rfl)⟩) hHeld ?_ rfl rfl
     simp only [Act.put, sA, sZ, sS]
     refine wpq_tk 3 (some 47) [13] (Or.inl ⟨by rfl, fun w hSw => by (obtain ⟨x0, y0⟩ := hSw; go_simp; with_reducible rfl)⟩) hHeld ?_ rfl rfl
     simp only [Act.put, sA, sZ, sS]
     refine wpq_tk 4 (some 48) [13] (Or.inl ⟨by rfl, fun w hSw => by (obtain ⟨x0, y0⟩ := hSw; go_simp; with_reducible rfl)⟩) hHeld ?_ rfl rfl
     simp only [Act.put, sA, sZ, sS]
     refine wpq_tk 5 (some 49) [13] (Or.inl ⟨by rfl, fun w hSw => by (obtain ⟨x0, y0⟩ := hSw; go_simp; with_reducible rfl)⟩) hHeld ?_ rfl rfl
     simp only [Act.put, sA, sZ, sS]
     refine wpq_tk 6 (some 50) [13] (Or.inl ⟨by rfl, fun w hSw => by (obtain ⟨x0, y0⟩ := hSw; go_simp; with_reducible rfl)⟩) hHeld ?_ rfl rfl
     simp only [Act.put, sA, sZ, sS]
     refine wpq_tk 7 (some 51) [13] (Or.inl ⟨by rfl, fun w hSw => by (obtain ⟨x0, y0⟩ := hSw; go_simp; with_reducible rfl)⟩) hHeld ?_ rfl rfl
     simp only [Act.put, sA, sZ, sS]
     refine wpq_tk 8 (some 52) [13] (Or.inl ⟨by rfl, fun w hSw => by (obtain ⟨x0, y0⟩ := hSw; go_simp; with_reducible rfl)⟩) hHeld ?_ rfl rfl
     simp only [Act.put, sA, sZ, sS]
     refine wpq_one 9 (by kernel_rfl) rfl (fun K hK => ?_)
     go_simp
     refine (HST.out _ HL.out.bel b).mono ?_
     rintro e wx ⟨rfl, hb⟩
     replace hHeld := show wx.cell? ⟨bx, 0, none⟩ = some (.slice (some ⟨g, o, none⟩) m.length cap) ∧ wx.cell? ⟨gN, q, none⟩ = some (.slice A nl cap2) from ⟨(hb.cell (p := ⟨bx, 0, none⟩) (cell_ltA hHeld.1)).trans hHeld.1, (hb.cell (p := ⟨gN, q, none⟩) (cell_ltA hHeld.2)).trans hHeld.2⟩
     replace HL := Lib.hid (HL.out.stay hb)
     replace HS := Lib.hid (HS.out.below hb)
     clear hb
     generalize wx = wd at *
     refine hK.out _ _ hHeld (fun hHeld => ?_)
     clear hK K
     refine wpq_one 10 (by kernel_rfl) rfl (fun K hK => ?_)
     go_simp
     have hb7 : Below wd.heap.size wd (wd.alloc (.cells (natV (stepL (arcsOf m q) b)).toArray 3)) := (Below.refl _ _).alloc (Nat.le_refl _) _
     refine hK.out _ _ ⟨(hb7.cell (p := ⟨bx, 0, none⟩) (cell_ltA hHeld.1)).trans hHeld.1, (hb7.cell (p := ⟨gN, q, none⟩) (cell_ltA hHeld.2)).trans hHeld.2⟩ (fun hHeld2 => ?_)
     clear hK K hb7 hHeld2
     refine wpq_one 11 (by kernel_rfl) rfl (fun K hK => ?_)
     refine step_pushLA (f := natV) (x := stepL (arcsOf m q) b) (v := .slice A nl cap2) (l := (bytes.map (stepL (arcsOf m q))).take k) (B := B) (e := 3) (sz := 1) rfl _ _ rfl elemIn natV_len (by decide) (natV_one _) HL.out.own rfl rfl rfl (by rw [List.length_take]; have := HLEN.out; rw [List.length_map]; omega) HL.out.base.2 ?_
     rintro v3 w7 hown3 hg3 hfm3 hat3
     have hb7 : Below B wd w7 := grown_belowL hg3 (fun y hy => (HL.out.own.lt y hy).1) HL.out.base.2
     have hbase : gN + 2 ≤ B := by have := HL.out.base.1; rw [HGN.out] at this; exact this
     have HN := Lib.hid (HL.out.push HKB.out (by rw [HBK.out]) HQ.out hown3 hg3)
     rw [HGN.out] at HN
     have HS7 := Lib.hid (show BoxV bS 44 [.bool acc, .slice b0 k0 c0] (w7.setCell ⟨gN, q, none⟩ v3) from (Below.heap_setCell w7 ⟨gN, q, none⟩ v3 bS (by have := HBS.out; show bS ≠ gN; omega)).trans ((hb7.block bS (by have := HBS.out; omega)).trans HS.out))
     have hnx7 := HL.out.nx.of_block (hb7.block _ (by have := HL.out.base.1; omega))
     rw [HGN.out] at hnx7
     have hf := World.rowIs.frozen hnx7 q
     have hS : w7.cell? ⟨bx, 0, none⟩ = some (.slice (some ⟨g, o, none⟩) m.length cap) ∧ w7.cell? ⟨gN, q, none⟩ = some (.slice A nl cap2) := ⟨(hb7.cell (p := ⟨bx, 0, none⟩) (by have := HBX.out; show bx < B; omega)).trans hHeld.1, (hb7.cell (p := ⟨gN, q, none⟩) (by show gN < B; omega)).trans hHeld.2⟩
     have hc := hS.2
     obtain ⟨A3, n3, cap3, rfl⟩ : ∃ A n cap, v3 = .slice A n cap := by obtain ⟨A, c, h⟩ := hfm3; exact ⟨A, _, c, h⟩
     clear hfm3 hown3 hg3 hat3 hb7 hnx7 hbase
     refine hK.out _ _ hS (fun hHeld => ?_)
     clear hK K hS
     refine wpq_tk 12 (some 56) [13] (Or.inl ⟨by rfl, fun w hSw => by (obtain ⟨x0, y0⟩ := hSw; go_simp; with_reducible rfl)⟩) hHeld ?_ rfl rfl
     simp only [Act.put, List.setIfInBounds_toArray]
     refine wpq_end 13 (by kernel_rfl) rfl (by kernel_rfl) (fun K hK => ?_)
     go_simp
     refine hK.out _ _ ?_
     clear hK K
     refine wpq_done (by kernel_rfl) ?_ _
     go_simp
     have hq1 := HBX2.out
     subst hq1
     have hq2 := HGN.out
     subst hq2
     go_wp2_with fail
     exact ⟨⟨k + 1, A3, n3, cap3, by simp, HKB.out, HN.out, HS7.out⟩, by have := HKB.out; simp [intOf]; omega⟩
end Go.Proofs.YtpkecepelcppiaaDoor

namespace Go.Proofs.YtpkecepelcppiaaDoor
open Go.RowKit Go.Shelf
set_option maxHeartbeats 4000000
set_option maxRecDepth 100000

def SpanO (l : List ArcA) (w : World) (e : Ending) (w' : World) : Prop := ∃ v, e = .returned v ∧ RdA (fun g => w.heap.size ≤ g) w' v l ∧ Below w.heap.size w w'
theorem span_new {w w1 : World} {T : TypeId} {X : Array Value} {l : List ArcA} (hW : w.alloc (.cells X T) = w1) (hX : X = (l.flatMap arcV).toArray) (hl : l.length ≤ maxLen) : SpanO l w (.returned (.slice (some ⟨w.heap.size, 0, none⟩) l.length l.length)) w1 := by
 obtain ⟨ha, -, -, hb⟩ := alloc_of hW
 rw [hX] at ha
 exact ⟨_, rfl, ⟨slx_block arcV_len ha hl, fun _ => ⟨_, 0, _, _, rfl, Nat.le_refl _⟩⟩, hb⟩
theorem spans_0 (w : World) : Calls Tryd.prog 23 #[.int .i64 0] w (SpanO (spansA 0) w) := by
 go_enter Tryd.func23, Tryd.ntmps23
 go_wp2_with fail
 go_ret
 exact span_new rfl rfl (by decide)
theorem spans_1 (w : World) : Calls Tryd.prog 23 #[.int .i64 1] w (SpanO (spansA 1) w) := by
 go_enter Tryd.func23, Tryd.ntmps23
 go_wp2_with fail
 go_ret
 exact span_new rfl rfl (by decide)
theorem spans_2 (w : World) : Calls Tryd.prog 23 #[.int .i64 2] w (SpanO (spansA 2) w) := by
 go_enter Tryd.func23, Tryd.ntmps23
 go_wp2_with fail
 go_ret
 exact span_new rfl rfl (by decide)
theorem spans_3 (w : World) : Calls Tryd.prog 23 #[.int .i64 3] w (SpanO (spansA 3) w) := by
 go_enter Tryd.func23, Tryd.ntmps23
 go_wp2_with fail
 go_ret
 exact span_new rfl rfl (by decide)
theorem spans_4 (w : World) : Calls Tryd.prog 23 #[.int .i64 4] w (SpanO (spansA 4) w) := by
 go_enter Tryd.func23, Tryd.ntmps23
 go_wp2_with fail
 go_ret
 exact span_new rfl rfl (by decide)
theorem spans_5 (w : World) : Calls Tryd.prog 23 #[.int .i64 5] w (SpanO (spansA 5) w) := by
 go_enter Tryd.func23, Tryd.ntmps23
 go_wp2_with fail
 go_ret
 exact span_new rfl rfl (by decide)
theorem spans_6 (w : World) : Calls Tryd.prog 23 #[.int .i64 6] w (SpanO (spansA 6) w) := by
 go_enter Tryd.func23, Tryd.ntmps23
 go_wp2_with fail
 go_ret
 exact span_new rfl rfl (by decide)
theorem spans_7 (w : World) : Calls Tryd.prog 23 #[.int .i64 7] w (SpanO (spansA 7) w) := by
 go_enter Tryd.func23, Tryd.ntmps23
 go_wp2_with fail
 go_ret
 exact span_new rfl rfl (by decide)
theorem spans_any (n : Nat) (hn : n < 8) (w : World) : Calls Tryd.prog 23 #[.int .i64 (n : Int)] w (SpanO (spansA n) w) := by
 match n, hn with
 | 0, _ => exact spans_0 w
 | 1, _ => exact spans_1 w
 | 2, _ => exact spans_2 w
 | 3, _ => exact spans_3 w
 | 4, _ => exact spans_4 w
 | 5, _ => exact spans_5 w
 | 6, _ => exact spans_6 w
 | 7, _ => exact spans_7 w
def cntV (mn mx : Int) (top : Nat) : Value := .agg #[.int .i64 mn, .int .i64 mx, .int .i64 (top : Int)]
theorem dead_any (mn mx : Int) (top : Nat) (ht : top ≤ 1000) (w : World) : Calls Tryd.prog 17 #[cntV mn mx top] w fun e w' => e = .returned (.int .i64 (((top + 1) * 8 : Nat) : Int)) ∧ Below w.heap.size w w' := by
 have hti : (top : Int) ≤ 1000 := by omega
 unfold cntV
 go_enter Tryd.func17, Tryd.ntmps17
 go_wp2_with fail
 go_ret
 exact ⟨by simp, (Below.refl _ _).alloc (Nat.le_refl _) _⟩
theorem state_any (mn mx : Int) (top count want : Nat) (ht : count ≤ 1000) (hw : want ≤ 1000) (w : World) : Calls Tryd.prog 24 #[cntV mn mx top, .int .i64 (count : Int), .int .i64 (want : Int)] w fun e w' => e = .returned (.int .i64 ((count * 8 + want : Nat) : Int)) ∧ Below w.heap.size w w' := by
 have hci : (count : Int) ≤ 1000 := by omega
 have hwi : (want : Int) ≤ 1000 := by omega
 unfold cntV
 go_enter Tryd.func24, Tryd.ntmps24
 go_wp2_with fail
 go_ret
 exact ⟨by simp, (Below.refl _ _).alloc (Nat.le_refl _) _⟩
end Go.Proofs.YtpkecepelcppiaaDoor
