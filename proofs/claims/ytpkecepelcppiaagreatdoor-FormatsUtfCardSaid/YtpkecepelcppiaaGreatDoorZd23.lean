/- automaton.numbered walked; printed by gen_az.py. Conditions: fewer than 1000 states, at most 256 bytes, fuel at most 1000. -/
import Derived.Test.YtpkecepelcppiaaGreatDoorZd22
import Derived.Test.YtpkecepelcppiaaGreatDoorZd2
import Derived.Maps.OwnSet
namespace Go.Proofs.YtpkecepelcppiaaGreatDoor
open Go.RowKit Go.Shelf
set_option maxHeartbeats 4000000
set_option maxRecDepth 100000

def BlkC (w : World) (g : Nat) (F : Nat → Prop) : Prop := w.rowIs g 182 257 (bvB F)
theorem BlkC.congr {w : World} {g : Nat} {F G : Nat → Prop} (h : BlkC w g F) (e : ∀ j, j < 257 → (F j ↔ G j)) : BlkC w g G := World.rowIs.congr h (fun j hj => bvB_congr (e j hj))
theorem BlkC.cell {w : World} {g : Nat} {F : Nat → Prop} (h : BlkC w g F) {j : Nat} (hj : j < 257) : w.cell? ⟨g, j, none⟩ = some (bvB F j) := World.rowIs.cell h hj
theorem BlkC.lt {w : World} {g : Nat} {F : Nat → Prop} (h : BlkC w g F) : g < w.heap.size := World.rowIs.lt h
theorem BlkC.stay {w w' : World} {g : Nat} {F : Nat → Prop} (h : BlkC w g F) (hb : Below w.heap.size w w') : BlkC w' g F := World.rowIs.of_block h (hb.block g h.lt)
theorem BlkC.set {w : World} {g : Nat} {F : Nat → Prop} (h : BlkC w g F) (i : Nat) : BlkC (w.setCell ⟨g, i, none⟩ (.bool true)) g (fun j => j = i ∨ F j) := by
 refine World.rowIs.congr (World.rowIs.set h i (.bool true)) (fun j _ => ?_)
 by_cases hj : j = i
 ·rw [if_pos hj, bvB_true (.inl hj)]
 ·rw [if_neg hj]
  exact bvB_congr ⟨fun h => .inr h, fun h => h.resolve_left hj⟩
theorem zeros257 : Tryz.zeroCells182 = madeCells #[.bool false] 257 := by kernel_rfl
theorem blkC_new (w : World) : BlkC (w.alloc (.cells Tryz.zeroCells182 182)) w.heap.size (fun _ => False) := by
 rw [zeros257]
 exact World.rowIs.congr (World.rowIs_made w (.bool false) 257 182) (fun _ _ => (bvB_false (fun h => h)).symm)
theorem cuts_any (N : Nat → Prop) (m : List StA) (v : Value) (g0 : Nat) (w : World) (h0 : w.cell? ⟨g0, 0, none⟩ = some v) (hg0 : g0 < w.heap.size) (hm : RdS N w v m) (hlo : ∀ i (hi : i < m.length) j (hj : j < m[i].arcs.length), (m[i].arcs[j]).lo ≤ 255) :
  Calls Tryz.prog 125 #[.slice (some ⟨g0, 0, none⟩) 1 1] w fun e w' => ∃ v', e = .returned v' ∧ RdNm w' v' (startsA m) ∧ Below w.heap.size w w' := by
 obtain ⟨a, cap, rfl, hml⟩ := hm.form
 have hmi : (m.length : Int) ≤ 9223372036854775807 := by simp only [maxLen] at hml; omega
 have HM := Lib.hid hm
 have HLO := Lib.hid hlo
 have H0 := Lib.hid h0
 have HAL := Lib.hid (fun i hi => hm.arcs_len i hi)
 have HG0 := Lib.hid hg0
 clear hml hm hlo h0 hg0
 go_enter Tryz.func125, Tryz.ntmps125
 go_upto_region 2 with fail
 generalize hW : World.alloc w _ = w1
 have HK := Lib.hid (show BlkC w1 w.heap.size (fun _ => False) from hW ▸ blkC_new w)
 obtain ⟨-, -, hz1, hb1⟩ := alloc_of hW
 have HB := Lib.hid hb1
 clear hW hz1 hb1
 go_wp2_with fail
 go_loopw [4] (fun kv wr => ∃ k : Nat, kv = .int .i64 (k : Int) ∧ k ≤ 1 ∧ Hid (BlkC wr w.heap.size (fun b => k = 1 ∧ mkP m m.length 0 b)) ∧ Hid (Below w.heap.size w wr)) (fun kv _ => 1 - (intOf kv).toNat)
 case atStart => exact ⟨0, rfl, by omega, HK.out.congr (fun b _ => ⟨fun h => h.elim, fun h => absurd h.1 (by decide)⟩), HB.out⟩
 case round =>
  clear HK HB
  obtain ⟨k, rfl, hk, HK, HB⟩ := hrel
  by_cases hk0 : k = 0
  case pos =>
   subst hk0
   replace HK := Lib.hid (HK.out.congr (G := fun b => mkP m 0 0 b) (fun b _ => ⟨fun h => absurd h.1 (by decide), fun h => ((mk_zero m b).2 h).elim⟩))
   go_wp2_with fail
   go_loopw [5] (fun iv wr => ∃ i : Nat, iv = .int .i64 (i : Int) ∧ i ≤ m.length ∧ Hid (BlkC wr w.heap.size (fun b => mkP m i 0 b)) ∧ Hid (Below w.heap.size w wr)) (fun iv _ => m.length - (intOf iv).toNat)
   case atStart => exact ⟨0, rfl, Nat.zero_le _, HK.out, HB.out⟩
   case round =>
    clear HK HB
    obtain ⟨i, rfl, hi, HK, HB⟩ := hrel
    have x0 : wr.cell? ⟨g0, 0, none⟩ = some (.slice a m.length cap) := (HB.out.cell (p := ⟨g0, 0, none⟩) HG0.out).trans H0.out
    by_cases hlt : i < m.length
    case neg =>
     have hge : ¬ (i : Int) < m.length := by omega
     have hie : i = m.length := by omega
     have HK2 := Lib.hid (HK.out.congr (G := fun b => 1 = 1 ∧ mkP m m.length 0 b) (fun b _ => by rw [hie]; exact ⟨fun h => ⟨rfl, h⟩, fun h => h.2⟩))
     clear hlt hie
     go_wp2_with fail
     exact ⟨⟨1, rfl, Nat.le_refl _, HK2.out, HB.out⟩, by simp [intOf]⟩
    case pos =>
     have hlti : (i : Int) < m.length := by omega
     obtain ⟨g, o, b0, k0, c0, rfl, -, m1, hk0, ha⟩ := HM.out.at_ i hlt
     have HGL := Lib.hid (HM.out.lt0 (by omega))
     have HM1 : Hid (∀ w', Below w.heap.size w w' → w'.cell? ⟨g, o + i * 2 + 1, none⟩ = some (.slice b0 k0 c0)) := fun w' hb => (hb.cell (p := ⟨g, o + i * 2 + 1, none⟩) HGL.out).trans m1
     have HA := Lib.hid ha
     have hal := HAL.out i hlt
     have HMA := Lib.hid (fun j (hj : j < m[i].arcs.length) b => mk_arc (b := b) hlt hj)
     have HMS := Lib.hid (fun b => mk_state (m := m) (b := b) hlt)
     have HLB := Lib.hid (HLO.out i hlt)
     have HLT : Hid (i + 1 ≤ m.length) := hlt
     generalize m[i].arcs = arcs at *
     subst hk0
     clear ha hlt m1
     go_wp2_with fail
     clear x0
     go_loopw [6] (fun jv wr => ∃ j : Nat, jv = .int .i64 (j : Int) ∧ j ≤ arcs.length ∧ Hid (BlkC wr w.heap.size (fun b => mkP m i j b)) ∧ Hid (Below w.heap.size w wr)) (fun jv _ => arcs.length - (intOf jv).toNat)
     case atStart => exact ⟨0, rfl, Nat.zero_le _, HK.out, HB.out⟩
     case round =>
      clear HK HB
      obtain ⟨j, rfl, hj, HK, HB⟩ := hrel
      have x0 : wr.cell? ⟨g0, 0, none⟩ = some (.slice (some ⟨g, o, none⟩) m.length cap) := (HB.out.cell (p := ⟨g0, 0, none⟩) HG0.out).trans H0.out
      have m1 := HM1.out wr HB.out
      by_cases hjt : j < arcs.length
      case neg =>
       have hge : ¬ (j : Int) < arcs.length := by omega
       have hje : j = arcs.length := by omega
       have HK2 := Lib.hid (HK.out.congr (G := fun b => mkP m (i + 1) 0 b) (fun b _ => by rw [hje]; exact HMS.out b))
       clear hjt hje
       go_wp2_with fail
       exact ⟨⟨i + 1, by simp, HLT.out, HK2.out, HB.out⟩, by have := HLT.out; simp [intOf]; omega⟩
      case pos =>
       have hjti : (j : Int) < arcs.length := by omega
       obtain ⟨ga, oa, rfl, k0, -, -⟩ := (HA.out.stay HB.out).at_ j hjt
       have HST := Lib.hid (HMA.out j hjt)
       have hl5 := HLB.out j hjt
       generalize arcs[j].lo = lo at *
       have hl6 : (lo : Int) < 257 := by omega
       have HL : Hid (lo < 257) := by unfold Hid; omega
       have HJ : Hid (j + 1 ≤ arcs.length) := hjt
       have hcl := HK.out.cell HL.out
       have hfz := World.rowIs.frozen HK.out lo
       clear hjt
       go_wp2_with fail
       exact ⟨⟨j + 1, by simp, HJ.out, (HK.out.set lo).congr (fun b _ => HST.out b), HB.out.setCell (p := ⟨w.heap.size, lo, none⟩) (Nat.le_refl _) _⟩, by have := HJ.out; simp [intOf]; omega⟩
  case neg =>
   have hk1 : k = 1 := by omega
   subst hk1
   replace HK := Lib.hid (HK.out.congr (G := fun b => (m.any fun s => s.arcs.any fun a => decide (a.lo = b)) = true) (fun b _ => ⟨fun h => (mk_end m b).1 h.2, fun h => ⟨rfl, (mk_end m b).2 h⟩⟩))
   clear hk0
   rw [show ((1 : Nat) : Int) = (1 : Int) from rfl]
   go_wp2_with fail
   go_loopw [7, 8] (fun ov kv wx => ∃ (k : Nat) (A : Option Addr) (cap : Nat), kv = .int .i64 (k : Int) ∧ k ≤ 256 ∧ ov = .slice A (stG m k).length cap ∧ Hid (OwnL (w.heap.size + 1) 3 1 natV wx (.slice A (stG m k).length cap) (stG m k)) ∧ Hid (BlkC wx w.heap.size (fun b => (m.any fun s => s.arcs.any fun a => decide (a.lo = b)) = true)) ∧ Hid (Below w.heap.size w wx)) (fun _ kv _ => 256 - (intOf kv).toNat)
   case atStart => exact ⟨0, none, 0, rfl, by omega, rfl, OwnL.nil _ _ _ _ _, HK.out, HB.out⟩
   case round =>
    clear HB HK
    obtain ⟨k, A, cap, rfl, hk, rfl, HO, HK, HB⟩ := hrel
    by_cases hlt : k < 256
    case neg =>
     have hke : k = 256 := by omega
     subst hke
     have HRD : Hid (RdNm wr (.slice A (stG m 256).length cap) (startsA m)) := (HO.out.slx natV_len).1
     clear hlt
     go_wp2_with fail
     go_ret
     exact ⟨_, rfl, HRD.out, HB.out⟩
    case pos =>
     have hlti : (k : Int) < 256 := by omega
     have HLT : Hid (k + 1 ≤ 256) := hlt
     have HST := Lib.hid (stG_step m k)
     have HLE := Lib.hid (stG_len m k)
     have hc := HK.out.cell (j := k) (by omega)
     have HBL : Hid (w.heap.size + 1 ≤ wr.heap.size) := HK.out.lt
     by_cases hf : (m.any fun s => s.arcs.any fun a => decide (a.lo = k)) = true
     ·rw [bvB_true hf] at hc
      replace HST := Lib.hid (HST.out.trans (if_pos hf))
      clear hlt hf
      go_wp2_with (at_builtin; refine wpl_pushL (f := natV) (x := k) (v := .slice A (stG m k).length cap) (l := stG m k) (B := w.heap.size + 1) (e := 3) (sz := 1) _ _ rfl rfl elemIn natV_len (by decide) (natV_one k) HO.out rfl rfl rfl (by have := HLE.out; omega) HBL.out ?_; intro v3 w3 hown3 hg3 hfm3 hat3; obtain ⟨A3, cap3, rfl⟩ := hfm3)
      have hgb := grown_belowL hg3 (fun x hx => (HO.out.lt x hx).1) HBL.out
      exact ⟨⟨k + 1, A3, cap3, by simp, HLT.out, by rw [HST.out, List.length_append]; rfl, by rw [HST.out]; unfold Hid; simpa using hown3, World.rowIs.of_block HK.out (hgb.block _ (Nat.lt_succ_self _)), HB.out.trans (hgb.mono (Nat.le_succ _))⟩, by have := HLT.out; simp [intOf]; omega⟩
     ·rw [bvB_false hf] at hc
      replace HST := Lib.hid (HST.out.trans (if_neg hf))
      clear hlt hf
      go_wp2_with fail
      exact ⟨⟨k + 1, A, cap, by simp, HLT.out, by rw [HST.out], by rw [HST.out]; exact HO.out, HK.out, HB.out⟩, by have := HLT.out; simp [intOf]; omega⟩
theorem equalN_any (a b : List Nat) (v1 v2 : Value) (w : World) (h1 : RdNm w v1 a) (h2 : RdNm w v2 b) : Calls Tryz.prog 163 #[v1, v2] w fun e w' => e = .returned (.bool (decide (a = b))) ∧ Below w.heap.size w w' := by
 obtain ⟨a1, c1, rfl, hl1⟩ := h1.form
 obtain ⟨a2, c2, rfl, hl2⟩ := h2.form
 have hli : (a.length : Int) ≤ 9223372036854775807 := by simp only [maxLen] at hl1; omega
 have hli2 : (b.length : Int) ≤ 9223372036854775807 := by simp only [maxLen] at hl2; omega
 have H1 := Lib.hid h1
 have H2 := Lib.hid h2
 obtain ⟨R, hR⟩ : ∃ R, R = decide (a = b) := ⟨_, rfl⟩
 rw [← hR]
 have HR := Lib.hid hR
 clear h1 h2 hl1 hl2 hR
 by_cases hle : a.length = b.length
 case neg =>
  have HF : Hid (R = false) := by unfold Hid; rw [HR.out]; exact decide_eq_false (fun e => hle (by rw [e]))
  have hne : ((a.length : Int) != (b.length : Int)) = true := bne_iff_ne.2 (by omega)
  clear hle
  go_enter Tryz.func163, Tryz.ntmps163
  go_wp2_with fail
  go_ret
  exact ⟨by rw [HF.out]; rfl, Below.refl _ _⟩
 case pos =>
  have hne : ((a.length : Int) != (b.length : Int)) = false := by rw [hle]; simp
  have HLE := Lib.hid hle
  clear hle
  go_enter Tryz.func163, Tryz.ntmps163
  go_wp2_with fail
  go_loopw [5] (fun kv wr => ∃ k : Nat, kv = .int .i64 (k : Int) ∧ k ≤ a.length ∧ Hid (∀ j, j < k → a[j]? = b[j]?) ∧ Hid (Below w.heap.size w wr)) (fun kv _ => a.length - (intOf kv).toNat)
  case atStart => exact ⟨0, rfl, Nat.zero_le _, fun j hj => absurd hj (Nat.not_lt_zero _), Below.refl _ _⟩
  case round =>
   obtain ⟨k, rfl, hk, HEQ, HB⟩ := hrel
   by_cases hlt : k < a.length
   case neg =>
    have hge : ¬ (k : Int) < a.length := by omega
    have HF : Hid (R = true) := by
     unfold Hid
     rw [HR.out]
     refine decide_eq_true (List.ext_getElem? fun j => ?_)
     by_cases hj : j < k
     ·exact HEQ.out j hj
     ·rw [List.getElem?_eq_none (by omega), List.getElem?_eq_none (by have := HLE.out; omega)]
    clear hlt
    go_wp2_with fail
    go_ret
    exact ⟨by rw [HF.out]; rfl, HB.out⟩
   case pos =>
    have hlti : (k : Int) < a.length := by omega
    have hlt2 : k < b.length := by have := HLE.out; omega
    have hlti2 : (k : Int) < b.length := by omega
    obtain ⟨g1, o1, rfl, hc1⟩ := (H1.out.stay HB.out).at_ k hlt
    obtain ⟨g2, o2, rfl, hc2⟩ := (H2.out.stay HB.out).at_ k hlt2
    have HK : Hid (k + 1 ≤ a.length) := hlt
    have HA := Lib.hid (List.getElem?_eq_getElem hlt)
    have HBB := Lib.hid (List.getElem?_eq_getElem hlt2)
    generalize a[k] = x at *
    generalize b[k] = y at *
    clear hlt hlt2
    by_cases hxy : x = y
    ·have tx : ((x : Int) != (y : Int)) = false := by rw [hxy]; simp
     have HEQ2 : Hid (∀ j, j < k + 1 → a[j]? = b[j]?) := fun j hj => by
      by_cases h : j < k
      ·exact HEQ.out j h
      ·rw [show j = k by omega, HA.out, HBB.out, hxy]
     clear hxy
     go_upto_region 6 with fail
     go_quiet (fail)
     go_wp2_with fail
     exact ⟨⟨k + 1, by simp, HK.out, HEQ2.out, below_drewN HB.out _⟩, by have := HK.out; simp [intOf]; omega⟩
    ·have tx : ((x : Int) != (y : Int)) = true := bne_iff_ne.2 (by omega)
     have HF : Hid (R = false) := by
      unfold Hid
      rw [HR.out]
      refine decide_eq_false (fun e => hxy ?_)
      have h1 := HA.out
      rw [e, HBB.out] at h1
      exact (Option.some.inj h1).symm
     clear hxy
     go_upto_region 6 with fail
     go_quiet (fail)
     go_wp2_with fail
     go_ret
     exact ⟨by rw [HF.out]; rfl, below_drewN HB.out _⟩
end Go.Proofs.YtpkecepelcppiaaGreatDoor

namespace Go.Proofs.YtpkecepelcppiaaGreatDoor
open Go.RowKit Go.Shelf
set_option maxHeartbeats 8000000
set_option maxRecDepth 100000

theorem cell_ltG {w : World} {g o : Nat} {v : Value} (h : w.cell? ⟨g, o, none⟩ = some v) : g < w.heap.size := by
 rcases Nat.lt_or_ge g w.heap.size with h1 | h1
 ·exact h1
 ·simp [World.cell?, Array.getElem?_eq_none h1] at h
theorem step_pushLG {α : Type} {ops : Array Oper} {o : Oper} {a : Act} {w : World} {K : Act → World → Prop} {Q : Exit → Act → World → Prop} {E : Prop} {B k sz : Nat} {S e : TypeId} {f : α → List Value} {v : Value} {l : List α} {x : α}
  (hgd : o.guard = none) (s y : Operand)
  (ho : o.op = .call { callee := .builtin .append, args := #[s, y], argTypes := #[S, S] }) (hel : Elem Tryz.prog S e sz)
  (hf : ∀ a, (f a).length = sz) (hsz0 : 0 < sz) (hone : ∀ u ∈ f x, u.oneCell' = true) (hown : OwnL B e sz f w v l) (hs : a.eval s = v) (hx : a.eval y = .slice (some ⟨k, 0, none⟩) 1 1) (hk : k = w.heap.size) (hn : l.length < 1000000000) (hbase : B ≤ w.heap.size)
  (h : ∀ v' w', OwnL B e sz f w' v' (l ++ [x]) → w.grownBy w' v.ownBlock → (∃ A cap, v' = .slice A (l.length + 1) cap) → (v'.ownBlock = v.ownBlock ∨ ∃ k, w.heap.size ≤ k ∧ v'.ownBlock = some k) → K (a.put o.dst v') w') :
  if Region.wanted o (yielded ops a.tmps) = true then o.wp Tryz.prog a (w.alloc (.cells (f x).toArray e)) K Q else E := by
 have hw : Region.wanted o (yielded ops a.tmps) = true := by simp [Region.wanted, hgd]
 rw [if_pos hw]
 exact wp_pushL s y ho hel hf hsz0 hone hown hs hx hk hn hbase h
/-! Rows of rows of numbers. -/
theorem elemR : Elem Tryz.prog 158 82 1 := elem_of (z := .slice none 0 0) (bytes := 24) Tryz.underlying158 (by kernel_rfl) (by decide) (by decide) rfl
def slV (v : Value) : List Value := [v]
theorem slV_len (v : Value) : (slV v).length = 1 := rfl
theorem slV_one (a : Option Addr) (n c : Nat) : ∀ u ∈ slV (.slice a n c), u.oneCell' = true := by
 intro u hu
 simp only [slV, List.mem_cons, List.not_mem_nil, or_false] at hu
 rw [hu]
 rfl
structure OwnR (B : Nat) (w : World) (sv : Value) (vs : List Value) (S : List (List Nat)) : Prop where
 own : OwnL B 82 1 slV w sv vs
 len : vs.length = S.length
 at_ : ∀ i (h1 : i < vs.length) (h2 : i < S.length), RdN2 (fun g => B ≤ g ∧ sv.ownBlock ≠ some g) w vs[i] S[i]
theorem OwnR.nil (B : Nat) (w : World) : OwnR B w (.slice none 0 0) [] [] := ⟨OwnL.nil _ _ _ _ _, rfl, fun _ h => absurd h (Nat.not_lt_zero _)⟩
theorem OwnR.keep {B : Nat} {w w' : World} {sv : Value} {vs : List Value} {S : List (List Nat)} (h : OwnR B w sv vs S) (hk : ∀ g, B ≤ g → g < w.heap.size → w'.heap[g]? = w.heap[g]?) : OwnR B w' sv vs S :=
 ⟨h.own.keep (fun g _ hb hl => hk g hb hl), h.len, fun i h1 h2 => (h.at_ i h1 h2).keep (fun g hg hl => hk g hg.1 hl)⟩
theorem OwnR.stay {B : Nat} {w w' : World} {sv : Value} {vs : List Value} {S : List (List Nat)} (h : OwnR B w sv vs S) (hb : Below w.heap.size w w') : OwnR B w' sv vs S := h.keep (fun g _ hl => hb.block g hl)
theorem OwnR.push {B : Nat} {w w' : World} {sv v' xv : Value} {vs : List Value} {S : List (List Nat)} {x : List Nat} (h : OwnR B w sv vs S) (hown : OwnL B 82 1 slV w' v' (vs ++ [xv])) (hg : w.grownBy w' sv.ownBlock)
  (hat : v'.ownBlock = sv.ownBlock ∨ ∃ k, w.heap.size ≤ k ∧ v'.ownBlock = some k) (hx : RdN2 (fun g => B ≤ g ∧ sv.ownBlock ≠ some g) w xv x) : OwnR B w' v' (vs ++ [xv]) (S ++ [x]) := by
 have hrd : ∀ {v : Value} {l : List Nat}, RdN2 (fun g => B ≤ g ∧ sv.ownBlock ≠ some g) w v l → RdN2 (fun g => B ≤ g ∧ v'.ownBlock ≠ some g) w' v l := by
  intro v l hr
  have h1 : RdN2 (fun g => (B ≤ g ∧ sv.ownBlock ≠ some g) ∧ g < w.heap.size) w v l := hr.mono (fun g hg hl => ⟨hg, hl⟩)
  have h2 := h1.keep (w' := w') (fun g hx hl => hg.block g hl (fun he => hx.1.2 he.symm))
  refine h2.mono (fun g hx _ => ⟨hx.1.1, fun he => ?_⟩)
  rcases hat with e | ⟨k, e1, e2⟩
  ·exact hx.1.2 (e ▸ he)
  ·rw [e2] at he
   injection he with he
   omega
 refine ⟨hown, by rw [List.length_append, List.length_append, h.len]; rfl, fun i h1 h2 => ?_⟩
 by_cases hi : i < vs.length
 ·have hi2 : i < S.length := by rw [← h.len]; exact hi
  rw [List.getElem_append_left hi, List.getElem_append_left hi2]
  exact hrd (h.at_ i hi hi2)
 ·have he : i = vs.length := by simp at h1; omega
  subst he
  have e2 : (S ++ [x])[vs.length]'h2 = x := by
   rw [List.getElem_append_right (by rw [h.len]; exact Nat.le_refl _)]
   simp [h.len]
  rw [List.getElem_concat_length rfl, e2]
  exact hrd hx
def idxV (o : Option Nat) : Int := match o with
 | some i => (i : Int)
 | none => -1
theorem findR_any (B : Nat) (S : List (List Nat)) (vs : List Value) (x : List Nat) (sv xv : Value) (w : World) (hs : OwnR B w sv vs S) (hx : RdNm w xv x) (hn : S.length ≤ 1000) :
  Calls Tryz.prog 150 #[sv, xv] w fun e w' => e = .returned (.int .i64 (idxV (idxG S x))) ∧ Below w.heap.size w w' := by
 obtain ⟨a1, c1, rfl, -⟩ := hs.own.form
 obtain ⟨a2, c2, rfl, -⟩ := hx.form
 have hle := hs.len
 have hni : (S.length : Int) ≤ 1000 := by omega
 have HS := Lib.hid hs
 have HX := Lib.hid hx
 rw [hle]
 obtain ⟨R, hR⟩ : ∃ R, R = idxV (idxG S x) := ⟨_, rfl⟩
 rw [← hR]
 have HR := Lib.hid hR
 have HLE := Lib.hid hle
 have HN := Lib.hid hn
 clear hs hx hle hR hn
 go_enter Tryz.func150, Tryz.ntmps150
 go_wp2_with fail
 go_loopw [5] (fun kv wr => ∃ k : Nat, kv = .int .i64 (k : Int) ∧ k ≤ S.length ∧ Hid (∀ j, j < k → S[j]? ≠ some x) ∧ Hid (Below w.heap.size w wr)) (fun kv _ => S.length - (intOf kv).toNat)
 case atStart => exact ⟨0, rfl, Nat.zero_le _, fun j hj => absurd hj (Nat.not_lt_zero _), Below.refl _ _⟩
 case round =>
  obtain ⟨k, rfl, hk, HEQ, HB⟩ := hrel
  by_cases hlt : k < S.length
  case neg =>
   have hge : ¬ (k : Int) < S.length := by omega
   have HF : Hid (R = -1) := by
    unfold Hid
    rw [HR.out, show idxG S x = none from idxG_none.2 (fun hm => by
     obtain ⟨j, hj⟩ := List.mem_iff_getElem?.1 hm
     have := (List.getElem?_eq_some_iff.1 hj).1
     exact HEQ.out j (by omega) hj)]
    rfl
   clear hlt
   go_wp2_with fail
   go_ret
   exact ⟨by rw [HF.out]; rfl, HB.out⟩
  case pos =>
   have hlti : (k : Int) < S.length := by omega
   have hkv : k < vs.length := by rw [HLE.out]; exact hlt
   have HSR := Lib.hid (HS.out.stay HB.out)
   obtain ⟨b1, d1, he, -, -, -, h3⟩ := (HSR.out.own.slx slV_len).1
   cases he
   obtain ⟨g, o, rfl, -, hc⟩ := h3 (by omega)
   have c0 := hc k hkv 0 (by omega)
   rw [cellsAt_eq slV vs k hkv, Nat.mul_one, Nat.add_zero] at c0
   have hrow := HSR.out.at_ k hkv hlt
   have HC := Lib.hid (fun w' (hb : Below wr.heap.size wr w') => equalN_any S[k] x vs[k] _ w' (RdNm.stay hrow.1 hb) (HX.out.stay (HB.out.trans (hb.mono HB.out.size))))
   have HSK := Lib.hid (List.getElem?_eq_getElem hlt)
   obtain ⟨ra, rcap, hrv, -⟩ := hrow.1.form
   replace c0 : wr.cell? ⟨g, o + k, none⟩ = some (.slice ra S[k].length rcap) := by rw [← hrv]; exact c0
   rw [hrv] at HC
   obtain ⟨q, hq⟩ : ∃ q, q = decide (S[k] = x) := ⟨_, rfl⟩
   rw [← hq] at HC
   have HQ := Lib.hid hq
   generalize S[k] = y at *
   have HK : Hid (k + 1 ≤ S.length) := hlt
   clear hc h3 hrow hrv hq hkv HSR hlt
   go_wp2_with fail
   refine (HC.out wr (Below.refl _ _)).mono ?_
   rintro e w3 ⟨rfl, hb⟩
   replace HB := Lib.hid (HB.out.trans (hb.mono HB.out.size))
   clear hb c0
   cases q with
   | true =>
    have hyx := of_decide_eq_true HQ.out.symm
    have HF : Hid (R = (k : Int)) := by
     unfold Hid
     rw [HR.out, show idxG S x = some k from List.findIdx?_eq_some_iff_getElem.2 ⟨(List.getElem?_eq_some_iff.1 HSK.out).1, by
      have h1 := (List.getElem?_eq_some_iff.1 HSK.out).2
      rw [h1, hyx]
      simp, fun j hj => by
      have h2 := HEQ.out j hj
      have hjl : j < S.length := by have := (List.getElem?_eq_some_iff.1 HSK.out).1; omega
      rw [List.getElem?_eq_getElem hjl] at h2
      simp only [decide_eq_true_eq]
      exact fun e => h2 (by rw [e])⟩]
     rfl
    clear hyx
    go_wp2_with fail
    go_ret
    exact ⟨by rw [HF.out]; rfl, HB.out⟩
   | false =>
    have hyx := of_decide_eq_false HQ.out.symm
    have HEQ2 : Hid (∀ j, j < k + 1 → S[j]? ≠ some x) := fun j hj => by
     by_cases h : j < k
     ·exact HEQ.out j h
     ·rw [show j = k by omega, HSK.out]
      exact fun e => hyx (Option.some.inj e)
    clear hyx
    go_wp2_with fail
    exact ⟨⟨k + 1, by simp, HK.out, HEQ2.out, HB.out⟩, by have := HK.out; simp [intOf]; omega⟩
end Go.Proofs.YtpkecepelcppiaaGreatDoor

namespace Go.Proofs.YtpkecepelcppiaaGreatDoor
open Go.RowKit Go.Shelf Go.Maps
set_option maxHeartbeats 4000000
set_option maxRecDepth 100000

theorem elemS : Elem Tryz.prog 27 70 2 := elem_of (z := .agg #[.bool false, .slice none 0 0]) (bytes := 32) Tryz.underlying27 (by kernel_rfl) (by decide) (by decide) rfl
def stV (p : Bool × Value) : List Value := [.bool p.1, p.2]
theorem stV_len (p : Bool × Value) : (stV p).length = 2 := rfl
theorem stV_one (b : Bool) (a : Option Addr) (n c : Nat) : ∀ u ∈ stV (b, .slice a n c), u.oneCell' = true := by
 intro u hu
 simp only [stV, List.mem_cons, List.not_mem_nil, or_false] at hu
 rcases hu with rfl | rfl <;> rfl
structure OwnS (B : Nat) (w : World) (sv : Value) (ps : List (Bool × Value)) (ml : List StA) : Prop where
 own : OwnL B 70 2 stV w sv ps
 len : ps.length = ml.length
 at_ : ∀ i (h1 : i < ps.length) (h2 : i < ml.length), ps[i].1 = ml[i].acc ∧ RdA (fun g => B ≤ g ∧ sv.ownBlock ≠ some g) w ps[i].2 ml[i].arcs
theorem OwnS.nil (B : Nat) (w : World) : OwnS B w (.slice none 0 0) [] [] := ⟨OwnL.nil _ _ _ _ _, rfl, fun _ h => absurd h (Nat.not_lt_zero _)⟩
theorem OwnS.keep {B : Nat} {w w' : World} {sv : Value} {ps : List (Bool × Value)} {ml : List StA} (h : OwnS B w sv ps ml) (hk : ∀ g, B ≤ g → g < w.heap.size → w'.heap[g]? = w.heap[g]?) : OwnS B w' sv ps ml :=
 ⟨h.own.keep (fun g _ hb hl => hk g hb hl), h.len, fun i h1 h2 => ⟨(h.at_ i h1 h2).1, (h.at_ i h1 h2).2.keep (fun g hg hl => hk g hg.1 hl)⟩⟩
theorem OwnS.stay {B : Nat} {w w' : World} {sv : Value} {ps : List (Bool × Value)} {ml : List StA} (h : OwnS B w sv ps ml) (hb : Below w.heap.size w w') : OwnS B w' sv ps ml := h.keep (fun g _ hl => hb.block g hl)
theorem OwnS.push {B : Nat} {w w' : World} {sv v' : Value} {ps : List (Bool × Value)} {ml : List StA} {acc : Bool} {av : Value} {arcs : List ArcA} (h : OwnS B w sv ps ml) (hown : OwnL B 70 2 stV w' v' (ps ++ [(acc, av)])) (hg : w.grownBy w' sv.ownBlock)
  (hat : v'.ownBlock = sv.ownBlock ∨ ∃ k, w.heap.size ≤ k ∧ v'.ownBlock = some k) (ha : RdA (fun g => B ≤ g ∧ sv.ownBlock ≠ some g) w av arcs) : OwnS B w' v' (ps ++ [(acc, av)]) (ml ++ [⟨acc, arcs⟩]) := by
 have hrd : ∀ {v : Value} {l : List ArcA}, RdA (fun g => B ≤ g ∧ sv.ownBlock ≠ some g) w v l → RdA (fun g => B ≤ g ∧ v'.ownBlock ≠ some g) w' v l := by
  intro v l hr
  have h1 : RdA (fun g => (B ≤ g ∧ sv.ownBlock ≠ some g) ∧ g < w.heap.size) w v l := hr.mono (fun g hg hl => ⟨hg, hl⟩)
  have h2 := h1.keep (w' := w') (fun g hx hl => hg.block g hl (fun he => hx.1.2 he.symm))
  refine h2.mono (fun g hx _ => ⟨hx.1.1, fun he => ?_⟩)
  rcases hat with e | ⟨k, e1, e2⟩
  ·exact hx.1.2 (e ▸ he)
  ·rw [e2] at he
   injection he with he
   omega
 refine ⟨hown, by rw [List.length_append, List.length_append, h.len]; rfl, fun i h1 h2 => ?_⟩
 by_cases hi : i < ps.length
 ·have hi2 : i < ml.length := by rw [← h.len]; exact hi
  rw [List.getElem_append_left hi, List.getElem_append_left hi2]
  exact ⟨(h.at_ i hi hi2).1, hrd (h.at_ i hi hi2).2⟩
 ·have he : i = ps.length := by simp at h1; omega
  subst he
  have e2 : (ml ++ [⟨acc, arcs⟩])[ps.length]'h2 = ⟨acc, arcs⟩ := by
   rw [List.getElem_append_right (by rw [h.len]; exact Nat.le_refl _)]
   simp [h.len]
  rw [List.getElem_concat_length rfl, e2]
  exact ⟨rfl, hrd ha⟩
theorem OwnS.rds {B : Nat} {w : World} {sv : Value} {ps : List (Bool × Value)} {ml : List StA} (h : OwnS B w sv ps ml) : RdS (fun g => B ≤ g) w sv ml := by
 obtain ⟨h1, h2⟩ := h.own.slx stV_len
 rw [h.len] at h1 h2
 refine ⟨fun i => (ps.getD i (false, .slice none 0 0)).2, ?_, fun hl => ?_, fun i hi => ?_⟩
 ·obtain ⟨a, cap, hv, e1, e2, e3, e4⟩ := h1
  refine ⟨a, cap, hv, e1, e2, e3, fun hl => ?_⟩
  obtain ⟨g, o, ha, hg, hc⟩ := e4 hl
  refine ⟨g, o, ha, hg, fun i hi j hj => ?_⟩
  have hip : i < ps.length := by rw [h.len]; exact hi
  rw [hc i hi j hj, cellsAt_eq stV ps i hip]
  dsimp only
  rw [List.getElem?_eq_getElem hi, List.getD_eq_getElem?_getD, List.getElem?_eq_getElem hip]
  dsimp only [Option.getD_some]
  rw [← (h.at_ i hip hi).1]
  rfl
 ·obtain ⟨g, cap, hv, hb, hg⟩ := h2 hl
  exact ⟨g, 0, _, cap, hv, hb⟩
 ·have hip : i < ps.length := by rw [h.len]; exact hi
  show RdA _ w (ps.getD i (false, .slice none 0 0)).2 _
  rw [List.getD_eq_getElem?_getD, List.getElem?_eq_getElem hip]
  exact (h.at_ i hip hi).2.mono (fun g hg _ => hg.1)
/-! The numbering, step by step. -/
def kI (c : Nat) : Lit := Lit.int .i64 (c : Int)
theorem kI_inj (x y : Nat) (h : kI x = kI y) : x = y := by
 unfold kI at h
 injection h with _ h
 omega
theorem row_hit {bytes cl ts order : List Nat} {arcs : List ArcA} {k n : Nat} (hk : k < ts.length) (h : order.findIdx? (fun o => decide (cl.getD o 0 = cl.getD ts[k] 0)) = some n) :
  rowA bytes cl (ts.drop k) k arcs order = rowA bytes cl (ts.drop (k + 1)) (k + 1) (addArcA arcs (bytes.getD k 0) (hiA bytes k) n) order := by
 rw [List.drop_eq_getElem_cons hk, rowA, h]
theorem row_miss {bytes cl ts order : List Nat} {arcs : List ArcA} {k : Nat} (hk : k < ts.length) (h : order.findIdx? (fun o => decide (cl.getD o 0 = cl.getD ts[k] 0)) = none) :
  rowA bytes cl (ts.drop k) k arcs order = rowA bytes cl (ts.drop (k + 1)) (k + 1) (addArcA arcs (bytes.getD k 0) (hiA bytes k) order.length) (order ++ [ts[k]]) := by
 rw [List.drop_eq_getElem_cons hk, rowA, h]
theorem row_end {bytes cl ts order : List Nat} {arcs : List ArcA} {k : Nat} (hk : ¬ k < ts.length) : rowA bytes cl (ts.drop k) k arcs order = (arcs, order) := by
 rw [List.drop_of_length_le (by omega), rowA]
theorem num_map (cl order : List Nat) (t : Nat) : (order.map fun o => cl.getD o 0).findIdx? (fun y => decide (y = cl.getD t 0)) = order.findIdx? (fun o => decide (cl.getD o 0 = cl.getD t 0)) := by
 rw [List.findIdx?_map]
 rfl
end Go.Proofs.YtpkecepelcppiaaGreatDoor

namespace Go.Proofs.YtpkecepelcppiaaGreatDoor
open Go.RowKit Go.Shelf Go.Maps
set_option maxHeartbeats 4000000
set_option maxRecDepth 100000

theorem wpl_insert_own {H : Type} {P : Program} (w : World) {ops : Array Oper} {rest : List Oper} {o : Oper} {a : Act} {Q : Exit → Act → World → Prop}
  (hg : o.guard = none) (m x v : Operand) (t : TypeId) (hop : o.op = Op.insert t m x v)
  (k e : TypeId) (K : Keyed P k) (ht : P.underlying t = some (.map k e)) (R : Value → Option (DataW H × List MemPlace)) (b n : Nat) (D : DataW H)
  (hm : a.eval m = .map (some b)) (hown : w.ownsMap P k R b n D) (hn : n < maxLen) (key val : Value) (kl : Lit) (hx : a.eval x = key) (hv : a.eval v = val) (hkey : keyOf P k key = some kl)
  (d : DataW H) (ps : List MemPlace) (hval : R val = some (d, ps))
  (hK : ∀ w', w'.ownsMap P k R b (n + 1) (D.put kl d) → w.grownBy w' (some b) → wpList P ops Q rest (a.put o.dst undef) w') :
  wpList P ops Q (o :: rest) a w := by
 refine wpList_plain hg fun K' hK' => ?_
 obtain ⟨w', hrun, r1, r2⟩ := hown.update K ht hn hkey hval
 unfold Oper.wp
 simp [execOp, hop, hm, hx, hv, hrun, Result.andThen]
 exact hK' _ _ (hK w' r1 r2)
theorem keyedInt : Keyed Tryz.prog 3 := int_keyed Tryz.underlying3
theorem nat_wf (n : Nat) (h : n ≤ 1000000) : (Lit.int .i64 (n : Int)).wf = true := by
 show (decide (IntKind.i64.min ≤ (n : Int)) && decide ((n : Int) ≤ IntKind.i64.max)) = true
 rw [Bool.and_eq_true]
 exact ⟨decide_eq_true (by show (-9223372036854775808 : Int) ≤ _; omega), decide_eq_true (by show _ ≤ (9223372036854775807 : Int); omega)⟩
theorem keyI (c : Nat) (h : c ≤ 1000000) : keyOf Tryz.prog 3 (.int .i64 (c : Int)) = some (kI c) := keyOf_int_mk Tryz.underlying3 (nat_wf c h)
theorem kI_key (c : Nat) : WideAt.IsKeyLit (kI c) := trivial
structure NQ (X : Nat → Prop) (bO : Nat) (mv : Value) (w wr : World) (ov sv : Value) (ks order : List Nat) (ps : List (Bool × Value)) (ml : List StA) (D : DataW Unit) : Prop where
 bel : Below w.heap.size w wr
 base : w.heap.size + 3 ≤ bO ∧ bO < wr.heap.size
 mach : BoxV w.heap.size 29 [mv] wr
 res : BoxV (w.heap.size + 1) 29 [.slice none 0 0] wr
 map : wr.ownsMap (H := Unit) Tryz.prog 3 (plainElem Tryz.prog 3) (w.heap.size + 2) ks.length D
 num : NumM kI D ks
 outb : BoxV bO 29 [sv] wr
 ord : OwnL (w.heap.size + 3) 3 1 natV wr ov order
 ordk : ∀ g, ov.ownBlock = some g → g ≠ bO ∧ sv.ownBlock ≠ some g ∧ ¬ X g
 own : OwnL (bO + 1) 70 2 stV wr sv ps
 ownx : ∀ g, sv.ownBlock = some g → ¬ X g
 len : ps.length = ml.length
 at_ : ∀ i (h1 : i < ps.length) (h2 : i < ml.length), ps[i].1 = ml[i].acc ∧ RdA (fun g => bO + 1 ≤ g ∧ sv.ownBlock ≠ some g ∧ ov.ownBlock ≠ some g ∧ ¬ X g) wr ps[i].2 ml[i].arcs
 xs : ∀ g, X g → bO + 1 ≤ g ∧ g < wr.heap.size
theorem RdA.keepAs {N M : Nat → Prop} {w w' : World} {v : Value} {l : List ArcA} (h : RdA N w v l) (hs : ∀ g, N g → g < w.heap.size → w'.heap[g]? = w.heap[g]?) (hm : ∀ g, N g → g < w.heap.size → M g) : RdA M w' v l := by
 have h1 : RdA (fun g => N g ∧ g < w.heap.size) w v l := h.mono (fun g hg hl => ⟨hg, hl⟩)
 exact (h1.keep (fun g hg hl => hs g hg.1 hl)).mono (fun g hg _ => hm g hg.1 hg.2)
theorem ownsMap_keep {w w' : World} {b n : Nat} {D : DataW Unit} (h : w.ownsMap (H := Unit) Tryz.prog 3 (plainElem Tryz.prog 3) b n D) (hk : w'.heap[b]? = w.heap[b]?) : w'.ownsMap (H := Unit) Tryz.prog 3 (plainElem Tryz.prog 3) b n D := by
 obtain ⟨es, clock, hb, F, hs, hD⟩ := h
 exact ⟨es, clock, hk.trans hb, F, hs, hD⟩
theorem NQ.keep {X X' : Nat → Prop} {bO : Nat} {mv : Value} {w wr w' : World} {ov sv : Value} {ks order : List Nat} {ps : List (Bool × Value)} {ml : List StA} {D : DataW Unit} (h : NQ X bO mv w wr ov sv ks order ps ml D)
  (hb : Below w.heap.size wr w') (hk : ∀ g, w.heap.size ≤ g → g < wr.heap.size → ¬ X g → w'.heap[g]? = wr.heap[g]?) (hx : ∀ g, X' g → X g ∨ wr.heap.size ≤ g) (hx2 : ∀ g, X' g → g < w'.heap.size) : NQ X' bO mv w w' ov sv ks order ps ml D := by
 have hb1 := h.base.1
 have hb2 := h.base.2
 have hnx : ∀ g, g < bO + 1 → ¬ X g := fun g hg hxg => by have := h.xs g hxg; omega
 have hnx' : ∀ g, g < wr.heap.size → ¬ X g → ¬ X' g := fun g hg h1 h2 => (hx g h2).elim h1 (fun h3 => by omega)
 refine ⟨h.bel.trans hb, ⟨hb1, Nat.lt_of_lt_of_le hb2 hb.size⟩, h.mach.keep (hk _ (Nat.le_refl _) h.mach.lt (hnx _ (by omega))), h.res.keep (hk _ (by omega) h.res.lt (hnx _ (by omega))), ownsMap_keep h.map (hk _ (by omega) h.map.lt (hnx _ (by omega))), h.num, h.outb.keep (hk _ (by omega) hb2 (hnx _ (by omega))), h.ord.keep (fun g hg hl hs => hk g (by omega) hs (h.ordk g hg).2.2), fun g hg => ⟨(h.ordk g hg).1, (h.ordk g hg).2.1, hnx' g (h.ord.lt g hg).2 (h.ordk g hg).2.2⟩, h.own.keep (fun g hg hl hs => hk g (by omega) hs (h.ownx g hg)), fun g hg => hnx' g (h.own.lt g hg).2 (h.ownx g hg), h.len, fun i h1 h2 => ⟨(h.at_ i h1 h2).1, (h.at_ i h1 h2).2.keepAs (fun g hg hl => hk g (by omega) hl hg.2.2.2) (fun g hg hl => ⟨hg.1, hg.2.1, hg.2.2.1, hnx' g hl hg.2.2.2⟩)⟩, fun g hg => ⟨?_, hx2 g hg⟩⟩
 rcases hx g hg with h3 | h3
 ·exact (h.xs g h3).1
 ·omega
theorem NQ.mapStep {X : Nat → Prop} {bO : Nat} {mv : Value} {w wr w' : World} {ov sv : Value} {ks ks' order : List Nat} {ps : List (Bool × Value)} {ml : List StA} {D D' : DataW Unit} (h : NQ X bO mv w wr ov sv ks order ps ml D)
  (hg : wr.grownBy w' (some (w.heap.size + 2))) (hm : w'.ownsMap (H := Unit) Tryz.prog 3 (plainElem Tryz.prog 3) (w.heap.size + 2) ks'.length D') (hn : NumM kI D' ks') : NQ X bO mv w w' ov sv ks' order ps ml D' := by
 have hb1 := h.base.1
 have hb2 := h.base.2
 have hk : ∀ g, g < wr.heap.size → g ≠ w.heap.size + 2 → w'.heap[g]? = wr.heap[g]? := fun g h1 h2 => hg.block g h1 (fun e => h2 (Option.some.inj e))
 exact ⟨h.bel.trans ⟨hg.os, hg.tape, hg.output, hg.size, fun g hl => hk g (by omega) (by omega)⟩, ⟨hb1, Nat.lt_of_lt_of_le hb2 hg.size⟩, h.mach.keep (hk _ h.mach.lt (by omega)), h.res.keep (hk _ h.res.lt (by omega)), hm, hn, h.outb.keep (hk _ hb2 (by omega)), h.ord.keep (fun g _ hl hs => hk g hs (by omega)), h.ordk, h.own.keep (fun g _ hl hs => hk g hs (by omega)), h.ownx, h.len, fun i h1 h2 => ⟨(h.at_ i h1 h2).1, (h.at_ i h1 h2).2.keep (fun g hg hl => hk g hl (by omega))⟩, fun g hx => ⟨(h.xs g hx).1, Nat.lt_of_lt_of_le (h.xs g hx).2 hg.size⟩⟩
theorem NQ.ordStep {X : Nat → Prop} {bO : Nat} {mv : Value} {w wr w' : World} {ov ov' sv : Value} {ks order order' : List Nat} {ps : List (Bool × Value)} {ml : List StA} {D : DataW Unit} (h : NQ X bO mv w wr ov sv ks order ps ml D)
  (hg : wr.grownBy w' ov.ownBlock) (hown : OwnL (w.heap.size + 3) 3 1 natV w' ov' order') (hat : ov'.ownBlock = ov.ownBlock ∨ ∃ k, wr.heap.size ≤ k ∧ ov'.ownBlock = some k) : NQ X bO mv w w' ov' sv ks order' ps ml D := by
 have hb1 := h.base.1
 have hb2 := h.base.2
 have hk : ∀ g, g < wr.heap.size → ov.ownBlock ≠ some g → w'.heap[g]? = wr.heap[g]? := fun g h1 h2 => hg.block g h1 (fun e => h2 e.symm)
 have hlow : ∀ g, g < w.heap.size + 3 → ov.ownBlock ≠ some g := fun g hl e => by have := (h.ord.lt g e).1; omega
 have hnew : ∀ g, ov'.ownBlock = some g → g < wr.heap.size → ov.ownBlock = some g := fun g e hl => by
  rcases hat with h1 | ⟨k, h1, h2⟩
  ·rw [← h1]; exact e
  ·rw [h2] at e; injection e with e; omega
 refine ⟨h.bel.trans ⟨hg.os, hg.tape, hg.output, hg.size, fun g hl => hk g (by omega) (hlow g (by omega))⟩, ⟨hb1, Nat.lt_of_lt_of_le hb2 hg.size⟩, h.mach.keep (hk _ h.mach.lt (hlow _ (by omega))), h.res.keep (hk _ h.res.lt (hlow _ (by omega))), ownsMap_keep h.map (hk _ h.map.lt (hlow _ (by omega))), h.num, h.outb.keep (hk _ hb2 (fun e => (h.ordk _ e).1 rfl)), hown, fun g e => ⟨?_, ?_, ?_⟩, h.own.keep (fun g e hl hs => hk g hs (fun e2 => (h.ordk g e2).2.1 e)), h.ownx, h.len, fun i h1 h2 => ⟨(h.at_ i h1 h2).1, (h.at_ i h1 h2).2.keepAs (fun g hg hl => hk g hl hg.2.2.1) (fun g hg hl => ⟨hg.1, hg.2.1, fun e => hg.2.2.1 (hnew g e hl), hg.2.2.2⟩)⟩, fun g hx => ⟨(h.xs g hx).1, Nat.lt_of_lt_of_le (h.xs g hx).2 hg.size⟩⟩
 ·intro hgb
  subst hgb
  exact (h.ordk _ (hnew _ e hb2)).1 rfl
 ·intro e2
  exact (h.ordk _ (hnew _ e (h.own.lt g e2).2)).2.1 e2
 ·intro hx
  exact (h.ordk _ (hnew _ e (h.xs g hx).2)).2.2 hx
theorem NQ.outStep {X : Nat → Prop} {bO : Nat} {mv : Value} {w wr w7 : World} {ov sv v' : Value} {ks order : List Nat} {ps : List (Bool × Value)} {ml : List StA} {D : DataW Unit} {acc : Bool} {av : Value} {arcs : List ArcA} (h : NQ X bO mv w wr ov sv ks order ps ml D)
  (ha : RdA X wr av arcs) (hown : OwnL (bO + 1) 70 2 stV w7 v' (ps ++ [(acc, av)])) (hg : wr.grownBy w7 sv.ownBlock) (hat : v'.ownBlock = sv.ownBlock ∨ ∃ k, wr.heap.size ≤ k ∧ v'.ownBlock = some k) :
  NQ (fun _ => False) bO mv w (w7.setCell ⟨bO, 0, none⟩ v') ov v' ks order (ps ++ [(acc, av)]) (ml ++ [⟨acc, arcs⟩]) D := by
 have hb1 := h.base.1
 have hb2 := h.base.2
 have hot : ∀ y, y ≠ bO → (w7.setCell ⟨bO, 0, none⟩ v').heap[y]? = w7.heap[y]? := fun y hy => Below.heap_setCell w7 ⟨bO, 0, none⟩ _ y hy
 have hk : ∀ g, g < wr.heap.size → g ≠ bO → sv.ownBlock ≠ some g → (w7.setCell ⟨bO, 0, none⟩ v').heap[g]? = wr.heap[g]? := fun g h1 h2 h3 => (hot g h2).trans (hg.block g h1 (fun e => h3 e.symm))
 have hlow : ∀ g, g < bO + 1 → sv.ownBlock ≠ some g := fun g hl e => by have := (h.own.lt g e).1; omega
 have hnew : ∀ g, v'.ownBlock = some g → g < wr.heap.size → sv.ownBlock = some g := fun g e hl => by
  rcases hat with h1 | ⟨k, h1, h2⟩
  ·rw [← h1]; exact e
  ·rw [h2] at e; injection e with e; omega
 have hsz : wr.heap.size ≤ (w7.setCell ⟨bO, 0, none⟩ v').heap.size := Nat.le_trans hg.size (by simp)
 have hbel : Below (bO + 1) wr w7 := ⟨hg.os, hg.tape, hg.output, hg.size, fun g hl => hg.block g (by omega) (fun e => hlow g hl e.symm)⟩
 refine ⟨(h.bel.trans (hbel.mono (by omega))).setCell (p := ⟨bO, 0, none⟩) (by show w.heap.size ≤ bO; omega) _, ⟨hb1, Nat.lt_of_lt_of_le hb2 hsz⟩, h.mach.keep (hk _ h.mach.lt (by omega) (hlow _ (by omega))), h.res.keep (hk _ h.res.lt (by omega) (hlow _ (by omega))), ownsMap_keep h.map (hk _ h.map.lt (by omega) (hlow _ (by omega))), h.num, heap_setCell_same w7 bO 0 _ _ v' ((hbel.block _ (by omega)).trans h.outb), h.ord.keep (fun g e hl hs => hk g hs (h.ordk g e).1 (h.ordk g e).2.1), fun g e => ⟨(h.ordk g e).1, fun e2 => (h.ordk g e).2.1 (hnew g e2 (h.ord.lt g e).2), fun hx => hx⟩, hown.keep (fun g e hl hs => hot g (by omega)), fun g _ hx => hx, by rw [List.length_append, List.length_append, h.len]; rfl, fun i h1 h2 => ?_, fun g hx => hx.elim⟩
 by_cases hi : i < ps.length
 ·have hi2 : i < ml.length := by rw [← h.len]; exact hi
  rw [List.getElem_append_left hi, List.getElem_append_left hi2]
  exact ⟨(h.at_ i hi hi2).1, (h.at_ i hi hi2).2.keepAs (fun g hg hl => hk g hl (by omega) hg.2.1) (fun g hg hl => ⟨hg.1, fun e => hg.2.1 (hnew g e hl), hg.2.2.1, fun hx => hx⟩)⟩
 ·have he : i = ps.length := by simp at h1; omega
  subst he
  have e2 : (ml ++ [⟨acc, arcs⟩])[ps.length]'h2 = ⟨acc, arcs⟩ := by
   rw [List.getElem_append_right (by rw [h.len]; exact Nat.le_refl _)]
   simp [h.len]
  rw [List.getElem_concat_length rfl, e2]
  exact ⟨rfl, ha.keepAs (fun g hx hl => hk g hl (by have := (h.xs g hx).1; omega) (fun e => h.ownx g e hx)) (fun g hx hl => ⟨(h.xs g hx).1, fun e => h.ownx g (hnew g e hl) hx, fun e => (h.ordk g e).2.2 hx, fun hx => hx⟩)⟩
theorem NQ.rds {X : Nat → Prop} {bO : Nat} {mv : Value} {w wr : World} {ov sv : Value} {ks order : List Nat} {ps : List (Bool × Value)} {ml : List StA} {D : DataW Unit} (h : NQ X bO mv w wr ov sv ks order ps ml D) : RdS (fun g => w.heap.size + 2 ≤ g) wr sv ml := by
 have hb1 := h.base.1
 have hs : OwnS (bO + 1) wr sv ps ml := ⟨h.own, h.len, fun i h1 h2 => ⟨(h.at_ i h1 h2).1, (h.at_ i h1 h2).2.mono (fun g hg _ => ⟨hg.1, hg.2.1⟩)⟩⟩
 exact hs.rds.mono (fun g hg _ => by omega)
def xsB (bS : Nat) (av : Value) : Nat → Prop := fun g => g = bS ∨ av.ownBlock = some g
structure NI (bS bO : Nat) (acc : Bool) (mv : Value) (w wr : World) (ov sv av : Value) (ks order : List Nat) (ps : List (Bool × Value)) (ml : List StA) (arcs : List ArcA) (D : DataW Unit) : Prop where
 q : NQ (xsB bS av) bO mv w wr ov sv ks order ps ml D
 box : BoxV bS 70 [.bool acc, av] wr
 own : OwnL (bS + 1) 72 3 arcV wr av arcs
theorem NQ.work {bO : Nat} {acc : Bool} {mv : Value} {w wr w1 : World} {ov sv : Value} {ks order : List Nat} {ps : List (Bool × Value)} {ml : List StA} {D : DataW Unit} (h : NQ (fun _ => False) bO mv w wr ov sv ks order ps ml D)
  (hbx : BoxV wr.heap.size 70 [.bool acc, .slice none 0 0] w1) (hb : Below wr.heap.size wr w1) : NI wr.heap.size bO acc mv w w1 ov sv (.slice none 0 0) ks order ps ml [] D :=
 ⟨h.keep (hb.mono (by have := h.base; omega)) (fun g _ hl _ => hb.block g hl) (fun g hg => .inr (hg.elim (fun e => Nat.le_of_eq e.symm) (fun e => by cases e))) (fun g hg => hg.elim (fun e => e ▸ hbx.lt) (fun e => by cases e)), hbx, OwnL.nil _ _ _ _ _⟩
theorem NI.stay {bS bO : Nat} {acc : Bool} {mv : Value} {w wr w1 : World} {ov sv av : Value} {ks order : List Nat} {ps : List (Bool × Value)} {ml : List StA} {arcs : List ArcA} {D : DataW Unit} (h : NI bS bO acc mv w wr ov sv av ks order ps ml arcs D)
  (hb : Below wr.heap.size wr w1) : NI bS bO acc mv w w1 ov sv av ks order ps ml arcs D :=
 ⟨h.q.keep (hb.mono (by have := h.q.base; omega)) (fun g _ hl _ => hb.block g hl) (fun g hg => .inl hg) (fun g hg => Nat.lt_of_lt_of_le (h.q.xs g hg).2 hb.size), h.box.below hb, h.own.stay hb⟩
theorem NI.mapStep {bS bO : Nat} {acc : Bool} {mv : Value} {w wr w' : World} {ov sv av : Value} {ks ks' order : List Nat} {ps : List (Bool × Value)} {ml : List StA} {arcs : List ArcA} {D D' : DataW Unit} (h : NI bS bO acc mv w wr ov sv av ks order ps ml arcs D)
  (hg : wr.grownBy w' (some (w.heap.size + 2))) (hm : w'.ownsMap (H := Unit) Tryz.prog 3 (plainElem Tryz.prog 3) (w.heap.size + 2) ks'.length D') (hn : NumM kI D' ks') : NI bS bO acc mv w w' ov sv av ks' order ps ml arcs D' := by
 have hb1 := h.q.base.1
 have hbs := (h.q.xs bS (.inl rfl)).1
 exact ⟨h.q.mapStep hg hm hn, h.box.keep (hg.block _ h.box.lt (fun e => by have := Option.some.inj e; omega)), h.own.keep (fun g _ hl hs => hg.block g hs (fun e => by have := Option.some.inj e; omega))⟩
theorem NI.ordStep {bS bO : Nat} {acc : Bool} {mv : Value} {w wr w' : World} {ov ov' sv av : Value} {ks order order' : List Nat} {ps : List (Bool × Value)} {ml : List StA} {arcs : List ArcA} {D : DataW Unit} (h : NI bS bO acc mv w wr ov sv av ks order ps ml arcs D)
  (hg : wr.grownBy w' ov.ownBlock) (hown : OwnL (w.heap.size + 3) 3 1 natV w' ov' order') (hat : ov'.ownBlock = ov.ownBlock ∨ ∃ k, wr.heap.size ≤ k ∧ ov'.ownBlock = some k) : NI bS bO acc mv w w' ov' sv av ks order' ps ml arcs D :=
 ⟨h.q.ordStep hg hown hat, h.box.keep (hg.block _ h.box.lt (fun e => (h.q.ordk bS e.symm).2.2 (.inl rfl))), h.own.keep (fun g hx _hl hs => hg.block g hs (fun e => (h.q.ordk g e.symm).2.2 (.inr hx)))⟩
theorem NI.arcStep {bS bO : Nat} {acc : Bool} {mv : Value} {w wr w7 : World} {ov sv av v' : Value} {ks order : List Nat} {ps : List (Bool × Value)} {ml : List StA} {arcs arcs' : List ArcA} {D : DataW Unit} (h : NI bS bO acc mv w wr ov sv av ks order ps ml arcs D)
  (hown : OwnL (bS + 1) 72 3 arcV w7 v' arcs') (hg : wr.grownBy w7 av.ownBlock) (hat : v'.ownBlock = av.ownBlock ∨ ∃ k, wr.heap.size ≤ k ∧ v'.ownBlock = some k) : NI bS bO acc mv w (w7.setCell ⟨bS, 1, none⟩ v') ov sv v' ks order ps ml arcs' D := by
 have hb1 := h.q.base.1
 have hb2 := h.q.base.2
 have hbs := (h.q.xs bS (.inl rfl)).1
 have hot : ∀ y, y ≠ bS → (w7.setCell ⟨bS, 1, none⟩ v').heap[y]? = w7.heap[y]? := fun y hy => Below.heap_setCell w7 ⟨bS, 1, none⟩ _ y hy
 have hbel : Below (bS + 1) wr w7 := ⟨hg.os, hg.tape, hg.output, hg.size, fun g hl => hg.block g (by have := h.box.lt; omega) (fun e => by have := (h.own.lt g e.symm).1; omega)⟩
 have hsz : wr.heap.size ≤ (w7.setCell ⟨bS, 1, none⟩ v').heap.size := Nat.le_trans hg.size (by simp)
 refine ⟨h.q.keep ((hbel.mono (by omega)).setCell (p := ⟨bS, 1, none⟩) (by show w.heap.size ≤ bS; omega) _) (fun g _ hl hx => (hot g (fun e => hx (.inl e))).trans (hg.block g hl (fun e => hx (.inr e.symm)))) (fun g hx => ?_) (fun g hx => ?_), heap_setCell_same w7 bS 1 _ _ v' ((hbel.block _ (by omega)).trans h.box), hown.keep (fun g _ hl _ => hot g (by omega))⟩
 ·rcases hx with e | e
  ·exact .inl (.inl e)
  ·rcases hat with h1 | ⟨k, h1, h2⟩
   ·exact .inl (.inr (h1 ▸ e))
   ·rw [h2] at e; injection e with e; exact .inr (e ▸ h1)
 ·rcases hx with e | e
  ·rw [e]; exact Nat.lt_of_lt_of_le h.box.lt hsz
  ·have := (hown.lt g e).2; simpa using this
theorem NI.done {bS bO : Nat} {acc : Bool} {mv : Value} {w wr w7 : World} {ov sv av v' : Value} {ks order : List Nat} {ps : List (Bool × Value)} {ml : List StA} {arcs : List ArcA} {D : DataW Unit} (h : NI bS bO acc mv w wr ov sv av ks order ps ml arcs D)
  (hown : OwnL (bO + 1) 70 2 stV w7 v' (ps ++ [(acc, av)])) (hg : wr.grownBy w7 sv.ownBlock) (hat : v'.ownBlock = sv.ownBlock ∨ ∃ k, wr.heap.size ≤ k ∧ v'.ownBlock = some k) : NQ (fun _ => False) bO mv w (w7.setCell ⟨bO, 0, none⟩ v') ov v' ks order (ps ++ [(acc, av)]) (ml ++ [⟨acc, arcs⟩]) D := by
 refine h.q.outStep ?_ hown hg hat
 obtain ⟨h1, h2⟩ := h.own.slx arcV_len
 refine ⟨h1, fun hl => ?_⟩
 obtain ⟨g, cap, rfl, hb, hgl⟩ := h2 hl
 exact ⟨g, 0, _, cap, rfl, .inr rfl⟩
structure NO (n : Nat) (F : Nat) (m : List StA) (bytes cl : List Nat) (nx : List (List Nat)) (out : List StA) (bO : Nat) (mv : Value) (w : World) (ov iv : Value) (wr : World) (f i : Nat) (order : List Nat) (ml : List StA) : Prop where
 iv : iv = .int .i64 (i : Int)
 ie : i ≤ order.length
 fe : i + f ≤ F
 few : order.length ≤ 1 + 256 * i
 lt : ∀ o ∈ order, o < n
 mll : ml.length = i
 ev : numA m bytes cl nx f i order ml = some out
 q : ∃ sv ps D, NQ (fun _ => False) bO mv w wr ov sv (order.map fun o => cl.getD o 0) order ps ml D
theorem NO.least {n F : Nat} {m : List StA} {bytes cl : List Nat} {nx : List (List Nat)} {out : List StA} {bO : Nat} {mv : Value} {w : World} {ov iv : Value} {wr : World} {f i : Nat} {order : List Nat} {ml : List StA} (h : NO n F m bytes cl nx out bO mv w ov iv wr f i order ml) :
  ∃ μ i order ml, NO n F m bytes cl nx out bO mv w ov iv wr μ i order ml ∧ minN (fun f => ∃ i order ml, NO n F m bytes cl nx out bO mv w ov iv wr f i order ml) = μ := by
 obtain ⟨i, order, ml, hP⟩ := minN_spec (P := fun f => ∃ i order ml, NO n F m bytes cl nx out bO mv w ov iv wr f i order ml) ⟨f, i, order, ml, h⟩
 exact ⟨_, i, order, ml, hP, rfl⟩
theorem num_end {m : List StA} {bytes cl : List Nat} {nx : List (List Nat)} {f i : Nat} {order : List Nat} {ml out : List StA} (h : numA m bytes cl nx f i order ml = some out) (hi : ¬ i < order.length) : out = ml := by
 cases f with
 | zero => rw [numA] at h; cases h
 | succ f =>
  rw [numA, List.getElem?_eq_none (by omega)] at h
  exact (Option.some.inj h).symm
theorem num_step {m : List StA} {bytes cl : List Nat} {nx : List (List Nat)} {f i : Nat} {order : List Nat} {ml : List StA} (hi : i < order.length) {arcs : List ArcA} {order' : List Nat} (hr : rowA bytes cl ((nx.getD order[i] []).drop 0) 0 [] order = (arcs, order')) :
  numA m bytes cl nx (f + 1) i order ml = numA m bytes cl nx f (i + 1) order' (ml ++ [⟨accOf m order[i], arcs⟩]) := by
 rw [List.drop_zero] at hr
 rw [numA, List.getElem?_eq_getElem hi]
 dsimp only
 rw [hr]
theorem addArcA_len (l : List ArcA) (lo hi nx : Nat) : (addArcA l lo hi nx).length ≤ l.length + 1 := by
 rcases List.eq_nil_or_concat l with rfl | ⟨l', a, rfl⟩
 ·simp [addArcA]
 ·rw [List.concat_eq_append, addArcA_last]
  split <;> simp
end Go.Proofs.YtpkecepelcppiaaGreatDoor

namespace Go.Proofs.YtpkecepelcppiaaGreatDoor
open Go.RowKit Go.Shelf Go.Maps
set_option maxHeartbeats 8000000
set_option maxRecDepth 100000

theorem cell_ltZ {w : World} {g o : Nat} {v : Value} (h : w.cell? ⟨g, o, none⟩ = some v) : g < w.heap.size := by
 rcases Nat.lt_or_ge g w.heap.size with h1 | h1
 ·exact h1
 ·simp [World.cell?, Array.getElem?_eq_none h1] at h
theorem zeroIntZ (w : World) : (zeroValue 3).run Tryz.prog w = .ok (.int .i64 0) w := by kernel_rfl
theorem numbered_any (N : Nat → Prop) (F : Nat) (m out : List StA) (bytes cl : List Nat) (nx : List (List Nat)) (mv bv : Value) (gN gc : Nat) (RV : Nat → Value) (w : World)
  (hm : RdS N w mv m) (hn : m.length < 1000) (h0 : 0 < m.length) (hb : RdNm w bv bytes) (hb256 : bytes.length ≤ 256) (hbp : ∀ i b, bytes[i + 1]? = some b → 1 ≤ b ∧ b ≤ 255)
  (hnx : w.rowIs gN 82 m.length RV) (hrow : ∀ q, q < m.length → RdNm w (RV q) (nx.getD q []) ∧ (nx.getD q []).length ≤ bytes.length ∧ ∀ t ∈ nx.getD q [], t < m.length)
  (hcl : w.rowIs gc 3 m.length (fun i => .int .i64 ((cl.getD i 0 : Nat) : Int))) (hcc : ∀ i, cl.getD i 0 < 1000)
  (hF : F ≤ 1000) (hev : numA m bytes cl nx F 0 [0] [] = some out) :
  Calls Tryz.prog 123 #[.agg #[mv], bv, .slice (some ⟨gN, 0, none⟩) m.length m.length, .slice (some ⟨gc, 0, none⟩) m.length m.length] w fun e w' => ∃ v', e = .returned (.agg #[v']) ∧ RdS (fun g => w.heap.size ≤ g) w' v' out ∧ Below w.heap.size w w' := by
 obtain ⟨a, cap, rfl, hml⟩ := hm.form
 obtain ⟨ba, bcap, rfl, -⟩ := hb.form
 have hmi0 : (0 : Int) < m.length := by omega
 have hmi : (m.length : Int) < 1000 := by omega
 have hbi : (bytes.length : Int) ≤ 256 := by omega
 have HM := Lib.hid hm
 have HN := Lib.hid hn
 have HB := Lib.hid hb
 have HB256 := Lib.hid hb256
 have HBP := Lib.hid hbp
 have HNX := Lib.hid hnx
 have HROW := Lib.hid hrow
 have HCL := Lib.hid hcl
 have HCC := Lib.hid hcc
 have HF := Lib.hid hF
 have HEV := Lib.hid hev
 have H0 := Lib.hid h0
 have hmkm := @run_makeMap Tryz.prog
 clear hm hn hb hb256 hbp hnx hrow hcl hcc hF hev hml h0
 go_enter Tryz.func123, Tryz.ntmps123
 go_upto_region 1 with fail
 generalize hW : World.alloc w _ = w1
 obtain ⟨hbx, -, hz1, hb1⟩ := alloc_of hW
 generalize hWb : World.alloc w1 _ = w2
 obtain ⟨hbx2, -, hz2, hb2⟩ := alloc_of hWb
 rw [hz1] at hbx2
 have HBX := Lib.hid (show BoxV w.heap.size 29 [.slice a m.length cap] w2 from (hb2.block _ (by omega)).trans hbx)
 have HBR := Lib.hid (show BoxV (w.heap.size + 1) 29 [.slice none 0 0] w2 from hbx2)
 have HB2 := Lib.hid (hb1.trans (hb2.mono hb1.size))
 have HZ2 : Hid (w2.heap.size = w.heap.size + 2) := by unfold Hid; rw [hz2, hz1]
 have c0 : (w2.alloc (.map #[] 0)).cell? ⟨gc, 0, none⟩ = some (.int .i64 ((cl.getD 0 0 : Nat) : Int)) := ((HCL.out.of_block (HB2.out.block _ HCL.out.lt)).of_block (heap_alloc_old w2 _ (Nat.lt_of_lt_of_le HCL.out.lt HB2.out.size))).cell H0.out
 have HK0 := Lib.hid (keyI (cl.getD 0 0) (by have := HCC.out 0; omega))
 have HCX := Lib.hid (HCC.out 0)
 obtain ⟨cx, hcx⟩ : ∃ c, c = cl.getD 0 0 := ⟨_, rfl⟩
 rw [← hcx] at c0 HK0 HCX
 have HCXE := Lib.hid hcx
 clear hW hbx hz1 hb1 hWb hbx2 hz2 hb2 hcx
 go_upto_region 2 with (refine wpl_insert_own _ rfl _ _ _ 178 rfl 3 3 keyedInt Tryz.underlying178 _ _ 0 (.map []) rfl (World.ownsMap_made w2 Tryz.prog 3 (plainElem (H := Unit) Tryz.prog 3)) (by decide) _ _ _ rfl rfl HK0.out _ [] (plainElem_int Tryz.underlying3 (nat_wf 0 (by decide))) ?_; intro w4 hown4 hg4; have HM4 := Lib.hid hown4; have HG4 := Lib.hid hg4; clear hown4 hg4)
 have HB4 := Lib.hid (((Below.refl w2.heap.size w2).alloc (Nat.le_refl _) (.map #[] 0)).grown HG4.out (by simp) (fun j hj => by cases hj; exact Nat.le_refl _))
 rw [HZ2.out]
 clear c0 HK0 HG4
 go_upto_region 3 with fail
 generalize hW : World.alloc w4 _ = w5
 obtain ⟨hbx, -, hz1, hb1⟩ := alloc_of hW
 have HOW := Lib.hid (show OwnL (w.heap.size + 3) 3 1 natV w5 (.slice (some ⟨w4.heap.size, 0, none⟩) 1 1) [0] from ⟨rfl, .inr ⟨w4.heap.size, 1, _, rfl, by have := HM4.out.lt; have := HZ2.out; omega, hbx, Nat.le_refl _, by decide, rfl, rfl⟩⟩)
 go_upto_region 4 with fail
 generalize hW2 : World.alloc w5 _ = w6
 obtain ⟨hbx2, -, hz2, hb2⟩ := alloc_of hW2
 have HNO := Lib.hid (show NO m.length F m bytes cl nx out w5.heap.size (.slice a m.length cap) w (.slice (some ⟨w4.heap.size, 0, none⟩) 1 1) (.int .i64 0) w6 F 0 [0] [] from by
  have hz := HZ2.out
  have hm4 := HM4.out.lt
  have h46 := hb1.trans (hb2.mono hb1.size)
  have h24 := HB4.out
  have hm4' := HM4.out
  rw [hz] at hm4'
  refine ⟨rfl, Nat.zero_le _, by omega, by decide, fun o ho => by rw [List.mem_singleton.1 ho]; exact H0.out, rfl, HEV.out, .slice none 0 0, [], _, ⟨HB2.out.trans (h24.trans (h46.mono h24.size) |>.mono (by omega)), ⟨by omega, by omega⟩, (HBX.out.below h24).below h46, (HBR.out.below h24).below h46, ownsMap_keep hm4' (h46.block _ (by omega)), ?_, hbx2, HOW.out.stay hb2, fun g hg => ⟨?_, (fun h => by cases h), fun h => h⟩, OwnL.nil _ _ _ _ _, (fun g hg => (by cases hg)), rfl, (fun i h1 => absurd h1 (Nat.not_lt_zero _)), fun g hg => False.elim hg⟩⟩
  ·rw [HCXE.out]
   exact NumM.push kI_inj kI_key (NumM.nil kI) (cl.getD 0 0) rfl
  ·have h3 : w4.heap.size = g := Option.some.inj hg
   omega)
 rw [hz1] at HNO
 clear hW hbx hz1 hb1 hW2 hbx2 hz2 hb2 HOW
 generalize w4.heap.size + 1 = bO at *
 generalize w4.heap.size = bD at *
 go_wp2_with fail
 go_loopw [10, 12] (fun ov iv wr => ∃ (f i : Nat) (order : List Nat) (ml : List StA), Hid (NO m.length F m bytes cl nx out bO (.slice a m.length cap) w ov iv wr f i order ml)) (fun ov iv wr => minN (fun f => ∃ i order ml, NO m.length F m bytes cl nx out bO (.slice a m.length cap) w ov iv wr f i order ml))
 case atStart => exact ⟨F, 0, [0], [], HNO.out⟩
 case round =>
  clear HNO HM4 HB4 HCXE HCX HZ2 HBX HBR HB2 hmkm
  obtain ⟨f0, i0, ord0, ml0, h0⟩ := hrel
  obtain ⟨μ, i, order, ml, hP, hμ⟩ := h0.out.least
  have hiv := hP.iv
  subst hiv
  obtain ⟨sv, ps, D, hq⟩ := hP.q
  obtain ⟨A, ocap, hov, -⟩ := hq.ord.form
  subst hov
  have HMU := Lib.hid hμ
  have HQ := Lib.hid hq
  have HP := Lib.hid hP
  have hoi : (order.length : Int) ≤ 300000 := by have h1 := hP.few; have h2 := hP.fe; have h3 := HF.out; have h4 := hP.ie; have h5 : i ≤ 1000 := (by omega); omega
  clear hq hP hμ h0 f0 i0 ord0 ml0
  by_cases hlt : i < order.length
  case neg =>
   have hge : ¬ (i : Int) < order.length := by omega
   have HE := Lib.hid (num_end HP.out.ev hlt)
   clear hlt
   obtain ⟨sa, scap, hsv, -⟩ := HQ.out.own.form
   rw [hsv] at HQ
   have z0 := HQ.out.res.cell 0
   have y0 := HQ.out.res.free 0
   have x0 := HQ.out.outb.cell 0
   simp only [List.getElem?_cons_zero] at z0 x0
   go_wp2_with fail
   refine bodyPost_ret (v := .agg #[.slice sa ps.length scap]) ?_ rfl ⟨_, rfl, ?_, ?_⟩
   ·have hbx : BoxV (w.heap.size + 1) 29 [.slice sa ps.length scap] (wr.setCell ⟨w.heap.size + 1, 0, none⟩ (.slice sa ps.length scap)) := heap_setCell_same wr (w.heap.size + 1) 0 _ _ _ HQ.out.res
    have q0 := hbx.cell 0
    simp only [List.getElem?_cons_zero] at q0
    simp [results, Tryz.results123, go_sem, q0]
   ·rw [HE.out]
    exact (HQ.out.rds.keep (fun g hg _ => Below.heap_setCell wr ⟨w.heap.size + 1, 0, none⟩ _ g (by show g ≠ w.heap.size + 1; omega))).mono (fun g hg _ => by omega)
   ·exact HQ.out.bel.setCell (p := ⟨w.heap.size + 1, 0, none⟩) (by show w.heap.size ≤ w.heap.size + 1; omega) _
  case pos =>
   have hlti : (i : Int) < order.length := by omega
   cases μ with
   | zero => exact absurd HP.out.ev (by rw [numA]; intro h; cases h)
   | succ f1 =>
    obtain ⟨go, oo, rfl, ho⟩ := HQ.out.ord.n2.1.at_ i hlt
    obtain ⟨qn, hqn⟩ : ∃ q, q = order[i] := ⟨_, rfl⟩
    rw [← hqn] at ho
    have hql : qn < m.length := by rw [hqn]; exact HP.out.lt _ (List.getElem_mem hlt)
    have hqi : (qn : Int) < m.length := by omega
    have HST := Lib.hid (fun arcs order' => num_step (m := m) (bytes := bytes) (cl := cl) (nx := nx) (f := f1) (ml := ml) hlt (arcs := arcs) (order' := order'))
    rw [← hqn] at HST
    obtain ⟨g, o, b0, k0, c0, rfl, m0, m1, hk0, -⟩ := HM.out.at_ qn hql
    have hgl := cell_ltZ m0
    replace m0 := (HQ.out.bel.cell (p := ⟨g, o + qn * 2, none⟩) hgl).trans m0
    have hacc : accOf m qn = m[qn].acc := acc_eq hql
    rw [← hacc] at m0
    generalize accOf m qn = acc at *
    obtain ⟨hr1, hr2, hr3⟩ := HROW.out qn hql
    have n1 := (HNX.out.of_block (HQ.out.bel.block _ HNX.out.lt)).cell hql
    obtain ⟨ra, rcap, hrv, -⟩ := hr1.form
    rw [hrv] at hr1 n1
    generalize nx.getD qn [] = ts at *
    have hti : (ts.length : Int) ≤ 256 := by have := HB256.out; omega
    have HRD := Lib.hid hr1
    have HTL := Lib.hid hr2
    have HTN := Lib.hid hr3
    have HQL := Lib.hid hql
    have HLT := Lib.hid hlt
    have x0 := HQ.out.mach.cell 0
    simp only [List.getElem?_cons_zero] at x0
    clear hr1 hr2 hr3 hrv hgl m1 hk0 hacc hql hlt hqn
    go_upto_region 9 with fail
    generalize hW : World.alloc wr _ = wB
    obtain ⟨hbx, -, hz1, hb1⟩ := alloc_of hW
    have HI := Lib.hid (HQ.out.work (show BoxV wr.heap.size 70 [.bool acc, .slice none 0 0] wB from hbx) hb1)
    have hgN := (HNX.out.of_block (HQ.out.bel.block _ HNX.out.lt)).lt
    replace n1 := (hb1.cell (p := ⟨gN, qn, none⟩) hgN).trans n1
    generalize wr.heap.size = bS at *
    clear hW hbx hz1 hb1 hgN m0 x0 ho
    obtain ⟨arcF, ordF, hR⟩ : ∃ a o, rowA bytes cl (ts.drop 0) 0 [] order = (a, o) := ⟨_, _, rfl⟩
    have HR := Lib.hid hR
    have HEVN := Lib.hid ((HST.out _ _ hR).symm.trans HP.out.ev)
    have HFE := Lib.hid HP.out.few
    have HLO := Lib.hid HP.out.lt
    clear hR
    obtain ⟨wO, hwO⟩ : ∃ x, x = wr := ⟨_, rfl⟩
    subst hwO
    go_wp2_with fail
    go_loopw [10, 47] (fun ov kv wr => ∃ (k : Nat) (av : Value) (order2 : List Nat) (arcs : List ArcA) (D2 : DataW Unit), kv = .int .i64 (k : Int) ∧ k ≤ ts.length ∧ Hid (NI bS bO acc (.slice (some ⟨g, o, none⟩) m.length cap) w wr ov sv av (order2.map fun o => cl.getD o 0) order2 ps ml arcs D2) ∧ Hid (rowA bytes cl (ts.drop k) k arcs order2 = (arcF, ordF)) ∧ Hid (order2.length ≤ 1 + 256 * i + k) ∧ Hid (arcs.length ≤ k) ∧ Hid (∀ o ∈ order2, o < m.length) ∧ Hid (i < order2.length)) (fun _ kv _ => ts.length - (intOf kv).toNat)
    case atStart => exact ⟨0, _, order, [], D, rfl, Nat.zero_le _, HI.out, HR.out, HFE.out, Nat.le_refl _, HLO.out, HLT.out⟩
    case round =>
     clear HI HR HFE HLO HLT HQ n1
     obtain ⟨k, av, order2, arcs, D2, rfl, hk, HI, HEV2, HFEW, HALN, HLT2, HIE⟩ := hrel
     obtain ⟨A2, cap2, hov, -⟩ := HI.out.q.ord.form
     subst hov
     obtain ⟨aA, acap, hav, -⟩ := HI.out.own.form
     subst hav
     have hoi2 : (order2.length : Int) ≤ 400000 := by have h1 := HFEW.out; have h2 := HP.out.fe; have h3 := HF.out; omega
     by_cases hkt : k < ts.length
     case neg =>
      have hge : ¬ (k : Int) < ts.length := by omega
      obtain ⟨hra, hro⟩ := Prod.mk.inj ((row_end hkt).symm.trans HEV2.out)
      subst hra
      subst hro
      obtain ⟨sa, scap, hsv, -⟩ := HI.out.q.own.form
      subst hsv
      have o0 := HI.out.q.outb.cell 0
      have s0 := HI.out.box.cell 0
      have s1 := HI.out.box.cell 1
      simp only [List.getElem?_cons_zero, List.getElem?_cons_succ] at o0 s0 s1
      have HPL : Hid (ps.length ≤ 1000) := by have h1 := HI.out.q.len; have h2 := HP.out.mll; have h3 := HP.out.fe; have h4 := HF.out; unfold Hid; omega
      have HKK : Hid (k ≤ 256) := by unfold Hid; omega
      clear hkt HEV2 hk
      go_wp2_with (at_builtin; refine wpl_pushL (f := stV) (x := (acc, .slice aA arcs.length acap)) (v := .slice sa ps.length scap) (l := ps) (B := bO + 1) (e := 70) (sz := 2) _ _ rfl rfl elemS stV_len (by decide) (stV_one _ _ _ _) HI.out.q.own rfl rfl rfl (by have := HPL.out; omega) HI.out.q.base.2 ?_; intro v3 w3 hown3 hg3 hfm3 hat3; obtain ⟨A3, cap3, rfl⟩ := hfm3; have hbo : BoxV bO 29 [.slice sa ps.length scap] w3 := HI.out.q.outb.keep (hg3.block bO HI.out.q.base.2 (fun e => by have := (HI.out.q.own.lt bO e.symm).1; omega)); have f3 := hbo.free 0; have o3 := hbo.cell 0; simp only [List.getElem?_cons_zero] at o3; have HNQ := Lib.hid (HI.out.done hown3 hg3 hat3); clear hown3 hg3 hat3 hbo o0 s0 s1)
      have HNN := Lib.hid (show NO m.length F m bytes cl nx out bO (.slice (some ⟨g, o, none⟩) m.length cap) w (.slice A2 order2.length cap2) (.int .i64 ((i : Int) + 1)) _ f1 (i + 1) order2 (ml ++ [⟨acc, arcs⟩]) from ⟨by simp, HIE.out, by have := HP.out.fe; omega, by have h1 := HFEW.out; have h2 := HKK.out; omega, HLT2.out, by rw [List.length_append, HP.out.mll]; rfl, HEVN.out, _, _, _, HNQ.out⟩)
      exact ⟨⟨f1, i + 1, order2, _, HNN.out⟩, by rw [HMU.out]; exact Nat.lt_succ_of_le (minN_le ⟨_, _, _, HNN.out⟩)⟩
     case pos =>
      have hkti : (k : Int) < ts.length := by omega
      obtain ⟨gr, orr, rfl, hcr⟩ := (HRD.out.stay HI.out.q.bel).at_ k hkt
      obtain ⟨t, ht⟩ : ∃ t, t = ts[k] := ⟨_, rfl⟩
      rw [← ht] at hcr
      have htn : t < m.length := by rw [ht]; exact HTN.out _ (List.getElem_mem hkt)
      have hti2 : (t : Int) < m.length := by omega
      have hkb : k < bytes.length := by have := HTL.out; omega
      have hkbi : (k : Int) < bytes.length := by omega
      obtain ⟨gb, ob, rfl, y9⟩ := HB.out.at_ k hkb
      have HGB := Lib.hid (cell_ltZ y9)
      have HY9 : Hid (w.cell? ⟨gb, ob + k, none⟩ = some (.int .i64 ((bytes[k] : Nat) : Int))) := y9
      replace y9 := (HI.out.q.bel.cell (p := ⟨gb, ob + k, none⟩) HGB.out).trans y9
      obtain ⟨b, hbe⟩ : ∃ b, b = bytes[k] := ⟨_, rfl⟩
      rw [← hbe] at y9 HY9
      have HBE : Hid (bytes.getD k 0 = b) := by unfold Hid; rw [hbe, List.getD_eq_getElem?_getD, List.getElem?_eq_getElem hkb]; rfl
      have HHI := Lib.hid (fun w' (hb : Below w.heap.size w w') => hiOf_any bytes _ k w' (HB.out.stay hb) hkb (fun b hb2 => HBP.out k b hb2))
      have c2 := (HCL.out.of_block (HI.out.q.bel.block _ HCL.out.lt)).cell htn
      obtain ⟨ct, hct⟩ : ∃ c, c = cl.getD t 0 := ⟨_, rfl⟩
      rw [← hct] at c2
      have hct1 : ct < 1000 := by rw [hct]; exact HCC.out t
      have HKO := Lib.hid (keyI ct (by omega))
      have HMP := Lib.hid HI.out.q.map
      have HNU := Lib.hid HI.out.q.num
      have hnm := num_map cl order2 t
      rw [← hct] at hnm
      have HCTE := Lib.hid hct
      have HKT : Hid (k + 1 ≤ ts.length) := hkt
      have HTM := Lib.hid htn
      cases hfi : order2.findIdx? (fun o => decide (cl.getD o 0 = ct)) with
      | some nI =>
       rw [hfi] at hnm
       have HHAS : Hid (has D2 (kI ct) = true) := by unfold Hid; rw [HNU.out.has_, hnm]; rfl
       have HNUM := Lib.hid (HNU.out.num ct nI hnm)
       have HEV3 : Hid (rowA bytes cl (ts.drop (k + 1)) (k + 1) (addArcA arcs b (hiA bytes k) nI) order2 = (arcF, ordF)) := by
        unfold Hid
        rw [← HEV2.out, row_hit hkt (n := nI) (by rw [← ht, ← hct]; exact hfi), HBE.out]
       have HFEW3 := HFEW
       have HLT3 := HLT2
       have HIE3 := HIE
       clear hfi hnm hkt ht htn hct hbe hkb hct1 HEV2 HCTE HBE HLT2
       go_upto_region 17 with (refine wpl_look_ok rfl rfl keyedInt Tryz.underlying178 Tryz.underlying3 (zeroIntZ _) rfl HMP.out rfl HKO.out true (nI : Int) HHAS.out HNUM.out ?_)
       have HI9 := Lib.hid HI.out
       obtain ⟨wR, hwR⟩ : ∃ x, x = wr := ⟨_, rfl⟩
       subst hwR
       obtain ⟨order3, hor3⟩ : ∃ x, x = order2 := ⟨_, rfl⟩
       subst hor3
       obtain ⟨D3, hD3⟩ : ∃ x, x = D2 := ⟨_, rfl⟩
       subst hD3
       clear HI HMP HNU HHAS HNUM HKO hcr c2
       go_upto_region 17 with fail
       replace HI9 := Lib.hid (HI9.out.stay (drewBn wR))
       have hS0 : wR.drew.cell? ⟨bS, 1, none⟩ = some (.slice aA arcs.length acap) ∧ wR.drew.cell? ⟨gb, ob + k, none⟩ = some (.int .i64 (b : Int)) := ⟨HI9.out.box.cell 1, y9⟩
       clear y9
       refine wpq_region (fun w' => w'.cell? ⟨bS, 1, none⟩ = some (.slice aA arcs.length acap) ∧ w'.cell? ⟨gb, ob + k, none⟩ = some (.int .i64 (b : Int))) 12 (by kernel_rfl) hS0 (fun hHeld => ?_)
       clear hS0
       generalize wR.drew = wd at *
       refine wpq_tk 0 (some 75) [12] (Or.inl ⟨by rfl, fun w hSw => by (obtain ⟨x0, y0⟩ := hSw; go_simp; with_reducible rfl)⟩) hHeld ?_ rfl rfl
       simp only [Act.put, sA, sZ, sS]
       refine wpq_tk 1 (some 76) [12] (Or.inl ⟨by rfl, fun w hSw => by (obtain ⟨x0, y0⟩ := hSw; go_simp; with_reducible rfl)⟩) hHeld ?_ rfl rfl
       simp only [Act.put, sA, sZ, sS]
       refine wpq_tk 2 (some 77) [12] (Or.inl ⟨by rfl, fun w hSw => by (obtain ⟨x0, y0⟩ := hSw; go_simp; with_reducible rfl)⟩) hHeld ?_ rfl rfl
       simp only [Act.put, sA, sZ, sS]
       refine wpq_tk 3 (some 78) [12] (Or.inl ⟨by rfl, fun w hSw => by (obtain ⟨x0, y0⟩ := hSw; go_simp; with_reducible rfl)⟩) hHeld ?_ rfl rfl
       simp only [Act.put, sA, sZ, sS]
       refine wpq_tk 4 (some 79) [12] (Or.inl ⟨by rfl, fun w hSw => by (obtain ⟨x0, y0⟩ := hSw; go_simp; with_reducible rfl)⟩) hHeld ?_ rfl rfl
       simp only [Act.put, sA, sZ, sS]
       refine wpq_tk 5 (some 80) [12] (Or.inl ⟨by rfl, fun w hSw => by (obtain ⟨x0, y0⟩ := hSw; go_simp; with_reducible rfl)⟩) hHeld ?_ rfl rfl
       simp only [Act.put, sA, sZ, sS]
       refine wpq_tk 6 (some 81) [12] (Or.inl ⟨by rfl, fun w hSw => by (obtain ⟨x0, y0⟩ := hSw; go_simp; with_reducible rfl)⟩) hHeld ?_ rfl rfl
       simp only [Act.put, sA, sZ, sS]
       refine wpq_tk 7 (some 82) [12] (Or.inl ⟨by rfl, fun w hSw => by (obtain ⟨x0, y0⟩ := hSw; go_simp; with_reducible rfl)⟩) hHeld ?_ rfl rfl
       simp only [Act.put, sA, sZ, sS]
       refine wpq_tk 9 (some 84) [12] (Or.inl ⟨by rfl, fun w hSw => by (obtain ⟨x0, y0⟩ := hSw; go_simp; with_reducible rfl)⟩) hHeld ?_ rfl rfl
       simp only [Act.put, sA, sZ, sS]
       refine wpq_one 8 (by kernel_rfl) rfl (fun K hK => ?_)
       go_simp
       refine (HHI.out _ HI9.out.q.bel).mono ?_
       rintro e wx ⟨rfl, hwx⟩
       subst hwx
       refine hK.out _ _ hHeld (fun hHeld => ?_)
       clear hK K
       refine wpq_one 10 (by kernel_rfl) rfl (fun K hK => ?_)
       go_simp
       refine (addArc_any (bS + 1) arcs (.slice aA arcs.length acap) b (hiA bytes k) nI wd HI9.out.own HI9.out.box.lt (by have := HALN.out; omega)).mono ?_
       rintro e w7 ⟨v3, rfl, hown3, hg3, hat3⟩
       obtain ⟨A3, cap3, rfl, -⟩ := hown3.form
       have HN := Lib.hid (HI9.out.arcStep hown3 hg3 hat3)
       have hbs7 : BoxV bS 70 [.bool acc, .slice aA arcs.length acap] w7 := HI9.out.box.keep (hg3.block _ HI9.out.box.lt (fun e => by have := (HI9.out.own.lt bS e.symm).1; omega))
       have hy7 : w7.cell? ⟨gb, ob + k, none⟩ = some (.int .i64 (b : Int)) := (World.cell?_of_block (a := ⟨gb, ob + k, none⟩) (hg3.block gb (cell_ltZ hHeld.2) (fun e => by have := (HI9.out.own.lt gb e.symm).1; have := (HI9.out.q.xs bS (.inl rfl)).1; have := HI9.out.q.base.1; have := HGB.out; omega))).trans hHeld.2
       have hf := hbs7.free 1
       have hc := hbs7.cell 1
       simp only [List.getElem?_cons_zero, List.getElem?_cons_succ] at hc
       have hS : w7.cell? ⟨bS, 1, none⟩ = some (.slice aA arcs.length acap) ∧ w7.cell? ⟨gb, ob + k, none⟩ = some (.int .i64 (b : Int)) := ⟨hc, hy7⟩
       clear hown3 hg3 hat3 hbs7 hy7
       refine hK.out _ _ hS (fun hHeld => ?_)
       clear hK K hS
       refine wpq_tk 11 (some 86) [12] (Or.inl ⟨by rfl, fun w hSw => by (obtain ⟨x0, y0⟩ := hSw; go_simp; with_reducible rfl)⟩) hHeld ?_ rfl rfl
       simp only [Act.put, sA, sZ, sS]
       refine wpq_end 12 (by kernel_rfl) rfl (by kernel_rfl) (fun K hK => ?_)
       go_simp
       refine hK.out _ _ ?_
       clear hK K
       refine wpq_done (by kernel_rfl) ?_ _
       go_simp
       go_wp2_with fail
       exact ⟨⟨k + 1, _, order3, addArcA arcs b (hiA bytes k) nI, _, by simp, HKT.out, HN.out, HEV3.out, by have := HFEW3.out; unfold Hid; omega, by have := addArcA_len arcs b (hiA bytes k) nI; have := HALN.out; unfold Hid; omega, HLT3.out, HIE3.out⟩, by have := HKT.out; simp [intOf]; omega⟩
      | none =>
       rw [hfi] at hnm
       have HHAS : Hid (has D2 (kI ct) = false) := by unfold Hid; rw [HNU.out.has_, hnm]; rfl
       have HZE := Lib.hid (HNU.out.zero hnm)
       have HPU := Lib.hid (NumM.push kI_inj kI_key HNU.out ct hnm)
       rw [List.length_map] at HPU
       have HEV3 : Hid (rowA bytes cl (ts.drop (k + 1)) (k + 1) (addArcA arcs b (hiA bytes k) order2.length) (order2 ++ [t]) = (arcF, ordF)) := by
        unfold Hid
        rw [← HEV2.out, row_miss hkt (by rw [← ht, ← hct]; exact hfi), HBE.out, ht]
       have HFEW3 : Hid ((order2 ++ [t]).length ≤ 1 + 256 * i + (k + 1)) := by unfold Hid; rw [List.length_append]; have := HFEW.out; show order2.length + 1 ≤ _; omega
       have HLT3 : Hid (∀ o ∈ order2 ++ [t], o < m.length) := fun o ho => (List.mem_append.1 ho).elim (HLT2.out o) (fun h => by rw [List.mem_singleton.1 h]; exact htn)
       have HIE3 : Hid (i < (order2 ++ [t]).length) := by unfold Hid; rw [List.length_append]; have := HIE.out; show i < order2.length + 1; omega
       have HWF := Lib.hid (nat_wf order2.length (by omega))
       have HKS : Hid ((order2.map fun o => cl.getD o 0) ++ [ct] = (order2 ++ [t]).map fun o => cl.getD o 0) := by unfold Hid; rw [List.map_append, hct]; rfl
       have HOI := Lib.hid hoi2
       clear hfi hnm hkt ht htn hct hbe hkb hct1 HEV2 HCTE HBE HLT2 HFEW HIE
       go_upto_region 17 with (first
        | refine wpl_look_ok rfl rfl keyedInt Tryz.underlying178 Tryz.underlying3 (zeroIntZ _) rfl HMP.out rfl HKO.out false 0 HHAS.out HZE.out ?_
        | (at_mapUpdate; refine wpList_mapUpdate_own _ rfl _ _ _ 178 rfl 3 3 keyedInt Tryz.underlying178 _ (w.heap.size + 2) _ D2 rfl HMP.out (by have := HOI.out; simp only [List.length_map, maxLen]; omega) _ _ _ rfl rfl HKO.out _ [] (plainElem_int Tryz.underlying3 HWF.out) ?_; intro w8 hown8 hg8; have HI8 := Lib.hid (HI.out.mapStep (ks' := (order2.map fun o => cl.getD o 0) ++ [ct]) hg8 (by rw [List.length_append]; exact hown8) HPU.out); clear hown8 hg8)
        | (at_builtin; refine wpl_pushL (f := natV) (x := t) (v := .slice A2 order2.length cap2) (l := order2) (B := w.heap.size + 3) (e := 3) (sz := 1) _ _ rfl rfl elemIn natV_len (by decide) (natV_one _) HI8.out.q.ord rfl rfl rfl (by have := HOI.out; omega) (by have := HI8.out.q.base; omega) ?_; intro v3 w9 hown3 hg3 hfm3 hat3; obtain ⟨A3, cap3, rfl⟩ := hfm3; have HI9 := Lib.hid (HI8.out.ordStep hg3 hown3 hat3); clear hown3 hg3 hat3))
       rw [HKS.out] at HI9
       replace y9 := (HI9.out.q.bel.cell (p := ⟨gb, ob + k, none⟩) HGB.out).trans HY9.out
       obtain ⟨wR, hwR⟩ : ∃ x, x = w9 := ⟨_, rfl⟩
       subst hwR
       generalize hor3 : order2 ++ [t] = order3 at *
       clear hor3
       generalize order2.length = nI at *
       clear HI HMP HNU HHAS HKO hcr c2 HI8 HZE HPU HKS
       go_upto_region 17 with fail
       replace HI9 := Lib.hid (HI9.out.stay (drewBn wR))
       have hS0 : wR.drew.cell? ⟨bS, 1, none⟩ = some (.slice aA arcs.length acap) ∧ wR.drew.cell? ⟨gb, ob + k, none⟩ = some (.int .i64 (b : Int)) := ⟨HI9.out.box.cell 1, y9⟩
       clear y9
       refine wpq_region (fun w' => w'.cell? ⟨bS, 1, none⟩ = some (.slice aA arcs.length acap) ∧ w'.cell? ⟨gb, ob + k, none⟩ = some (.int .i64 (b : Int))) 12 (by kernel_rfl) hS0 (fun hHeld => ?_)
       clear hS0
       generalize wR.drew = wd at *
       refine wpq_tk 0 (some 75) [12] (Or.inl ⟨by rfl, fun w hSw => by (obtain ⟨x0, y0⟩ := hSw; go_simp; with_reducible rfl)⟩) hHeld ?_ rfl rfl
       simp only [Act.put, sA, sZ, sS]
       refine wpq_tk 1 (some 76) [12] (Or.inl ⟨by rfl, fun w hSw => by (obtain ⟨x0, y0⟩ := hSw; go_simp; with_reducible rfl)⟩) hHeld ?_ rfl rfl
       simp only [Act.put, sA, sZ, sS]
       refine wpq_tk 2 (some 77) [12] (Or.inl ⟨by rfl, fun w hSw => by (obtain ⟨x0, y0⟩ := hSw; go_simp; with_reducible rfl)⟩) hHeld ?_ rfl rfl
       simp only [Act.put, sA, sZ, sS]
       refine wpq_tk 3 (some 78) [12] (Or.inl ⟨by rfl, fun w hSw => by (obtain ⟨x0, y0⟩ := hSw; go_simp; with_reducible rfl)⟩) hHeld ?_ rfl rfl
       simp only [Act.put, sA, sZ, sS]
       refine wpq_tk 4 (some 79) [12] (Or.inl ⟨by rfl, fun w hSw => by (obtain ⟨x0, y0⟩ := hSw; go_simp; with_reducible rfl)⟩) hHeld ?_ rfl rfl
       simp only [Act.put, sA, sZ, sS]
       refine wpq_tk 5 (some 80) [12] (Or.inl ⟨by rfl, fun w hSw => by (obtain ⟨x0, y0⟩ := hSw; go_simp; with_reducible rfl)⟩) hHeld ?_ rfl rfl
       simp only [Act.put, sA, sZ, sS]
       refine wpq_tk 6 (some 81) [12] (Or.inl ⟨by rfl, fun w hSw => by (obtain ⟨x0, y0⟩ := hSw; go_simp; with_reducible rfl)⟩) hHeld ?_ rfl rfl
       simp only [Act.put, sA, sZ, sS]
       refine wpq_tk 7 (some 82) [12] (Or.inl ⟨by rfl, fun w hSw => by (obtain ⟨x0, y0⟩ := hSw; go_simp; with_reducible rfl)⟩) hHeld ?_ rfl rfl
       simp only [Act.put, sA, sZ, sS]
       refine wpq_tk 9 (some 84) [12] (Or.inl ⟨by rfl, fun w hSw => by (obtain ⟨x0, y0⟩ := hSw; go_simp; with_reducible rfl)⟩) hHeld ?_ rfl rfl
       simp only [Act.put, sA, sZ, sS]
       refine wpq_one 8 (by kernel_rfl) rfl (fun K hK => ?_)
       go_simp
       refine (HHI.out _ HI9.out.q.bel).mono ?_
       rintro e wx ⟨rfl, hwx⟩
       subst hwx
       refine hK.out _ _ hHeld (fun hHeld => ?_)
       clear hK K
       refine wpq_one 10 (by kernel_rfl) rfl (fun K hK => ?_)
       go_simp
       refine (addArc_any (bS + 1) arcs (.slice aA arcs.length acap) b (hiA bytes k) nI wd HI9.out.own HI9.out.box.lt (by have := HALN.out; omega)).mono ?_
       rintro e w7 ⟨v3, rfl, hown3, hg3, hat3⟩
       obtain ⟨A3, cap3, rfl, -⟩ := hown3.form
       have HN := Lib.hid (HI9.out.arcStep hown3 hg3 hat3)
       have hbs7 : BoxV bS 70 [.bool acc, .slice aA arcs.length acap] w7 := HI9.out.box.keep (hg3.block _ HI9.out.box.lt (fun e => by have := (HI9.out.own.lt bS e.symm).1; omega))
       have hy7 : w7.cell? ⟨gb, ob + k, none⟩ = some (.int .i64 (b : Int)) := (World.cell?_of_block (a := ⟨gb, ob + k, none⟩) (hg3.block gb (cell_ltZ hHeld.2) (fun e => by have := (HI9.out.own.lt gb e.symm).1; have := (HI9.out.q.xs bS (.inl rfl)).1; have := HI9.out.q.base.1; have := HGB.out; omega))).trans hHeld.2
       have hf := hbs7.free 1
       have hc := hbs7.cell 1
       simp only [List.getElem?_cons_zero, List.getElem?_cons_succ] at hc
       have hS : w7.cell? ⟨bS, 1, none⟩ = some (.slice aA arcs.length acap) ∧ w7.cell? ⟨gb, ob + k, none⟩ = some (.int .i64 (b : Int)) := ⟨hc, hy7⟩
       clear hown3 hg3 hat3 hbs7 hy7
       refine hK.out _ _ hS (fun hHeld => ?_)
       clear hK K hS
       refine wpq_tk 11 (some 86) [12] (Or.inl ⟨by rfl, fun w hSw => by (obtain ⟨x0, y0⟩ := hSw; go_simp; with_reducible rfl)⟩) hHeld ?_ rfl rfl
       simp only [Act.put, sA, sZ, sS]
       refine wpq_end 12 (by kernel_rfl) rfl (by kernel_rfl) (fun K hK => ?_)
       go_simp
       refine hK.out _ _ ?_
       clear hK K
       refine wpq_done (by kernel_rfl) ?_ _
       go_simp
       go_wp2_with fail
       exact ⟨⟨k + 1, _, order3, addArcA arcs b (hiA bytes k) nI, _, by simp, HKT.out, HN.out, HEV3.out, by have := HFEW3.out; unfold Hid; omega, by have := addArcA_len arcs b (hiA bytes k) nI; have := HALN.out; unfold Hid; omega, HLT3.out, HIE3.out⟩, by have := HKT.out; simp [intOf]; omega⟩
end Go.Proofs.YtpkecepelcppiaaGreatDoor
