/- automaton.least walked; printed by gen_aw.py. Conditions: fewer than 100 states. -/
import Derived.Test.YtpkecepelcppiaaGreatDoorZa23
import Derived.Maps.OwnSet
namespace Go.Proofs.YtpkecepelcppiaaGreatDoor
open Go.RowKit Go.Shelf Go.Maps
set_option maxHeartbeats 4000000
set_option maxRecDepth 100000

theorem wpl_insert_own {H : Type} {P : Program} (w : World) {ops : Array Oper} {rest : List Oper} {o : Oper} {a : Act} {Q : Exit → Act → World → Prop}
  (hg : o.guard = none) (m x v : Operand) (t : TypeId) (hop : o.op = Op.insert t m x v)
  (k e : TypeId) (K : Keyed P k) (ht : P.underlying t = some (.map k e)) (R : Value → Option (DataW H × List MemPlace)) (b n : Nat) (D : DataW H)
  (hm : a.eval m = .map (some b)) (hown : w.ownsMap P k R b n D) (hn : n < maxLen) (key val : Value) (kl : Lit) (hx : a.eval x = key) (hv : a.eval v = val) (hkey : keyOf P k key = some kl)
  (d : DataW H) (ps : List MemPlace) (hval : R val = some (d, ps))
  (hK : ∀ w', w'.ownsMap P k R b (n + 1) (D.put kl d) → w.grownBy w' (some b) → wpList P ops Q rest (a.put o.dst undef) w') :
  wpList P ops Q (o :: rest) a w := by
 refine wpList_plain hg fun K' hK' => ?_
 obtain ⟨w', hrun, r1, r2⟩ := hown.update K ht hn hkey hval
 unfold Oper.wp
 simp [execOp, hop, hm, hx, hv, hrun, Result.andThen]
 exact hK' _ _ (hK w' r1 r2)
theorem keyedInt : Keyed Tryz.prog 3 := int_keyed Tryz.underlying3
theorem nat_wf (n : Nat) (h : n ≤ 1000000) : (Lit.int .i64 (n : Int)).wf = true := by
 show (decide (IntKind.i64.min ≤ (n : Int)) && decide ((n : Int) ≤ IntKind.i64.max)) = true
 rw [Bool.and_eq_true]
 exact ⟨decide_eq_true (by show (-9223372036854775808 : Int) ≤ _; omega), decide_eq_true (by show _ ≤ (9223372036854775807 : Int); omega)⟩
theorem keyI (c : Nat) (h : c ≤ 1000000) : keyOf Tryz.prog 3 (.int .i64 (c : Int)) = some (kI c) := keyOf_int_mk Tryz.underlying3 (nat_wf c h)
theorem kI_key (c : Nat) : WideAt.IsKeyLit (kI c) := trivial
structure NQ (X : Nat → Prop) (bO : Nat) (mv : Value) (w wr : World) (ov sv : Value) (ks order : List Nat) (ps : List (Bool × Value)) (ml : List StA) (D : DataW Unit) : Prop where
 bel : Below w.heap.size w wr
 base : w.heap.size + 3 ≤ bO ∧ bO < wr.heap.size
 mach : BoxV w.heap.size 29 [mv] wr
 res : BoxV (w.heap.size + 1) 29 [.slice none 0 0] wr
 map : wr.ownsMap (H := Unit) Tryz.prog 3 (plainElem Tryz.prog 3) (w.heap.size + 2) ks.length D
 num : NumM kI D ks
 outb : BoxV bO 29 [sv] wr
 ord : OwnL (w.heap.size + 3) 3 1 natV wr ov order
 ordk : ∀ g, ov.ownBlock = some g → g ≠ bO ∧ sv.ownBlock ≠ some g ∧ ¬ X g
 own : OwnL (bO + 1) 70 2 stV wr sv ps
 ownx : ∀ g, sv.ownBlock = some g → ¬ X g
 len : ps.length = ml.length
 at_ : ∀ i (h1 : i < ps.length) (h2 : i < ml.length), ps[i].1 = ml[i].acc ∧ RdA (fun g => bO + 1 ≤ g ∧ sv.ownBlock ≠ some g ∧ ov.ownBlock ≠ some g ∧ ¬ X g) wr ps[i].2 ml[i].arcs
 xs : ∀ g, X g → bO + 1 ≤ g ∧ g < wr.heap.size
theorem RdA.keepAs {N M : Nat → Prop} {w w' : World} {v : Value} {l : List ArcA} (h : RdA N w v l) (hs : ∀ g, N g → g < w.heap.size → w'.heap[g]? = w.heap[g]?) (hm : ∀ g, N g → g < w.heap.size → M g) : RdA M w' v l := by
 have h1 : RdA (fun g => N g ∧ g < w.heap.size) w v l := h.mono (fun g hg hl => ⟨hg, hl⟩)
 exact (h1.keep (fun g hg hl => hs g hg.1 hl)).mono (fun g hg _ => hm g hg.1 hg.2)
theorem ownsMap_keep {w w' : World} {b n : Nat} {D : DataW Unit} (h : w.ownsMap (H := Unit) Tryz.prog 3 (plainElem Tryz.prog 3) b n D) (hk : w'.heap[b]? = w.heap[b]?) : w'.ownsMap (H := Unit) Tryz.prog 3 (plainElem Tryz.prog 3) b n D := by
 obtain ⟨es, clock, hb, F, hs, hD⟩ := h
 exact ⟨es, clock, hk.trans hb, F, hs, hD⟩
theorem NQ.keep {X X' : Nat → Prop} {bO : Nat} {mv : Value} {w wr w' : World} {ov sv : Value} {ks order : List Nat} {ps : List (Bool × Value)} {ml : List StA} {D : DataW Unit} (h : NQ X bO mv w wr ov sv ks order ps ml D)
  (hb : Below w.heap.size wr w') (hk : ∀ g, w.heap.size ≤ g → g < wr.heap.size → ¬ X g → w'.heap[g]? = wr.heap[g]?) (hx : ∀ g, X' g → X g ∨ wr.heap.size ≤ g) (hx2 : ∀ g, X' g → g < w'.heap.size) : NQ X' bO mv w w' ov sv ks order ps ml D := by
 have hb1 := h.base.1
 have hb2 := h.base.2
 have hnx : ∀ g, g < bO + 1 → ¬ X g := fun g hg hxg => by have := h.xs g hxg; omega
 have hnx' : ∀ g, g < wr.heap.size → ¬ X g → ¬ X' g := fun g hg h1 h2 => (hx g h2).elim h1 (fun h3 => by omega)
 refine ⟨h.bel.trans hb, ⟨hb1, Nat.lt_of_lt_of_le hb2 hb.size⟩, h.mach.keep (hk _ (Nat.le_refl _) h.mach.lt (hnx _ (by omega))), h.res.keep (hk _ (by omega) h.res.lt (hnx _ (by omega))), ownsMap_keep h.map (hk _ (by omega) h.map.lt (hnx _ (by omega))), h.num, h.outb.keep (hk _ (by omega) hb2 (hnx _ (by omega))), h.ord.keep (fun g hg hl hs => hk g (by omega) hs (h.ordk g hg).2.2), fun g hg => ⟨(h.ordk g hg).1, (h.ordk g hg).2.1, hnx' g (h.ord.lt g hg).2 (h.ordk g hg).2.2⟩, h.own.keep (fun g hg hl hs => hk g (by omega) hs (h.ownx g hg)), fun g hg => hnx' g (h.own.lt g hg).2 (h.ownx g hg), h.len, fun i h1 h2 => ⟨(h.at_ i h1 h2).1, (h.at_ i h1 h2).2.keepAs (fun g hg hl => hk g (by omega) hl hg.2.2.2) (fun g hg hl => ⟨hg.1, hg.2.1, hg.2.2.1, hnx' g hl hg.2.2.2⟩)⟩, fun g hg => ⟨?_, hx2 g hg⟩⟩
 rcases hx g hg with h3 | h3
 ·exact (h.xs g h3).1
 ·omega
theorem NQ.mapStep {X : Nat → Prop} {bO : Nat} {mv : Value} {w wr w' : World} {ov sv : Value} {ks ks' order : List Nat} {ps : List (Bool × Value)} {ml : List StA} {D D' : DataW Unit} (h : NQ X bO mv w wr ov sv ks order ps ml D)
  (hg : wr.grownBy w' (some (w.heap.size + 2))) (hm : w'.ownsMap (H := Unit) Tryz.prog 3 (plainElem Tryz.prog 3) (w.heap.size + 2) ks'.length D') (hn : NumM kI D' ks') : NQ X bO mv w w' ov sv ks' order ps ml D' := by
 have hb1 := h.base.1
 have hb2 := h.base.2
 have hk : ∀ g, g < wr.heap.size → g ≠ w.heap.size + 2 → w'.heap[g]? = wr.heap[g]? := fun g h1 h2 => hg.block g h1 (fun e => h2 (Option.some.inj e))
 exact ⟨h.bel.trans ⟨hg.os, hg.tape, hg.output, hg.size, fun g hl => hk g (by omega) (by omega)⟩, ⟨hb1, Nat.lt_of_lt_of_le hb2 hg.size⟩, h.mach.keep (hk _ h.mach.lt (by omega)), h.res.keep (hk _ h.res.lt (by omega)), hm, hn, h.outb.keep (hk _ hb2 (by omega)), h.ord.keep (fun g _ hl hs => hk g hs (by omega)), h.ordk, h.own.keep (fun g _ hl hs => hk g hs (by omega)), h.ownx, h.len, fun i h1 h2 => ⟨(h.at_ i h1 h2).1, (h.at_ i h1 h2).2.keep (fun g hg hl => hk g hl (by omega))⟩, fun g hx => ⟨(h.xs g hx).1, Nat.lt_of_lt_of_le (h.xs g hx).2 hg.size⟩⟩
theorem NQ.ordStep {X : Nat → Prop} {bO : Nat} {mv : Value} {w wr w' : World} {ov ov' sv : Value} {ks order order' : List Nat} {ps : List (Bool × Value)} {ml : List StA} {D : DataW Unit} (h : NQ X bO mv w wr ov sv ks order ps ml D)
  (hg : wr.grownBy w' ov.ownBlock) (hown : OwnL (w.heap.size + 3) 3 1 natV w' ov' order') (hat : ov'.ownBlock = ov.ownBlock ∨ ∃ k, wr.heap.size ≤ k ∧ ov'.ownBlock = some k) : NQ X bO mv w w' ov' sv ks order' ps ml D := by
 have hb1 := h.base.1
 have hb2 := h.base.2
 have hk : ∀ g, g < wr.heap.size → ov.ownBlock ≠ some g → w'.heap[g]? = wr.heap[g]? := fun g h1 h2 => hg.block g h1 (fun e => h2 e.symm)
 have hlow : ∀ g, g < w.heap.size + 3 → ov.ownBlock ≠ some g := fun g hl e => by have := (h.ord.lt g e).1; omega
 have hnew : ∀ g, ov'.ownBlock = some g → g < wr.heap.size → ov.ownBlock = some g := fun g e hl => by
  rcases hat with h1 | ⟨k, h1, h2⟩
  ·rw [← h1]; exact e
  ·rw [h2] at e; injection e with e; omega
 refine ⟨h.bel.trans ⟨hg.os, hg.tape, hg.output, hg.size, fun g hl => hk g (by omega) (hlow g (by omega))⟩, ⟨hb1, Nat.lt_of_lt_of_le hb2 hg.size⟩, h.mach.keep (hk _ h.mach.lt (hlow _ (by omega))), h.res.keep (hk _ h.res.lt (hlow _ (by omega))), ownsMap_keep h.map (hk _ h.map.lt (hlow _ (by omega))), h.num, h.outb.keep (hk _ hb2 (fun e => (h.ordk _ e).1 rfl)), hown, fun g e => ⟨?_, ?_, ?_⟩, h.own.keep (fun g e hl hs => hk g hs (fun e2 => (h.ordk g e2).2.1 e)), h.ownx, h.len, fun i h1 h2 => ⟨(h.at_ i h1 h2).1, (h.at_ i h1 h2).2.keepAs (fun g hg hl => hk g hl hg.2.2.1) (fun g hg hl => ⟨hg.1, hg.2.1, fun e => hg.2.2.1 (hnew g e hl), hg.2.2.2⟩)⟩, fun g hx => ⟨(h.xs g hx).1, Nat.lt_of_lt_of_le (h.xs g hx).2 hg.size⟩⟩
 ·intro hgb
  subst hgb
  exact (h.ordk _ (hnew _ e hb2)).1 rfl
 ·intro e2
  exact (h.ordk _ (hnew _ e (h.own.lt g e2).2)).2.1 e2
 ·intro hx
  exact (h.ordk _ (hnew _ e (h.xs g hx).2)).2.2 hx
theorem NQ.outStep {X : Nat → Prop} {bO : Nat} {mv : Value} {w wr w7 : World} {ov sv v' : Value} {ks order : List Nat} {ps : List (Bool × Value)} {ml : List StA} {D : DataW Unit} {acc : Bool} {av : Value} {arcs : List ArcA} (h : NQ X bO mv w wr ov sv ks order ps ml D)
  (ha : RdA X wr av arcs) (hown : OwnL (bO + 1) 70 2 stV w7 v' (ps ++ [(acc, av)])) (hg : wr.grownBy w7 sv.ownBlock) (hat : v'.ownBlock = sv.ownBlock ∨ ∃ k, wr.heap.size ≤ k ∧ v'.ownBlock = some k) :
  NQ (fun _ => False) bO mv w (w7.setCell ⟨bO, 0, none⟩ v') ov v' ks order (ps ++ [(acc, av)]) (ml ++ [⟨acc, arcs⟩]) D := by
 have hb1 := h.base.1
 have hb2 := h.base.2
 have hot : ∀ y, y ≠ bO → (w7.setCell ⟨bO, 0, none⟩ v').heap[y]? = w7.heap[y]? := fun y hy => Below.heap_setCell w7 ⟨bO, 0, none⟩ _ y hy
 have hk : ∀ g, g < wr.heap.size → g ≠ bO → sv.ownBlock ≠ some g → (w7.setCell ⟨bO, 0, none⟩ v').heap[g]? = wr.heap[g]? := fun g h1 h2 h3 => (hot g h2).trans (hg.block g h1 (fun e => h3 e.symm))
 have hlow : ∀ g, g < bO + 1 → sv.ownBlock ≠ some g := fun g hl e => by have := (h.own.lt g e).1; omega
 have hnew : ∀ g, v'.ownBlock = some g → g < wr.heap.size → sv.ownBlock = some g := fun g e hl => by
  rcases hat with h1 | ⟨k, h1, h2⟩
  ·rw [← h1]; exact e
  ·rw [h2] at e; injection e with e; omega
 have hsz : wr.heap.size ≤ (w7.setCell ⟨bO, 0, none⟩ v').heap.size := Nat.le_trans hg.size (by simp)
 have hbel : Below (bO + 1) wr w7 := ⟨hg.os, hg.tape, hg.output, hg.size, fun g hl => hg.block g (by omega) (fun e => hlow g hl e.symm)⟩
 refine ⟨(h.bel.trans (hbel.mono (by omega))).setCell (p := ⟨bO, 0, none⟩) (by show w.heap.size ≤ bO; omega) _, ⟨hb1, Nat.lt_of_lt_of_le hb2 hsz⟩, h.mach.keep (hk _ h.mach.lt (by omega) (hlow _ (by omega))), h.res.keep (hk _ h.res.lt (by omega) (hlow _ (by omega))), ownsMap_keep h.map (hk _ h.map.lt (by omega) (hlow _ (by omega))), h.num, heap_setCell_same w7 bO 0 _ _ v' ((hbel.block _ (by omega)).trans h.outb), h.ord.keep (fun g e hl hs => hk g hs (h.ordk g e).1 (h.ordk g e).2.1), fun g e => ⟨(h.ordk g e).1, fun e2 => (h.ordk g e).2.1 (hnew g e2 (h.ord.lt g e).2), fun hx => hx⟩, hown.keep (fun g e hl hs => hot g (by omega)), fun g _ hx => hx, by rw [List.length_append, List.length_append, h.len]; rfl, fun i h1 h2 => ?_, fun g hx => hx.elim⟩
 by_cases hi : i < ps.length
 ·have hi2 : i < ml.length := by rw [← h.len]; exact hi
  rw [List.getElem_append_left hi, List.getElem_append_left hi2]
  exact ⟨(h.at_ i hi hi2).1, (h.at_ i hi hi2).2.keepAs (fun g hg hl => hk g hl (by omega) hg.2.1) (fun g hg hl => ⟨hg.1, fun e => hg.2.1 (hnew g e hl), hg.2.2.1, fun hx => hx⟩)⟩
 ·have he : i = ps.length := by simp at h1; omega
  subst he
  have e2 : (ml ++ [⟨acc, arcs⟩])[ps.length]'h2 = ⟨acc, arcs⟩ := by
   rw [List.getElem_append_right (by rw [h.len]; exact Nat.le_refl _)]
   simp [h.len]
  rw [List.getElem_concat_length rfl, e2]
  exact ⟨rfl, ha.keepAs (fun g hx hl => hk g hl (by have := (h.xs g hx).1; omega) (fun e => h.ownx g e hx)) (fun g hx hl => ⟨(h.xs g hx).1, fun e => h.ownx g (hnew g e hl) hx, fun e => (h.ordk g e).2.2 hx, fun hx => hx⟩)⟩
theorem NQ.rds {X : Nat → Prop} {bO : Nat} {mv : Value} {w wr : World} {ov sv : Value} {ks order : List Nat} {ps : List (Bool × Value)} {ml : List StA} {D : DataW Unit} (h : NQ X bO mv w wr ov sv ks order ps ml D) : RdS (fun g => w.heap.size + 2 ≤ g) wr sv ml := by
 have hb1 := h.base.1
 have hs : OwnS (bO + 1) wr sv ps ml := ⟨h.own, h.len, fun i h1 h2 => ⟨(h.at_ i h1 h2).1, (h.at_ i h1 h2).2.mono (fun g hg _ => ⟨hg.1, hg.2.1⟩)⟩⟩
 exact hs.rds.mono (fun g hg _ => by omega)
def xsB (bS : Nat) (av : Value) : Nat → Prop := fun g => g = bS ∨ av.ownBlock = some g
structure NI (bS bO : Nat) (acc : Bool) (mv : Value) (w wr : World) (ov sv av : Value) (ks order : List Nat) (ps : List (Bool × Value)) (ml : List StA) (arcs : List ArcA) (D : DataW Unit) : Prop where
 q : NQ (xsB bS av) bO mv w wr ov sv ks order ps ml D
 box : BoxV bS 70 [.bool acc, av] wr
 own : OwnL (bS + 1) 72 3 arcV wr av arcs
theorem NQ.work {bO : Nat} {acc : Bool} {mv : Value} {w wr w1 : World} {ov sv : Value} {ks order : List Nat} {ps : List (Bool × Value)} {ml : List StA} {D : DataW Unit} (h : NQ (fun _ => False) bO mv w wr ov sv ks order ps ml D)
  (hbx : BoxV wr.heap.size 70 [.bool acc, .slice none 0 0] w1) (hb : Below wr.heap.size wr w1) : NI wr.heap.size bO acc mv w w1 ov sv (.slice none 0 0) ks order ps ml [] D :=
 ⟨h.keep (hb.mono (by have := h.base; omega)) (fun g _ hl _ => hb.block g hl) (fun g hg => .inr (hg.elim (fun e => Nat.le_of_eq e.symm) (fun e => by cases e))) (fun g hg => hg.elim (fun e => e ▸ hbx.lt) (fun e => by cases e)), hbx, OwnL.nil _ _ _ _ _⟩
theorem NI.stay {bS bO : Nat} {acc : Bool} {mv : Value} {w wr w1 : World} {ov sv av : Value} {ks order : List Nat} {ps : List (Bool × Value)} {ml : List StA} {arcs : List ArcA} {D : DataW Unit} (h : NI bS bO acc mv w wr ov sv av ks order ps ml arcs D)
  (hb : Below wr.heap.size wr w1) : NI bS bO acc mv w w1 ov sv av ks order ps ml arcs D :=
 ⟨h.q.keep (hb.mono (by have := h.q.base; omega)) (fun g _ hl _ => hb.block g hl) (fun g hg => .inl hg) (fun g hg => Nat.lt_of_lt_of_le (h.q.xs g hg).2 hb.size), h.box.below hb, h.own.stay hb⟩
theorem NI.mapStep {bS bO : Nat} {acc : Bool} {mv : Value} {w wr w' : World} {ov sv av : Value} {ks ks' order : List Nat} {ps : List (Bool × Value)} {ml : List StA} {arcs : List ArcA} {D D' : DataW Unit} (h : NI bS bO acc mv w wr ov sv av ks order ps ml arcs D)
  (hg : wr.grownBy w' (some (w.heap.size + 2))) (hm : w'.ownsMap (H := Unit) Tryz.prog 3 (plainElem Tryz.prog 3) (w.heap.size + 2) ks'.length D') (hn : NumM kI D' ks') : NI bS bO acc mv w w' ov sv av ks' order ps ml arcs D' := by
 have hb1 := h.q.base.1
 have hbs := (h.q.xs bS (.inl rfl)).1
 exact ⟨h.q.mapStep hg hm hn, h.box.keep (hg.block _ h.box.lt (fun e => by have := Option.some.inj e; omega)), h.own.keep (fun g _ hl hs => hg.block g hs (fun e => by have := Option.some.inj e; omega))⟩
theorem NI.ordStep {bS bO : Nat} {acc : Bool} {mv : Value} {w wr w' : World} {ov ov' sv av : Value} {ks order order' : List Nat} {ps : List (Bool × Value)} {ml : List StA} {arcs : List ArcA} {D : DataW Unit} (h : NI bS bO acc mv w wr ov sv av ks order ps ml arcs D)
  (hg : wr.grownBy w' ov.ownBlock) (hown : OwnL (w.heap.size + 3) 3 1 natV w' ov' order') (hat : ov'.ownBlock = ov.ownBlock ∨ ∃ k, wr.heap.size ≤ k ∧ ov'.ownBlock = some k) : NI bS bO acc mv w w' ov' sv av ks order' ps ml arcs D :=
 ⟨h.q.ordStep hg hown hat, h.box.keep (hg.block _ h.box.lt (fun e => (h.q.ordk bS e.symm).2.2 (.inl rfl))), h.own.keep (fun g hx hl hs => hg.block g hs (fun e => (h.q.ordk g e.symm).2.2 (.inr hx)))⟩
theorem NI.arcStep {bS bO : Nat} {acc : Bool} {mv : Value} {w wr w7 : World} {ov sv av v' : Value} {ks order : List Nat} {ps : List (Bool × Value)} {ml : List StA} {arcs arcs' : List ArcA} {D : DataW Unit} (h : NI bS bO acc mv w wr ov sv av ks order ps ml arcs D)
  (hown : OwnL (bS + 1) 72 3 arcV w7 v' arcs') (hg : wr.grownBy w7 av.ownBlock) (hat : v'.ownBlock = av.ownBlock ∨ ∃ k, wr.heap.size ≤ k ∧ v'.ownBlock = some k) : NI bS bO acc mv w (w7.setCell ⟨bS, 1, none⟩ v') ov sv v' ks order ps ml arcs' D := by
 have hb1 := h.q.base.1
 have hb2 := h.q.base.2
 have hbs := (h.q.xs bS (.inl rfl)).1
 have hot : ∀ y, y ≠ bS → (w7.setCell ⟨bS, 1, none⟩ v').heap[y]? = w7.heap[y]? := fun y hy => Below.heap_setCell w7 ⟨bS, 1, none⟩ _ y hy
 have hbel : Below (bS + 1) wr w7 := ⟨hg.os, hg.tape, hg.output, hg.size, fun g hl => hg.block g (by have := h.box.lt; omega) (fun e => by have := (h.own.lt g e.symm).1; omega)⟩
 have hsz : wr.heap.size ≤ (w7.setCell ⟨bS, 1, none⟩ v').heap.size := Nat.le_trans hg.size (by simp)
 refine ⟨h.q.keep ((hbel.mono (by omega)).setCell (p := ⟨bS, 1, none⟩) (by show w.heap.size ≤ bS; omega) _) (fun g _ hl hx => (hot g (fun e => hx (.inl e))).trans (hg.block g hl (fun e => hx (.inr e.symm)))) (fun g hx => ?_) (fun g hx => ?_), heap_setCell_same w7 bS 1 _ _ v' ((hbel.block _ (by omega)).trans h.box), hown.keep (fun g _ hl _ => hot g (by omega))⟩
 ·rcases hx with e | e
  ·exact .inl (.inl e)
  ·rcases hat with h1 | ⟨k, h1, h2⟩
   ·exact .inl (.inr (h1 ▸ e))
   ·rw [h2] at e; injection e with e; exact .inr (e ▸ h1)
 ·rcases hx with e | e
  ·rw [e]; exact Nat.lt_of_lt_of_le h.box.lt hsz
  ·have := (hown.lt g e).2; simpa using this
theorem NI.done {bS bO : Nat} {acc : Bool} {mv : Value} {w wr w7 : World} {ov sv av v' : Value} {ks order : List Nat} {ps : List (Bool × Value)} {ml : List StA} {arcs : List ArcA} {D : DataW Unit} (h : NI bS bO acc mv w wr ov sv av ks order ps ml arcs D)
  (hown : OwnL (bO + 1) 70 2 stV w7 v' (ps ++ [(acc, av)])) (hg : wr.grownBy w7 sv.ownBlock) (hat : v'.ownBlock = sv.ownBlock ∨ ∃ k, wr.heap.size ≤ k ∧ v'.ownBlock = some k) : NQ (fun _ => False) bO mv w (w7.setCell ⟨bO, 0, none⟩ v') ov v' ks order (ps ++ [(acc, av)]) (ml ++ [⟨acc, arcs⟩]) D := by
 refine h.q.outStep ?_ hown hg hat
 obtain ⟨h1, h2⟩ := h.own.slx arcV_len
 refine ⟨h1, fun hl => ?_⟩
 obtain ⟨g, cap, rfl, hb, hgl⟩ := h2 hl
 exact ⟨g, 0, _, cap, rfl, .inr rfl⟩
structure NO (n : Nat) (F : Nat) (m : List StA) (bytes cl : List Nat) (nx : List (List Nat)) (out : List StA) (bO : Nat) (mv : Value) (w : World) (ov iv : Value) (wr : World) (f i : Nat) (order : List Nat) (ml : List StA) : Prop where
 iv : iv = .int .i64 (i : Int)
 ie : i ≤ order.length
 fe : i + f ≤ F
 few : order.length ≤ 1 + 256 * i
 lt : ∀ o ∈ order, o < n
 mll : ml.length = i
 ev : numA m bytes cl nx f i order ml = some out
 q : ∃ sv ps D, NQ (fun _ => False) bO mv w wr ov sv (order.map fun o => cl.getD o 0) order ps ml D
theorem NO.least {n F : Nat} {m : List StA} {bytes cl : List Nat} {nx : List (List Nat)} {out : List StA} {bO : Nat} {mv : Value} {w : World} {ov iv : Value} {wr : World} {f i : Nat} {order : List Nat} {ml : List StA} (h : NO n F m bytes cl nx out bO mv w ov iv wr f i order ml) :
  ∃ μ i order ml, NO n F m bytes cl nx out bO mv w ov iv wr μ i order ml ∧ minN (fun f => ∃ i order ml, NO n F m bytes cl nx out bO mv w ov iv wr f i order ml) = μ := by
 obtain ⟨i, order, ml, hP⟩ := minN_spec (P := fun f => ∃ i order ml, NO n F m bytes cl nx out bO mv w ov iv wr f i order ml) ⟨f, i, order, ml, h⟩
 exact ⟨_, i, order, ml, hP, rfl⟩
theorem num_end {m : List StA} {bytes cl : List Nat} {nx : List (List Nat)} {f i : Nat} {order : List Nat} {ml out : List StA} (h : numA m bytes cl nx f i order ml = some out) (hi : ¬ i < order.length) : out = ml := by
 cases f with
 | zero => rw [numA] at h; cases h
 | succ f =>
  rw [numA, List.getElem?_eq_none (by omega)] at h
  exact (Option.some.inj h).symm
theorem num_step {m : List StA} {bytes cl : List Nat} {nx : List (List Nat)} {f i : Nat} {order : List Nat} {ml : List StA} (hi : i < order.length) {arcs : List ArcA} {order' : List Nat} (hr : rowA bytes cl ((nx.getD order[i] []).drop 0) 0 [] order = (arcs, order')) :
  numA m bytes cl nx (f + 1) i order ml = numA m bytes cl nx f (i + 1) order' (ml ++ [⟨accOf m order[i], arcs⟩]) := by
 rw [List.drop_zero] at hr
 rw [numA, List.getElem?_eq_getElem hi]
 dsimp only
 rw [hr]
theorem addArcA_len (l : List ArcA) (lo hi nx : Nat) : (addArcA l lo hi nx).length ≤ l.length + 1 := by
 rcases List.eq_nil_or_concat l with rfl | ⟨l', a, rfl⟩
 ·simp [addArcA]
 ·rw [List.concat_eq_append, addArcA_last]
  split <;> simp
end Go.Proofs.YtpkecepelcppiaaGreatDoor

namespace Go.Proofs.YtpkecepelcppiaaGreatDoor
open Go.RowKit Go.Shelf Go.Maps
set_option maxHeartbeats 8000000
set_option maxRecDepth 100000

theorem cell_ltZ {w : World} {g o : Nat} {v : Value} (h : w.cell? ⟨g, o, none⟩ = some v) : g < w.heap.size := by
 rcases Nat.lt_or_ge g w.heap.size with h1 | h1
 ·exact h1
 ·simp [World.cell?, Array.getElem?_eq_none h1] at h
theorem zeroIntZ (w : World) : (zeroValue 3).run Tryz.prog w = .ok (.int .i64 0) w := by kernel_rfl
theorem numbered_any (N : Nat → Prop) (F : Nat) (m out : List StA) (bytes cl : List Nat) (nx : List (List Nat)) (mv bv : Value) (gN gc : Nat) (RV : Nat → Value) (w : World)
  (hm : RdS N w mv m) (hn : m.length < 100) (h0 : 0 < m.length) (hb : RdNm w bv bytes) (hb256 : bytes.length ≤ 256) (hbp : ∀ i b, bytes[i + 1]? = some b → 1 ≤ b ∧ b ≤ 255)
  (hnx : w.rowIs gN 82 m.length RV) (hrow : ∀ q, q < m.length → RdNm w (RV q) (nx.getD q []) ∧ (nx.getD q []).length ≤ bytes.length ∧ ∀ t ∈ nx.getD q [], t < m.length)
  (hcl : w.rowIs gc 3 m.length (fun i => .int .i64 ((cl.getD i 0 : Nat) : Int))) (hcc : ∀ i, cl.getD i 0 < 100)
  (hF : F ≤ 1000) (hev : numA m bytes cl nx F 0 [0] [] = some out) :
  Calls Tryz.prog 123 #[.agg #[mv], bv, .slice (some ⟨gN, 0, none⟩) m.length m.length, .slice (some ⟨gc, 0, none⟩) m.length m.length] w fun e w' => ∃ v', e = .returned (.agg #[v']) ∧ RdS (fun g => w.heap.size ≤ g) w' v' out ∧ Below w.heap.size w w' := by
 obtain ⟨a, cap, rfl, hml⟩ := hm.form
 obtain ⟨ba, bcap, rfl, -⟩ := hb.form
 have hmi0 : (0 : Int) < m.length := by omega
 have hmi : (m.length : Int) < 100 := by omega
 have hbi : (bytes.length : Int) ≤ 256 := by omega
 have HM := Lib.hid hm
 have HN := Lib.hid hn
 have HB := Lib.hid hb
 have HB256 := Lib.hid hb256
 have HBP := Lib.hid hbp
 have HNX := Lib.hid hnx
 have HROW := Lib.hid hrow
 have HCL := Lib.hid hcl
 have HCC := Lib.hid hcc
 have HF := Lib.hid hF
 have HEV := Lib.hid hev
 have H0 := Lib.hid h0
 have hmkm := @run_makeMap Tryz.prog
 clear hm hn hb hb256 hbp hnx hrow hcl hcc hF hev hml h0
 go_enter Tryz.func123, Tryz.ntmps123
 go_upto_region 1 with fail
 generalize hW : World.alloc w _ = w1
 obtain ⟨hbx, -, hz1, hb1⟩ := alloc_of hW
 generalize hWb : World.alloc w1 _ = w2
 obtain ⟨hbx2, -, hz2, hb2⟩ := alloc_of hWb
 rw [hz1] at hbx2
 have HBX := Lib.hid (show BoxV w.heap.size 29 [.slice a m.length cap] w2 from (hb2.block _ (by omega)).trans hbx)
 have HBR := Lib.hid (show BoxV (w.heap.size + 1) 29 [.slice none 0 0] w2 from hbx2)
 have HB2 := Lib.hid (hb1.trans (hb2.mono hb1.size))
 have HZ2 : Hid (w2.heap.size = w.heap.size + 2) := by unfold Hid; rw [hz2, hz1]
 have c0 : (w2.alloc (.map #[] 0)).cell? ⟨gc, 0, none⟩ = some (.int .i64 ((cl.getD 0 0 : Nat) : Int)) := ((HCL.out.of_block (HB2.out.block _ HCL.out.lt)).of_block (heap_alloc_old w2 _ (Nat.lt_of_lt_of_le HCL.out.lt HB2.out.size))).cell H0.out
 have HK0 := Lib.hid (keyI (cl.getD 0 0) (by have := HCC.out 0; omega))
 have HCX := Lib.hid (HCC.out 0)
 obtain ⟨cx, hcx⟩ : ∃ c, c = cl.getD 0 0 := ⟨_, rfl⟩
 rw [← hcx] at c0 HK0 HCX
 have HCXE := Lib.hid hcx
 clear hW hbx hz1 hb1 hWb hbx2 hz2 hb2 hcx
 go_upto_region 2 with (refine wpl_insert_own _ rfl _ _ _ 178 rfl 3 3 keyedInt Tryz.underlying178 _ _ 0 (.map []) rfl (World.ownsMap_made w2 Tryz.prog 3 (plainElem (H := Unit) Tryz.prog 3)) (by decide) _ _ _ rfl rfl HK0.out _ [] (plainElem_int Tryz.underlying3 (nat_wf 0 (by decide))) ?_; intro w4 hown4 hg4; have HM4 := Lib.hid hown4; have HG4 := Lib.hid hg4; clear hown4 hg4)
 have HB4 := Lib.hid (((Below.refl w2.heap.size w2).alloc (Nat.le_refl _) (.map #[] 0)).grown HG4.out (by simp) (fun j hj => by cases hj; exact Nat.le_refl _))
 rw [HZ2.out]
 clear c0 HK0 HG4
 go_upto_region 3 with fail
 generalize hW : World.alloc w4 _ = w5
 obtain ⟨hbx, -, hz1, hb1⟩ := alloc_of hW
 have HOW := Lib.hid (show OwnL (w.heap.size + 3) 3 1 natV w5 (.slice (some ⟨w4.heap.size, 0, none⟩) 1 1) [0] from ⟨rfl, .inr ⟨w4.heap.size, 1, _, rfl, by have := HM4.out.lt; have := HZ2.out; omega, hbx, Nat.le_refl _, by decide, rfl, rfl⟩⟩)
 go_upto_region 4 with fail
 generalize hW2 : World.alloc w5 _ = w6
 obtain ⟨hbx2, -, hz2, hb2⟩ := alloc_of hW2
 have HNO := Lib.hid (show NO m.length F m bytes cl nx out w5.heap.size (.slice a m.length cap) w (.slice (some ⟨w4.heap.size, 0, none⟩) 1 1) (.int .i64 0) w6 F 0 [0] [] from by
  have hz := HZ2.out
  have hm4 := HM4.out.lt
  have h46 := hb1.trans (hb2.mono hb1.size)
  have h24 := HB4.out
  have hm4' := HM4.out
  rw [hz] at hm4'
  refine ⟨rfl, Nat.zero_le _, by omega, by decide, fun o ho => by rw [List.mem_singleton.1 ho]; exact H0.out, rfl, HEV.out, .slice none 0 0, [], _, ⟨HB2.out.trans (h24.trans (h46.mono h24.size) |>.mono (by omega)), ⟨by omega, by omega⟩, (HBX.out.below h24).below h46, (HBR.out.below h24).below h46, ownsMap_keep hm4' (h46.block _ (by omega)), ?_, hbx2, HOW.out.stay hb2, fun g hg => ⟨?_, (fun h => by cases h), fun h => h⟩, OwnL.nil _ _ _ _ _, (fun g hg => (by cases hg)), rfl, (fun i h1 => absurd h1 (Nat.not_lt_zero _)), fun g hg => False.elim hg⟩⟩
  ·rw [HCXE.out]
   exact NumM.push kI_inj kI_key (NumM.nil kI) (cl.getD 0 0) rfl
  ·have h3 : w4.heap.size = g := Option.some.inj hg
   omega)
 rw [hz1] at HNO
 clear hW hbx hz1 hb1 hW2 hbx2 hz2 hb2 HOW
 generalize w4.heap.size + 1 = bO at *
 generalize w4.heap.size = bD at *
 go_wp2_with fail
 go_loopw [10, 12] (fun ov iv wr => ∃ (f i : Nat) (order : List Nat) (ml : List StA), Hid (NO m.length F m bytes cl nx out bO (.slice a m.length cap) w ov iv wr f i order ml)) (fun ov iv wr => minN (fun f => ∃ i order ml, NO m.length F m bytes cl nx out bO (.slice a m.length cap) w ov iv wr f i order ml))
 case atStart => exact ⟨F, 0, [0], [], HNO.out⟩
 case round =>
  clear HNO HM4 HB4 HCXE HCX HZ2 HBX HBR HB2 hmkm
  obtain ⟨f0, i0, ord0, ml0, h0⟩ := hrel
  obtain ⟨μ, i, order, ml, hP, hμ⟩ := h0.out.least
  have hiv := hP.iv
  subst hiv
  obtain ⟨sv, ps, D, hq⟩ := hP.q
  obtain ⟨A, ocap, hov, -⟩ := hq.ord.form
  subst hov
  have HMU := Lib.hid hμ
  have HQ := Lib.hid hq
  have HP := Lib.hid hP
  have hoi : (order.length : Int) ≤ 300000 := by have h1 := hP.few; have h2 := hP.fe; have h3 := HF.out; have h4 := hP.ie; have h5 : i ≤ 1000 := (by omega); omega
  clear hq hP hμ h0 f0 i0 ord0 ml0
  by_cases hlt : i < order.length
  case neg =>
   have hge : ¬ (i : Int) < order.length := by omega
   have HE := Lib.hid (num_end HP.out.ev hlt)
   clear hlt
   obtain ⟨sa, scap, hsv, -⟩ := HQ.out.own.form
   rw [hsv] at HQ
   have z0 := HQ.out.res.cell 0
   have y0 := HQ.out.res.free 0
   have x0 := HQ.out.outb.cell 0
   simp only [List.getElem?_cons_zero] at z0 x0
   go_wp2_with fail
   refine bodyPost_ret (v := .agg #[.slice sa ps.length scap]) ?_ rfl ⟨_, rfl, ?_, ?_⟩
   ·have hbx : BoxV (w.heap.size + 1) 29 [.slice sa ps.length scap] (wr.setCell ⟨w.heap.size + 1, 0, none⟩ (.slice sa ps.length scap)) := heap_setCell_same wr (w.heap.size + 1) 0 _ _ _ HQ.out.res
    have q0 := hbx.cell 0
    simp only [List.getElem?_cons_zero] at q0
    simp [results, Tryz.results123, go_sem, q0]
   ·rw [HE.out]
    exact (HQ.out.rds.keep (fun g hg _ => Below.heap_setCell wr ⟨w.heap.size + 1, 0, none⟩ _ g (by show g ≠ w.heap.size + 1; omega))).mono (fun g hg _ => by omega)
   ·exact HQ.out.bel.setCell (p := ⟨w.heap.size + 1, 0, none⟩) (by show w.heap.size ≤ w.heap.size + 1; omega) _
  case pos =>
   have hlti : (i : Int) < order.length := by omega
   cases μ with
   | zero => exact absurd HP.out.ev (by rw [numA]; intro h; cases h)
   | succ f1 =>
    obtain ⟨go, oo, rfl, ho⟩ := HQ.out.ord.n2.1.at_ i hlt
    obtain ⟨qn, hqn⟩ : ∃ q, q = order[i] := ⟨_, rfl⟩
    rw [← hqn] at ho
    have hql : qn < m.length := by rw [hqn]; exact HP.out.lt _ (List.getElem_mem hlt)
    have hqi : (qn : Int) < m.length := by omega
    have HST := Lib.hid (fun arcs order' => num_step (m := m) (bytes := bytes) (cl := cl) (nx := nx) (f := f1) (ml := ml) hlt (arcs := arcs) (order' := order'))
    rw [← hqn] at HST
    obtain ⟨g, o, b0, k0, c0, rfl, m0, m1, hk0, -⟩ := HM.out.at_ qn hql
    have hgl := cell_ltZ m0
    replace m0 := (HQ.out.bel.cell (p := ⟨g, o + qn * 2, none⟩) hgl).trans m0
    have hacc : accOf m qn = m[qn].acc := acc_eq hql
    rw [← hacc] at m0
    generalize accOf m qn = acc at *
    obtain ⟨hr1, hr2, hr3⟩ := HROW.out qn hql
    have n1 := (HNX.out.of_block (HQ.out.bel.block _ HNX.out.lt)).cell hql
    obtain ⟨ra, rcap, hrv, -⟩ := hr1.form
    rw [hrv] at hr1 n1
    generalize nx.getD qn [] = ts at *
    have hti : (ts.length : Int) ≤ 256 := by have := HB256.out; omega
    have HRD := Lib.hid hr1
    have HTL := Lib.hid hr2
    have HTN := Lib.hid hr3
    have HQL := Lib.hid hql
    have HLT := Lib.hid hlt
    have x0 := HQ.out.mach.cell 0
    simp only [List.getElem?_cons_zero] at x0
    clear hr1 hr2 hr3 hrv hgl m1 hk0 hacc hql hlt hqn
    go_upto_region 9 with fail
    generalize hW : World.alloc wr _ = wB
    obtain ⟨hbx, -, hz1, hb1⟩ := alloc_of hW
    have HI := Lib.hid (HQ.out.work (show BoxV wr.heap.size 70 [.bool acc, .slice none 0 0] wB from hbx) hb1)
    have hgN := (HNX.out.of_block (HQ.out.bel.block _ HNX.out.lt)).lt
    replace n1 := (hb1.cell (p := ⟨gN, qn, none⟩) hgN).trans n1
    generalize wr.heap.size = bS at *
    clear hW hbx hz1 hb1 hgN m0 x0 ho
    obtain ⟨arcF, ordF, hR⟩ : ∃ a o, rowA bytes cl (ts.drop 0) 0 [] order = (a, o) := ⟨_, _, rfl⟩
    have HR := Lib.hid hR
    have HEVN := Lib.hid ((HST.out _ _ hR).symm.trans HP.out.ev)
    have HFE := Lib.hid HP.out.few
    have HLO := Lib.hid HP.out.lt
    clear hR
    obtain ⟨wO, hwO⟩ : ∃ x, x = wr := ⟨_, rfl⟩
    subst hwO
    go_wp2_with fail
    go_loopw [10, 47] (fun ov kv wr => ∃ (k : Nat) (av : Value) (order2 : List Nat) (arcs : List ArcA) (D2 : DataW Unit), kv = .int .i64 (k : Int) ∧ k ≤ ts.length ∧ Hid (NI bS bO acc (.slice (some ⟨g, o, none⟩) m.length cap) w wr ov sv av (order2.map fun o => cl.getD o 0) order2 ps ml arcs D2) ∧ Hid (rowA bytes cl (ts.drop k) k arcs order2 = (arcF, ordF)) ∧ Hid (order2.length ≤ 1 + 256 * i + k) ∧ Hid (arcs.length ≤ k) ∧ Hid (∀ o ∈ order2, o < m.length) ∧ Hid (i < order2.length)) (fun _ kv _ => ts.length - (intOf kv).toNat)
    case atStart => exact ⟨0, _, order, [], D, rfl, Nat.zero_le _, HI.out, HR.out, HFE.out, Nat.le_refl _, HLO.out, HLT.out⟩
    case round =>
     clear HI HR HFE HLO HLT HQ n1
     obtain ⟨k, av, order2, arcs, D2, rfl, hk, HI, HEV2, HFEW, HALN, HLT2, HIE⟩ := hrel
     obtain ⟨A2, cap2, hov, -⟩ := HI.out.q.ord.form
     subst hov
     obtain ⟨aA, acap, hav, -⟩ := HI.out.own.form
     subst hav
     have hoi2 : (order2.length : Int) ≤ 400000 := by have h1 := HFEW.out; have h2 := HP.out.fe; have h3 := HF.out; omega
     by_cases hkt : k < ts.length
     case neg =>
      have hge : ¬ (k : Int) < ts.length := by omega
      obtain ⟨hra, hro⟩ := Prod.mk.inj ((row_end hkt).symm.trans HEV2.out)
      subst hra
      subst hro
      obtain ⟨sa, scap, hsv, -⟩ := HI.out.q.own.form
      subst hsv
      have o0 := HI.out.q.outb.cell 0
      have s0 := HI.out.box.cell 0
      have s1 := HI.out.box.cell 1
      simp only [List.getElem?_cons_zero, List.getElem?_cons_succ] at o0 s0 s1
      have HPL : Hid (ps.length ≤ 1000) := by have h1 := HI.out.q.len; have h2 := HP.out.mll; have h3 := HP.out.fe; have h4 := HF.out; unfold Hid; omega
      have HKK : Hid (k ≤ 256) := by unfold Hid; omega
      clear hkt HEV2 hk
      go_wp2_with (at_builtin; refine wpl_pushL (f := stV) (x := (acc, .slice aA arcs.length acap)) (v := .slice sa ps.length scap) (l := ps) (B := bO + 1) (e := 70) (sz := 2) _ _ rfl rfl elemS stV_len (by decide) (stV_one _ _ _ _) HI.out.q.own rfl rfl rfl (by have := HPL.out; omega) HI.out.q.base.2 ?_; intro v3 w3 hown3 hg3 hfm3 hat3; obtain ⟨A3, cap3, rfl⟩ := hfm3; have hbo : BoxV bO 29 [.slice sa ps.length scap] w3 := HI.out.q.outb.keep (hg3.block bO HI.out.q.base.2 (fun e => by have := (HI.out.q.own.lt bO e.symm).1; omega)); have f3 := hbo.free 0; have o3 := hbo.cell 0; simp only [List.getElem?_cons_zero] at o3; have HNQ := Lib.hid (HI.out.done hown3 hg3 hat3); clear hown3 hg3 hat3 hbo o0 s0 s1)
      have HNN := Lib.hid (show NO m.length F m bytes cl nx out bO (.slice (some ⟨g, o, none⟩) m.length cap) w (.slice A2 order2.length cap2) (.int .i64 ((i : Int) + 1)) _ f1 (i + 1) order2 (ml ++ [⟨acc, arcs⟩]) from ⟨by simp, HIE.out, by have := HP.out.fe; omega, by have h1 := HFEW.out; have h2 := HKK.out; omega, HLT2.out, by rw [List.length_append, HP.out.mll]; rfl, HEVN.out, _, _, _, HNQ.out⟩)
      exact ⟨⟨f1, i + 1, order2, _, HNN.out⟩, by rw [HMU.out]; exact Nat.lt_succ_of_le (minN_le ⟨_, _, _, HNN.out⟩)⟩
     case pos =>
      have hkti : (k : Int) < ts.length := by omega
      obtain ⟨gr, orr, rfl, hcr⟩ := (HRD.out.stay HI.out.q.bel).at_ k hkt
      obtain ⟨t, ht⟩ : ∃ t, t = ts[k] := ⟨_, rfl⟩
      rw [← ht] at hcr
      have htn : t < m.length := by rw [ht]; exact HTN.out _ (List.getElem_mem hkt)
      have hti2 : (t : Int) < m.length := by omega
      have hkb : k < bytes.length := by have := HTL.out; omega
      have hkbi : (k : Int) < bytes.length := by omega
      obtain ⟨gb, ob, rfl, y9⟩ := HB.out.at_ k hkb
      have HGB := Lib.hid (cell_ltZ y9)
      have HY9 : Hid (w.cell? ⟨gb, ob + k, none⟩ = some (.int .i64 ((bytes[k] : Nat) : Int))) := y9
      replace y9 := (HI.out.q.bel.cell (p := ⟨gb, ob + k, none⟩) HGB.out).trans y9
      obtain ⟨b, hbe⟩ : ∃ b, b = bytes[k] := ⟨_, rfl⟩
      rw [← hbe] at y9 HY9
      have HBE : Hid (bytes.getD k 0 = b) := by unfold Hid; rw [hbe, List.getD_eq_getElem?_getD, List.getElem?_eq_getElem hkb]; rfl
      have HHI := Lib.hid (fun w' (hb : Below w.heap.size w w') => hiOf_any bytes _ k w' (HB.out.stay hb) hkb (fun b hb2 => HBP.out k b hb2))
      have c2 := (HCL.out.of_block (HI.out.q.bel.block _ HCL.out.lt)).cell htn
      obtain ⟨ct, hct⟩ : ∃ c, c = cl.getD t 0 := ⟨_, rfl⟩
      rw [← hct] at c2
      have hct1 : ct < 100 := by rw [hct]; exact HCC.out t
      have HKO := Lib.hid (keyI ct (by omega))
      have HMP := Lib.hid HI.out.q.map
      have HNU := Lib.hid HI.out.q.num
      have hnm := num_map cl order2 t
      rw [← hct] at hnm
      have HCTE := Lib.hid hct
      have HKT : Hid (k + 1 ≤ ts.length) := hkt
      have HTM := Lib.hid htn
      cases hfi : order2.findIdx? (fun o => decide (cl.getD o 0 = ct)) with
      | some nI =>
       rw [hfi] at hnm
       have HHAS : Hid (has D2 (kI ct) = true) := by unfold Hid; rw [HNU.out.has_, hnm]; rfl
       have HNUM := Lib.hid (HNU.out.num ct nI hnm)
       have HEV3 : Hid (rowA bytes cl (ts.drop (k + 1)) (k + 1) (addArcA arcs b (hiA bytes k) nI) order2 = (arcF, ordF)) := by
        unfold Hid
        rw [← HEV2.out, row_hit hkt (n := nI) (by rw [← ht, ← hct]; exact hfi), HBE.out]
       have HFEW3 := HFEW
       have HLT3 := HLT2
       have HIE3 := HIE
       clear hfi hnm hkt ht htn hct hbe hkb hct1 HEV2 HCTE HBE HLT2
       go_upto_region 17 with (refine wpl_look_ok rfl rfl keyedInt Tryz.underlying178 Tryz.underlying3 (zeroIntZ _) rfl HMP.out rfl HKO.out true (nI : Int) HHAS.out HNUM.out ?_)
       have HI9 := Lib.hid HI.out
       obtain ⟨wR, hwR⟩ : ∃ x, x = wr := ⟨_, rfl⟩
       subst hwR
       obtain ⟨order3, hor3⟩ : ∃ x, x = order2 := ⟨_, rfl⟩
       subst hor3
       obtain ⟨D3, hD3⟩ : ∃ x, x = D2 := ⟨_, rfl⟩
       subst hD3
       clear HI HMP HNU HHAS HNUM HKO hcr c2
       go_upto_region 17 with fail
       replace HI9 := Lib.hid (HI9.out.stay (drewBn wR))
       have hS0 : wR.drew.cell? ⟨bS, 1, none⟩ = some (.slice aA arcs.length acap) ∧ wR.drew.cell? ⟨gb, ob + k, none⟩ = some (.int .i64 (b : Int)) := ⟨HI9.out.box.cell 1, y9⟩
       clear y9
       refine wpq_region (fun w' => w'.cell? ⟨bS, 1, none⟩ = some (.slice aA arcs.length acap) ∧ w'.cell? ⟨gb, ob + k, none⟩ = some (.int .i64 (b : Int))) 12 (by kernel_rfl) hS0 (fun hHeld => ?_)
       clear hS0
       generalize wR.drew = wd at *
       refine wpq_tk 0 (some 75) [12] (Or.inl ⟨by rfl, fun w hSw => by (obtain ⟨x0, y0⟩ := hSw; go_simp; with_reducible rfl)⟩) hHeld ?_ rfl rfl
       simp only [Act.put, sA, sZ, sS]
       refine wpq_tk 1 (some 76) [12] (Or.inl ⟨by rfl, fun w hSw => by (obtain ⟨x0, y0⟩ := hSw; go_simp; with_reducible rfl)⟩) hHeld ?_ rfl rfl
       simp only [Act.put, sA, sZ, sS]
       refine wpq_tk 2 (some 77) [12] (Or.inl ⟨by rfl, fun w hSw => by (obtain ⟨x0, y0⟩ := hSw; go_simp; with_reducible rfl)⟩) hHeld ?_ rfl rfl
       simp only [Act.put, sA, sZ, sS]
       refine wpq_tk 3 (some 78) [12] (Or.inl ⟨by rfl, fun w hSw => by (obtain ⟨x0, y0⟩ := hSw; go_simp; with_reducible rfl)⟩) hHeld ?_ rfl rfl
       simp only [Act.put, sA, sZ, sS]
       refine wpq_tk 4 (some 79) [12] (Or.inl ⟨by rfl, fun w hSw => by (obtain ⟨x0, y0⟩ := hSw; go_simp; with_reducible rfl)⟩) hHeld ?_ rfl rfl
       simp only [Act.put, sA, sZ, sS]
       refine wpq_tk 5 (some 80) [12] (Or.inl ⟨by rfl, fun w hSw => by (obtain ⟨x0, y0⟩ := hSw; go_simp; with_reducible rfl)⟩) hHeld ?_ rfl rfl
       simp only [Act.put, sA, sZ, sS]
       refine wpq_tk 6 (some 81) [12] (Or.inl ⟨by rfl, fun w hSw => by (obtain ⟨x0, y0⟩ := hSw; go_simp; with_reducible rfl)⟩) hHeld ?_ rfl rfl
       simp only [Act.put, sA, sZ, sS]
       refine wpq_tk 7 (some 82) [12] (Or.inl ⟨by rfl, fun w hSw => by (obtain ⟨x0, y0⟩ := hSw; go_simp; with_reducible rfl)⟩) hHeld ?_ rfl rfl
       simp only [Act.put, sA, sZ, sS]
       refine wpq_tk 9 (some 84) [12] (Or.inl ⟨by rfl, fun w hSw => by (obtain ⟨x0, y0⟩ := hSw; go_simp; with_reducible rfl)⟩) hHeld ?_ rfl rfl
       simp only [Act.put, sA, sZ, sS]
       refine wpq_one 8 (by kernel_rfl) rfl (fun K hK => ?_)
       go_simp
       refine (HHI.out _ HI9.out.q.bel).mono ?_
       rintro e wx ⟨rfl, hwx⟩
       subst hwx
       refine hK.out _ _ hHeld (fun hHeld => ?_)
       clear hK K
       refine wpq_one 10 (by kernel_rfl) rfl (fun K hK => ?_)
       go_simp
       refine (addArc_any (bS + 1) arcs (.slice aA arcs.length acap) b (hiA bytes k) nI wd HI9.out.own HI9.out.box.lt (by have := HALN.out; omega)).mono ?_
       rintro e w7 ⟨v3, rfl, hown3, hg3, hat3⟩
       obtain ⟨A3, cap3, rfl, -⟩ := hown3.form
       have HN := Lib.hid (HI9.out.arcStep hown3 hg3 hat3)
       have hbs7 : BoxV bS 70 [.bool acc, .slice aA arcs.length acap] w7 := HI9.out.box.keep (hg3.block _ HI9.out.box.lt (fun e => by have := (HI9.out.own.lt bS e.symm).1; omega))
       have hy7 : w7.cell? ⟨gb, ob + k, none⟩ = some (.int .i64 (b : Int)) := (World.cell?_of_block (a := ⟨gb, ob + k, none⟩) (hg3.block gb (cell_ltZ hHeld.2) (fun e => by have := (HI9.out.own.lt gb e.symm).1; have := (HI9.out.q.xs bS (.inl rfl)).1; have := HI9.out.q.base.1; have := HGB.out; omega))).trans hHeld.2
       have hf := hbs7.free 1
       have hc := hbs7.cell 1
       simp only [List.getElem?_cons_zero, List.getElem?_cons_succ] at hc
       have hS : w7.cell? ⟨bS, 1, none⟩ = some (.slice aA arcs.length acap) ∧ w7.cell? ⟨gb, ob + k, none⟩ = some (.int .i64 (b : Int)) := ⟨hc, hy7⟩
       clear hown3 hg3 hat3 hbs7 hy7
       refine hK.out _ _ hS (fun hHeld => ?_)
       clear hK K hS
       refine wpq_tk 11 (some 86) [12] (Or.inl ⟨by rfl, fun w hSw => by (obtain ⟨x0, y0⟩ := hSw; go_simp; with_reducible rfl)⟩) hHeld ?_ rfl rfl
       simp only [Act.put, sA, sZ, sS]
       refine wpq_end 12 (by kernel_rfl) rfl (by kernel_rfl) (fun K hK => ?_)
       go_simp
       refine hK.out _ _ ?_
       clear hK K
       refine wpq_done (by kernel_rfl) ?_ _
       go_simp
       go_wp2_with fail
       exact ⟨⟨k + 1, _, order3, addArcA arcs b (hiA bytes k) nI, _, by simp, HKT.out, HN.out, HEV3.out, by have := HFEW3.out; unfold Hid; omega, by have := addArcA_len arcs b (hiA bytes k) nI; have := HALN.out; unfold Hid; omega, HLT3.out, HIE3.out⟩, by have := HKT.out; simp [intOf]; omega⟩
      | none =>
       rw [hfi] at hnm
       have HHAS : Hid (has D2 (kI ct) = false) := by unfold Hid; rw [HNU.out.has_, hnm]; rfl
       have HZE := Lib.hid (HNU.out.zero hnm)
       have HPU := Lib.hid (NumM.push kI_inj kI_key HNU.out ct hnm)
       rw [List.length_map] at HPU
       have HEV3 : Hid (rowA bytes cl (ts.drop (k + 1)) (k + 1) (addArcA arcs b (hiA bytes k) order2.length) (order2 ++ [t]) = (arcF, ordF)) := by
        unfold Hid
        rw [← HEV2.out, row_miss hkt (by rw [← ht, ← hct]; exact hfi), HBE.out, ht]
       have HFEW3 : Hid ((order2 ++ [t]).length ≤ 1 + 256 * i + (k + 1)) := by unfold Hid; rw [List.length_append]; have := HFEW.out; show order2.length + 1 ≤ _; omega
       have HLT3 : Hid (∀ o ∈ order2 ++ [t], o < m.length) := fun o ho => (List.mem_append.1 ho).elim (HLT2.out o) (fun h => by rw [List.mem_singleton.1 h]; exact htn)
       have HIE3 : Hid (i < (order2 ++ [t]).length) := by unfold Hid; rw [List.length_append]; have := HIE.out; show i < order2.length + 1; omega
       have HWF := Lib.hid (nat_wf order2.length (by omega))
       have HKS : Hid ((order2.map fun o => cl.getD o 0) ++ [ct] = (order2 ++ [t]).map fun o => cl.getD o 0) := by unfold Hid; rw [List.map_append, hct]; rfl
       have HOI := Lib.hid hoi2
       clear hfi hnm hkt ht htn hct hbe hkb hct1 HEV2 HCTE HBE HLT2 HFEW HIE
       go_upto_region 17 with (first
        | refine wpl_look_ok rfl rfl keyedInt Tryz.underlying178 Tryz.underlying3 (zeroIntZ _) rfl HMP.out rfl HKO.out false 0 HHAS.out HZE.out ?_
        | (at_mapUpdate; refine wpList_mapUpdate_own _ rfl _ _ _ 178 rfl 3 3 keyedInt Tryz.underlying178 _ (w.heap.size + 2) _ D2 rfl HMP.out (by have := HOI.out; simp only [List.length_map, maxLen]; omega) _ _ _ rfl rfl HKO.out _ [] (plainElem_int Tryz.underlying3 HWF.out) ?_; intro w8 hown8 hg8; have HI8 := Lib.hid (HI.out.mapStep (ks' := (order2.map fun o => cl.getD o 0) ++ [ct]) hg8 (by rw [List.length_append]; exact hown8) HPU.out); clear hown8 hg8)
        | (at_builtin; refine wpl_pushL (f := natV) (x := t) (v := .slice A2 order2.length cap2) (l := order2) (B := w.heap.size + 3) (e := 3) (sz := 1) _ _ rfl rfl elemIn natV_len (by decide) (natV_one _) HI8.out.q.ord rfl rfl rfl (by have := HOI.out; omega) (by have := HI8.out.q.base; omega) ?_; intro v3 w9 hown3 hg3 hfm3 hat3; obtain ⟨A3, cap3, rfl⟩ := hfm3; have HI9 := Lib.hid (HI8.out.ordStep hg3 hown3 hat3); clear hown3 hg3 hat3))
       rw [HKS.out] at HI9
       replace y9 := (HI9.out.q.bel.cell (p := ⟨gb, ob + k, none⟩) HGB.out).trans HY9.out
       obtain ⟨wR, hwR⟩ : ∃ x, x = w9 := ⟨_, rfl⟩
       subst hwR
       generalize hor3 : order2 ++ [t] = order3 at *
       clear hor3
       generalize order2.length = nI at *
       clear HI HMP HNU HHAS HKO hcr c2 HI8 HZE HPU HKS
       go_upto_region 17 with fail
       replace HI9 := Lib.hid (HI9.out.stay (drewBn wR))
       have hS0 : wR.drew.cell? ⟨bS, 1, none⟩ = some (.slice aA arcs.length acap) ∧ wR.drew.cell? ⟨gb, ob + k, none⟩ = some (.int .i64 (b : Int)) := ⟨HI9.out.box.cell 1, y9⟩
       clear y9
       refine wpq_region (fun w' => w'.cell? ⟨bS, 1, none⟩ = some (.slice aA arcs.length acap) ∧ w'.cell? ⟨gb, ob + k, none⟩ = some (.int .i64 (b : Int))) 12 (by kernel_rfl) hS0 (fun hHeld => ?_)
       clear hS0
       generalize wR.drew = wd at *
       refine wpq_tk 0 (some 75) [12] (Or.inl ⟨by rfl, fun w hSw => by (obtain ⟨x0, y0⟩ := hSw; go_simp; with_reducible rfl)⟩) hHeld ?_ rfl rfl
       simp only [Act.put, sA, sZ, sS]
       refine wpq_tk 1 (some 76) [12] (Or.inl ⟨by rfl, fun w hSw => by (obtain ⟨x0, y0⟩ := hSw; go_simp; with_reducible rfl)⟩) hHeld ?_ rfl rfl
       simp only [Act.put, sA, sZ, sS]
       refine wpq_tk 2 (some 77) [12] (Or.inl ⟨by rfl, fun w hSw => by (obtain ⟨x0, y0⟩ := hSw; go_simp; with_reducible rfl)⟩) hHeld ?_ rfl rfl
       simp only [Act.put, sA, sZ, sS]
       refine wpq_tk 3 (some 78) [12] (Or.inl ⟨by rfl, fun w hSw => by (obtain ⟨x0, y0⟩ := hSw; go_simp; with_reducible rfl)⟩) hHeld ?_ rfl rfl
       simp only [Act.put, sA, sZ, sS]
       refine wpq_tk 4 (some 79) [12] (Or.inl ⟨by rfl, fun w hSw => by (obtain ⟨x0, y0⟩ := hSw; go_simp; with_reducible rfl)⟩) hHeld ?_ rfl rfl
       simp only [Act.put, sA, sZ, sS]
       refine wpq_tk 5 (some 80) [12] (Or.inl ⟨by rfl, fun w hSw => by (obtain ⟨x0, y0⟩ := hSw; go_simp; with_reducible rfl)⟩) hHeld ?_ rfl rfl
       simp only [Act.put, sA, sZ, sS]
       refine wpq_tk 6 (some 81) [12] (Or.inl ⟨by rfl, fun w hSw => by (obtain ⟨x0, y0⟩ := hSw; go_simp; with_reducible rfl)⟩) hHeld ?_ rfl rfl
       simp only [Act.put, sA, sZ, sS]
       refine wpq_tk 7 (some 82) [12] (Or.inl ⟨by rfl, fun w hSw => by (obtain ⟨x0, y0⟩ := hSw; go_simp; with_reducible rfl)⟩) hHeld ?_ rfl rfl
       simp only [Act.put, sA, sZ, sS]
       refine wpq_tk 9 (some 84) [12] (Or.inl ⟨by rfl, fun w hSw => by (obtain ⟨x0, y0⟩ := hSw; go_simp; with_reducible rfl)⟩) hHeld ?_ rfl rfl
       simp only [Act.put, sA, sZ, sS]
       refine wpq_one 8 (by kernel_rfl) rfl (fun K hK => ?_)
       go_simp
       refine (HHI.out _ HI9.out.q.bel).mono ?_
       rintro e wx ⟨rfl, hwx⟩
       subst hwx
       refine hK.out _ _ hHeld (fun hHeld => ?_)
       clear hK K
       refine wpq_one 10 (by kernel_rfl) rfl (fun K hK => ?_)
       go_simp
       refine (addArc_any (bS + 1) arcs (.slice aA arcs.length acap) b (hiA bytes k) nI wd HI9.out.own HI9.out.box.lt (by have := HALN.out; omega)).mono ?_
       rintro e w7 ⟨v3, rfl, hown3, hg3, hat3⟩
       obtain ⟨A3, cap3, rfl, -⟩ := hown3.form
       have HN := Lib.hid (HI9.out.arcStep hown3 hg3 hat3)
       have hbs7 : BoxV bS 70 [.bool acc, .slice aA arcs.length acap] w7 := HI9.out.box.keep (hg3.block _ HI9.out.box.lt (fun e => by have := (HI9.out.own.lt bS e.symm).1; omega))
       have hy7 : w7.cell? ⟨gb, ob + k, none⟩ = some (.int .i64 (b : Int)) := (World.cell?_of_block (a := ⟨gb, ob + k, none⟩) (hg3.block gb (cell_ltZ hHeld.2) (fun e => by have := (HI9.out.own.lt gb e.symm).1; have := (HI9.out.q.xs bS (.inl rfl)).1; have := HI9.out.q.base.1; have := HGB.out; omega))).trans hHeld.2
       have hf := hbs7.free 1
       have hc := hbs7.cell 1
       simp only [List.getElem?_cons_zero, List.getElem?_cons_succ] at hc
       have hS : w7.cell? ⟨bS, 1, none⟩ = some (.slice aA arcs.length acap) ∧ w7.cell? ⟨gb, ob + k, none⟩ = some (.int .i64 (b : Int)) := ⟨hc, hy7⟩
       clear hown3 hg3 hat3 hbs7 hy7
       refine hK.out _ _ hS (fun hHeld => ?_)
       clear hK K hS
       refine wpq_tk 11 (some 86) [12] (Or.inl ⟨by rfl, fun w hSw => by (obtain ⟨x0, y0⟩ := hSw; go_simp; with_reducible rfl)⟩) hHeld ?_ rfl rfl
       simp only [Act.put, sA, sZ, sS]
       refine wpq_end 12 (by kernel_rfl) rfl (by kernel_rfl) (fun K hK => ?_)
       go_simp
       refine hK.out _ _ ?_
       clear hK K
       refine wpq_done (by kernel_rfl) ?_ _
       go_simp
       go_wp2_with fail
       exact ⟨⟨k + 1, _, order3, addArcA arcs b (hiA bytes k) nI, _, by simp, HKT.out, HN.out, HEV3.out, by have := HFEW3.out; unfold Hid; omega, by have := addArcA_len arcs b (hiA bytes k) nI; have := HALN.out; unfold Hid; omega, HLT3.out, HIE3.out⟩, by have := HKT.out; simp [intOf]; omega⟩
end Go.Proofs.YtpkecepelcppiaaGreatDoor

namespace Go.Proofs.YtpkecepelcppiaaGreatDoor
open Go.RowKit Go.Shelf Go.Maps
set_option maxHeartbeats 8000000
set_option maxRecDepth 100000

theorem cell_ltA {w : World} {g o : Nat} {v : Value} (h : w.cell? ⟨g, o, none⟩ = some v) : g < w.heap.size := by
 rcases Nat.lt_or_ge g w.heap.size with h1 | h1
 ·exact h1
 ·simp [World.cell?, Array.getElem?_eq_none h1] at h
theorem step_pushLA {α : Type} {ops : Array Oper} {o : Oper} {a : Act} {w : World} {K : Act → World → Prop} {Q : Exit → Act → World → Prop} {E : Prop} {B k sz : Nat} {S e : TypeId} {f : α → List Value} {v : Value} {l : List α} {x : α}
  (hgd : o.guard = none) (s y : Operand)
  (ho : o.op = .call { callee := .builtin .append, args := #[s, y], argTypes := #[S, S] }) (hel : Elem Tryz.prog S e sz)
  (hf : ∀ a, (f a).length = sz) (hsz0 : 0 < sz) (hone : ∀ u ∈ f x, u.oneCell' = true) (hown : OwnL B e sz f w v l) (hs : a.eval s = v) (hx : a.eval y = .slice (some ⟨k, 0, none⟩) 1 1) (hk : k = w.heap.size) (hn : l.length < 1000000000) (hbase : B ≤ w.heap.size)
  (h : ∀ v' w', OwnL B e sz f w' v' (l ++ [x]) → w.grownBy w' v.ownBlock → (∃ A cap, v' = .slice A (l.length + 1) cap) → (v'.ownBlock = v.ownBlock ∨ ∃ k, w.heap.size ≤ k ∧ v'.ownBlock = some k) → K (a.put o.dst v') w') :
  if Region.wanted o (yielded ops a.tmps) = true then o.wp Tryz.prog a (w.alloc (.cells (f x).toArray e)) K Q else E := by
 have hw : Region.wanted o (yielded ops a.tmps) = true := by simp [Region.wanted, hgd]
 rw [if_pos hw]
 exact wp_pushL s y ho hel hf hsz0 hone hown hs hx hk hn hbase h
theorem keyedStr : Keyed Tryz.prog 9 := string_keyed Tryz.underlying9
theorem zeroInt (w : World) : (zeroValue 3).run Tryz.prog w = .ok (.int .i64 0) w := by kernel_rfl
theorem slice_infoZ : (Tryz.prog.info? 82).map (fun i => (i.zero, i.size, i.bytes)) = some (some (.slice none 0 0), 1, 24) := by kernel_rfl
theorem int_infoZ : (Tryz.prog.info? 3).map (fun i => (i.zero, i.size, i.bytes)) = some (some (.int .i64 0), 1, 8) := by kernel_rfl
theorem val_lo {m : List StA} (hv : valA m = true) (i : Nat) (hi : i < m.length) (j : Nat) (hj : j < m[i].arcs.length) : (m[i].arcs[j]).lo ≤ 255 := by
 have h : ∀ (n : Nat) (l : List ArcA) (b : Nat), okArcs n b l = true → ∀ (j : Nat) (hj : j < l.length), (l[j]).lo ≤ 255 := by
  intro n l
  induction l with
  | nil => intro b _ j hj; exact absurd hj (Nat.not_lt_zero _)
  | cons a t ih =>
   intro b h j hj
   unfold okArcs at h
   simp only [Bool.and_eq_true, decide_eq_true_eq] at h
   cases j with
   | zero => show a.lo ≤ 255; omega
   | succ j => exact ih _ h.2 j (by simpa using hj)
 exact h _ _ _ (val_at hv i hi) j hj
theorem starts_len (m : List StA) : (startsA m).length ≤ 256 := stG_len m 256
theorem valA_pos {m : List StA} (hv : valA m = true) : 0 < m.length := by
 unfold valA at hv
 simp only [Bool.and_eq_true, decide_eq_true_eq] at hv
 exact hv.1.1
theorem starts_bp (m : List StA) : ∀ i b, (startsA m)[i + 1]? = some b → 1 ≤ b ∧ b ≤ 255 := by
 intro i b hb
 have hp : (startsA m).Pairwise (· < ·) := List.Pairwise.filter _ List.pairwise_lt_range
 obtain ⟨h1, h2⟩ := List.getElem?_eq_some_iff.1 hb
 have h3 := List.pairwise_iff_getElem.1 hp i (i + 1) (by omega) h1 (Nat.lt_succ_self i)
 have h4 := List.mem_range.1 (List.mem_filter.1 (List.getElem_mem h1)).1
 rw [h2] at h3 h4
 omega
theorem least_any (N : Nat → Prop) (f : Nat) (m out : List StA) (v : Value) (w : World) (hm : RdS N w v m) (hv : valA m = true) (hn : m.length < 100) (hf : leastA f m = some out) (hff : f ≤ 1000) :
  Calls Tryz.prog 95 #[.agg #[v]] w fun e w' => ∃ v', e = .returned (.agg #[v']) ∧ RdS (fun g => w.heap.size ≤ g) w' v' out ∧ Below w.heap.size w w' := by
 obtain ⟨a, cap, rfl, hml⟩ := hm.form
 have hmi : (m.length : Int) < 100 := by omega
 have HM := Lib.hid hm
 have HV := Lib.hid hv
 have HLO := Lib.hid (fun i hi j hj => val_lo hv i hi j hj)
 have HN := Lib.hid hn
 have HF := Lib.hid hf
 have HFF := Lib.hid hff
 have HM0L := Lib.hid (valA_pos hv)
 have HBP := Lib.hid (starts_bp m)
 have hmkN := run_make_row' (P := Tryz.prog) 158 82 (.slice none 0 0) 24 Tryz.underlying158 slice_infoZ rfl .i64 .i64 m.length (by omega) (by omega)
 have hmkC := run_make_row' (P := Tryz.prog) 82 3 (.int .i64 0) 8 Tryz.underlying82 int_infoZ rfl .i64 .i64 m.length (by omega) (by omega)
 clear hml hm hv hn hf hff
 go_enter Tryz.func95, Tryz.ntmps95
 go_upto_region 1 with fail
 generalize hW : World.alloc w _ = w1
 obtain ⟨hbx, -, hz1, hb1⟩ := alloc_of hW
 have HX := Lib.hid (show BoxV w.heap.size 29 [.slice a m.length cap] w1 from hbx)
 generalize hWb : World.alloc w1 _ = w1b
 obtain ⟨hbx2, -, hz2, hb2⟩ := alloc_of hWb
 rw [hz1] at hbx2
 have HR := Lib.hid (show BoxV (w.heap.size + 1) 29 [.slice none 0 0] w1b from hbx2)
 replace HX := Lib.hid (HX.out.below hb2)
 have HB := Lib.hid (hb1.trans (hb2.mono hb1.size))
 have HZ : Hid (w1b.heap.size = w.heap.size + 2) := by unfold Hid; rw [hz2, hz1]
 clear hW hbx hz1 hb1 hWb hbx2 hz2 hb2
 have x0 : w1b.cell? ⟨w.heap.size, 0, none⟩ = some (.slice a m.length cap) := HX.out.cell 0
 go_wp2_with fail
 generalize hW : World.alloc w1b _ = w2
 obtain ⟨hbx, -, hz1, hb1⟩ := alloc_of hW
 have h0 : w2.cell? ⟨w1b.heap.size, 0, none⟩ = some (.slice a m.length cap) := (show BoxV w1b.heap.size 29 [.slice a m.length cap] w2 from hbx).cell 0
 have HC0 := Lib.hid (starts_any N m (.slice a m.length cap) w1b.heap.size w2 h0 (by omega) (HM.out.stay (HB.out.trans (hb1.mono HB.out.size))) HLO.out)
 replace HX := Lib.hid (HX.out.below hb1)
 replace HR := Lib.hid (HR.out.below hb1)
 replace HB := Lib.hid (HB.out.trans (hb1.mono HB.out.size))
 clear hW hbx hz1 hb1 x0 h0 HZ
 refine HC0.out.mono ?_
 rintro e w3 ⟨vb, rfl, hbr, hb⟩
 replace HX := Lib.hid (HX.out.below hb)
 replace HR := Lib.hid (HR.out.below hb)
 replace HB := Lib.hid (HB.out.trans (hb.mono HB.out.size))
 have HBY := Lib.hid hbr
 obtain ⟨ba, bcap, rfl, -⟩ := hbr.form
 have HLEN := Lib.hid (starts_len m)
 obtain ⟨bytes, hby⟩ : ∃ bytes, bytes = startsA m := ⟨_, rfl⟩
 rw [← hby] at HBY HLEN HBP ⊢
 have HBE := Lib.hid hby
 have hbl : (bytes.length : Int) ≤ 256 := by have := HLEN.out; omega
 clear hbr hb HC0 hby
 have x0 : w3.cell? ⟨w.heap.size, 0, none⟩ = some (.slice a m.length cap) := HX.out.cell 0
 go_upto_region 3 with fail
 generalize hW : World.alloc w3 _ = w4
 have hnx := show w4.rowIs w3.heap.size 82 m.length (fun _ => .slice none 0 0) from hW ▸ World.rowIs_made w3 _ m.length _
 obtain ⟨-, -, hz1, hb1⟩ := alloc_of hW
 have x0 : w4.cell? ⟨w.heap.size, 0, none⟩ = some (.slice a m.length cap) := (HX.out.below hb1).cell 0
 go_upto_region 4 with fail
 generalize hW2 : World.alloc w4 _ = w5
 have hcl := show w5.rowIs w4.heap.size 3 m.length (fun _ => .int .i64 0) from hW2 ▸ World.rowIs_made w4 _ m.length _
 obtain ⟨-, -, hz2, hb2⟩ := alloc_of hW2
 rw [hz1] at hcl
 have HLA := Lib.hid (show LA m.length m bytes 0 (fun _ => .slice none 0 0) w3 w5 from ⟨hb1.trans (hb2.mono hb1.size), World.rowIs.congr (hnx.of_block (hb2.block _ (by omega))) (fun i _ => by rw [if_neg (by omega)]), World.rowIs.congr hcl (fun i _ => by rw [if_neg (by omega)]), fun i hi => absurd hi (Nat.not_lt_zero _)⟩)
 clear hW hnx hz1 hb1 hW2 hcl hz2 hb2 hmkN hmkC
 have x0 : w5.cell? ⟨w.heap.size, 0, none⟩ = some (.slice a m.length cap) := (HX.out.below HLA.out.bel).cell 0
 go_wp2_with fail
 clear x0
 go_loopw [33] (fun qv wr => ∃ (q : Nat) (RV : Nat → Value), qv = .int .i64 (q : Int) ∧ q ≤ m.length ∧ Hid (LA m.length m bytes q RV w3 wr)) (fun qv _ => m.length - (intOf qv).toNat)
 case atStart => exact ⟨0, _, rfl, Nat.zero_le _, HLA.out⟩
 case round =>
  clear HLA
  obtain ⟨q, RV, rfl, hq, HLA⟩ := hrel
  by_cases hlt : q < m.length
  case neg =>
   have hqe : q = m.length := by omega
   subst hqe
   have hge : ¬ (m.length : Int) < m.length := by omega
   obtain ⟨clF, hcl, hnum⟩ := least_parts HF.out
   rw [← HBE.out] at hcl hnum
   have HNUM := Lib.hid hnum
   have HP0 : Hid (LC m.length m bytes clF wr (.slice (some ⟨w3.heap.size + 1, 0, none⟩) m.length m.length) (.int .i64 0) wr f (w3.heap.size + 1) 0 (cl0 m)) := ⟨rfl, rfl, World.rowIs.congr HLA.out.cl (fun i hi => by rw [cl0_at hi]; congr 1; by_cases h : accOf m i = true; rw [if_pos ⟨hi, h⟩, if_pos h]; rfl; rw [if_neg (fun h2 => h h2.2), if_neg h]; rfl), by simp [cl0], fun i => by
    unfold cl0
    rw [List.getD_eq_getElem?_getD, List.getElem?_map]
    cases m[i]? with
    | none => show (0 : Nat) < 100; omega
    | some s => show (if s.acc then 1 else 0) < 100; split <;> omega, by omega, hcl, Below.refl _ _⟩
   have HV2 := Lib.hid (fun q (hq : q < m.length) (b : Nat) => stepL_lt m[q].arcs 0 b (val_at HV.out q hq) (by omega))
   clear hlt hq hnum hcl
   obtain ⟨wA, hwA⟩ : ∃ x, x = wr := ⟨_, rfl⟩
   subst hwA
   go_wp2_with fail
   go_loopw [5, 10] (fun cv kv wr => ∃ (f gc known : Nat) (cl : List Nat), Hid (LC m.length m bytes clF wA cv kv wr f gc known cl)) (fun cv kv wr => minN (fun f => ∃ gc known cl, LC m.length m bytes clF wA cv kv wr f gc known cl))
   case atStart => exact ⟨f, _, 0, cl0 m, HP0.out⟩
   case round =>
    clear HP0
    obtain ⟨f0, gc0, known0, cl00, h0⟩ := hrel
    obtain ⟨μ, gc, known, cl, hP, hμ⟩ := h0.out.least
    have hcv := hP.cv
    have hkv := hP.kv
    subst hcv
    subst hkv
    have HMU := Lib.hid hμ
    cases μ with
    | zero => exact absurd hP.ev (by rw [loopA]; intro h; cases h)
    | succ f1 =>
     have HP := Lib.hid hP
     clear hP hμ h0 f0 gc0 known0 cl00
     have hki : (known : Int) ≤ 100 := by have := HP.out.kn; omega
     have HKL := Lib.hid ((keysA_len cl (nxL m bytes)).trans HP.out.len)
     have hmk := @run_makeMap Tryz.prog
     have hmkC := run_make_row' (P := Tryz.prog) 82 3 (.int .i64 0) 8 Tryz.underlying82 int_infoZ rfl .i64 .i64 m.length (by omega) (by omega)
     obtain ⟨wB, hwB⟩ : ∃ x, x = wr := ⟨_, rfl⟩
     subst hwB
     go_upto_region 17 with fail
     generalize hW : World.alloc wB _ = w6
     have hmap := show w6.ownsMap (H := Unit) Tryz.prog 9 (plainElem Tryz.prog 3) wB.heap.size 0 (.map []) from hW ▸ World.ownsMap_made wB _ _ _
     obtain ⟨-, -, hz1, hb1⟩ := alloc_of hW
     go_upto_region 18 with fail
     generalize hW2 : World.alloc w6 _ = w7
     have hfin := show w7.rowIs w6.heap.size 3 m.length (fun _ => .int .i64 0) from hW2 ▸ World.rowIs_made w6 _ m.length _
     obtain ⟨-, -, hz2, hb2⟩ := alloc_of hW2
     rw [hz1] at hfin
     have HM0 := Lib.hid (hmap.kept (grown_of_below hb2 none) (by simp))
     have HF0 := Lib.hid (show w7.rowIs (wB.heap.size + 1) 3 m.length (fun i => .int .i64 ((([] : List Nat).getD i 0 : Nat) : Int)) from hfin)
     have HB7 := Lib.hid (hb1.trans (hb2.mono hb1.size))
     clear hW hmap hz1 hb1 hW2 hfin hz2 hb2 hmk hmkC
     go_wp2_with fail
     go_loopw [70] (fun qv wr => ∃ (q : Nat) (D : DataW Unit) (seen : List (List UInt8)) (fin : List Nat), qv = .int .i64 (q : Int) ∧ q ≤ m.length ∧ Hid (wr.ownsMap (H := Unit) Tryz.prog 9 (plainElem Tryz.prog 3) wB.heap.size q D) ∧ Hid (NumM (fun l : List UInt8 => Lit.string l) D seen) ∧ Hid (wr.rowIs (wB.heap.size + 1) 3 m.length (fun i => .int .i64 ((fin.getD i 0 : Nat) : Int))) ∧ Hid (RI (keysA cl (nxL m bytes)) fin seen q) ∧ Hid (Below wB.heap.size wB wr)) (fun qv _ => m.length - (intOf qv).toNat)
     case atStart => exact ⟨0, .map [], [], [], rfl, Nat.zero_le _, HM0.out, NumM.nil _, HF0.out, RI.nil _, HB7.out⟩
     case round =>
      clear HM0 HF0 HB7
      obtain ⟨q, D, seen, fin, rfl, hq, HMP, HNU, HFI, HRI, HBW⟩ := hrel
      obtain ⟨wD, hwD⟩ : ∃ x, x = wr := ⟨_, rfl⟩
      subst hwD
      by_cases hlt : q < m.length
      case neg =>
       have hgeq : ¬ (q : Int) < m.length := by omega
       have HRD := Lib.hid (HRI.out.done (by rw [HKL.out]; omega))
       have hlen : ∀ ty, (Builtin.len_ #[159] ty #[.map (some wB.heap.size)]).run Tryz.prog wD = .ok (.int .i64 (seen.length : Int)) wD := fun ty => by
        rw [← HNU.out.len]
        exact HMP.out.len Tryz.underlying159 ty
       have HSL : Hid (seen.length ≤ 100) := by have := HRI.out.few; have := HN.out; unfold Hid; omega
       clear hlt
       by_cases hkn : seen.length = known
       case pos =>
        have hkni : ((seen.length : Int) == (known : Int)) = true := by rw [hkn]; exact beq_self_eq_true _
        have hclF : fin = clF := by
         have h1 := HP.out.ev
         rw [loopA_succ _ _ _ _ _ _ HRD.out, if_pos hkn] at h1
         exact Option.some.inj h1
        have hbA : Below wA.heap.size wA wD := HP.out.bel.trans (HBW.out.mono HP.out.bel.size)
        have hbD : Below w3.heap.size w3 wD := HLA.out.bel.trans (hbA.mono HLA.out.bel.size)
        have HLD := Lib.hid (HLA.out.stay hbA)
        have HXD := Lib.hid (HX.out.below hbD)
        have HRR := Lib.hid (HR.out.below hbD)
        have HBD := Lib.hid (HB.out.trans (hbD.mono HB.out.size))
        have hfl : ∀ i, fin.getD i 0 < 100 := fun i => by
         rw [List.getD_eq_getElem?_getD]
         cases hg : fin[i]? with
         | none => show (0 : Nat) < 100; omega
         | some c => have := HRI.out.lt c (List.mem_of_getElem? hg); have := HRI.out.few; have := HN.out; show c < 100; omega
        have hfi := HFI.out
        rw [hclF] at hfl hfi
        have HNB := Lib.hid (numbered_any N f m out bytes clF (nxL m bytes) (.slice a m.length cap) (.slice ba bytes.length bcap) w3.heap.size (wB.heap.size + 1) RV wD (HM.out.stay HBD.out) HN.out HM0L.out (HBY.out.stay hbD) HLEN.out HBP.out (World.rowIs.congr HLD.out.nx (fun i hi => by rw [if_pos hi])) (fun q hq => ⟨by rw [nxL_at hq]; exact (HLD.out.rows q hq).1, by rw [nxL_at hq, List.length_map]; exact Nat.le_refl _, by rw [nxL_at hq]; intro t ht; obtain ⟨b, -, rfl⟩ := List.mem_map.1 ht; rw [accs_eq hq]; exact HV2.out q hq b⟩) hfi hfl HFF.out HNUM.out)
        have x0 := HXD.out.cell 0
        simp only [List.getElem?_cons_zero] at x0
        clear hkn hclF hbA hbD hfl hfi
        go_wp2_with fail
        refine HNB.out.mono ?_
        rintro e w9 ⟨v', rfl, hr, hb⟩
        obtain ⟨ra, rcap, rfl, -⟩ := hr.form
        have HR9 := Lib.hid (HRR.out.below hb)
        have HB9 := Lib.hid (HBD.out.trans (hb.mono HBD.out.size))
        have HRS := Lib.hid (hr.mono (M := fun g => w.heap.size + 1 < g) (fun g h _ => Nat.lt_of_lt_of_le HRR.out.lt h))
        have z0 := HR9.out.cell 0
        have y0 := HR9.out.free 0
        simp only [List.getElem?_cons_zero] at z0
        clear hr hb x0
        go_wp2_with fail
        refine bodyPost_ret (v := .agg #[.slice ra out.length rcap]) ?_ rfl ⟨_, rfl, ?_, HB9.out.setCell (p := ⟨w.heap.size + 1, 0, none⟩) (by show w.heap.size ≤ w.heap.size + 1; omega) _⟩
        ·have hbx : BoxV (w.heap.size + 1) 29 [.slice ra out.length rcap] (w9.setCell ⟨w.heap.size + 1, 0, none⟩ (.slice ra out.length rcap)) := heap_setCell_same w9 (w.heap.size + 1) 0 _ _ _ HR9.out
         have q0 := hbx.cell 0
         simp only [List.getElem?_cons_zero] at q0
         simp [results, Tryz.results95, go_sem, q0]
        ·exact (HRS.out.keep (fun g hg _ => Below.heap_setCell w9 ⟨w.heap.size + 1, 0, none⟩ _ g (by show g ≠ w.heap.size + 1; omega))).mono (fun g hg _ => by omega)
       case neg =>
        have hkni : ((seen.length : Int) == (known : Int)) = false := beq_false_of_ne (by omega)
        have HPN : Hid (LC m.length m bytes clF wA (.slice (some ⟨wB.heap.size + 1, 0, none⟩) m.length m.length) (.int .i64 (seen.length : Int)) wD f1 (wB.heap.size + 1) seen.length fin) := ⟨rfl, rfl, HFI.out, by rw [HRI.out.len]; omega, fun i => by
         rw [List.getD_eq_getElem?_getD]
         cases hg : fin[i]? with
         | none => show (0 : Nat) < 100; omega
         | some c => have := HRI.out.lt c (List.mem_of_getElem? hg); have := HRI.out.few; have := HN.out; show c < 100; omega, HSL.out, by
         have h1 := HP.out.ev
         rw [loopA_succ _ _ _ _ _ _ HRD.out, if_neg hkn] at h1
         exact h1, HP.out.bel.trans (HBW.out.mono HP.out.bel.size)⟩
        clear hkn
        go_wp2_with fail
        exact ⟨⟨f1, _, _, fin, HPN.out⟩, by rw [HMU.out]; exact Nat.lt_succ_of_le (minN_le ⟨_, _, _, HPN.out⟩)⟩
      case pos =>
       have hlti : (q : Int) < m.length := by omega
       have c1 := (HP.out.row.of_block (HBW.out.block _ HP.out.row.lt)).cell hlt
       have HLR := Lib.hid (HLA.out.stay ((HP.out.bel.trans (HBW.out.mono HP.out.bel.size))))
       have n1 := HLR.out.nx.cell hlt
       rw [if_pos hlt] at n1
       have HRR0 := Lib.hid (HLR.out.rows q hlt)
       have HNR := Lib.hid (nxL_at (bytes := bytes) hlt)
       have HTL : Hid (∀ t ∈ bytes.map (stepL (arcsOf m q)), t < m.length) := by
        intro t ht
        obtain ⟨b, -, rfl⟩ := List.mem_map.1 ht
        rw [accs_eq hlt]
        exact HV2.out q hlt b
       have hnl : (bytes.map (stepL (arcsOf m q))).length ≤ 256 := by rw [List.length_map]; exact HLEN.out
       generalize bytes.map (stepL (arcsOf m q)) = nr at *
       obtain ⟨ra, rcap, hrv, -⟩ := HRR0.out.1.form
       rw [hrv] at n1
       have HRR := Lib.hid HRR0.out.1
       rw [hrv] at HRR
       have hnli : (nr.length : Int) ≤ 256 := by omega
       have HNL := Lib.hid hnl
       have HQ := Lib.hid hlt
       obtain ⟨cq, hcq⟩ : ∃ c, c = cl.getD q 0 := ⟨_, rfl⟩
       have HCQL := HP.out.lt q
       rw [← hcq] at c1 HCQL
       have HCQE := Lib.hid hcq
       have HCQ := Lib.hid (fun w' => itoa_any cq HCQL w')
       clear hlt hrv HRR0 hnl HLR HCQL hcq
       go_wp2_with fail
       refine (HCQ.out _).mono ?_
       rintro e wx ⟨rfl, hwx⟩
       replace hwx := hwx.symm
       subst hwx
       go_wp2_with fail
       have HW0 : Hid (L (⟨(decT cq).toArray⟩ : ByteArray) = decN cq ++ (nr.take 0).flatMap (fun t => 44 :: decN (cl.getD t 0)) ∧ (⟨(decT cq).toArray⟩ : ByteArray).size ≤ 3) := ⟨by rw [L_mk, List.take_zero]; simp [decN], by have := decT_len cq; simpa [ByteArray.size] using this⟩
       generalize (⟨(decT cq).toArray⟩ : ByteArray) = u0 at *
       clear c1 n1
       go_loopw [14, 83] (fun sv jv wr => ∃ (j : Nat) (s : ByteArray), sv = .string s ∧ jv = .int .i64 (j : Int) ∧ j ≤ nr.length ∧ Hid (L s = decN cq ++ (nr.take j).flatMap (fun t => 44 :: decN (cl.getD t 0))) ∧ Hid (s.size ≤ 3 + 4 * j) ∧ wD = wr) (fun _ jv _ => nr.length - (intOf jv).toNat)
       case atStart => exact ⟨0, u0, rfl, rfl, Nat.zero_le _, HW0.out.1, HW0.out.2, by first | rfl | trivial⟩
       case round =>
        clear HW0
        obtain ⟨j, s, rfl, rfl, hj, HS, HSZ, rfl⟩ := hrel
        have hsz : (s.size : Int) ≤ 1100 := by have := HSZ.out; omega
        by_cases hjt : j < nr.length
        case pos =>
         have hjti : (j : Int) < nr.length := by omega
         obtain ⟨gr, orr, rfl, hcr⟩ := HRR.out.at_ j hjt
         have HTK := Lib.hid (List.take_succ_eq_append_getElem hjt)
         have htn := HTL.out nr[j] (List.getElem_mem hjt)
         have HJ : Hid (j + 1 ≤ nr.length) := hjt
         generalize nr[j] = t at *
         have c2 := (HP.out.row.of_block (HBW.out.block _ HP.out.row.lt)).cell htn
         have hti : (t : Int) < m.length := by omega
         obtain ⟨ct, hct⟩ : ∃ c, c = cl.getD t 0 := ⟨_, rfl⟩
         have HCTL := HP.out.lt t
         rw [← hct] at c2 HCTL
         have HCTE := Lib.hid hct
         have HCT := Lib.hid (fun w' => itoa_any ct HCTL w')
         clear hjt htn hct HCTL
         go_wp2_with fail
         refine (HCT.out _).mono ?_
         rintro e wx ⟨rfl, hwx⟩
         replace hwx := hwx.symm
         subst hwx
         have HU : Hid (L (⟨(decT ct).toArray⟩ : ByteArray) = decN ct ∧ (⟨(decT ct).toArray⟩ : ByteArray).size ≤ 3) := ⟨L_mk _, by have := decT_len ct; simpa [ByteArray.size] using this⟩
         generalize (⟨(decT ct).toArray⟩ : ByteArray) = u at *
         have hu3 : (u.size : Int) ≤ 3 := by have := HU.out.2; omega
         go_wp2_with fail
         refine ⟨⟨j + 1, _, rfl, by simp, HJ.out, ?_, ?_, by first | rfl | trivial⟩, by have := HJ.out; simp [intOf]; omega⟩
         ·unfold Hid
          rw [L_append, L_append, HS.out, HU.out.1, HTK.out, List.flatMap_append, List.append_assoc, List.flatMap_cons, List.flatMap_nil, List.append_nil, ← HCTE.out]
          rfl
         ·unfold Hid
          rw [ByteArray.size_append, ByteArray.size_append]
          have h1 := HU.out.2
          have h2 := HSZ.out
          show s.size + (1 + u.size) ≤ _
          omega
        case neg =>
         have hgej : ¬ (j : Int) < nr.length := by omega
         have HKEY : Hid (L s = (keysA cl (nxL m bytes))[q]'(by rw [HKL.out]; exact HQ.out)) := by
          unfold Hid
          rw [keysA_at, HS.out, List.take_of_length_le (by omega)]
          unfold keyA
          rw [HNR.out, HCQE.out]
         have hqk : q < (keysA cl (nxL m bytes)).length := by rw [HKL.out]; exact HQ.out
         have HKO := Lib.hid (Go.WideMaps.keyOf_string_mk (P := Tryz.prog) (k := 9) Tryz.underlying9 (s := s) (by unfold maxLen; omega))
         have hf := World.rowIs.frozen HFI.out q
         have hc := HFI.out.cell HQ.out
         cases hfi : seen.findIdx? (fun y => decide (y = L s)) with
         | some i =>
          have hhas : has D (Lit.string s.data.toList) = true := by rw [show Lit.string s.data.toList = (fun l : List UInt8 => Lit.string l) (L s) from rfl, HNU.out.has_, hfi]; rfl
          have hnum := HNU.out.num (L s) i hfi
          have HR2 := Lib.hid (HRI.out.hit hqk (by rw [← HKEY.out]; exact hfi))
          have HHAS := Lib.hid hhas
          have HNUM2 := Lib.hid hnum
          clear hhas hnum hfi hqk hjt
          go_wp2_with (refine wpl_look_ok rfl rfl keyedStr Tryz.underlying159 Tryz.underlying3 (zeroInt _) rfl HMP.out rfl HKO.out true (i : Int) HHAS.out HNUM2.out ?_)
          exact ⟨⟨q + 1, D, seen, fin ++ [i], by simp, HQ.out, (HMP.out.setCell (a := ⟨wB.heap.size + 1, q, none⟩) (by show wB.heap.size ≠ wB.heap.size + 1; omega) _).mono (Nat.le_succ q), HNU.out, row_snoc HFI.out HRI.out.len, HR2.out, HBW.out.setCell (p := ⟨wB.heap.size + 1, q, none⟩) (by show wB.heap.size ≤ wB.heap.size + 1; omega) _⟩, by have := HQ.out; simp [intOf]; omega⟩
         | none =>
          have hhas : has D (Lit.string s.data.toList) = false := by rw [show Lit.string s.data.toList = (fun l : List UInt8 => Lit.string l) (L s) from rfl, HNU.out.has_, hfi]; rfl
          have HHAS := Lib.hid hhas
          have HZE := Lib.hid (HNU.out.zero hfi)
          have HR2 : Hid (RI (keysA cl (nxL m bytes)) (fin ++ [seen.length]) (seen ++ [L s]) (q + 1)) := by
           unfold Hid
           rw [HKEY.out]
           exact HRI.out.miss hqk (by rw [← HKEY.out]; exact hfi)
          have HPU := Lib.hid (NumM.push (kf := fun l : List UInt8 => Lit.string l) (fun x y h => by injection h) (fun x => show WideAt.IsKeyLit (Lit.string x) from trivial) HNU.out (L s) hfi)
          have hlen : ∀ ty, (Builtin.len_ #[159] ty #[.map (some wB.heap.size)]).run Tryz.prog wD = .ok (.int .i64 (seen.length : Int)) wD := fun ty => by
           rw [← HNU.out.len]
           exact HMP.out.len Tryz.underlying159 ty
          have HSL : Hid (seen.length < 100) := by have := HRI.out.few; have := HN.out; have := HQ.out; unfold Hid; omega
          have HGF := Lib.hid HFI.out.lt
          have HWF : Hid ((Lit.int .i64 (seen.length : Int)).wf = true) := by
           have := HSL.out
           show (decide (IntKind.i64.min ≤ (seen.length : Int)) && decide ((seen.length : Int) ≤ IntKind.i64.max)) = true
           rw [Bool.and_eq_true]
           exact ⟨decide_eq_true (by show (-9223372036854775808 : Int) ≤ _; omega), decide_eq_true (by show _ ≤ (9223372036854775807 : Int); omega)⟩
          clear hhas hfi hqk hjt hf hc
          go_wp2_with (first
           | refine wpl_look_ok rfl rfl keyedStr Tryz.underlying159 Tryz.underlying3 (zeroInt _) rfl HMP.out rfl HKO.out false 0 HHAS.out HZE.out ?_
           | (at_mapUpdate; refine wpList_mapUpdate_own _ rfl _ _ _ 159 rfl 9 3 keyedStr Tryz.underlying159 _ wB.heap.size q D rfl HMP.out (by have := HQ.out; have := HN.out; unfold maxLen; omega) _ _ _ rfl rfl HKO.out _ [] (plainElem_int Tryz.underlying3 HWF.out) ?_; intro w8 hown8 hg8; have HM8 := Lib.hid hown8; have HF8 := Lib.hid (HFI.out.of_block (hg8.block _ HGF.out (fun h => by injection h with h; omega))); have HB8 := Lib.hid (HBW.out.grown hg8 HBW.out.size (fun j hj => by cases hj; exact Nat.le_refl _)); have hf8 := World.rowIs.frozen HF8.out q; have hc8 := HF8.out.cell HQ.out; clear hown8 hg8))
          exact ⟨⟨q + 1, _, seen ++ [L s], fin ++ [seen.length], by simp, HQ.out, HM8.out.setCell (a := ⟨wB.heap.size + 1, q, none⟩) (by show wB.heap.size ≠ wB.heap.size + 1; omega) _, HPU.out, row_snoc HF8.out HRI.out.len, HR2.out, HB8.out.setCell (p := ⟨wB.heap.size + 1, q, none⟩) (by show wB.heap.size ≤ wB.heap.size + 1; omega) _⟩, by have := HQ.out; simp [intOf]; omega⟩
  case pos =>
   have hlti : (q : Int) < m.length := by omega
   obtain ⟨g, o, b0, k0, c0, rfl, m0, m1, hk0, ha⟩ := HM.out.at_ q hlt
   have hgl := HM.out.lt0 (by omega)
   have hbw := HB.out.trans (HLA.out.bel.mono HB.out.size)
   replace m0 := (hbw.cell (p := ⟨g, o + q * 2, none⟩) hgl).trans m0
   replace m1 := (hbw.cell (p := ⟨g, o + q * 2 + 1, none⟩) hgl).trans m1
   have HAC := Lib.hid (acc_eq hlt)
   have HST : Hid (∀ w', Below w3.heap.size w3 w' → ∀ b : Nat, Calls Tryz.prog 121 #[.agg #[.slice (some ⟨g, o, none⟩) m.length cap], .int .i64 (q : Int), .int .i64 (b : Int)] w' fun e w'' => e = .returned (.int .i64 (stepL (arcsOf m q) b : Nat)) ∧ Below w'.heap.size w' w'') := fun w' hb b => by
    rw [accs_eq hlt]
    exact step_any N m _ q b w' (HM.out.stay (HB.out.trans (hb.mono HB.out.size))) hlt
   have HQ := Lib.hid hlt
   generalize m[q].acc = acc at *
   clear hlt ha hbw hgl hk0
   go_upto_region 7 with fail
   generalize hW : World.alloc wr _ = w6
   obtain ⟨hbx, -, hz1, hb1⟩ := alloc_of hW
   have HS := Lib.hid (show BoxV wr.heap.size 70 [.bool acc, .slice b0 k0 c0] w6 from hbx)
   have HLB := Lib.hid (HLA.out.stay hb1).inner
   have HBS : Hid (w3.heap.size + 2 ≤ wr.heap.size ∧ wr.heap.size < w6.heap.size) := ⟨by have := HLA.out.cl.lt; omega, by omega⟩
   generalize wr.heap.size = bS at *
   obtain ⟨B, hBe⟩ : ∃ B, B = w6.heap.size := ⟨_, rfl⟩
   rw [← hBe] at HLB HBS
   clear hW hbx hz1 hb1 m0 m1 HLA hBe
   go_wp2_with fail
   go_loopw [40] (fun kv wr => ∃ (k : Nat) (A : Option Addr) (nl cap2 : Nat), kv = .int .i64 (k : Int) ∧ k ≤ bytes.length ∧ Hid (LB m.length m bytes q k B RV (.slice A nl cap2) w3 wr) ∧ Hid (BoxV bS 70 [.bool acc, .slice b0 k0 c0] wr)) (fun kv _ => bytes.length - (intOf kv).toNat)
   case atStart => exact ⟨0, none, 0, 0, rfl, Nat.zero_le _, HLB.out, HS.out⟩
   case round =>
    clear HLB HS
    obtain ⟨k, A, nl, cap2, rfl, hk, HL, HS⟩ := hrel
    by_cases hkt : k < bytes.length
    case neg =>
     have hge : ¬ (k : Int) < bytes.length := by omega
     have hke : bytes.length ≤ k := by omega
     have s0 : wr.cell? ⟨bS, 0, none⟩ = some (.bool acc) := HS.out.cell 0
     cases acc with
     | false =>
      have HD := Lib.hid (HL.out.done hke HAC.out)
      clear hkt hke
      go_wp2_with fail
      exact ⟨⟨q + 1, _, by simp, HQ.out, HD.out⟩, by have := HQ.out; simp [intOf]; omega⟩
     | true =>
      have HD := Lib.hid (HL.out.done1 hke HAC.out HQ.out)
      have hc := HL.out.cl.cell HQ.out
      have hf := World.rowIs.frozen HL.out.cl q
      clear hkt hke
      go_wp2_with fail
      exact ⟨⟨q + 1, _, by simp, HQ.out, HD.out⟩, by have := HQ.out; simp [intOf]; omega⟩
    case pos =>
     have hkti : (k : Int) < bytes.length := by omega
     obtain ⟨gb, ob, rfl, hcb⟩ := (HBY.out.stay HL.out.bel).at_ k hkt
     obtain ⟨b, hbk⟩ : ∃ b, b = bytes[k] := ⟨_, rfl⟩
     rw [← hbk] at hcb
     have HBK := Lib.hid hbk
     have HKB := Lib.hid hkt
     have x0 := (HX.out.below HL.out.bel).cell 0
     have y0 := HL.out.nx.cell HQ.out
     rw [if_neg (Nat.lt_irrefl q), if_pos rfl] at y0
     have hS0 : wr.drew.cell? ⟨w.heap.size, 0, none⟩ = some (.slice (some ⟨g, o, none⟩) m.length cap) ∧ wr.drew.cell? ⟨w3.heap.size, q, none⟩ = some (.slice A nl cap2) := ⟨x0, y0⟩
     replace HL := Lib.hid (HL.out.stay (drewBn wr))
     replace HS := Lib.hid (HS.out.below (drewBn wr))
     clear hbk x0 y0
     go_upto_region 10 with fail
     obtain ⟨gN, hgn⟩ : ∃ gN, gN = w3.heap.size := ⟨_, rfl⟩
     obtain ⟨bx, hbx⟩ : ∃ bx, bx = w.heap.size := ⟨_, rfl⟩
     rw [← hgn, ← hbx] at hS0
     rw [← hgn, ← hbx]
     have HGN : Hid (w3.heap.size = gN) := hgn.symm
     have HBX : Hid (bx < gN) := by have := HX.out.lt; unfold Hid; omega
     have HBX2 : Hid (w.heap.size = bx) := hbx.symm
     rw [HGN.out] at HBS
     clear hgn hbx
     refine wpq_region (fun w' => w'.cell? ⟨bx, 0, none⟩ = some (.slice (some ⟨g, o, none⟩) m.length cap) ∧ w'.cell? ⟨gN, q, none⟩ = some (.slice A nl cap2)) 13 (by kernel_rfl) hS0 (fun hHeld => ?_)
     clear hS0
     generalize wr.drew = wd at *
     refine wpq_tk 0 (some 44) [13] (Or.inl ⟨by rfl, fun w hSw => by (obtain ⟨x0, y0⟩ := hSw; go_simp; with_reducible rfl)⟩) hHeld ?_ rfl rfl
     simp only [Act.put, sA, sZ, sS]
     refine wpq_tk 1 (some 45) [13] (Or.inl ⟨by rfl, fun w hSw => by (obtain ⟨x0, y0⟩ := hSw; go_simp; with_reducible rfl)⟩) hHeld ?_ rfl rfl
     simp only [Act.put, sA, sZ, sS]
     refine wpq_tk 2 (some 46) [13] (Or.inl ⟨by rfl, fun w hSw => by (obtain ⟨x0, y0⟩ := hSw; go_simp; with_reducible rfl)⟩) hHeld ?_ rfl rfl
     simp only [Act.put, sA, sZ, sS]
     refine wpq_tk 3 (some 47) [13] (Or.inl ⟨by rfl, fun w hSw => by (obtain ⟨x0, y0⟩ := hSw; go_simp; with_reducible rfl)⟩) hHeld ?_ rfl rfl
     simp only [Act.put, sA, sZ, sS]
     refine wpq_tk 4 (some 48) [13] (Or.inl ⟨by rfl, fun w hSw => by (obtain ⟨x0, y0⟩ := hSw; go_simp; with_reducible rfl)⟩) hHeld ?_ rfl rfl
     simp only [Act.put, sA, sZ, sS]
     refine wpq_tk 5 (some 49) [13] (Or.inl ⟨by rfl, fun w hSw => by (obtain ⟨x0, y0⟩ := hSw; go_simp; with_reducible rfl)⟩) hHeld ?_ rfl rfl
     simp only [Act.put, sA, sZ, sS]
     refine wpq_tk 6 (some 50) [13] (Or.inl ⟨by rfl, fun w hSw => by (obtain ⟨x0, y0⟩ := hSw; go_simp; with_reducible rfl)⟩) hHeld ?_ rfl rfl
     simp only [Act.put, sA, sZ, sS]
     refine wpq_tk 7 (some 51) [13] (Or.inl ⟨by rfl, fun w hSw => by (obtain ⟨x0, y0⟩ := hSw; go_simp; with_reducible rfl)⟩) hHeld ?_ rfl rfl
     simp only [Act.put, sA, sZ, sS]
     refine wpq_tk 8 (some 52) [13] (Or.inl ⟨by rfl, fun w hSw => by (obtain ⟨x0, y0⟩ := hSw; go_simp; with_reducible rfl)⟩) hHeld ?_ rfl rfl
     simp only [Act.put, sA, sZ, sS]
     refine wpq_one 9 (by kernel_rfl) rfl (fun K hK => ?_)
     go_simp
     refine (HST.out _ HL.out.bel b).mono ?_
     rintro e wx ⟨rfl, hb⟩
     replace hHeld := show wx.cell? ⟨bx, 0, none⟩ = some (.slice (some ⟨g, o, none⟩) m.length cap) ∧ wx.cell? ⟨gN, q, none⟩ = some (.slice A nl cap2) from ⟨(hb.cell (p := ⟨bx, 0, none⟩) (cell_ltA hHeld.1)).trans hHeld.1, (hb.cell (p := ⟨gN, q, none⟩) (cell_ltA hHeld.2)).trans hHeld.2⟩
     replace HL := Lib.hid (HL.out.stay hb)
     replace HS := Lib.hid (HS.out.below hb)
     clear hb
     generalize wx = wd at *
     refine hK.out _ _ hHeld (fun hHeld => ?_)
     clear hK K
     refine wpq_one 10 (by kernel_rfl) rfl (fun K hK => ?_)
     go_simp
     have hb7 : Below wd.heap.size wd (wd.alloc (.cells (natV (stepL (arcsOf m q) b)).toArray 3)) := (Below.refl _ _).alloc (Nat.le_refl _) _
     refine hK.out _ _ ⟨(hb7.cell (p := ⟨bx, 0, none⟩) (cell_ltA hHeld.1)).trans hHeld.1, (hb7.cell (p := ⟨gN, q, none⟩) (cell_ltA hHeld.2)).trans hHeld.2⟩ (fun hHeld2 => ?_)
     clear hK K hb7 hHeld2
     refine wpq_one 11 (by kernel_rfl) rfl (fun K hK => ?_)
     refine step_pushLA (f := natV) (x := stepL (arcsOf m q) b) (v := .slice A nl cap2) (l := (bytes.map (stepL (arcsOf m q))).take k) (B := B) (e := 3) (sz := 1) rfl _ _ rfl elemIn natV_len (by decide) (natV_one _) HL.out.own rfl rfl rfl (by rw [List.length_take]; have := HLEN.out; rw [List.length_map]; omega) HL.out.base.2 ?_
     rintro v3 w7 hown3 hg3 hfm3 hat3
     have hb7 : Below B wd w7 := grown_belowL hg3 (fun y hy => (HL.out.own.lt y hy).1) HL.out.base.2
     have hbase : gN + 2 ≤ B := by have := HL.out.base.1; rw [HGN.out] at this; exact this
     have HN := Lib.hid (HL.out.push HKB.out (by rw [HBK.out]) HQ.out hown3 hg3)
     rw [HGN.out] at HN
     have HS7 := Lib.hid (show BoxV bS 70 [.bool acc, .slice b0 k0 c0] (w7.setCell ⟨gN, q, none⟩ v3) from (Below.heap_setCell w7 ⟨gN, q, none⟩ v3 bS (by have := HBS.out; show bS ≠ gN; omega)).trans ((hb7.block bS (by have := HBS.out; omega)).trans HS.out))
     have hnx7 := HL.out.nx.of_block (hb7.block _ (by have := HL.out.base.1; omega))
     rw [HGN.out] at hnx7
     have hf := World.rowIs.frozen hnx7 q
     have hS : w7.cell? ⟨bx, 0, none⟩ = some (.slice (some ⟨g, o, none⟩) m.length cap) ∧ w7.cell? ⟨gN, q, none⟩ = some (.slice A nl cap2) := ⟨(hb7.cell (p := ⟨bx, 0, none⟩) (by have := HBX.out; show bx < B; omega)).trans hHeld.1, (hb7.cell (p := ⟨gN, q, none⟩) (by show gN < B; omega)).trans hHeld.2⟩
     have hc := hS.2
     obtain ⟨A3, n3, cap3, rfl⟩ : ∃ A n cap, v3 = .slice A n cap := by obtain ⟨A, c, h⟩ := hfm3; exact ⟨A, _, c, h⟩
     clear hfm3 hown3 hg3 hat3 hb7 hnx7 hbase
     refine hK.out _ _ hS (fun hHeld => ?_)
     clear hK K hS
     refine wpq_tk 12 (some 56) [13] (Or.inl ⟨by rfl, fun w hSw => by (obtain ⟨x0, y0⟩ := hSw; go_simp; with_reducible rfl)⟩) hHeld ?_ rfl rfl
     simp only [Act.put, sA, sZ, sS]
     refine wpq_end 13 (by kernel_rfl) rfl (by kernel_rfl) (fun K hK => ?_)
     go_simp
     refine hK.out _ _ ?_
     clear hK K
     refine wpq_done (by kernel_rfl) ?_ _
     go_simp
     have hq1 := HBX2.out
     subst hq1
     have hq2 := HGN.out
     subst hq2
     go_wp2_with fail
     exact ⟨⟨k + 1, A3, n3, cap3, by simp, HKB.out, HN.out, HS7.out⟩, by have := HKB.out; simp [intOf]; omega⟩
end Go.Proofs.YtpkecepelcppiaaGreatDoor
