/- Regions that draw their order: loads of a cell that the region's last store turns are taken first too: a condition that is held till that store. Conditions: none. -/
import Derived.Test.YtpkecepelcppiaaGreatDoorZd8
import Derived.Deep.RegionHeld3
import Derived.Laws.CopyOwn
namespace Go.Proofs.YtpkecepelcppiaaGreatDoor
open Go.RowKit
set_option maxHeartbeats 4000000
set_option maxRecDepth 100000

section
variable {P : Program} {ops : Array Oper} {o : Oper} {a : Act} {w : World} {S : World → Prop}
theorem take_at {Q : Exit → Act → World → Prop} {md : Region.Mode} {oi : Oper} {v : Value} {fuel : Nat} {listed : Array Bool} (i : Nat) (d : Option Tmp) (hi : ops[i]? = some oi) (hd : oi.dst = d) (hs : Region.noSelect ops = true) (hf : Region.free md ops listed i = true) (hr : (Region.ready md ops listed).contains i = true)
  (hQ : ∀ c a w, Q (.panic c) (a.put d v) w → Q (.panic c) a w) (hy : YieldsIf P ops S oi v a) (hS : S w) (h : wpAnyH P md ops Q S fuel (listed.setIfInBounds i true) (a.put d v) w) : wpAnyH P md ops Q S (fuel + 1) listed a w := by
 subst hd
 exact wpAnyH_take hi hs hf hr hQ hy hS h
end
theorem alloc_of {w w1 : World} {X : Obj} (hW : w.alloc X = w1) : w1.heap[w.heap.size]? = some X ∧ (∀ b, b < w.heap.size → w1.heap[b]? = w.heap[b]?) ∧ w1.heap.size = w.heap.size + 1 ∧ Below w.heap.size w w1 := by
 subst hW
 exact ⟨heap_alloc_new w _, fun b hb => heap_alloc_old w X hb, by simp, (Below.refl _ _).alloc (Nat.le_refl _) _⟩
end Go.Proofs.YtpkecepelcppiaaGreatDoor

namespace Go.Proofs.YtpkecepelcppiaaGreatDoor
set_option maxHeartbeats 1000000

section
variable {P : Program} {ops : Array Oper} {Q : Exit → Act → World → Prop} {md : Region.Mode} {S : World → Prop} {q : Nat}

def wpAnyQ (P : Program) (md : Region.Mode) (ops : Array Oper) (Q : Exit → Act → World → Prop) (S : World → Prop) (q : Nat) : Nat → Array Bool → Act → World → Prop
 | 0, listed, a, w => Region.ready md ops listed = [] ∧ Q .normal a w
 | fuel + 1, listed, a, w =>
  (Region.ready md ops listed = [] → Q .normal a w) ∧
  ∀ i ∈ Region.ready md ops listed, wpOp P ops Q i (fun a' w' => ((listed.setIfInBounds i true).getD q true = false → S w') ∧ wpAnyQ P md ops Q S q fuel (listed.setIfInBounds i true) a' w') a w
theorem wpAny_of_q : ∀ (fuel : Nat) (listed : Array Bool) (a : Act) (w : World), wpAnyQ P md ops Q S q fuel listed a w → wpAny P md ops Q fuel listed a w
 | 0, _, _, _, h => h
 | fuel + 1, _, _, _, h => ⟨h.1, fun i hi => wpOp_mono (fun a' w' h' => wpAny_of_q fuel _ a' w' h'.2) (h.2 i hi)⟩
def chainB (md : Region.Mode) (ops : Array Oper) : Nat → List Nat → Bool
 | _, [] => true
 | i, k :: t => ((ops[k]?).map (fun o => o.after.any fun e => Region.binds md e && e.on == i)).getD false && chainB md ops k t
theorem chain_wait {listed : Array Bool} : ∀ (l : List Nat) (i : Nat), chainB md ops i l = true → listed.getD i true = false → (∀ k ∈ l, listed.getD k true = false) → ∀ j ∈ l, j ∉ Region.ready md ops listed
 | [], _, _, _, _, j, hj => by cases hj
 | k :: t, i, h, hi, hl, j, hj => by
  unfold chainB at h
  rw [Bool.and_eq_true] at h
  rcases List.mem_cons.1 hj with rfl | hj
  ·intro hr
   obtain ⟨_, o, ho, hall⟩ := mem_ready.1 hr
   have h1 := h.1
   rw [ho] at h1
   simp only [Option.map_some, Option.getD_some] at h1
   obtain ⟨e, he, hb⟩ := Array.any_eq_true'.1 h1
   simp only [Bool.and_eq_true, beq_iff_eq] at hb
   have h2 := hall e he hb.1
   rw [hb.2] at h2
   rcases Nat.lt_or_ge i listed.size with h' | h'
   ·simp [h'] at hi h2
    rw [hi] at h2
    cases h2
   ·simp [Array.getElem?_eq_none h'] at h2
  ·exact chain_wait t k h.2 (hl k List.mem_cons_self) (fun x hx => hl x (List.mem_cons_of_mem _ hx)) j hj
theorem wpAnyQ_first {i : Nat} {oi : Oper} {v : Value} (c : List Nat) (hc : chainB md ops i c = true) (hq : q ∈ c) (hi : ops[i]? = some oi) (hsel : ∀ (j : Nat) (o : Oper) cs b, ops[j]? = some o → o.op ≠ .select cs b)
  (hQ : ∀ c a w, Q (.panic c) (a.put oi.dst v) w → Q (.panic c) a w) :
  ∀ (fuel : Nat) (listed : Array Bool) (a : Act) (w : World), (∀ k ∈ c, k ≠ i ∧ listed.getD k true = false) →
   (∀ j oj, ops[j]? = some oj → j ≠ i → listed.getD j true = false → (∀ e ∈ oj.after, Region.binds md e = true → e.on ≠ i) → oi.apart ops oj = true) →
   i ∈ Region.ready md ops listed → YieldsIf P ops S oi v a → S w →
   wpAnyQ P md ops Q S q fuel (listed.setIfInBounds i true) (a.put oi.dst v) w → wpAnyQ P md ops Q S q (fuel + 1) listed a w := by
 intro fuel
 induction fuel with
 | zero =>
  intro listed a w hcl _ hr hy hS H
  refine ⟨fun h => (by rw [h] at hr; cases hr), fun j hj => ?_⟩
  by_cases hji : j = i
  ·subst hji; exact hy.wpOp hi hS ⟨fun _ => hS, H⟩
  ·have := ready_mono hj hji
   rw [H.1] at this
   cases this
 | succ fuel ih =>
  intro listed a w hcl hfree hr hy hS H
  refine ⟨fun h => (by rw [h] at hr; cases hr), fun j hj => ?_⟩
  by_cases hji : j = i
  ·subst hji; exact hy.wpOp hi hS ⟨fun _ => hS, H⟩
  ·have h1 := H.2 j (ready_mono hj hji)
   obtain ⟨hjun, oj, hoj, hall⟩ := mem_ready.1 hj
   have hi0 := (mem_ready.1 hr).1
   have hi0' : listed.getD i true = false := by simpa using hi0
   have hjc : j ∉ c := fun hjc => chain_wait c i hc hi0' (fun k hk => (hcl k hk).2) j hjc hj
   have hqj : j ≠ q := fun h => hjc (h ▸ hq)
   have hcl' : ∀ k ∈ c, k ≠ i ∧ (listed.setIfInBounds j true).getD k true = false := fun k hk => ⟨(hcl k hk).1, by
    rw [getD_set_ne true (fun h : j = k => hjc (h ▸ hk))]
    exact (hcl k hk).2⟩
   have hnot : ∀ e ∈ oj.after, Region.binds md e = true → e.on ≠ i := fun e he hb heq => by
    have h1 := hall e he hb
    rw [heq] at h1
    rcases Nat.lt_or_ge i listed.size with h' | h'
    ·simp [h'] at hi0 h1; rw [hi0] at h1; cases h1
    ·simp [Array.getElem?_eq_none h'] at h1
   have h2 := wpOp_putIf hoj (hfree j oj hoj hji hjun hnot) (fun cs b => hsel i oi cs b hi) (fun cs b => hsel j oj cs b hoj) hQ hy h1
   have hfree' : ∀ k ok, ops[k]? = some ok → k ≠ i → (listed.setIfInBounds j true).getD k true = false →
     (∀ e ∈ ok.after, Region.binds md e = true → e.on ≠ i) → oi.apart ops ok = true := fun k ok hk hki hun hno => by
    refine hfree k ok hk hki ?_ hno
    by_cases hjk : j = k
    ·subst hjk; exact hjun
    ·rw [getD_set_ne true hjk] at hun; exact hun
   have hqun : ((listed.setIfInBounds i true).setIfInBounds j true).getD q true = false := by
    rw [getD_set_ne true hqj, getD_set_ne true (fun h : i = q => (hcl q hq).1 h.symm)]
    exact (hcl q hq).2
   refine wpOp_mono (fun a' w' h3 => ⟨fun _ => h3.2.1 hqun, ih (listed.setIfInBounds j true) a' w' hcl' hfree' (ready_mono hr (Ne.symm hji)) h3.1 (h3.2.1 hqun) ?_⟩) h2
   rw [Array.setIfInBounds_comm _ _ hji]
   exact h3.2.2
theorem wpq_take {md : Region.Mode} {oi : Oper} {v : Value} {fuel : Nat} {listed : Array Bool} {a : Act} {w : World} (i : Nat) (d : Option Tmp) (c : List Nat) (hi : ops[i]? = some oi) (hd : oi.dst = d) (hs : Region.noSelect ops = true) (hf : Region.free md ops listed i = true) (hr : (Region.ready md ops listed).contains i = true)
  (hc : (chainB md ops i c && c.contains q && c.all (fun k => k != i && listed.getD k true == false)) = true)
  (hQ : ∀ c a w, Q (.panic c) (a.put d v) w → Q (.panic c) a w) (hy : YieldsIf P ops S oi v a) (hS : S w) (h : wpAnyQ P md ops Q S q fuel (listed.setIfInBounds i true) (a.put d v) w) : wpAnyQ P md ops Q S q (fuel + 1) listed a w := by
 subst hd
 rw [Bool.and_eq_true, Bool.and_eq_true] at hc
 refine wpAnyQ_first c hc.1.1 (by simpa using hc.1.2) hi (Region.noSelect_spec hs) hQ fuel listed a w (fun k hk => ?_) (Region.free_spec hi hf) (by simpa using hr) hy hS h
 have := List.all_eq_true.1 hc.2 k hk
 simpa using this
theorem wpq_tk {md : Region.Mode} {oi : Oper} {v : Value} {fuel : Nat} {listed : Array Bool} {a : Act} {w : World} (i : Nat) (d : Option Tmp) (c : List Nat) (hy : YieldsIf P ops S oi v a) (hS : S w) (h : wpAnyQ P md ops Q S q fuel (listed.setIfInBounds i true) (a.put d v) w) (hi : ops[i]? = some oi) (hd : oi.dst = d)
    (hs : Region.noSelect ops = true := by kernel_rfl) (hf : Region.free md ops listed i = true := by kernel_rfl) (hr : (Region.ready md ops listed).contains i = true := by kernel_rfl)
    (hc : (chainB md ops i c && c.contains q && c.all (fun k => k != i && listed.getD k true == false)) = true := by kernel_rfl)
    (hQ : ∀ c a w, Q (.panic c) (a.put d v) w → Q (.panic c) a w := by exact fun _ _ _ h => h) : wpAnyQ P md ops Q S q (fuel + 1) listed a w := wpq_take i d c hi hd hs hf hr hc hQ hy hS h
theorem sA {α : Type} {l : List α} {i : Nat} {a : α} : l.toArray.setIfInBounds i a = (l.set i a).toArray := List.setIfInBounds_toArray ..
theorem sZ {α : Type} {x a : α} {l : List α} : (x :: l).set 0 a = a :: l := rfl
theorem sS {α : Type} {x a : α} {l : List α} {n : Nat} : (x :: l).set (n + 1) a = x :: l.set n a := rfl
theorem wpq_one {md : Region.Mode} {fuel : Nat} {listed : Array Bool} {a : Act} {w : World} (i : Nat) {o : Oper} (hr : Region.ready md ops listed = [i]) (ho : ops[i]? = some o)
  (h : ∀ K' : Act → World → Prop, Shut (∀ a w, S w → (S w → wpAnyQ P md ops Q S q fuel (listed.setIfInBounds i true) a w) → K' a w) → if Region.wanted o (yielded ops a.tmps) = true then Oper.wp P o a w K' Q else K' (a.put o.dst undef) w) : wpAnyQ P md ops Q S q (fuel + 1) listed a w := by
 refine ⟨fun h0 => (by rw [hr] at h0; cases h0), fun j hj => ?_⟩
 rw [hr] at hj
 obtain rfl : j = i := by simpa using hj
 exact wpOp_step ho (fun K' hK => h K' (fun a w hS hW => hK a w ⟨fun _ => hS, hW hS⟩))
theorem wpq_end {md : Region.Mode} {fuel : Nat} {listed : Array Bool} {a : Act} {w : World} (i : Nat) {o : Oper} (hr : Region.ready md ops listed = [i]) (ho : ops[i]? = some o) (hq : (listed.setIfInBounds i true).getD q true = true)
  (h : ∀ K' : Act → World → Prop, Shut (∀ a w, wpAnyQ P md ops Q S q fuel (listed.setIfInBounds i true) a w → K' a w) → if Region.wanted o (yielded ops a.tmps) = true then Oper.wp P o a w K' Q else K' (a.put o.dst undef) w) : wpAnyQ P md ops Q S q (fuel + 1) listed a w := by
 refine ⟨fun h0 => (by rw [hr] at h0; cases h0), fun j hj => ?_⟩
 rw [hr] at hj
 obtain rfl : j = i := by simpa using hj
 exact wpOp_step ho (fun K' hK => h K' (fun a w hW => hK a w ⟨fun h => (by rw [hq] at h; cases h), hW⟩))
theorem wpq_two {md : Region.Mode} {fuel : Nat} {listed : Array Bool} {a : Act} {w : World} (i k : Nat) {o u : Oper} (hr : Region.ready md ops listed = [i, k]) (ho : ops[i]? = some o) (hu : ops[k]? = some u)
  (h : ∀ K' : Act → World → Prop, Shut (∀ a w, S w → (S w → wpAnyQ P md ops Q S q fuel (listed.setIfInBounds i true) a w) → K' a w) → if Region.wanted o (yielded ops a.tmps) = true then Oper.wp P o a w K' Q else K' (a.put o.dst undef) w)
  (h2 : ∀ K' : Act → World → Prop, Shut (∀ a w, S w → (S w → wpAnyQ P md ops Q S q fuel (listed.setIfInBounds k true) a w) → K' a w) → if Region.wanted u (yielded ops a.tmps) = true then Oper.wp P u a w K' Q else K' (a.put u.dst undef) w) : wpAnyQ P md ops Q S q (fuel + 1) listed a w := by
 refine ⟨fun h0 => (by rw [hr] at h0; cases h0), fun j hj => ?_⟩
 rw [hr] at hj
 rcases List.mem_cons.1 hj with rfl | hj
 ·exact wpOp_step ho (fun K' hK => h K' (fun a w hS hW => hK a w ⟨fun _ => hS, hW hS⟩))
 ·obtain rfl : j = k := by simpa using hj
  exact wpOp_step hu (fun K' hK => h2 K' (fun a w hS hW => hK a w ⟨fun _ => hS, hW hS⟩))
theorem wpq_done {md : Region.Mode} {listed : Array Bool} {a : Act} {w : World} (hr : Region.ready md ops listed = []) (h : Q .normal a w) : ∀ fuel, wpAnyQ P md ops Q S q fuel listed a w
 | 0 => ⟨hr, h⟩
 | _ + 1 => ⟨fun _ => h, by rw [hr]; simp⟩
theorem wpq_region {id : Nat} {a : Act} {w : World} (S : World → Prop) (q : Nat) (hm : P.follows .mixedOrders = true) (hS : S w.drew)
  (h : S w.drew → wpAnyQ P .any ops Q S q ops.size (Array.replicate ops.size false) a w.drew) : (Code.region id ops true).wp P Q a w :=
 wp_region_any hm (wpAny_of_q _ _ _ _ (h hS))
end
end Go.Proofs.YtpkecepelcppiaaGreatDoor
