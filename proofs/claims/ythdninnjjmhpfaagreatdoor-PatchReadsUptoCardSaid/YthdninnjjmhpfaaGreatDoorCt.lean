/- A region's operations walked in pieces: what stands between two pieces is said by the prover. Conditions: none. -/
import Derived.Test.YthdninnjjmhpfaaGreatDoorStr
import Derived.Orders
namespace Go.Proofs.YthdninnjjmhpfaaGreatDoor
open Go.RowKit
set_option maxRecDepth 100000

section
variable {P : Program} {ops : Array Oper} {Q Q' : Exit → Act → World → Prop} {a : Act} {w : World}
theorem oper_mono {o : Oper} {K K' : Act → World → Prop} (hK : ∀ a w, K a w → K' a w) (hQ : ∀ e a w, e ≠ .normal → Q e a w → Q' e a w) (h : o.wp P a w K Q) : o.wp P a w K' Q' := by
  unfold Oper.wp at *
  generalize (execOp a.eval o).run P w = r at *
  have hout : LetsOut Q → LetsOut Q' := fun ⟨a, w, h⟩ => ⟨a, w, hQ _ a w (by intro h; cases h) h⟩
  cases r with
  | ok n w' =>
    cases n <;> simp only [Oper.upon] at h ⊢
    case value v => exact hK _ _ h
    case skip => exact hK _ _ h
    case defer d => exact hK _ _ h
    case enter f args =>
      refine h.mono fun e w'' hh => ?_
      cases e with
      | returned v => exact hK _ _ hh
      | panicked chain => exact hQ _ _ _ (by intro h; cases h) hh
      | outgrown => exact hout hh
    case row row args =>
      exact h.mono fun v w'' hh => hK _ _ hh
  | halt x w' =>
    cases x <;> simp only [Oper.upon] at h ⊢
    exact hQ _ _ _ (by intro h; cases h) h
theorem then_ne {f : Act → World → Prop} : ∀ e a w, e ≠ .normal → Exit.then f Q e a w → Q e a w := fun e a w he h => by
  cases e <;> first | exact h | exact absurd rfl he
theorem wpList_append {l2 : List Oper} : ∀ (l1 : List Oper) (a : Act) (w : World), wpList P ops (Exit.then (wpList P ops Q l2) Q) l1 a w → wpList P ops Q (l1 ++ l2) a w
  | [], a, w, h => h
  | o :: rest, a, w, h => by
    rw [List.cons_append]
    unfold wpList at h ⊢
    split
    · rename_i hw
      rw [if_pos hw] at h
      rcases h with h | ⟨h1, h2⟩
      · exact .inl (oper_mono (fun a w h => wpList_append rest a w h) then_ne h)
      · obtain ⟨a', w', h3⟩ := h2
        exact .inr ⟨h1, a', w', h3⟩
    · rename_i hw
      rw [if_neg hw] at h
      exact wpList_append rest _ _ h
/-- The first n operations; then the others, of whatever stands between. -/
theorem list_cut {l : List Oper} (n : Nat) (R : Act → World → Prop) (h1 : wpList P ops (Exit.then R Q) (l.take n) a w) (h2 : ∀ a w, R a w → wpList P ops Q (l.drop n) a w) : wpList P ops Q l a w := by
  rw [← List.take_append_drop n l]
  refine wpList_append _ _ _ ?_
  have key : ∀ (l1 : List Oper) (a : Act) (w : World), wpList P ops (Exit.then R Q) l1 a w → wpList P ops (Exit.then (wpList P ops Q (l.drop n)) Q) l1 a w := by
    intro l1
    induction l1 with
    | nil => intro a w h; exact h2 _ _ h
    | cons o rest ih =>
      intro a w h
      unfold wpList at h ⊢
      split
      · rename_i hw
        rw [if_pos hw] at h
        rcases h with h | ⟨h1, h3⟩
        · refine .inl (oper_mono ih (fun e a w he h => ?_) h)
          cases e <;> first | exact h | exact absurd rfl he
        · obtain ⟨a', w', h4⟩ := h3
          exact .inr ⟨h1, a', w', h4⟩
      · rename_i hw
        rw [if_neg hw] at h
        exact ih _ _ h
  exact key _ _ _ h1
theorem region_cut {id : Nat} {l : List Oper} (n : Nat) (R : Act → World → Prop) (h1 : wpList P l.toArray (Exit.then R Q) (l.take n) a w) (h2 : ∀ a w, R a w → wpList P l.toArray Q (l.drop n) a w) : (Code.region id l.toArray false).wp P Q a w :=
  wp_region_lit (list_cut n R h1 h2)
end
/-! A region of more than 64 operations is laid as two lists, one behind the other; written out, the walk's looks see it. -/
theorem la_cons {α : Type} (x : α) (l m : List α) : List.append (x :: l) m = x :: List.append l m := rfl
theorem la_nil {α : Type} (m : List α) : List.append [] m = m := rfl
/-- An operation whose guard says no. -/
theorem wpl_skip {P : Program} {ops : Array Oper} {rest : List Oper} {o : Oper} {a : Act} {w : World} {Q : Exit → Act → World → Prop} (hw : Region.wanted o (yielded ops a.tmps) = false) (h : wpList P ops Q rest (a.put o.dst undef) w) : wpList P ops Q (o :: rest) a w :=
  wpList_step fun K hK => by rw [if_neg (by rw [hw]; exact Bool.false_ne_true)]; exact hK _ _ h
/-- What is said between two pieces, shut to the walk's own simplifier. -/
def Mid (p : Act → World → Prop) (a : Act) (w : World) : Prop := p a w
theorem Mid.out {p : Act → World → Prop} {a : Act} {w : World} (h : Mid p a w) : p a w := h
theorem Mid.mk {p : Act → World → Prop} {a : Act} {w : World} (h : p a w) : Mid p a w := h
theorem alloc_is {w w1 : World} {X : Obj} (hW : w.alloc X = w1) : w1.heap[w.heap.size]? = some X ∧ (∀ b, b < w.heap.size → w1.heap[b]? = w.heap[b]?) ∧ w1.heap.size = w.heap.size + 1 ∧ Below w.heap.size w w1 := by
  subst hW
  exact ⟨heap_alloc_new w _, fun b hb => heap_alloc_old w _ hb, by simp, (Below.refl _ _).alloc (Nat.le_refl _) _⟩
end Go.Proofs.YthdninnjjmhpfaaGreatDoor
