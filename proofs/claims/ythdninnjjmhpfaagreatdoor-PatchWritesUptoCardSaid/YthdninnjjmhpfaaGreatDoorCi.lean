/- patch.Invert, datakitref56.Invert, moves walked. Conditions: at most 10^6 changes, each of at most 10^6 values. -/
import Derived.Test.YthdninnjjmhpfaaGreatDoorCc
namespace Go.Proofs.YthdninnjjmhpfaaGreatDoor
open Go.RowKit
set_option maxHeartbeats 4000000
set_option maxRecDepth 100000

theorem elemC : Elem Tryz.prog 31 54 29 := elem_of (z := .agg #[.int .i64 0, .slice none 0 0, .int .i64 0, .int .i64 0, .bool false, .bool false, .string ⟨#[]⟩, .int .i64 0, .int .i64 0, .int .i64 0, .int .i64 0, .int .i64 0, .string ⟨#[]⟩, .slice none 0 0, .slice none 0 0, .slice none 0 0, .int .i64 0, .bool false, .bool false, .string ⟨#[]⟩, .int .i64 0, .int .i64 0, .int .i64 0, .int .i64 0, .int .i64 0, .string ⟨#[]⟩, .slice none 0 0, .slice none 0 0, .slice none 0 0]) (bytes := 376) Tryz.underlying31 (by kernel_rfl) (by decide) (by decide) rfl
theorem stI : (Tryz.prog.info? 3).map (·.size) = some 1 := by kernel_rfl
theorem rowC {w : World} {g : Nat} {c : CC} {t : TypeId} (h : w.heap[g]? = some (.cells (CC.cells c).toArray t (0, 0))) :
    w.cell? ⟨g, 0, none⟩ = some (.int .i64 c.op) ∧ (∀ j, j < 29 → w.cell? ⟨g, 0 + j, none⟩ = c.cells[j]?) ∧ (∀ j, j < 13 → w.cell? ⟨g, 3 + j, none⟩ = c.o.cells[j]?) ∧ (∀ j, j < 13 → w.cell? ⟨g, 16 + j, none⟩ = c.n.cells[j]?) := by
  have hc : ∀ j, j < 29 → w.cell? ⟨g, 0 + j, none⟩ = c.cells[j]? := fun j _ => by rw [Nat.zero_add, cell_of_row _ _ _ _ _ _ h, List.getElem?_toArray]
  obtain ⟨h0, _, _, h3, h4⟩ := cells29 (o := 0) hc
  exact ⟨h0, hc, fun j hj => by have := h3 j hj; rw [Nat.zero_add] at this; exact this, fun j hj => by have := h4 j hj; rw [Nat.zero_add] at this; exact this⟩
theorem setRow_of {w w3 : World} {g : Nat} {row cur : Array Value} {t : TypeId} (hW : w.setRow g row = w3) (hg : w.heap[g]? = some (.cells cur t (0, 0))) :
    w3.heap[g]? = some (.cells row t (0, 0)) ∧ (∀ b, b ≠ g → w3.heap[b]? = w.heap[b]?) ∧ w3.heap.size = w.heap.size ∧ (∀ B, B ≤ g → Below B w w3) := by
  subst hW
  exact ⟨setRow_heap _ _ _ _ _ _ hg, fun b hb => setRow_other _ _ _ _ hb, by simp, fun B hB => below_setRow (Below.refl _ _) hB _⟩
theorem alloc_of {w w1 : World} {X : Obj} (hW : w.alloc X = w1) : w1.heap[w.heap.size]? = some X ∧ (∀ b, b < w.heap.size → w1.heap[b]? = w.heap[b]?) ∧ w1.heap.size = w.heap.size + 1 ∧ Below w.heap.size w w1 := by
  subst hW
  exact ⟨heap_alloc_new w _, fun b hb => heap_alloc_old w X hb, by simp, (Below.refl _ _).alloc (Nat.le_refl _) _⟩
def invCC (c : CC) : CC := if c.op = 1 then ⟨1, c.p, c.pos, c.n, c.o⟩ else if c.op = 2 then ⟨3, c.p, c.pos, c.n, c.o⟩ else if c.op = 3 then ⟨2, c.p, c.pos, c.n, c.o⟩ else c
theorem RdC.inv {w : World} {S : Nat → Prop} {c : CC} {x : Ch} (h : RdC w S c x) : RdC w S (invCC c) (invC x) := by
  have hop := h.op
  unfold invCC invC
  rw [hop]
  split
  · exact ⟨rfl, h.pos, (show I64 1 from ⟨by decide, by decide⟩), h.ipos, h.p, h.sp, h.n, h.o⟩
  split
  · exact ⟨rfl, h.pos, (show I64 3 from ⟨by decide, by decide⟩), h.ipos, h.p, h.sp, h.n, h.o⟩
  split
  · exact ⟨rfl, h.pos, (show I64 2 from ⟨by decide, by decide⟩), h.ipos, h.p, h.sp, h.n, h.o⟩
  · exact h
theorem moves_any (c : CC) (w : World) (b : Bool) (hb : b = decide (c.op = 2 ∨ c.op = 3)) :
    Calls Tryz.prog 75 #[aggC c] w fun e w' => e = .returned (.bool b) ∧ Below w.heap.size w w' := by
  have HR := Lib.hid hb
  clear hb
  have hb1 : ∀ x, Below w.heap.size w (w.alloc x) := fun x => (Below.refl _ _).alloc (Nat.le_refl _) _
  have HB1 := Lib.hid hb1; clear hb1
  obtain ⟨op, p, pos, o, n⟩ := c
  simp only [aggC] at HR ⊢
  by_cases h2 : op = 2
  · subst h2
    go_enter Tryz.func75, Tryz.ntmps75
    go_wp2_with fail
    go_ret
    exact ⟨rb (by rw [HR.out]; rfl), HB1.out _⟩
  · have hq : (op == 2) = false := by rw [beq_eq_false_iff_ne]; exact h2
    have HF : Hid (b = decide (op = 3)) := by unfold Hid; rw [HR.out, decide_eq_decide]; exact ⟨fun h => h.resolve_left h2, .inr⟩
    clear h2 HR
    go_enter Tryz.func75, Tryz.ntmps75
    go_wp2_with fail
    go_ret
    exact ⟨rb (by rw [HF.out, Bool.eq_iff_iff]; simp), HB1.out _⟩
/-- What inverting hands back. -/
def InPost (w : World) (xs : List Ch) (e : Ending) (w' : World) : Prop := ∃ v, e = .returned v ∧ RdL w' v (invL xs) ∧ Below w.heap.size w w'
theorem rev_at (xs : List Ch) (m : Nat) (h : m < xs.length) : xs.reverse.take (xs.length - m) = xs.reverse.take (xs.length - (m + 1)) ++ [xs[m]] := by
  rw [show xs.length - m = (xs.length - (m + 1)) + 1 by omega, List.take_succ_eq_append_getElem (by rw [List.length_reverse]; omega), List.getElem_reverse]
  have : xs.length - 1 - (xs.length - (m + 1)) = m := by omega
  simp only [this]
/-- The row o of one's own reads as the list l, whose elements were there before. -/
def OwnX (w0 w : World) (o : Value) (l : List Ch) : Prop :=
  ∃ cs : List CC, cs.length = l.length ∧ w.ownsRow w0.heap.size 54 29 o l.length (cs.flatMap CC.cells) ∧ ∀ i (h : i < l.length) (h' : i < cs.length), RdC w0 (fun _ => True) cs[i] l[i]
theorem OwnX.nil {w0 w : World} : OwnX w0 w (.slice none 0 0) [] := ⟨[], rfl, World.ownsRow_nil _ _ _ _, fun _ h => absurd h (Nat.not_lt_zero _)⟩
theorem OwnX.stays {w0 w w' : World} {o : Value} {l : List Ch} (h : OwnX w0 w o l) (hb : Below w.heap.size w w') : OwnX w0 w' o l := by
  obtain ⟨cs, h1, h2, h3⟩ := h
  exact ⟨cs, h1, own_below h2 hb, h3⟩
theorem OwnX.push {w0 w' : World} {o' : Value} {l : List Ch} {cs : List CC} {c : CC} {x : Ch} (hc : cs.length = l.length) (hrd : ∀ i (h : i < l.length) (h' : i < cs.length), RdC w0 (fun _ => True) cs[i] l[i]) (hx : RdC w0 (fun _ => True) c x)
    (hown : w'.ownsRow w0.heap.size 54 29 o' (l.length + 1) (cs.flatMap CC.cells ++ CC.cells c)) : OwnX w0 w' o' (l ++ [x]) := by
  refine ⟨cs ++ [c], by simp [hc], ?_, fun i hi hi' => ?_⟩
  · rw [List.length_append, List.flatMap_append]
    simpa using hown
  · rw [List.length_append] at hi hi'
    simp only [List.length_cons, List.length_nil] at hi hi'
    by_cases h : i < l.length
    · rw [List.getElem_append_left h, List.getElem_append_left (by omega)]
      exact hrd i h (by omega)
    · have : i = l.length := by omega
      subst this
      rw [List.getElem_append_right (by omega), List.getElem_append_right (by omega)]
      simp only [Nat.sub_self, hc, List.getElem_cons_zero]
      exact hx
theorem OwnX.rd {w0 w : World} {o : Value} {l : List Ch} (h : OwnX w0 w o l) (hb : Below w0.heap.size w0 w) (hl : l.length ≤ 140737488351232) : RdL w o l := by
  obtain ⟨cs, hc, hown, hrd⟩ := h
  refine ⟨fun i => cs.getD i ⟨0, .slice none 0 0, 0, ⟨⟨0, false, false, ⟨#[]⟩, 0, 0, 0, 0, 0, ⟨#[]⟩, []⟩, .slice none 0 0, .slice none 0 0, .slice none 0 0⟩, ⟨⟨0, false, false, ⟨#[]⟩, 0, 0, 0, 0, 0, ⟨#[]⟩, []⟩, .slice none 0 0, .slice none 0 0, .slice none 0 0⟩⟩, ?_, fun i hi => ?_⟩
  · rw [← hc]
    rw [← hc] at hown
    exact Sl.of_own CC.cells ccells_len cs hown (by omega) _ (fun i hi => by dsimp only; rw [List.getD_eq_getElem?_getD, List.getElem?_eq_getElem hi]; rfl)
  · have h1 : cs.getD i ⟨0, .slice none 0 0, 0, ⟨⟨0, false, false, ⟨#[]⟩, 0, 0, 0, 0, 0, ⟨#[]⟩, []⟩, .slice none 0 0, .slice none 0 0, .slice none 0 0⟩, ⟨⟨0, false, false, ⟨#[]⟩, 0, 0, 0, 0, 0, ⟨#[]⟩, []⟩, .slice none 0 0, .slice none 0 0, .slice none 0 0⟩⟩ = cs[i] := by rw [List.getD_eq_getElem?_getD, List.getElem?_eq_getElem (by omega)]; rfl
    dsimp only
    rw [h1]
    exact (hrd i hi (by omega)).stays hb
end Go.Proofs.YthdninnjjmhpfaaGreatDoor

