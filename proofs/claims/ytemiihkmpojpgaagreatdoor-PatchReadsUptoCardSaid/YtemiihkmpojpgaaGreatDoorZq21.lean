/- patch.Invert walked. Conditions: at most 30 changes, each small. -/
import Derived.Test.YtemiihkmpojpgaaGreatDoorZq20
import Derived.Deep.RegionWith
import Derived.Laws.CopyOwn
import Derived.Test.YtemiihkmpojpgaaGreatDoorZq19
import Derived.Test.YtemiihkmpojpgaaGreatDoorZq15
namespace Go.Proofs.YtemiihkmpojpgaaGreatDoor
open Go.RowKit
set_option maxHeartbeats 4000000
set_option maxRecDepth 100000

/-- What a copy of a change hands back. -/
def ClPost (w : World) (x : Ch) (e : Ending) (w' : World) : Prop := ∃ c, e = .returned (aggC c) ∧ RdC w' (fun b => w.heap.size ≤ b) c x ∧ Below w.heap.size w w'
theorem vcells_one {w : World} {S : Nat → Prop} {c : VC} {v : V} (h : RdI w S c v) : ∀ u ∈ c.cells, u.oneCell' = true := by
  intro u hu
  obtain ⟨h, b1, b2, b3, m1, m2, m3, o1, o2, o3, rfl⟩ := h.forms
  simp [VC.cells] at hu
  rcases hu with rfl | rfl | rfl | rfl | rfl | rfl | rfl | rfl | rfl | rfl | rfl | rfl | rfl <;> rfl
theorem ccells_one {w : World} {S : Nat → Prop} {c : CC} {x : Ch} (h : RdC w S c x) : ∀ u ∈ c.cells, u.oneCell' = true := by
  intro u hu
  obtain ⟨a0, m0, hp, _⟩ := h.p
  unfold CC.cells at hu
  rcases List.mem_cons.1 hu with rfl | hu
  · rfl
  rcases List.mem_cons.1 hu with rfl | hu
  · rw [hp]; rfl
  rcases List.mem_cons.1 hu with rfl | hu
  · rfl
  rcases List.mem_append.1 hu with hu | hu
  · exact vcells_one h.o u hu
  · exact vcells_one h.n u hu
theorem alloc2_of {w w0 : World} {X Y : Obj} (h : (w.alloc X).alloc Y = w0) : Below w.heap.size w w0 ∧ w0.heap[w.heap.size]? = some X ∧ w0.heap[w.heap.size + 1]? = some Y ∧ w0.heap.size = w.heap.size + 2 := by
  obtain ⟨h1, h2, h3, _⟩ := two_allocs (w := w) (x := X) (y := Y) (w1 := (w.alloc X).alloc Y) (Below.refl _ _)
  rw [h] at h1 h2 h3
  exact ⟨h1, h2, h3, by rw [← h]; simp⟩
theorem own_form {w : World} {base size n : Nat} {e : TypeId} {v : Value} {xs : List Value} (h : w.ownsRow base e size v n xs) : ∃ a cap, v = .slice a n cap := by
  rcases h.2 with ⟨rfl, rfl⟩ | ⟨g, cap, cur, rfl, _⟩
  · exact ⟨none, 0, rfl⟩
  · exact ⟨_, _, rfl⟩
/-- Thirteen stores in a row, as the walk lays them. -/
theorem put13 {w : World} {g : Nat} (off : Nat) {cs : Array Value} {t : TypeId} (u0 u1 u2 u3 u4 u5 u6 u7 u8 u9 u10 u11 u12 : Value) (h : w.heap[g]? = some (.cells cs t (0, 0))) :
    (((((((((((((w.setCell ⟨g, off, none⟩ u0).setCell ⟨g, off + 1, none⟩ u1).setCell ⟨g, off + 2, none⟩ u2).setCell ⟨g, off + 3, none⟩ u3).setCell ⟨g, off + 4, none⟩ u4).setCell ⟨g, off + 5, none⟩ u5).setCell ⟨g, off + 6, none⟩ u6).setCell ⟨g, off + 7, none⟩ u7).setCell ⟨g, off + 8, none⟩ u8).setCell ⟨g, off + 9, none⟩ u9).setCell ⟨g, off + 10, none⟩ u10).setCell ⟨g, off + 11, none⟩ u11).setCell ⟨g, off + 12, none⟩ u12).heap[g]? = some (.cells (((((((((((((cs.setIfInBounds (off) u0).setIfInBounds (off + 1) u1).setIfInBounds (off + 2) u2).setIfInBounds (off + 3) u3).setIfInBounds (off + 4) u4).setIfInBounds (off + 5) u5).setIfInBounds (off + 6) u6).setIfInBounds (off + 7) u7).setIfInBounds (off + 8) u8).setIfInBounds (off + 9) u9).setIfInBounds (off + 10) u10).setIfInBounds (off + 11) u11).setIfInBounds (off + 12) u12) t (0, 0)) := by
  iterate 13 refine heap_setCell_same _ _ _ _ _ _ ?_
  exact h
end Go.Proofs.YtemiihkmpojpgaaGreatDoor

namespace Go.Proofs.YtemiihkmpojpgaaGreatDoor
open Go.RowKit
set_option maxHeartbeats 4000000
set_option maxRecDepth 100000

theorem elemC : Elem Tryz.prog 33 46 29 := elem_of (z := .agg #[.int .i64 0, .slice none 0 0, .int .i64 0, .int .i64 0, .bool false, .bool false, .string ⟨#[]⟩, .int .i64 0, .int .i64 0, .int .i64 0, .int .i64 0, .int .i64 0, .string ⟨#[]⟩, .slice none 0 0, .slice none 0 0, .slice none 0 0, .int .i64 0, .bool false, .bool false, .string ⟨#[]⟩, .int .i64 0, .int .i64 0, .int .i64 0, .int .i64 0, .int .i64 0, .string ⟨#[]⟩, .slice none 0 0, .slice none 0 0, .slice none 0 0]) (bytes := 376) Tryz.underlying33 (by kernel_rfl) (by decide) (by decide) rfl
theorem stI : (Tryz.prog.info? 3).map (·.size) = some 1 := by kernel_rfl
theorem rowC {w : World} {g : Nat} {c : CC} {t : TypeId} (h : w.heap[g]? = some (.cells (CC.cells c).toArray t (0, 0))) :
    w.cell? ⟨g, 0, none⟩ = some (.int .i64 c.op) ∧ (∀ j, j < 29 → w.cell? ⟨g, 0 + j, none⟩ = c.cells[j]?) ∧ (∀ j, j < 13 → w.cell? ⟨g, 3 + j, none⟩ = c.o.cells[j]?) ∧ (∀ j, j < 13 → w.cell? ⟨g, 16 + j, none⟩ = c.n.cells[j]?) := by
  have hc : ∀ j, j < 29 → w.cell? ⟨g, 0 + j, none⟩ = c.cells[j]? := fun j _ => by rw [Nat.zero_add, cell_of_row _ _ _ _ _ _ h, List.getElem?_toArray]
  obtain ⟨h0, _, _, h3, h4⟩ := cells29 (o := 0) hc
  exact ⟨h0, hc, fun j hj => by have := h3 j hj; rw [Nat.zero_add] at this; exact this, fun j hj => by have := h4 j hj; rw [Nat.zero_add] at this; exact this⟩
theorem setRow_of {w w3 : World} {g : Nat} {row cur : Array Value} {t : TypeId} (hW : w.setRow g row = w3) (hg : w.heap[g]? = some (.cells cur t (0, 0))) :
    w3.heap[g]? = some (.cells row t (0, 0)) ∧ (∀ b, b ≠ g → w3.heap[b]? = w.heap[b]?) ∧ w3.heap.size = w.heap.size ∧ (∀ B, B ≤ g → Below B w w3) := by
  subst hW
  exact ⟨setRow_heap _ _ _ _ _ _ hg, fun b hb => setRow_other _ _ _ _ hb, by simp, fun B hB => below_setRow (Below.refl _ _) hB _⟩
theorem alloc_of {w w1 : World} {X : Obj} (hW : w.alloc X = w1) : w1.heap[w.heap.size]? = some X ∧ (∀ b, b < w.heap.size → w1.heap[b]? = w.heap[b]?) ∧ w1.heap.size = w.heap.size + 1 ∧ Below w.heap.size w w1 := by
  subst hW
  exact ⟨heap_alloc_new w _, fun b hb => heap_alloc_old w X hb, by simp, (Below.refl _ _).alloc (Nat.le_refl _) _⟩
def invCC (c : CC) : CC := if c.op = 1 then ⟨1, c.p, c.pos, c.n, c.o⟩ else if c.op = 2 then ⟨3, c.p, c.pos, c.n, c.o⟩ else if c.op = 3 then ⟨2, c.p, c.pos, c.n, c.o⟩ else c
theorem RdC.inv {w : World} {S : Nat → Prop} {c : CC} {x : Ch} (h : RdC w S c x) : RdC w S (invCC c) (invC x) := by
  have hop := h.op
  unfold invCC invC
  rw [hop]
  split
  · exact ⟨rfl, h.pos, (show I64 1 from ⟨by decide, by decide⟩), h.ipos, h.p, h.sp, h.n, h.o⟩
  split
  · exact ⟨rfl, h.pos, (show I64 3 from ⟨by decide, by decide⟩), h.ipos, h.p, h.sp, h.n, h.o⟩
  split
  · exact ⟨rfl, h.pos, (show I64 2 from ⟨by decide, by decide⟩), h.ipos, h.p, h.sp, h.n, h.o⟩
  · exact h
theorem moves_any (c : CC) (w : World) (b : Bool) (hb : b = decide (c.op = 2 ∨ c.op = 3)) :
    Calls Tryz.prog 29 #[aggC c] w fun e w' => e = .returned (.bool b) ∧ Below w.heap.size w w' := by
  have HR := Lib.hid hb
  clear hb
  have hb1 : ∀ x, Below w.heap.size w (w.alloc x) := fun x => (Below.refl _ _).alloc (Nat.le_refl _) _
  have HB1 := Lib.hid hb1; clear hb1
  obtain ⟨op, p, pos, o, n⟩ := c
  simp only [aggC] at HR ⊢
  by_cases h2 : op = 2
  · subst h2
    go_enter Tryz.func29, Tryz.ntmps29
    go_wp2_with fail
    go_ret
    exact ⟨rb (by rw [HR.out]; rfl), HB1.out _⟩
  · have hq : (op == 2) = false := by rw [beq_eq_false_iff_ne]; exact h2
    have HF : Hid (b = decide (op = 3)) := by unfold Hid; rw [HR.out, decide_eq_decide]; exact ⟨fun h => h.resolve_left h2, .inr⟩
    clear h2 HR
    go_enter Tryz.func29, Tryz.ntmps29
    go_wp2_with fail
    go_ret
    exact ⟨rb (by rw [HF.out, Bool.eq_iff_iff]; simp), HB1.out _⟩
/-- What inverting hands back. -/
def InPost (w : World) (xs : List Ch) (e : Ending) (w' : World) : Prop := ∃ v, e = .returned v ∧ RdL w' v (invL xs) ∧ Below w.heap.size w w'
theorem rev_at (xs : List Ch) (m : Nat) (h : m < xs.length) : xs.reverse.take (xs.length - m) = xs.reverse.take (xs.length - (m + 1)) ++ [xs[m]] := by
  rw [show xs.length - m = (xs.length - (m + 1)) + 1 by omega, List.take_succ_eq_append_getElem (by rw [List.length_reverse]; omega), List.getElem_reverse]
  have : xs.length - 1 - (xs.length - (m + 1)) = m := by omega
  simp only [this]
/-- The row o of one's own reads as the list l, whose elements were there before. -/
def OwnX (w0 w : World) (o : Value) (l : List Ch) : Prop :=
  ∃ cs : List CC, cs.length = l.length ∧ w.ownsRow w0.heap.size 46 29 o l.length (cs.flatMap CC.cells) ∧ ∀ i (h : i < l.length) (h' : i < cs.length), RdC w0 (fun _ => True) cs[i] l[i]
theorem OwnX.nil {w0 w : World} : OwnX w0 w (.slice none 0 0) [] := ⟨[], rfl, World.ownsRow_nil _ _ _ _, fun _ h => absurd h (Nat.not_lt_zero _)⟩
theorem OwnX.stays {w0 w w' : World} {o : Value} {l : List Ch} (h : OwnX w0 w o l) (hb : Below w.heap.size w w') : OwnX w0 w' o l := by
  obtain ⟨cs, h1, h2, h3⟩ := h
  exact ⟨cs, h1, own_below h2 hb, h3⟩
theorem OwnX.push {w0 w' : World} {o' : Value} {l : List Ch} {cs : List CC} {c : CC} {x : Ch} (hc : cs.length = l.length) (hrd : ∀ i (h : i < l.length) (h' : i < cs.length), RdC w0 (fun _ => True) cs[i] l[i]) (hx : RdC w0 (fun _ => True) c x)
    (hown : w'.ownsRow w0.heap.size 46 29 o' (l.length + 1) (cs.flatMap CC.cells ++ CC.cells c)) : OwnX w0 w' o' (l ++ [x]) := by
  refine ⟨cs ++ [c], by simp [hc], ?_, fun i hi hi' => ?_⟩
  · rw [List.length_append, List.flatMap_append]
    simpa using hown
  · rw [List.length_append] at hi hi'
    simp only [List.length_cons, List.length_nil] at hi hi'
    by_cases h : i < l.length
    · rw [List.getElem_append_left h, List.getElem_append_left (by omega)]
      exact hrd i h (by omega)
    · have : i = l.length := by omega
      subst this
      rw [List.getElem_append_right (by omega), List.getElem_append_right (by omega)]
      simp only [Nat.sub_self, hc, List.getElem_cons_zero]
      exact hx
theorem OwnX.rd {w0 w : World} {o : Value} {l : List Ch} (h : OwnX w0 w o l) (hb : Below w0.heap.size w0 w) (hl : l.length ≤ 140737488351232) : RdL w o l := by
  obtain ⟨cs, hc, hown, hrd⟩ := h
  refine ⟨fun i => cs.getD i ⟨0, .slice none 0 0, 0, ⟨⟨0, false, false, ⟨#[]⟩, 0, 0, 0, 0, 0, ⟨#[]⟩, []⟩, .slice none 0 0, .slice none 0 0, .slice none 0 0⟩, ⟨⟨0, false, false, ⟨#[]⟩, 0, 0, 0, 0, 0, ⟨#[]⟩, []⟩, .slice none 0 0, .slice none 0 0, .slice none 0 0⟩⟩, ?_, fun i hi => ?_⟩
  · rw [← hc]
    rw [← hc] at hown
    exact Sl.of_own CC.cells ccells_len cs hown (by omega) _ (fun i hi => by dsimp only; rw [List.getD_eq_getElem?_getD, List.getElem?_eq_getElem hi]; rfl)
  · have h1 : cs.getD i ⟨0, .slice none 0 0, 0, ⟨⟨0, false, false, ⟨#[]⟩, 0, 0, 0, 0, 0, ⟨#[]⟩, []⟩, .slice none 0 0, .slice none 0 0, .slice none 0 0⟩, ⟨⟨0, false, false, ⟨#[]⟩, 0, 0, 0, 0, 0, ⟨#[]⟩, []⟩, .slice none 0 0, .slice none 0 0, .slice none 0 0⟩⟩ = cs[i] := by rw [List.getD_eq_getElem?_getD, List.getElem?_eq_getElem (by omega)]; rfl
    dsimp only
    rw [h1]
    exact (hrd i hi (by omega)).stays hb
end Go.Proofs.YtemiihkmpojpgaaGreatDoor


namespace Go.Proofs.YtemiihkmpojpgaaGreatDoor
open Go.RowKit
set_option maxHeartbeats 4000000
set_option maxRecDepth 100000

theorem rowV {w : World} {g : Nat} {c : VC} {t : TypeId} (h : w.heap[g]? = some (.cells (VC.cells c).toArray t (0, 0))) : ∀ j, j < 13 → w.cell? ⟨g, 0 + j, none⟩ = c.cells[j]? :=
  fun j _ => by rw [Nat.zero_add, cell_of_row _ _ _ _ _ _ h, List.getElem?_toArray]
end Go.Proofs.YtemiihkmpojpgaaGreatDoor

namespace Go.Proofs.YtemiihkmpojpgaaGreatDoor
open Go.RowKit
set_option maxHeartbeats 4000000
set_option maxRecDepth 100000

theorem hasOld_any (op : Int) (w : World) : Calls Tryz.prog 21 #[.int .i64 op] w fun e w' => e = .returned (.bool (oldB op)) ∧ w = w' := by
  have HQ : Hid (True → oldB op = decide (op = 1 ∨ op = 3 ∨ op = 4)) := fun _ => rfl
  generalize oldB op = r at *
  go_enter Tryz.func21, Tryz.ntmps21
  go_wp2_with fail
  all_goals
    go_ret
    refine ⟨rb ?_, rfl⟩
    have hq := HQ.out trivial
    clear HQ
    rw [hq]
    first
      | (simp_all; done)
      | (rw [Bool.eq_iff_iff]; simp_all; done)
      | (rw [Bool.eq_iff_iff]; simp_all; omega)
theorem hasNew_any (op : Int) (w : World) : Calls Tryz.prog 22 #[.int .i64 op] w fun e w' => e = .returned (.bool (newB op)) ∧ w = w' := by
  have HQ : Hid (True → newB op = decide (op = 1 ∨ op = 2)) := fun _ => rfl
  generalize newB op = r at *
  go_enter Tryz.func22, Tryz.ntmps22
  go_wp2_with fail
  all_goals
    go_ret
    refine ⟨rb ?_, rfl⟩
    have hq := HQ.out trivial
    clear HQ
    rw [hq]
    first
      | (simp_all; done)
      | (rw [Bool.eq_iff_iff]; simp_all; done)
      | (rw [Bool.eq_iff_iff]; simp_all; omega)
end Go.Proofs.YtemiihkmpojpgaaGreatDoor

namespace Go.Proofs.YtemiihkmpojpgaaGreatDoor
open Go.RowKit
set_option maxHeartbeats 4000000
set_option maxRecDepth 100000

/-- The cells of a change that lies whole in a block. -/
theorem rowC5 {w : World} {g : Nat} {c : CC} {t : TypeId} (h : w.heap[g]? = some (.cells (CC.cells c).toArray t (0, 0))) :
    w.cell? ⟨g, 0, none⟩ = some (.int .i64 c.op) ∧ w.cell? ⟨g, 1, none⟩ = some c.p ∧ w.cell? ⟨g, 2, none⟩ = some (.int .i64 c.pos) ∧ (∀ j, j < 29 → w.cell? ⟨g, 0 + j, none⟩ = c.cells[j]?) ∧ (∀ j, j < 13 → w.cell? ⟨g, 3 + j, none⟩ = c.o.cells[j]?) ∧ (∀ j, j < 13 → w.cell? ⟨g, 16 + j, none⟩ = c.n.cells[j]?) := by
  obtain ⟨h0, hc, h3, h4⟩ := rowC h
  exact ⟨h0, hc 1 (by decide), hc 2 (by decide), hc, h3, h4⟩
theorem lastK_at (p : List St) (m : Nat) (hm : p.length = m + 1) (s : St) (hs : ∀ h : m < p.length, p[m] = s) : lastK p = !s.1 := by
  unfold lastK
  rw [decide_eq_true (by omega), Bool.true_and, hm, Nat.add_sub_cancel, List.getD_eq_getElem?_getD, List.getElem?_eq_getElem (by omega), hs (by omega)]
  rfl
theorem keyed_any (x : Ch) (c : CC) (w : World) (hx : RdC w (fun _ => True) c x) :
    Calls Tryz.prog 20 #[aggC c] w fun e w' => e = .returned (.bool (movB x.op && lastK x.p)) ∧ Below w.heap.size w w' := by
  obtain ⟨r, hr⟩ : ∃ r, r = (movB x.op && lastK x.p) := ⟨_, rfl⟩
  rw [← hr]
  obtain ⟨op, p, pos, co, cn⟩ := c
  obtain ⟨a, cap, hp, h1, h2, h0, h3⟩ := hx.p
  simp only at hp
  subst hp
  have hop := hx.op
  simp only at hop
  rw [← hop] at hr
  clear hop hx
  have hs : ∀ (n m : Nat), x.p.length = n → n = m + 1 → ∃ g o, a = some ⟨g, o, none⟩ ∧ g < w.heap.size ∧ ∃ b : Bool, w.cell? ⟨g, o + m * 3, none⟩ = some (.bool b) ∧ lastK x.p = !b := by
    intro n m hn hm
    obtain ⟨g, o, ha, hg, hc⟩ := h3 (by intro h; rw [h] at hn; simp at hn; omega)
    have hlt : m < x.p.length := by omega
    exact ⟨g, o, ha, hg, x.p[m].1, (hc m hlt).1, lastK_at _ m (by omega) _ (fun _ => rfl)⟩
  have hl0 : x.p.length = 0 → lastK x.p = false := fun h => by unfold lastK; rw [h]; rfl
  unfold maxLen at h2
  clear h3 h0
  generalize x.p.length = n at *
  generalize lastK x.p = qk at *
  have HS := Lib.hid (fun m hm => hs n m rfl hm)
  clear hs
  have HQ : Hid (True → r = (decide (op = 2 ∨ op = 3) && qk)) := fun _ => hr
  clear hr
  go_enter Tryz.func20, Tryz.ntmps20
  go_upto_region 1 with fail
  generalize hW : World.alloc w _ = w1
  obtain ⟨hx0, _, _, hb⟩ := alloc_of hW
  obtain ⟨c0, c1, c2, -, -, -⟩ := rowC5 (c := ⟨op, .slice a n cap, pos, co, cn⟩) hx0
  have HB := Lib.hid hb
  clear hx0 hb hW
  simp only at c0 c1 c2
  rcases n with _ | m
  · have HL := Lib.hid (hl0 rfl)
    clear hl0
    go_wp2_with fail
    all_goals
      go_ret
      refine ⟨rb ?_, HB.out⟩
      have hq := HQ.out trivial
      have hl := HL.out
      clear HQ HL HS HB
      rw [hq, hl]
      simp
  · obtain ⟨g, o, rfl, hg, b, hc, hk⟩ := HS.out m rfl
    have hc' := (HB.out.cell hg).trans hc
    have HK := Lib.hid hk
    have hmb : (m : Int) ≤ 9223372036854775806 := by omega
    clear hl0 HS hc hk h1 h2
    go_wp2_with fail
    all_goals
      go_ret
      refine ⟨rb ?_, HB.out⟩
      have hq := HQ.out trivial
      have hl := HK.out
      clear HQ HK HB
      rw [hq, hl]
      first
        | (simp_all; done)
        | (rw [Bool.eq_iff_iff]; simp_all; done)
theorem byKey_any (v : Value) (p : List St) (w : World) (h : Rd w v p) :
    Calls Tryz.prog 53 #[v] w fun e w' => e = .returned (.bool (lastK p)) ∧ Below w.heap.size w w' := by
  obtain ⟨a, cap, rfl, h1, h2, h0, h3⟩ := h
  have hs : ∀ (n m : Nat), p.length = n → n = m + 1 → ∃ g o, a = some ⟨g, o, none⟩ ∧ g < w.heap.size ∧ ∃ b : Bool, w.cell? ⟨g, o + m * 3, none⟩ = some (.bool b) ∧ lastK p = !b := by
    intro n m hn hm
    obtain ⟨g, o, ha, hg, hc⟩ := h3 (by intro h; rw [h] at hn; simp at hn; omega)
    have hlt : m < p.length := by omega
    exact ⟨g, o, ha, hg, p[m].1, (hc m hlt).1, lastK_at _ m (by omega) _ (fun _ => rfl)⟩
  have hl0 : p.length = 0 → lastK p = false := fun h => by unfold lastK; rw [h]; rfl
  unfold maxLen at h2
  clear h3 h0
  generalize p.length = n at *
  generalize lastK p = qk at *
  have HS := Lib.hid (fun m hm => hs n m rfl hm)
  clear hs
  have HB : Hid (Below w.heap.size w w) := Below.refl _ _
  rcases n with _ | m
  · have HL := Lib.hid (hl0 rfl)
    clear hl0
    go_enter Tryz.func53, Tryz.ntmps53
    go_wp2_with fail
    go_ret
    exact ⟨rb HL.out.symm, HB.out⟩
  · obtain ⟨g, o, rfl, hg, b, hc, hk⟩ := HS.out m rfl
    have HK := Lib.hid hk
    have hmb : (m : Int) ≤ 9223372036854775806 := by omega
    clear hl0 HS hk h1 h2
    go_enter Tryz.func53, Tryz.ntmps53
    go_wp2_with fail
    go_ret
    exact ⟨rb HK.out.symm, HB.out⟩
end Go.Proofs.YtemiihkmpojpgaaGreatDoor

namespace Go.Proofs.YtemiihkmpojpgaaGreatDoor
open Go.RowKit
set_option maxHeartbeats 8000000
set_option maxRecDepth 100000

/-- Since the call began only new blocks were made; the change lies in the first of them. -/
structure OnW (w wr : World) (c : CC) : Prop where
  b : Below w.heap.size w wr
  x : wr.heap[w.heap.size]? = some (.cells (CC.cells c).toArray 46 (0, 0))
  z : w.heap.size < wr.heap.size
theorem OnW.below {w wr w2 : World} {c : CC} (h : OnW w wr c) (hb : Below wr.heap.size wr w2) : OnW w w2 c :=
  ⟨h.b.trans (hb.mono h.b.size), (hb.block _ h.z).trans h.x, Nat.lt_of_lt_of_le h.z hb.size⟩
theorem arg1_iff (x : Ch) : arg1 x = true ↔ (x.op = 1 ∨ x.op = 2 ∨ x.op = 3 ∨ x.op = 4) ∧ validP x.p = true ∧ ¬ (x.p.length = 0 ∧ (x.op = 2 ∨ x.op = 3)) := by
  unfold arg1 oldB newB movB
  generalize validP x.p = qv
  cases qv
  · simp
  · simp only [Bool.not_true, Bool.not_eq_true', Bool.or_eq_false_iff, Bool.false_or, Bool.and_eq_false_iff, decide_eq_false_iff_not, Bool.not_eq_false', decide_eq_true_eq, true_and]
    omega
theorem arg2_iff (x : Ch) : arg2 x = true ↔ ¬ x.pos < 0 ∧ ¬ 65536 < x.pos ∧ (x.pos = 0 ∨ (movB x.op && lastK x.p) = true) ∧ (oldB x.op = true ∨ zeroV x.o = true) ∧ (newB x.op = true ∨ zeroV x.n = true) := by
  unfold arg2
  generalize (movB x.op && lastK x.p) = q1
  generalize oldB x.op = q2
  generalize newB x.op = q3
  generalize zeroV x.o = q4
  generalize zeroV x.n = q5
  cases q1 <;> cases q2 <;> cases q3 <;> cases q4 <;> cases q5 <;> simp
theorem oldB_is (op : Int) : oldB op = true ↔ op = 1 ∨ op = 3 ∨ op = 4 := by unfold oldB; simp
theorem newB_is (op : Int) : newB op = true ↔ op = 1 ∨ op = 2 := by unfold newB; simp
theorem movB_is (op : Int) : movB op = true ↔ op = 2 ∨ op = 3 := by unfold movB; simp
end Go.Proofs.YtemiihkmpojpgaaGreatDoor

namespace Go.Proofs.YtemiihkmpojpgaaGreatDoor
open Go.RowKit
set_option maxHeartbeats 8000000
set_option maxRecDepth 100000

end Go.Proofs.YtemiihkmpojpgaaGreatDoor

namespace Go.Proofs.YtemiihkmpojpgaaGreatDoor
open Go.RowKit
set_option maxHeartbeats 8000000
set_option maxRecDepth 100000

def firstL (xs : List Ch) : Nat × Nat := if 4096 < xs.length then (0, 10) else firstC xs 0
def okC (xs : List Ch) : Prop := xs.length ≤ 1000000 ∧ ∀ i (hi : i < xs.length), nodV xs[i].o ≤ 1000000 ∧ nodV xs[i].n ≤ 1000000
end Go.Proofs.YtemiihkmpojpgaaGreatDoor

namespace Go.Proofs.YtemiihkmpojpgaaGreatDoor
open Go.RowKit
set_option maxHeartbeats 4000000
set_option maxRecDepth 100000

end Go.Proofs.YtemiihkmpojpgaaGreatDoor
