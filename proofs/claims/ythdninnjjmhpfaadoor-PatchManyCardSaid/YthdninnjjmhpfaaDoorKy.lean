/- patch.keyed, datakitref56.byKey walked. Conditions: none. -/
import Derived.Test.YthdninnjjmhpfaaDoorKz
namespace Go.Proofs.YthdninnjjmhpfaaDoor
open Go.RowKit
set_option maxHeartbeats 4000000
set_option maxRecDepth 100000

/-- The cells of a change that lies whole in a block. -/
theorem rowC5 {w : World} {g : Nat} {c : CC} {t : TypeId} (h : w.heap[g]? = some (.cells (CC.cells c).toArray t (0, 0))) :
    w.cell? ⟨g, 0, none⟩ = some (.int .i64 c.op) ∧ w.cell? ⟨g, 1, none⟩ = some c.p ∧ w.cell? ⟨g, 2, none⟩ = some (.int .i64 c.pos) ∧ (∀ j, j < 29 → w.cell? ⟨g, 0 + j, none⟩ = c.cells[j]?) ∧ (∀ j, j < 13 → w.cell? ⟨g, 3 + j, none⟩ = c.o.cells[j]?) ∧ (∀ j, j < 13 → w.cell? ⟨g, 16 + j, none⟩ = c.n.cells[j]?) := by
  obtain ⟨h0, hc, h3, h4⟩ := rowC h
  exact ⟨h0, hc 1 (by decide), hc 2 (by decide), hc, h3, h4⟩
theorem lastK_at (p : List St) (m : Nat) (hm : p.length = m + 1) (s : St) (hs : ∀ h : m < p.length, p[m] = s) : lastK p = !s.1 := by
  unfold lastK
  rw [decide_eq_true (by omega), Bool.true_and, hm, Nat.add_sub_cancel, List.getD_eq_getElem?_getD, List.getElem?_eq_getElem (by omega), hs (by omega)]
  rfl
theorem keyed_any (x : Ch) (c : CC) (w : World) (hx : RdC w (fun _ => True) c x) :
    Calls Tryd.prog 19 #[aggC c] w fun e w' => e = .returned (.bool (movB x.op && lastK x.p)) ∧ Below w.heap.size w w' := by
  obtain ⟨r, hr⟩ : ∃ r, r = (movB x.op && lastK x.p) := ⟨_, rfl⟩
  rw [← hr]
  obtain ⟨op, p, pos, co, cn⟩ := c
  obtain ⟨a, cap, hp, h1, h2, h0, h3⟩ := hx.p
  simp only at hp
  subst hp
  have hop := hx.op
  simp only at hop
  rw [← hop] at hr
  clear hop hx
  have hs : ∀ (n m : Nat), x.p.length = n → n = m + 1 → ∃ g o, a = some ⟨g, o, none⟩ ∧ g < w.heap.size ∧ ∃ b : Bool, w.cell? ⟨g, o + m * 3, none⟩ = some (.bool b) ∧ lastK x.p = !b := by
    intro n m hn hm
    obtain ⟨g, o, ha, hg, hc⟩ := h3 (by intro h; rw [h] at hn; simp at hn; omega)
    have hlt : m < x.p.length := by omega
    exact ⟨g, o, ha, hg, x.p[m].1, (hc m hlt).1, lastK_at _ m (by omega) _ (fun _ => rfl)⟩
  have hl0 : x.p.length = 0 → lastK x.p = false := fun h => by unfold lastK; rw [h]; rfl
  unfold maxLen at h2
  clear h3 h0
  generalize x.p.length = n at *
  generalize lastK x.p = qk at *
  have HS := Lib.hid (fun m hm => hs n m rfl hm)
  clear hs
  have HQ : Hid (True → r = (decide (op = 2 ∨ op = 3) && qk)) := fun _ => hr
  clear hr
  go_enter Tryd.func19, Tryd.ntmps19
  go_upto_region 1 with fail
  generalize hW : World.alloc w _ = w1
  obtain ⟨hx0, _, _, hb⟩ := alloc_of hW
  obtain ⟨c0, c1, c2, -, -, -⟩ := rowC5 (c := ⟨op, .slice a n cap, pos, co, cn⟩) hx0
  have HB := Lib.hid hb
  clear hx0 hb hW
  simp only at c0 c1 c2
  rcases n with _ | m
  · have HL := Lib.hid (hl0 rfl)
    clear hl0
    go_wp2_with fail
    all_goals
      go_ret
      refine ⟨rb ?_, HB.out⟩
      have hq := HQ.out trivial
      have hl := HL.out
      clear HQ HL HS HB
      rw [hq, hl]
      simp
  · obtain ⟨g, o, rfl, hg, b, hc, hk⟩ := HS.out m rfl
    have hc' := (HB.out.cell hg).trans hc
    have HK := Lib.hid hk
    have hmb : (m : Int) ≤ 9223372036854775806 := by omega
    clear hl0 HS hc hk h1 h2
    go_wp2_with fail
    all_goals
      go_ret
      refine ⟨rb ?_, HB.out⟩
      have hq := HQ.out trivial
      have hl := HK.out
      clear HQ HK HB
      rw [hq, hl]
      first
        | (simp_all; done)
        | (rw [Bool.eq_iff_iff]; simp_all; done)
theorem byKey_any (v : Value) (p : List St) (w : World) (h : Rd w v p) :
    Calls Tryd.prog 33 #[v] w fun e w' => e = .returned (.bool (lastK p)) ∧ Below w.heap.size w w' := by
  obtain ⟨a, cap, rfl, h1, h2, h0, h3⟩ := h
  have hs : ∀ (n m : Nat), p.length = n → n = m + 1 → ∃ g o, a = some ⟨g, o, none⟩ ∧ g < w.heap.size ∧ ∃ b : Bool, w.cell? ⟨g, o + m * 3, none⟩ = some (.bool b) ∧ lastK p = !b := by
    intro n m hn hm
    obtain ⟨g, o, ha, hg, hc⟩ := h3 (by intro h; rw [h] at hn; simp at hn; omega)
    have hlt : m < p.length := by omega
    exact ⟨g, o, ha, hg, p[m].1, (hc m hlt).1, lastK_at _ m (by omega) _ (fun _ => rfl)⟩
  have hl0 : p.length = 0 → lastK p = false := fun h => by unfold lastK; rw [h]; rfl
  unfold maxLen at h2
  clear h3 h0
  generalize p.length = n at *
  generalize lastK p = qk at *
  have HS := Lib.hid (fun m hm => hs n m rfl hm)
  clear hs
  have HB : Hid (Below w.heap.size w w) := Below.refl _ _
  rcases n with _ | m
  · have HL := Lib.hid (hl0 rfl)
    clear hl0
    go_enter Tryd.func33, Tryd.ntmps33
    go_wp2_with fail
    go_ret
    exact ⟨rb HL.out.symm, HB.out⟩
  · obtain ⟨g, o, rfl, hg, b, hc, hk⟩ := HS.out m rfl
    have HK := Lib.hid hk
    have hmb : (m : Int) ≤ 9223372036854775806 := by omega
    clear hl0 HS hk h1 h2
    go_enter Tryd.func33, Tryd.ntmps33
    go_wp2_with fail
    go_ret
    exact ⟨rb HK.out.symm, HB.out⟩
end Go.Proofs.YthdninnjjmhpfaaDoor
