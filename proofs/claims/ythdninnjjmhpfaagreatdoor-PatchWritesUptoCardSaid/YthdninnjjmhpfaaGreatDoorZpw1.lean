/- patch.Check, datakitref56.first, Check walked; the law PatchChecks. Conditions: strings of at most 10^9 bytes. -/
import Derived.Test.YthdninnjjmhpfaaGreatDoorVk
import Derived.Test.YthdninnjjmhpfaaGreatDoorCi
import Derived.Test.YthdninnjjmhpfaaGreatDoorCh
import Derived.Test.YthdninnjjmhpfaaGreatDoorTk
namespace Go.Proofs.YthdninnjjmhpfaaGreatDoor
open Go.RowKit
set_option maxHeartbeats 4000000
set_option maxRecDepth 100000

theorem rowV {w : World} {g : Nat} {c : VC} {t : TypeId} (h : w.heap[g]? = some (.cells (VC.cells c).toArray t (0, 0))) : ∀ j, j < 13 → w.cell? ⟨g, 0 + j, none⟩ = c.cells[j]? :=
  fun j _ => by rw [Nat.zero_add, cell_of_row _ _ _ _ _ _ h, List.getElem?_toArray]
theorem VCheck_any (v : V) (c : VC) (w : World) (hn : nodV v ≤ 1000000) (hv : RdV w c v) :
    Calls Tryz.prog 40 #[aggV c] w fun e w' => e = .returned (.int .i64 (checkV v : Nat)) ∧ Below w.heap.size w w' := by
  have hone := vc_one hv
  have HV := Lib.hid hv
  have HONE := Lib.hid hone
  have HN := Lib.hid hn
  clear hv hn hone
  go_enter Tryz.func40, Tryz.ntmps40
  go_upto_region 2 with fail
  generalize hW : World.alloc (World.alloc _ _) _ = w1
  obtain ⟨hb, hx, hy, hz⟩ := alloc2_of hW
  have hc13 : Hid (∀ j, j < 13 → w1.cell? ⟨w.heap.size, 0 + j, none⟩ = c.cells[j]?) := rowV hx
  have HB := Lib.hid hb
  have HY := Lib.hid hy
  have HZ := Lib.hid hz
  clear hb hx hy hz hW
  go_wp2_with (refine wpl_load rfl rfl stVk rfl (cells_len _) hc13.out ?_)
  have hr1 : RdI w1 (fun b => b < w.heap.size + 1) c v := stbV.mono (stbV.kept HV.out (fun b _ hb' => HB.out.block b hb') HB.out.size) (fun b h => Nat.lt_succ_of_lt h.2)
  refine (check_any _ v c w1 1 0 (w.heap.size + 1) (Nat.le_refl _) HN.out (by decide) (by decide) (by decide) (by decide) hr1 HY.out).mono ?_
  rintro e w2 ⟨rfl, o1, o2, o3, hz2, hbl, _⟩
  have hbw : Below w.heap.size w w2 := ⟨o1.trans HB.out.os, o2.trans HB.out.tape, o3.trans HB.out.output, Nat.le_trans HB.out.size hz2, fun k hk => (hbl k (by have := HZ.out; omega) (by omega)).trans (HB.out.block k hk)⟩
  clear o1 o2 o3 hz2 hbl hr1
  go_wp2_with fail
  go_ret
  exact ⟨rfl, hbw⟩
end Go.Proofs.YthdninnjjmhpfaaGreatDoor

namespace Go.Proofs.YthdninnjjmhpfaaGreatDoor
open Go.RowKit
set_option maxRecDepth 100000
set_option maxHeartbeats 1000000

/-- Are all parts of a value zero? -/
def zeroV : V → Bool
  | .mk h l f => decide (h.kind = 0 ∧ h.bool = false ∧ (h.neg = false ∧ h.ds.toList = [] ∧ h.exp = 0) ∧ (h.tk = 0 ∧ h.day = 0 ∧ h.nano = 0 ∧ h.off = 0) ∧ h.text.toList = [] ∧ h.bytes.length = 0 ∧ l.length = 0 ∧ f.length = 0)
/-- Is the last step a key? -/
def lastK (p : List St) : Bool := decide (0 < p.length) && !(p.getD (p.length - 1) (false, ⟨#[]⟩, 0)).1
def movB (op : Int) : Bool := decide (op = 2 ∨ op = 3)
def oldB (op : Int) : Bool := decide (op = 1 ∨ op = 3 ∨ op = 4)
def newB (op : Int) : Bool := decide (op = 1 ∨ op = 2)
/-- The first question, and the second one. -/
def arg1 (x : Ch) : Bool := !((!oldB x.op && !newB x.op) || (!validP x.p || (decide (x.p.length = 0) && movB x.op)))
def arg2 (x : Ch) : Bool := !(decide (x.pos < 0) || (decide (65536 < x.pos) || ((decide (x.pos ≠ 0) && !(movB x.op && lastK x.p)) || ((!oldB x.op && !zeroV x.o) || (!newB x.op && !zeroV x.n)))))
def oneC (x : Ch) : Nat :=
  if arg1 x = false then 1 else if arg2 x = false then 1 else if oldB x.op = true ∧ checkV x.o ≠ 0 then checkV x.o else if newB x.op = true then checkV x.n else 0
/-- The place of the first change that is not valid, and its error. -/
def firstC : List Ch → Nat → Nat × Nat
  | [], _ => (0, 0)
  | x :: t, i => if oneC x ≠ 0 then (i, oneC x) else firstC t (i + 1)
def checkL (xs : List Ch) : Nat := if 4096 < xs.length then 10 else (firstC xs 0).2
theorem firstC_drop (xs : List Ch) (k : Nat) (h : k < xs.length) (i : Nat) : firstC (xs.drop k) i = if oneC xs[k] ≠ 0 then (i, oneC xs[k]) else firstC (xs.drop (k + 1)) (i + 1) := by
  rw [List.drop_eq_getElem_cons h, firstC]
end Go.Proofs.YthdninnjjmhpfaaGreatDoor

namespace Go.Proofs.YthdninnjjmhpfaaGreatDoor
open Go.RowKit
set_option maxHeartbeats 4000000
set_option maxRecDepth 100000

theorem zeroP_any (v : V) (c : VC) (w : World) (hv : RdV w c v) :
    Calls Tryz.prog 51 #[aggV c] w fun e w' => e = .returned (.bool (zeroV v)) ∧ Below w.heap.size w w' := by
  cases hv with
  | mk h l f bv lv fv lc fc ok hB hl hL hf hK hF sb sl sf =>
  obtain ⟨ba, bcap, rfl, _⟩ := hB
  obtain ⟨la, lcap, rfl, _⟩ := hl
  obtain ⟨fa, fcap, rfl, _⟩ := hf
  clear hL hF hK ok sb sl sf
  have hbw : ∀ x, Below w.heap.size w (w.alloc x) := fun x => (Below.refl _ _).alloc (Nat.le_refl _) _
  have HB := Lib.hid hbw; clear hbw
  obtain ⟨r, hr⟩ : ∃ r, r = zeroV (.mk h l f) := ⟨_, rfl⟩
  rw [← hr]
  rw [zeroV] at hr
  obtain ⟨a0, a1, a2, a3, a4, a5, a6, a7, a8, a9, a10⟩ := h
  simp only at hr
  generalize l.length = nl at *
  generalize f.length = nf at *
  simp only [aggV]
  generalize a10.length = nb at *
  have HQ : Hid (True → r = decide (a0 = 0 ∧ a1 = false ∧ (a2 = false ∧ a3.toList = [] ∧ a4 = 0) ∧ (a5 = 0 ∧ a6 = 0 ∧ a7 = 0 ∧ a8 = 0) ∧ a9.toList = [] ∧ nb = 0 ∧ nl = 0 ∧ nf = 0)) := fun _ => hr
  clear hr
  go_enter Tryz.func51, Tryz.ntmps51
  cases a2
  all_goals go_wp2_with fail
  all_goals
    go_ret
    refine ⟨rb ?_, HB.out _⟩
    have hq := HQ.out trivial
    clear HQ HB
    rw [hq]
    clear hq
    first
      | (simp_all; done)
      | (simp_all; omega)
      | (rw [Bool.eq_iff_iff]; simp_all; done)
      | (rw [Bool.eq_iff_iff]; simp_all; omega)
theorem zeroR_any (v : V) (c : VC) (w : World) (hv : RdV w c v) :
    Calls Tryz.prog 87 #[aggV c] w fun e w' => e = .returned (.bool (zeroV v)) ∧ Below w.heap.size w w' := by
  cases hv with
  | mk h l f bv lv fv lc fc ok hB hl hL hf hK hF sb sl sf =>
  obtain ⟨ba, bcap, rfl, _⟩ := hB
  obtain ⟨la, lcap, rfl, _⟩ := hl
  obtain ⟨fa, fcap, rfl, _⟩ := hf
  clear hL hF hK ok sb sl sf
  have hbw : ∀ x, Below w.heap.size w (w.alloc x) := fun x => (Below.refl _ _).alloc (Nat.le_refl _) _
  have HB := Lib.hid hbw; clear hbw
  obtain ⟨r, hr⟩ : ∃ r, r = zeroV (.mk h l f) := ⟨_, rfl⟩
  rw [← hr]
  rw [zeroV] at hr
  obtain ⟨a0, a1, a2, a3, a4, a5, a6, a7, a8, a9, a10⟩ := h
  simp only at hr
  generalize l.length = nl at *
  generalize f.length = nf at *
  simp only [aggV]
  generalize a10.length = nb at *
  have HQ : Hid (True → r = decide (a0 = 0 ∧ a1 = false ∧ (a2 = false ∧ a3.toList = [] ∧ a4 = 0) ∧ (a5 = 0 ∧ a6 = 0 ∧ a7 = 0 ∧ a8 = 0) ∧ a9.toList = [] ∧ nb = 0 ∧ nl = 0 ∧ nf = 0)) := fun _ => hr
  clear hr
  go_enter Tryz.func87, Tryz.ntmps87
  cases a2
  all_goals go_wp2_with fail
  all_goals
    go_ret
    refine ⟨rb ?_, HB.out _⟩
    have hq := HQ.out trivial
    clear HQ HB
    rw [hq]
    clear hq
    first
      | (simp_all; done)
      | (simp_all; omega)
      | (rw [Bool.eq_iff_iff]; simp_all; done)
      | (rw [Bool.eq_iff_iff]; simp_all; omega)
theorem hasOld_any (op : Int) (w : World) : Calls Tryz.prog 38 #[.int .i64 op] w fun e w' => e = .returned (.bool (oldB op)) ∧ w = w' := by
  have HQ : Hid (True → oldB op = decide (op = 1 ∨ op = 3 ∨ op = 4)) := fun _ => rfl
  generalize oldB op = r at *
  go_enter Tryz.func38, Tryz.ntmps38
  go_wp2_with fail
  all_goals
    go_ret
    refine ⟨rb ?_, rfl⟩
    have hq := HQ.out trivial
    clear HQ
    rw [hq]
    first
      | (simp_all; done)
      | (rw [Bool.eq_iff_iff]; simp_all; done)
      | (rw [Bool.eq_iff_iff]; simp_all; omega)
theorem hasNew_any (op : Int) (w : World) : Calls Tryz.prog 39 #[.int .i64 op] w fun e w' => e = .returned (.bool (newB op)) ∧ w = w' := by
  have HQ : Hid (True → newB op = decide (op = 1 ∨ op = 2)) := fun _ => rfl
  generalize newB op = r at *
  go_enter Tryz.func39, Tryz.ntmps39
  go_wp2_with fail
  all_goals
    go_ret
    refine ⟨rb ?_, rfl⟩
    have hq := HQ.out trivial
    clear HQ
    rw [hq]
    first
      | (simp_all; done)
      | (rw [Bool.eq_iff_iff]; simp_all; done)
      | (rw [Bool.eq_iff_iff]; simp_all; omega)
end Go.Proofs.YthdninnjjmhpfaaGreatDoor

namespace Go.Proofs.YthdninnjjmhpfaaGreatDoor
open Go.RowKit
set_option maxHeartbeats 4000000
set_option maxRecDepth 100000

/-- The cells of a change that lies whole in a block. -/
theorem rowC5 {w : World} {g : Nat} {c : CC} {t : TypeId} (h : w.heap[g]? = some (.cells (CC.cells c).toArray t (0, 0))) :
    w.cell? ⟨g, 0, none⟩ = some (.int .i64 c.op) ∧ w.cell? ⟨g, 1, none⟩ = some c.p ∧ w.cell? ⟨g, 2, none⟩ = some (.int .i64 c.pos) ∧ (∀ j, j < 29 → w.cell? ⟨g, 0 + j, none⟩ = c.cells[j]?) ∧ (∀ j, j < 13 → w.cell? ⟨g, 3 + j, none⟩ = c.o.cells[j]?) ∧ (∀ j, j < 13 → w.cell? ⟨g, 16 + j, none⟩ = c.n.cells[j]?) := by
  obtain ⟨h0, hc, h3, h4⟩ := rowC h
  exact ⟨h0, hc 1 (by decide), hc 2 (by decide), hc, h3, h4⟩
theorem lastK_at (p : List St) (m : Nat) (hm : p.length = m + 1) (s : St) (hs : ∀ h : m < p.length, p[m] = s) : lastK p = !s.1 := by
  unfold lastK
  rw [decide_eq_true (by omega), Bool.true_and, hm, Nat.add_sub_cancel, List.getD_eq_getElem?_getD, List.getElem?_eq_getElem (by omega), hs (by omega)]
  rfl
theorem keyed_any (x : Ch) (c : CC) (w : World) (hx : RdC w (fun _ => True) c x) :
    Calls Tryz.prog 36 #[aggC c] w fun e w' => e = .returned (.bool (movB x.op && lastK x.p)) ∧ Below w.heap.size w w' := by
  obtain ⟨r, hr⟩ : ∃ r, r = (movB x.op && lastK x.p) := ⟨_, rfl⟩
  rw [← hr]
  obtain ⟨op, p, pos, co, cn⟩ := c
  obtain ⟨a, cap, hp, h1, h2, h0, h3⟩ := hx.p
  simp only at hp
  subst hp
  have hop := hx.op
  simp only at hop
  rw [← hop] at hr
  clear hop hx
  have hs : ∀ (n m : Nat), x.p.length = n → n = m + 1 → ∃ g o, a = some ⟨g, o, none⟩ ∧ g < w.heap.size ∧ ∃ b : Bool, w.cell? ⟨g, o + m * 3, none⟩ = some (.bool b) ∧ lastK x.p = !b := by
    intro n m hn hm
    obtain ⟨g, o, ha, hg, hc⟩ := h3 (by intro h; rw [h] at hn; simp at hn; omega)
    have hlt : m < x.p.length := by omega
    exact ⟨g, o, ha, hg, x.p[m].1, (hc m hlt).1, lastK_at _ m (by omega) _ (fun _ => rfl)⟩
  have hl0 : x.p.length = 0 → lastK x.p = false := fun h => by unfold lastK; rw [h]; rfl
  unfold maxLen at h2
  clear h3 h0
  generalize x.p.length = n at *
  generalize lastK x.p = qk at *
  have HS := Lib.hid (fun m hm => hs n m rfl hm)
  clear hs
  have HQ : Hid (True → r = (decide (op = 2 ∨ op = 3) && qk)) := fun _ => hr
  clear hr
  go_enter Tryz.func36, Tryz.ntmps36
  go_upto_region 1 with fail
  generalize hW : World.alloc w _ = w1
  obtain ⟨hx0, _, _, hb⟩ := alloc_of hW
  obtain ⟨c0, c1, c2, -, -, -⟩ := rowC5 (c := ⟨op, .slice a n cap, pos, co, cn⟩) hx0
  have HB := Lib.hid hb
  clear hx0 hb hW
  simp only at c0 c1 c2
  rcases n with _ | m
  · have HL := Lib.hid (hl0 rfl)
    clear hl0
    go_wp2_with fail
    all_goals
      go_ret
      refine ⟨rb ?_, HB.out⟩
      have hq := HQ.out trivial
      have hl := HL.out
      clear HQ HL HS HB
      rw [hq, hl]
      simp
  · obtain ⟨g, o, rfl, hg, b, hc, hk⟩ := HS.out m rfl
    have hc' := (HB.out.cell hg).trans hc
    have HK := Lib.hid hk
    have hmb : (m : Int) ≤ 9223372036854775806 := by omega
    clear hl0 HS hc hk h1 h2
    go_wp2_with fail
    all_goals
      go_ret
      refine ⟨rb ?_, HB.out⟩
      have hq := HQ.out trivial
      have hl := HK.out
      clear HQ HK HB
      rw [hq, hl]
      first
        | (simp_all; done)
        | (rw [Bool.eq_iff_iff]; simp_all; done)
theorem byKey_any (v : Value) (p : List St) (w : World) (h : Rd w v p) :
    Calls Tryz.prog 64 #[v] w fun e w' => e = .returned (.bool (lastK p)) ∧ Below w.heap.size w w' := by
  obtain ⟨a, cap, rfl, h1, h2, h0, h3⟩ := h
  have hs : ∀ (n m : Nat), p.length = n → n = m + 1 → ∃ g o, a = some ⟨g, o, none⟩ ∧ g < w.heap.size ∧ ∃ b : Bool, w.cell? ⟨g, o + m * 3, none⟩ = some (.bool b) ∧ lastK p = !b := by
    intro n m hn hm
    obtain ⟨g, o, ha, hg, hc⟩ := h3 (by intro h; rw [h] at hn; simp at hn; omega)
    have hlt : m < p.length := by omega
    exact ⟨g, o, ha, hg, p[m].1, (hc m hlt).1, lastK_at _ m (by omega) _ (fun _ => rfl)⟩
  have hl0 : p.length = 0 → lastK p = false := fun h => by unfold lastK; rw [h]; rfl
  unfold maxLen at h2
  clear h3 h0
  generalize p.length = n at *
  generalize lastK p = qk at *
  have HS := Lib.hid (fun m hm => hs n m rfl hm)
  clear hs
  have HB : Hid (Below w.heap.size w w) := Below.refl _ _
  rcases n with _ | m
  · have HL := Lib.hid (hl0 rfl)
    clear hl0
    go_enter Tryz.func64, Tryz.ntmps64
    go_wp2_with fail
    go_ret
    exact ⟨rb HL.out.symm, HB.out⟩
  · obtain ⟨g, o, rfl, hg, b, hc, hk⟩ := HS.out m rfl
    have HK := Lib.hid hk
    have hmb : (m : Int) ≤ 9223372036854775806 := by omega
    clear hl0 HS hk h1 h2
    go_enter Tryz.func64, Tryz.ntmps64
    go_wp2_with fail
    go_ret
    exact ⟨rb HK.out.symm, HB.out⟩
end Go.Proofs.YthdninnjjmhpfaaGreatDoor

namespace Go.Proofs.YthdninnjjmhpfaaGreatDoor
open Go.RowKit
set_option maxHeartbeats 8000000
set_option maxRecDepth 100000

/-- Since the call began only new blocks were made; the change lies in the first of them. -/
structure OnW (w wr : World) (c : CC) : Prop where
  b : Below w.heap.size w wr
  x : wr.heap[w.heap.size]? = some (.cells (CC.cells c).toArray 54 (0, 0))
  z : w.heap.size < wr.heap.size
theorem OnW.below {w wr w2 : World} {c : CC} (h : OnW w wr c) (hb : Below wr.heap.size wr w2) : OnW w w2 c :=
  ⟨h.b.trans (hb.mono h.b.size), (hb.block _ h.z).trans h.x, Nat.lt_of_lt_of_le h.z hb.size⟩
theorem arg1_iff (x : Ch) : arg1 x = true ↔ (x.op = 1 ∨ x.op = 2 ∨ x.op = 3 ∨ x.op = 4) ∧ validP x.p = true ∧ ¬ (x.p.length = 0 ∧ (x.op = 2 ∨ x.op = 3)) := by
  unfold arg1 oldB newB movB
  generalize validP x.p = qv
  cases qv
  · simp
  · simp only [Bool.not_true, Bool.not_eq_true', Bool.or_eq_false_iff, Bool.false_or, Bool.and_eq_false_iff, decide_eq_false_iff_not, Bool.not_eq_false', decide_eq_true_eq, true_and]
    omega
theorem arg2_iff (x : Ch) : arg2 x = true ↔ ¬ x.pos < 0 ∧ ¬ 65536 < x.pos ∧ (x.pos = 0 ∨ (movB x.op && lastK x.p) = true) ∧ (oldB x.op = true ∨ zeroV x.o = true) ∧ (newB x.op = true ∨ zeroV x.n = true) := by
  unfold arg2
  generalize (movB x.op && lastK x.p) = q1
  generalize oldB x.op = q2
  generalize newB x.op = q3
  generalize zeroV x.o = q4
  generalize zeroV x.n = q5
  cases q1 <;> cases q2 <;> cases q3 <;> cases q4 <;> cases q5 <;> simp
theorem oldB_is (op : Int) : oldB op = true ↔ op = 1 ∨ op = 3 ∨ op = 4 := by unfold oldB; simp
theorem newB_is (op : Int) : newB op = true ↔ op = 1 ∨ op = 2 := by unfold newB; simp
theorem movB_is (op : Int) : movB op = true ↔ op = 2 ∨ op = 3 := by unfold movB; simp
theorem one_any (x : Ch) (c : CC) (w : World) (hno : nodV x.o ≤ 1000000) (hnn : nodV x.n ≤ 1000000) (hx : RdC w (fun _ => True) c x) :
    Calls Tryz.prog 22 #[aggC c] w fun e w' => e = .returned (.int .i64 (oneC x : Nat)) ∧ Below w.heap.size w w' := by
  obtain ⟨r, hr⟩ : ∃ r : Nat, r = oneC x := ⟨_, rfl⟩
  rw [← hr]
  unfold oneC at hr
  obtain ⟨q1, hq1⟩ : ∃ q, q = !arg1 x := ⟨_, rfl⟩
  obtain ⟨q2, hq2⟩ : ∃ q, q = !arg2 x := ⟨_, rfl⟩
  have i1 := arg1_iff x
  have i2 := arg2_iff x
  have a1 : arg1 x = !q1 := by rw [hq1, Bool.not_not]
  have a2 : arg2 x = !q2 := by rw [hq2, Bool.not_not]
  rw [a1] at hr i1
  rw [a2] at hr i2
  clear hq1 hq2 a1 a2
  have i3 := oldB_is x.op
  have i4 := newB_is x.op
  have HPV := Lib.hid (fun w' (hb : Below w.heap.size w w') => PValid_any c.p x.p w' (hx.p.below hb))
  have HKY : Hid (∀ w', Below w.heap.size w w' → Calls Tryz.prog 36 #[.agg c.cells.toArray] w' fun e w2 => e = .returned (.bool (movB x.op && lastK x.p)) ∧ Below w'.heap.size w' w2) := fun w' hb => keyed_any x c w' (hx.stays hb)
  have HZO : Hid (∀ w', Below w.heap.size w w' → Calls Tryz.prog 51 #[.agg c.o.cells.toArray] w' fun e w2 => e = .returned (.bool (zeroV x.o)) ∧ Below w'.heap.size w' w2) := fun w' hb => zeroP_any x.o c.o w' (hx.o.stays hb)
  have HZN : Hid (∀ w', Below w.heap.size w w' → Calls Tryz.prog 51 #[.agg c.n.cells.toArray] w' fun e w2 => e = .returned (.bool (zeroV x.n)) ∧ Below w'.heap.size w' w2) := fun w' hb => zeroP_any x.n c.n w' (hx.n.stays hb)
  have HVO : Hid (∀ w', Below w.heap.size w w' → Calls Tryz.prog 40 #[.agg c.o.cells.toArray] w' fun e w2 => e = .returned (.int .i64 (checkV x.o : Nat)) ∧ Below w'.heap.size w' w2) := fun w' hb => VCheck_any x.o c.o w' hno (hx.o.stays hb)
  have HVN : Hid (∀ w', Below w.heap.size w w' → Calls Tryz.prog 40 #[.agg c.n.cells.toArray] w' fun e w2 => e = .returned (.int .i64 (checkV x.n : Nat)) ∧ Below w'.heap.size w' w2) := fun w' hb => VCheck_any x.n c.n w' hnn (hx.n.stays hb)
  have HHO := Lib.hid (fun w' => hasOld_any x.op w')
  have HHN := Lib.hid (fun w' => hasNew_any x.op w')
  obtain ⟨a, cap, hp, -, -⟩ := hx.p
  have hop := hx.op
  have hpos := hx.pos
  have HC5 : Hid (∀ w', OnW w w' c → w'.cell? ⟨w.heap.size, 0, none⟩ = some (.int .i64 x.op) ∧ w'.cell? ⟨w.heap.size, 1, none⟩ = some (.slice a x.p.length cap) ∧ w'.cell? ⟨w.heap.size, 2, none⟩ = some (.int .i64 x.pos) ∧ (∀ j, j < 29 → w'.cell? ⟨w.heap.size, 0 + j, none⟩ = c.cells[j]?) ∧ (∀ j, j < 13 → w'.cell? ⟨w.heap.size, 3 + j, none⟩ = c.o.cells[j]?) ∧ (∀ j, j < 13 → w'.cell? ⟨w.heap.size, 16 + j, none⟩ = c.n.cells[j]?)) := by
    intro w' h
    have := rowC5 h.x
    rw [hop, hpos, hp] at this
    exact this
  rw [hp] at HPV
  have HIN : Hid (∀ w1 : World, w.alloc (.cells (CC.cells c).toArray 54) = w1 → OnW w w1 c) := fun w1 hW => by
    obtain ⟨hx0, _, hz0, hb0⟩ := alloc_of hW
    exact ⟨hb0, hx0, by omega⟩
  clear hx hp hop hpos hno hnn
  generalize zeroV x.o = zo at *
  generalize zeroV x.n = zn at *
  generalize checkV x.o = eo at *
  generalize checkV x.n = en at *
  generalize (movB x.op && lastK x.p) = qk at *
  generalize oldB x.op = qo at *
  generalize newB x.op = qn at *
  generalize validP x.p = qv at *
  generalize x.p.length = n at *
  generalize x.op = op at *
  generalize x.pos = pos at *
  have HR := Lib.hid hr
  have I1 := Lib.hid i1
  have I2 := Lib.hid i2
  have I3 := Lib.hid i3
  have I4 := Lib.hid i4
  clear hr i1 i2 i3 i4
  go_enter Tryz.func22, Tryz.ntmps22
  go_upto_region 1 with fail
  generalize hW : World.alloc w _ = w1
  have HON := Lib.hid (HIN.out w1 hW)
  obtain ⟨c0, c1, c2, -, -, -⟩ := HC5.out _ HON.out
  clear hW HIN
  go_cut [35] (fun v wx => v = .bool q1 ∧ OnW w wx c)
  case first =>
    clear HZO HZN HVO HVN HKY I2 HR c2
    have J1 := I1.out
    have J3 := I3.out
    have J4 := I4.out
    clear I1 I3 I4
    have way : q1 = true ∧ qo = false ∧ qn = false ∨ q1 = true ∧ (qo = true ∨ qo = false ∧ qn = true) ∧ qv = false ∨ q1 = false ∧ (qo = true ∨ qo = false ∧ qn = true) ∧ qv = true ∧ n ≠ 0 ∨
        q1 = false ∧ qo = true ∧ qv = true ∧ n = 0 ∧ op ≠ 2 ∧ op ≠ 3 ∨ q1 = true ∧ qo = true ∧ qv = true ∧ n = 0 ∧ op = 3 ∨ q1 = true ∧ qo = false ∧ qn = true ∧ qv = true ∧ n = 0 ∧ op = 2 := by
      cases q1 <;> cases qo <;> cases qn <;> cases qv <;> simp at J1 J3 J4 ⊢ <;> omega
    clear J1 J3 J4
    rcases way with ⟨rfl, rfl, rfl⟩ | ⟨rfl, rfl | ⟨rfl, rfl⟩, rfl⟩ | ⟨rfl, rfl | ⟨rfl, rfl⟩, rfl, hn⟩ | ⟨rfl, rfl, rfl, rfl, h2, h3⟩ | ⟨rfl, rfl, rfl, rfl, rfl⟩ | ⟨rfl, rfl, rfl, rfl, rfl, rfl⟩
    case' inr.inr.inl.inl => have hn' : ((n : Int) == 0) = false := by rw [beq_eq_false_iff_ne]; omega
    case' inr.inr.inl.inr => have hn' : ((n : Int) == 0) = false := by rw [beq_eq_false_iff_ne]; omega
    case' inr.inr.inr.inl => have h2' : (op == 2) = false := by rw [beq_eq_false_iff_ne]; exact h2
    case' inr.inr.inr.inl => have h3' : (op == 3) = false := by rw [beq_eq_false_iff_ne]; exact h3
    all_goals
      go_wp2_with (first
        | (go_at_call 38; refine (HHO.out _).mono ?_; rintro e w' ⟨rfl, rfl⟩)
        | (go_at_call 39; refine (HHN.out _).mono ?_; rintro e w' ⟨rfl, rfl⟩)
        | (go_at_call 50; refine (HPV.out _ HON.out.b).mono ?_; rintro e w2 ⟨rfl, hb⟩; have HON2 := Lib.hid (HON.out.below hb); clear hb; obtain ⟨d0, d1, -, -, -, -⟩ := HC5.out _ HON2.out))
      go_meet
      first
        | exact ⟨rfl, HON2.out⟩
        | exact ⟨rfl, HON.out⟩
  case rest =>
  clear c0 c1 c2
  obtain ⟨rfl, HON2⟩ := hcut
  replace HON2 := Lib.hid HON2
  clear HON I1 I3 I4 HPV
  cases q1 with
  | true =>
    have HF : Hid (r = 1) := HR.out
    clear HR
    go_wp2_with fail
    go_ret
    exact ⟨ri (by rw [HF.out]; rfl), HON2.out.b⟩
  | false =>
  replace HR : Hid (r = if (!q2) = false then 1 else if qo = true ∧ eo ≠ 0 then eo else if qn = true then en else 0) := HR.out
  obtain ⟨c0, -, c2, c29, c3, c4⟩ := HC5.out _ HON2.out
  have C29 := Lib.hid c29
  have C3 := Lib.hid c3
  have C4 := Lib.hid c4
  clear c29 c3 c4
  go_upto_region 3 with fail
  go_cut [77] (fun v wx => v = .bool q2 ∧ OnW w wx c)
  case first =>
    clear HR HVO HVN
    have way : pos < 0 ∨ 65536 < pos ∨ 0 < pos ∧ pos ≤ 65536 ∨ pos = 0 := by omega
    rcases way with hp | hp | ⟨hp, hp1⟩ | hp
    · have hq : q2 = true := by have := I2.out; cases q2 <;> simp at this ⊢ <;> omega
      subst hq
      clear I2
      go_wp2_with fail
      go_meet
      exact ⟨rfl, HON2.out⟩
    · have hq : q2 = true := by have := I2.out; cases q2 <;> simp at this ⊢ <;> omega
      subst hq
      have hp' : ((65536 : Int) < pos) = True := eq_true hp
      have hp0 : ¬ pos < 0 := by omega
      clear I2 hp
      go_wp2_with fail
      go_meet
      exact ⟨rfl, HON2.out⟩
    · have hp' : ((65536 : Int) < pos) = False := eq_false (by omega)
      have hp0 : ¬ pos < 0 := by omega
      have hpn : (pos != 0) = true := by rw [bne_iff_ne]; omega
      have J2 : Hid ((!q2) = true ↔ qk = true ∧ (qo = true ∨ zo = true) ∧ (qn = true ∨ zn = true)) := by
        unfold Hid
        rw [I2.out]
        exact ⟨fun h => ⟨h.2.2.1.resolve_left (by omega), h.2.2.2⟩, fun h => ⟨by omega, by omega, .inr h.1, h.2⟩⟩
      clear I2 hp hp1
      go_wp2_with (refine wpl_loadG rfl stC rfl rfl (ccells_len _) C29.out ?_)
      refine (HKY.out _ HON2.out.b).mono ?_
      rintro e w2 ⟨rfl, hb⟩
      have HON3 := Lib.hid (HON2.out.below hb)
      clear hb c0 c2 C29 C3 C4
      obtain ⟨c0, -, c2, -, c3, c4⟩ := HC5.out _ HON3.out
      have C3 := Lib.hid c3
      have C4 := Lib.hid c4
      clear c3 c4
      cases qk with
      | false =>
        have hq : q2 = true := by have := J2.out; cases q2 <;> simp at this ⊢
        subst hq
        clear J2
        go_wp2_with fail
        go_meet
        exact ⟨rfl, HON3.out⟩
      | true =>
      have J3 : Hid ((!q2) = true ↔ (qo = true ∨ zo = true) ∧ (qn = true ∨ zn = true)) := by unfold Hid; rw [J2.out]; simp
      clear J2 HON2
      cases qo with
      | false =>
        go_wp2_with (first
          | (go_at_call 38; refine (HHO.out _).mono ?_; rintro e w' ⟨rfl, rfl⟩)
          | refine wpl_loadG rfl stVk rfl rfl (cells_len _) C3.out ?_)
        refine (HZO.out _ HON3.out.b).mono ?_
        rintro e w3 ⟨rfl, hb⟩
        have HON4 := Lib.hid (HON3.out.below hb)
        clear hb c0 c2 C3 C4
        obtain ⟨c0, -, -, -, -, c4⟩ := HC5.out _ HON4.out
        have C4 := Lib.hid c4
        clear c4 HON3
        cases zo with
        | false =>
          have hq : q2 = true := by have := J3.out; cases q2 <;> simp at this ⊢
          subst hq
          clear J3
          go_wp2_with fail
          go_meet
          exact ⟨rfl, HON4.out⟩
        | true =>
          cases qn with
          | true =>
            have hq : q2 = false := by have := J3.out; cases q2 <;> simp at this ⊢
            subst hq
            clear J3
            go_wp2_with (go_at_call 39; refine (HHN.out _).mono ?_; rintro e w' ⟨rfl, rfl⟩)
            go_meet
            exact ⟨rfl, HON4.out⟩
          | false =>
            go_wp2_with (first
              | (go_at_call 39; refine (HHN.out _).mono ?_; rintro e w' ⟨rfl, rfl⟩)
              | refine wpl_loadG rfl stVk rfl rfl (cells_len _) C4.out ?_)
            refine (HZN.out _ HON4.out.b).mono ?_
            rintro e w4 ⟨rfl, hb⟩
            have HON5 := Lib.hid (HON4.out.below hb)
            clear hb c0 C4 HON4
            have hq : q2 = !zn := by have := J3.out; cases q2 <;> cases zn <;> simp at this ⊢
            subst hq
            clear J3
            cases zn
            all_goals
              go_wp2_with fail
              go_meet
              exact ⟨rfl, HON5.out⟩
      | true =>
        cases qn with
        | true =>
          have hq : q2 = false := by have := J3.out; cases q2 <;> simp at this ⊢
          subst hq
          clear J3
          go_wp2_with (first
            | (go_at_call 38; refine (HHO.out _).mono ?_; rintro e w' ⟨rfl, rfl⟩)
            | (go_at_call 39; refine (HHN.out _).mono ?_; rintro e w' ⟨rfl, rfl⟩))
          go_meet
          exact ⟨rfl, HON3.out⟩
        | false =>
          go_wp2_with (first
            | (go_at_call 38; refine (HHO.out _).mono ?_; rintro e w' ⟨rfl, rfl⟩)
            | (go_at_call 39; refine (HHN.out _).mono ?_; rintro e w' ⟨rfl, rfl⟩)
            | refine wpl_loadG rfl stVk rfl rfl (cells_len _) C4.out ?_)
          refine (HZN.out _ HON3.out.b).mono ?_
          rintro e w4 ⟨rfl, hb⟩
          have HON5 := Lib.hid (HON3.out.below hb)
          clear hb c0 c2 C3 C4 HON3
          have hq : q2 = !zn := by have := J3.out; cases q2 <;> cases zn <;> simp at this ⊢
          subst hq
          clear J3
          cases zn
          all_goals
            go_wp2_with fail
            go_meet
            exact ⟨rfl, HON5.out⟩
    · have J3 : Hid ((!q2) = true ↔ (qo = true ∨ zo = true) ∧ (qn = true ∨ zn = true)) := by
        unfold Hid
        rw [I2.out]
        exact ⟨fun h => h.2.2.2, fun h => ⟨by omega, by omega, .inl hp, h⟩⟩
      subst hp
      have HON3 := HON2
      clear I2 HON2 C29
      cases qo with
      | false =>
        go_wp2_with (first
          | (go_at_call 38; refine (HHO.out _).mono ?_; rintro e w' ⟨rfl, rfl⟩)
          | refine wpl_loadG rfl stVk rfl rfl (cells_len _) C3.out ?_)
        refine (HZO.out _ HON3.out.b).mono ?_
        rintro e w3 ⟨rfl, hb⟩
        have HON4 := Lib.hid (HON3.out.below hb)
        clear hb c0 c2 C3 C4
        obtain ⟨c0, -, -, -, -, c4⟩ := HC5.out _ HON4.out
        have C4 := Lib.hid c4
        clear c4 HON3
        cases zo with
        | false =>
          have hq : q2 = true := by have := J3.out; cases q2 <;> simp at this ⊢
          subst hq
          clear J3
          go_wp2_with fail
          go_meet
          exact ⟨rfl, HON4.out⟩
        | true =>
          cases qn with
          | true =>
            have hq : q2 = false := by have := J3.out; cases q2 <;> simp at this ⊢
            subst hq
            clear J3
            go_wp2_with (go_at_call 39; refine (HHN.out _).mono ?_; rintro e w' ⟨rfl, rfl⟩)
            go_meet
            exact ⟨rfl, HON4.out⟩
          | false =>
            go_wp2_with (first
              | (go_at_call 39; refine (HHN.out _).mono ?_; rintro e w' ⟨rfl, rfl⟩)
              | refine wpl_loadG rfl stVk rfl rfl (cells_len _) C4.out ?_)
            refine (HZN.out _ HON4.out.b).mono ?_
            rintro e w4 ⟨rfl, hb⟩
            have HON5 := Lib.hid (HON4.out.below hb)
            clear hb c0 C4 HON4
            have hq : q2 = !zn := by have := J3.out; cases q2 <;> cases zn <;> simp at this ⊢
            subst hq
            clear J3
            cases zn
            all_goals
              go_wp2_with fail
              go_meet
              exact ⟨rfl, HON5.out⟩
      | true =>
        cases qn with
        | true =>
          have hq : q2 = false := by have := J3.out; cases q2 <;> simp at this ⊢
          subst hq
          clear J3
          go_wp2_with (first
            | (go_at_call 38; refine (HHO.out _).mono ?_; rintro e w' ⟨rfl, rfl⟩)
            | (go_at_call 39; refine (HHN.out _).mono ?_; rintro e w' ⟨rfl, rfl⟩))
          go_meet
          exact ⟨rfl, HON3.out⟩
        | false =>
          go_wp2_with (first
            | (go_at_call 38; refine (HHO.out _).mono ?_; rintro e w' ⟨rfl, rfl⟩)
            | (go_at_call 39; refine (HHN.out _).mono ?_; rintro e w' ⟨rfl, rfl⟩)
            | refine wpl_loadG rfl stVk rfl rfl (cells_len _) C4.out ?_)
          refine (HZN.out _ HON3.out.b).mono ?_
          rintro e w4 ⟨rfl, hb⟩
          have HON5 := Lib.hid (HON3.out.below hb)
          clear hb c0 c2 C3 C4 HON3
          have hq : q2 = !zn := by have := J3.out; cases q2 <;> cases zn <;> simp at this ⊢
          subst hq
          clear J3
          cases zn
          all_goals
            go_wp2_with fail
            go_meet
            exact ⟨rfl, HON5.out⟩
  case rest =>
  clear c0 c2 C29 C3 C4
  obtain ⟨rfl, HON3⟩ := hcut
  replace HON3 := Lib.hid HON3
  clear HON2 I2 HKY HZO HZN
  cases q2 with
  | true =>
    have HF : Hid (r = 1) := HR.out
    clear HR
    go_wp2_with fail
    go_ret
    exact ⟨ri (by rw [HF.out]; rfl), HON3.out.b⟩
  | false =>
  replace HR : Hid (r = if qo = true ∧ eo ≠ 0 then eo else if qn = true then en else 0) := HR.out
  obtain ⟨c0, -, -, -, c3, -⟩ := HC5.out _ HON3.out
  have C3 := Lib.hid c3
  clear c3
  have HTAIL : Hid (qo = true → eo ≠ 0 → r = eo) := fun h1 h2 => HR.out.trans (if_pos ⟨h1, h2⟩)
  have HLAST : Hid ((qo = true → eo = 0) → r = if qn = true then en else 0) := fun h1 => HR.out.trans (if_neg (fun h => h.2 (h1 h.1)))
  clear HR
  cases qo with
  | true =>
    go_wp2_with (first
      | (go_at_call 38; refine (HHO.out _).mono ?_; rintro e w' ⟨rfl, rfl⟩)
      | refine wpl_load rfl rfl stVk rfl (cells_len _) C3.out ?_)
    refine (HVO.out _ HON3.out.b).mono ?_
    rintro e w4 ⟨rfl, hb⟩
    have HON4 := Lib.hid (HON3.out.below hb)
    clear hb c0 C3 HON3
    obtain ⟨c0, -, -, -, -, c4⟩ := HC5.out _ HON4.out
    have C4 := Lib.hid c4
    clear c4
    by_cases he : eo = 0
    case neg =>
      have HF := Lib.hid (HTAIL.out (by simp) he)
      have hq : ((eo : Int) != 0) = true := by rw [bne_iff_ne]; omega
      clear HTAIL HLAST he
      go_wp2_with fail
      go_ret
      exact ⟨ri (by rw [HF.out]), HON4.out.b⟩
    have HF := Lib.hid (HLAST.out (fun _ => he))
    subst he
    clear HTAIL HLAST
    cases qn with
    | true =>
      go_wp2_with (first
        | (go_at_call 39; refine (HHN.out _).mono ?_; rintro e w' ⟨rfl, rfl⟩)
        | refine wpl_load rfl rfl stVk rfl (cells_len _) C4.out ?_)
      refine (HVN.out _ HON4.out.b).mono ?_
      rintro e w5 ⟨rfl, hb⟩
      have HON5 := Lib.hid (HON4.out.below hb)
      clear hb
      go_wp2_with fail
      go_ret
      exact ⟨ri (by rw [HF.out]; rfl), HON5.out.b⟩
    | false =>
      go_wp2_with (go_at_call 39; refine (HHN.out _).mono ?_; rintro e w' ⟨rfl, rfl⟩)
      go_ret
      exact ⟨ri (by rw [HF.out]; rfl), HON4.out.b⟩
  | false =>
    obtain ⟨-, -, -, -, -, c4⟩ := HC5.out _ HON3.out
    have C4 := Lib.hid c4
    clear c4 C3
    have HF := Lib.hid (HLAST.out (fun h => by cases h))
    clear HTAIL HLAST
    cases qn with
    | true =>
      go_wp2_with (first
        | (go_at_call 38; refine (HHO.out _).mono ?_; rintro e w' ⟨rfl, rfl⟩)
        | (go_at_call 39; refine (HHN.out _).mono ?_; rintro e w' ⟨rfl, rfl⟩)
        | refine wpl_load rfl rfl stVk rfl (cells_len _) C4.out ?_)
      refine (HVN.out _ HON3.out.b).mono ?_
      rintro e w5 ⟨rfl, hb⟩
      have HON5 := Lib.hid (HON3.out.below hb)
      clear hb
      go_wp2_with fail
      go_ret
      exact ⟨ri (by rw [HF.out]; rfl), HON5.out.b⟩
    | false =>
      go_wp2_with (first
        | (go_at_call 38; refine (HHO.out _).mono ?_; rintro e w' ⟨rfl, rfl⟩)
        | (go_at_call 39; refine (HHN.out _).mono ?_; rintro e w' ⟨rfl, rfl⟩))
      go_ret
      exact ⟨ri (by rw [HF.out]; rfl), HON3.out.b⟩
end Go.Proofs.YthdninnjjmhpfaaGreatDoor

namespace Go.Proofs.YthdninnjjmhpfaaGreatDoor
open Go.RowKit
set_option maxHeartbeats 8000000
set_option maxRecDepth 100000

theorem One_any (x : Ch) (c : CC) (w : World) (hno : nodV x.o ≤ 1000000) (hnn : nodV x.n ≤ 1000000) (hx : RdC w (fun _ => True) c x) :
    Calls Tryz.prog 46 #[aggC c] w fun e w' => e = .returned (.int .i64 (oneC x : Nat)) ∧ Below w.heap.size w w' := by
  obtain ⟨r, hr⟩ : ∃ r : Nat, r = oneC x := ⟨_, rfl⟩
  rw [← hr]
  unfold oneC at hr
  obtain ⟨q1, hq1⟩ : ∃ q, q = !arg1 x := ⟨_, rfl⟩
  have i1 := arg1_iff x
  have i2 := arg2_iff x
  have a1 : arg1 x = !q1 := by rw [hq1, Bool.not_not]
  rw [a1] at hr i1
  clear hq1 a1
  have i3 := oldB_is x.op
  have i4 := newB_is x.op
  have i5 := movB_is x.op
  have HPV := Lib.hid (fun w' (hb : Below w.heap.size w w') => RValid_any c.p x.p w' (hx.p.below hb))
  have HBK := Lib.hid (fun w' (hb : Below w.heap.size w w') => byKey_any c.p x.p w' (hx.p.below hb))
  have HMV : Hid (∀ w' : World, Calls Tryz.prog 75 #[.agg c.cells.toArray] w' fun e w2 => e = .returned (.bool (movB x.op)) ∧ Below w'.heap.size w' w2) := fun w' => moves_any c w' _ (by rw [hx.op]; rfl)
  have HZO : Hid (∀ w', Below w.heap.size w w' → Calls Tryz.prog 87 #[.agg c.o.cells.toArray] w' fun e w2 => e = .returned (.bool (zeroV x.o)) ∧ Below w'.heap.size w' w2) := fun w' hb => zeroR_any x.o c.o w' (hx.o.stays hb)
  have HZN : Hid (∀ w', Below w.heap.size w w' → Calls Tryz.prog 87 #[.agg c.n.cells.toArray] w' fun e w2 => e = .returned (.bool (zeroV x.n)) ∧ Below w'.heap.size w' w2) := fun w' hb => zeroR_any x.n c.n w' (hx.n.stays hb)
  have HVO : Hid (∀ w', Below w.heap.size w w' → Calls Tryz.prog 13 #[.agg c.o.cells.toArray] w' fun e w2 => e = .returned (.int .i64 (checkV x.o : Nat)) ∧ Below w'.heap.size w' w2) := fun w' hb => Check7_any x.o c.o w' hno (hx.o.stays hb)
  have HVN : Hid (∀ w', Below w.heap.size w w' → Calls Tryz.prog 13 #[.agg c.n.cells.toArray] w' fun e w2 => e = .returned (.int .i64 (checkV x.n : Nat)) ∧ Below w'.heap.size w' w2) := fun w' hb => Check7_any x.n c.n w' hnn (hx.n.stays hb)
  obtain ⟨a, cap, hp, -, -⟩ := hx.p
  have hop := hx.op
  have hpos := hx.pos
  have HC5 : Hid (∀ w', OnW w w' c → w'.cell? ⟨w.heap.size, 0, none⟩ = some (.int .i64 x.op) ∧ w'.cell? ⟨w.heap.size, 1, none⟩ = some (.slice a x.p.length cap) ∧ w'.cell? ⟨w.heap.size, 2, none⟩ = some (.int .i64 x.pos) ∧ (∀ j, j < 29 → w'.cell? ⟨w.heap.size, 0 + j, none⟩ = c.cells[j]?) ∧ (∀ j, j < 13 → w'.cell? ⟨w.heap.size, 3 + j, none⟩ = c.o.cells[j]?) ∧ (∀ j, j < 13 → w'.cell? ⟨w.heap.size, 16 + j, none⟩ = c.n.cells[j]?)) := by
    intro w' h
    have := rowC5 h.x
    rw [hop, hpos, hp] at this
    exact this
  rw [hp] at HPV HBK
  have HIN : Hid (∀ w1 : World, w.alloc (.cells (CC.cells c).toArray 54) = w1 → OnW w w1 c) := fun w1 hW => by
    obtain ⟨hx0, _, hz0, hb0⟩ := alloc_of hW
    exact ⟨hb0, hx0, by omega⟩
  clear hx hp hop hpos hno hnn
  generalize zeroV x.o = zo at *
  generalize zeroV x.n = zn at *
  generalize checkV x.o = eo at *
  generalize checkV x.n = en at *
  generalize movB x.op = qm at *
  generalize lastK x.p = ql at *
  generalize oldB x.op = qo at *
  generalize newB x.op = qn at *
  generalize validP x.p = qv at *
  generalize arg2 x = b2 at *
  generalize x.p.length = n at *
  generalize x.op = op at *
  generalize x.pos = pos at *
  have HR := Lib.hid hr
  have I1 := Lib.hid i1
  have I2 := Lib.hid i2
  have I3 := Lib.hid i3
  have I4 := Lib.hid i4
  have I5 := Lib.hid i5
  clear hr i1 i2 i3 i4 i5
  go_enter Tryz.func46, Tryz.ntmps46
  go_upto_region 1 with fail
  generalize hW : World.alloc w _ = w1
  have HON := Lib.hid (HIN.out w1 hW)
  obtain ⟨c0, c1, c2, c29, -, -⟩ := HC5.out _ HON.out
  have C29 := Lib.hid c29
  clear hW HIN c29
  go_cut [28] (fun v wx => v = .bool q1 ∧ OnW w wx c)
  case first =>
    clear HZO HZN HVO HVN I2 HR c2 HBK I3 I4
    by_cases h1 : op < 1
    · have hq : q1 = true := by have := I1.out; cases q1 <;> simp at this ⊢ <;> omega
      subst hq
      clear I1
      go_wp2_with fail
      go_meet
      exact ⟨rfl, HON.out⟩
    by_cases h4 : 4 < op
    · have hq : q1 = true := by have := I1.out; cases q1 <;> simp at this ⊢ <;> omega
      subst hq
      clear I1
      go_wp2_with fail
      go_meet
      exact ⟨rfl, HON.out⟩
    have J1 : Hid ((!q1) = true ↔ qv = true ∧ ¬ (n = 0 ∧ qm = true)) := by
      unfold Hid
      rw [I1.out, I5.out]
      exact ⟨fun h => h.2, fun h => ⟨by omega, h⟩⟩
    clear I1 I5
    go_wp2_with fail
    refine (HPV.out _ HON.out.b).mono ?_
    rintro e w2 ⟨rfl, hb⟩
    have HON2 := Lib.hid (HON.out.below hb)
    clear hb c0 c1 C29 HON HPV
    obtain ⟨c0, c1, -, c29, -, -⟩ := HC5.out _ HON2.out
    have C29 := Lib.hid c29
    clear c29
    cases qv with
    | false =>
      have hq : q1 = true := by have := J1.out; cases q1 <;> simp at this ⊢
      subst hq
      clear J1
      go_wp2_with fail
      go_meet
      exact ⟨rfl, HON2.out⟩
    | true =>
    go_wp2_with (refine wpl_loadG rfl stC rfl rfl (ccells_len _) C29.out ?_)
    refine (HMV.out _).mono ?_
    rintro e w3 ⟨rfl, hb⟩
    have HON3 := Lib.hid (HON2.out.below hb)
    clear hb c0 c1 C29 HON2
    obtain ⟨-, c1, -, -, -, -⟩ := HC5.out _ HON3.out
    cases qm with
    | false =>
      have hq : q1 = false := by have := J1.out; cases q1 <;> simp at this ⊢
      subst hq
      clear J1
      go_wp2_with fail
      go_meet
      exact ⟨rfl, HON3.out⟩
    | true =>
      by_cases hn : n = 0
      · have hq : q1 = true := by have := J1.out; cases q1 <;> simp at this ⊢; omega
        subst hq hn
        clear J1
        go_wp2_with fail
        go_meet
        exact ⟨rfl, HON3.out⟩
      · have hq : q1 = false := by have := J1.out; cases q1 <;> simp at this ⊢; omega
        have hn' : ((n : Int) == 0) = false := by rw [beq_eq_false_iff_ne]; omega
        subst hq
        clear J1 hn
        go_wp2_with fail
        go_meet
        exact ⟨rfl, HON3.out⟩
  case rest =>
  clear c0 c1 c2 C29
  obtain ⟨rfl, HON2⟩ := hcut
  replace HON2 := Lib.hid HON2
  clear HON HPV
  cases q1 with
  | true =>
    have HF : Hid (r = 1) := HR.out
    clear HR
    go_wp2_with fail
    go_ret
    exact ⟨ri (by rw [HF.out]; rfl), HON2.out.b⟩
  | false =>
  replace HR : Hid (r = if b2 = false then 1 else if qo = true ∧ eo ≠ 0 then eo else if qn = true then en else 0) := HR.out
  have HOP : Hid (op = 1 ∨ op = 2 ∨ op = 3 ∨ op = 4) := (I1.out.1 rfl).1
  obtain ⟨c0, c1, c2, c29, -, -⟩ := HC5.out _ HON2.out
  have C29 := Lib.hid c29
  clear c29 I1
  obtain ⟨q3, hq3⟩ : ∃ q : Bool, q = decide (pos < 0 ∨ 65536 < pos ∨ 0 < pos ∧ (qm && ql) = false) := ⟨_, rfl⟩
  have I6 : Hid (q3 = true ↔ pos < 0 ∨ 65536 < pos ∨ 0 < pos ∧ (qm && ql) = false) := by unfold Hid; rw [hq3, decide_eq_true_iff]
  clear hq3
  go_upto_region 3 with fail
  go_cut [51] (fun v wx => v = .bool q3 ∧ OnW w wx c)
  case first =>
    clear HR HVO HVN I2 HZO HZN I3 I4 I5 HOP
    by_cases hp : pos < 0
    · have hq : q3 = true := I6.out.2 (.inl hp)
      subst hq
      clear I6
      go_wp2_with fail
      go_meet
      exact ⟨rfl, HON2.out⟩
    by_cases hp2 : 65536 < pos
    · have hq : q3 = true := I6.out.2 (.inr (.inl hp2))
      subst hq
      have hp' : ((65536 : Int) < pos) = True := eq_true hp2
      clear I6 hp2
      go_wp2_with fail
      go_meet
      exact ⟨rfl, HON2.out⟩
    have hp' : ((65536 : Int) < pos) = False := eq_false hp2
    by_cases hp0 : 0 < pos
    case neg =>
      have hq : q3 = false := by have := I6.out; cases q3 <;> simp at this ⊢; omega
      subst hq
      clear I6 hp2
      go_wp2_with fail
      go_meet
      exact ⟨rfl, HON2.out⟩
    have J6 : Hid (q3 = true ↔ (qm && ql) = false) := by
      unfold Hid
      rw [I6.out]
      exact ⟨fun h => h.elim (fun h => absurd h hp) (fun h => h.elim (fun h => absurd h hp2) (fun h => h.2)), fun h => .inr (.inr ⟨hp0, h⟩)⟩
    clear I6 hp2
    go_wp2_with (refine wpl_loadG rfl stC rfl rfl (ccells_len _) C29.out ?_)
    refine (HMV.out _).mono ?_
    rintro e w3 ⟨rfl, hb⟩
    have HON3 := Lib.hid (HON2.out.below hb)
    clear hb c0 c1 c2 C29 HON2
    obtain ⟨-, c1, c2, -, -, -⟩ := HC5.out _ HON3.out
    cases qm with
    | false =>
      have hq : q3 = true := by have := J6.out; cases q3 <;> simp at this ⊢
      subst hq
      clear J6
      go_wp2_with fail
      go_meet
      exact ⟨rfl, HON3.out⟩
    | true =>
      go_wp2_with fail
      refine (HBK.out _ HON3.out.b).mono ?_
      rintro e w4 ⟨rfl, hb⟩
      have HON4 := Lib.hid (HON3.out.below hb)
      clear hb c1 c2 HON3
      have hq : q3 = !ql := by have := J6.out; cases q3 <;> cases ql <;> simp at this ⊢
      subst hq
      clear J6
      cases ql
      all_goals
        go_wp2_with fail
        go_meet
        exact ⟨rfl, HON4.out⟩
  case rest =>
  clear c0 c1 c2 C29
  obtain ⟨rfl, HON3⟩ := hcut
  replace HON3 := Lib.hid HON3
  clear HON2 HMV HBK I5
  cases q3 with
  | true =>
    have HF : Hid (r = 1) := by
      unfold Hid
      have hb2 : b2 = false := by
        have h := I6.out.1 rfl
        have h2 := I2.out
        cases b2
        · rfl
        · exfalso
          have h2 := h2.1 rfl
          rcases h with h | h | ⟨h, h'⟩
          · exact h2.1 h
          · exact h2.2.1 h
          · rw [h'] at h2
            rcases h2.2.2.1 with h3 | h3
            · omega
            · cases h3
      rw [HR.out, if_pos hb2]
    clear HR I6 I2 I3 I4
    go_wp2_with fail
    go_ret
    exact ⟨ri (by rw [HF.out]; rfl), HON3.out.b⟩
  | false =>
  have J2 : Hid (b2 = true ↔ (qo = true ∨ zo = true) ∧ (qn = true ∨ zn = true)) := by
    unfold Hid
    have h6 := I6.out
    rw [I2.out]
    refine ⟨fun h => h.2.2.2, fun h => ?_⟩
    have h7 : ¬ (pos < 0 ∨ 65536 < pos ∨ 0 < pos ∧ (qm && ql) = false) := fun h => by cases h6.2 h
    refine ⟨fun h => h7 (.inl h), fun h => h7 (.inr (.inl h)), ?_, h⟩
    by_cases hp : pos = 0
    · exact .inl hp
    · right
      cases hk : (qm && ql)
      · exact absurd (.inr (.inr ⟨by have := mt Or.inl h7; omega, hk⟩)) h7
      · rfl
  clear I6 I2
  obtain ⟨c0, -, -, -, c3, c4⟩ := HC5.out _ HON3.out
  have C3 := Lib.hid c3
  have C4 := Lib.hid c4
  clear c3 c4
  rcases HOP.out with rfl | rfl | rfl | rfl
  · -- replace
    have QO : qo = true := I3.out.2 (by omega)
    have QN : qn = true := I4.out.2 (by omega)
    subst QO QN
    have HB2 : b2 = true := J2.out.2 ⟨.inl rfl, .inl rfl⟩
    subst HB2
    replace HR : Hid (r = if eo ≠ 0 then eo else en) := by unfold Hid; rw [HR.out]; simp
    clear J2 I3 I4 HOP
    go_wp2_with (refine wpl_load rfl rfl stVk rfl (cells_len _) C3.out ?_)
    refine (HVO.out _ HON3.out.b).mono ?_
    rintro e w5 ⟨rfl, hb⟩
    have HON5 := Lib.hid (HON3.out.below hb)
    clear hb
    obtain ⟨-, -, -, -, -, k4⟩ := HC5.out _ HON5.out
    have K4 := Lib.hid k4
    clear k4
    by_cases he : eo = 0
    case neg =>
      have HF : Hid (r = eo) := by unfold Hid; rw [HR.out, if_pos he]
      have hq : ((eo : Int) != 0) = true := by rw [bne_iff_ne]; omega
      clear HR he
      go_wp2_with fail
      go_ret
      exact ⟨ri (by rw [HF.out]), HON5.out.b⟩
    subst he
    have HF : Hid (r = en) := by unfold Hid; rw [HR.out]; simp
    clear HR
    go_wp2_with (refine wpl_load rfl rfl stVk rfl (cells_len _) K4.out ?_)
    refine (HVN.out _ HON5.out.b).mono ?_
    rintro e w6 ⟨rfl, hb⟩
    have HON6 := Lib.hid (HON5.out.below hb)
    clear hb
    go_wp2_with fail
    go_ret
    exact ⟨ri (by rw [HF.out]), HON6.out.b⟩
  · -- insert
    have QO : qo = false := by have := I3.out; cases qo <;> simp at this ⊢
    have QN : qn = true := I4.out.2 (by omega)
    subst QO QN
    clear I3 I4 HOP
    go_wp2_with (refine wpl_loadG rfl stVk rfl rfl (cells_len _) C3.out ?_)
    refine (HZO.out _ HON3.out.b).mono ?_
    rintro e w4 ⟨rfl, hb⟩
    have HON4 := Lib.hid (HON3.out.below hb)
    clear hb c0 C3 C4
    obtain ⟨c0, -, -, -, -, c4⟩ := HC5.out _ HON4.out
    have C4 := Lib.hid c4
    clear c4 HON3
    have HB2 : b2 = zo := by have := J2.out; cases b2 <;> cases zo <;> simp at this ⊢
    subst HB2
    clear J2
    cases b2 with
    | false =>
      have HF : Hid (r = 1) := HR.out
      clear HR
      go_wp2_with fail
      go_ret
      exact ⟨ri (by rw [HF.out]; rfl), HON4.out.b⟩
    | true =>
    have HF : Hid (r = en) := by unfold Hid; rw [HR.out]; simp
    clear HR
    go_wp2_with (refine wpl_load rfl rfl stVk rfl (cells_len _) C4.out ?_)
    refine (HVN.out _ HON4.out.b).mono ?_
    rintro e w6 ⟨rfl, hb⟩
    have HON6 := Lib.hid (HON4.out.below hb)
    clear hb
    go_wp2_with fail
    go_ret
    exact ⟨ri (by rw [HF.out]), HON6.out.b⟩
  · -- remove
    have QO : qo = true := I3.out.2 (by omega)
    have QN : qn = false := by have := I4.out; cases qn <;> simp at this ⊢
    subst QO QN
    clear I3 I4 HOP
    go_wp2_with (refine wpl_loadG rfl stVk rfl rfl (cells_len _) C4.out ?_)
    refine (HZN.out _ HON3.out.b).mono ?_
    rintro e w4 ⟨rfl, hb⟩
    have HON4 := Lib.hid (HON3.out.below hb)
    clear hb c0 C3 C4
    obtain ⟨c0, -, -, -, c3, -⟩ := HC5.out _ HON4.out
    have C3 := Lib.hid c3
    clear c3 HON3
    have HB2 : b2 = zn := by have := J2.out; cases b2 <;> cases zn <;> simp at this ⊢
    subst HB2
    clear J2
    cases b2 with
    | false =>
      have HF : Hid (r = 1) := HR.out
      clear HR
      go_wp2_with fail
      go_ret
      exact ⟨ri (by rw [HF.out]; rfl), HON4.out.b⟩
    | true =>
    replace HR : Hid (r = if eo ≠ 0 then eo else 0) := by unfold Hid; rw [HR.out]; simp
    go_wp2_with (refine wpl_load rfl rfl stVk rfl (cells_len _) C3.out ?_)
    refine (HVO.out _ HON4.out.b).mono ?_
    rintro e w5 ⟨rfl, hb⟩
    have HON5 := Lib.hid (HON4.out.below hb)
    clear hb
    obtain ⟨-, -, -, -, -, k4⟩ := HC5.out _ HON5.out
    have K4 := Lib.hid k4
    clear k4
    by_cases he : eo = 0
    case neg =>
      have HF : Hid (r = eo) := by unfold Hid; rw [HR.out, if_pos he]
      have hq : ((eo : Int) != 0) = true := by rw [bne_iff_ne]; omega
      clear HR he
      go_wp2_with fail
      go_ret
      exact ⟨ri (by rw [HF.out]), HON5.out.b⟩
    subst he
    have HF : Hid (r = 0) := by unfold Hid; rw [HR.out]; simp
    clear HR
    go_wp2_with fail
    go_ret
    exact ⟨ri (by rw [HF.out]; rfl), HON5.out.b⟩
  · -- test
    have QO : qo = true := I3.out.2 (by omega)
    have QN : qn = false := by have := I4.out; cases qn <;> simp at this ⊢
    subst QO QN
    clear I3 I4 HOP
    go_wp2_with (refine wpl_loadG rfl stVk rfl rfl (cells_len _) C4.out ?_)
    refine (HZN.out _ HON3.out.b).mono ?_
    rintro e w4 ⟨rfl, hb⟩
    have HON4 := Lib.hid (HON3.out.below hb)
    clear hb c0 C3 C4
    obtain ⟨c0, -, -, -, c3, -⟩ := HC5.out _ HON4.out
    have C3 := Lib.hid c3
    clear c3 HON3
    have HB2 : b2 = zn := by have := J2.out; cases b2 <;> cases zn <;> simp at this ⊢
    subst HB2
    clear J2
    cases b2 with
    | false =>
      have HF : Hid (r = 1) := HR.out
      clear HR
      go_wp2_with fail
      go_ret
      exact ⟨ri (by rw [HF.out]; rfl), HON4.out.b⟩
    | true =>
    replace HR : Hid (r = if eo ≠ 0 then eo else 0) := by unfold Hid; rw [HR.out]; simp
    go_wp2_with (refine wpl_load rfl rfl stVk rfl (cells_len _) C3.out ?_)
    refine (HVO.out _ HON4.out.b).mono ?_
    rintro e w5 ⟨rfl, hb⟩
    have HON5 := Lib.hid (HON4.out.below hb)
    clear hb
    obtain ⟨-, -, -, -, -, k4⟩ := HC5.out _ HON5.out
    have K4 := Lib.hid k4
    clear k4
    by_cases he : eo = 0
    case neg =>
      have HF : Hid (r = eo) := by unfold Hid; rw [HR.out, if_pos he]
      have hq : ((eo : Int) != 0) = true := by rw [bne_iff_ne]; omega
      clear HR he
      go_wp2_with fail
      go_ret
      exact ⟨ri (by rw [HF.out]), HON5.out.b⟩
    subst he
    have HF : Hid (r = 0) := by unfold Hid; rw [HR.out]; simp
    clear HR
    go_wp2_with fail
    go_ret
    exact ⟨ri (by rw [HF.out]; rfl), HON5.out.b⟩
end Go.Proofs.YthdninnjjmhpfaaGreatDoor

namespace Go.Proofs.YthdninnjjmhpfaaGreatDoor
open Go.RowKit
set_option maxHeartbeats 8000000
set_option maxRecDepth 100000

def firstL (xs : List Ch) : Nat × Nat := if 4096 < xs.length then (0, 10) else firstC xs 0
def okC (xs : List Ch) : Prop := xs.length ≤ 1000000 ∧ ∀ i (hi : i < xs.length), nodV xs[i].o ≤ 1000000 ∧ nodV xs[i].n ≤ 1000000
theorem PChk_any (v : Value) (xs : List Ch) (w : World) (hok : okC xs) (hv : RdL w v xs) :
    Calls Tryz.prog 31 #[v] w fun e w' => e = .returned (.int .i64 ((firstL xs).2 : Nat)) ∧ Below w.heap.size w w' := by
  obtain ⟨r, hr⟩ : ∃ r : Nat, r = (firstL xs).2 := ⟨_, rfl⟩
  rw [← hr]
  unfold firstL at hr
  have HR := Lib.hid hr
  have HN := Lib.hid hok.2
  have hlen := hok.1
  obtain ⟨cc, ⟨a, cap, rfl, h1, ⟨h2, -⟩, h3, h4⟩, hc⟩ := hv
  have HA := Lib.hid h4
  have HC := Lib.hid hc
  clear h4 h3 hc hr hok
  by_cases hbig : 4096 < xs.length
  · have HF : Hid (r = 10) := by unfold Hid; rw [HR.out, if_pos hbig]
    have hb : (4096 : Int) < xs.length := by omega
    clear HR hbig
    go_enter Tryz.func31, Tryz.ntmps31
    go_wp2_with fail
    go_ret
    exact ⟨ri (by rw [HF.out]; rfl), Below.refl _ _⟩
  have HS : Hid (r = (firstC (xs.drop 0) 0).2) := by unfold Hid; rw [HR.out, if_neg hbig, List.drop_zero]
  have hb : ¬ (4096 : Int) < xs.length := by omega
  clear HR hbig
  go_enter Tryz.func31, Tryz.ntmps31
  go_wp2_with fail
  go_loopw [11] (fun iv wr => ∃ k : Nat, k ≤ xs.length ∧ iv = .int .i64 k ∧ Hid (r = (firstC (xs.drop k) k).2) ∧ Below w.heap.size w wr) (fun iv _ => xs.length - (intOf iv).toNat)
  case atStart => exact ⟨0, Nat.zero_le _, rfl, HS.out, Below.refl _ _⟩
  case round =>
    clear HS
    obtain ⟨k, hk, rfl, HR, hbw⟩ := hrel
    by_cases hlt : k < xs.length
    case neg =>
      have HF : Hid (r = 0) := by unfold Hid; rw [HR.out, List.drop_of_length_le (by omega)]; rfl
      clear HR
      go_wp2_with fail
      go_ret
      exact ⟨ri (by rw [HF.out]; rfl), hbw⟩
    obtain ⟨g, o, rfl, hg, hat⟩ := HA.out (by omega)
    have hrd := HC.out k hlt
    have hc29 : Hid (∀ j, j < 29 → wr.cell? ⟨g, o + k * 29 + j, none⟩ = (cc k).cells[j]?) := fun j hj => (hbw.cell hg).trans (hat k hlt j hj)
    have HONEc := Lib.hid (ccells_one hrd)
    have HBW := Lib.hid hbw
    have HO := Lib.hid (fun w' (hb : Below w.heap.size w w') => one_any xs[k] (cc k) w' (HN.out k hlt).1 (HN.out k hlt).2 (hrd.stays hb))
    have HS := HR.out
    rw [firstC_drop xs k hlt] at HS
    replace HS := Lib.hid HS
    clear hat hbw HR hrd
    generalize oneC xs[k] = e1 at *
    generalize cc k = c at *
    go_wp2_with (first
      | refine wpl_load rfl rfl stC rfl (ccells_len _) hc29.out ?_
      | (refine wpl_new rfl rfl stC rfl (cs := c.cells) rfl (ccells_len _) HONEc.out rfl rfl rfl ?_; generalize hW1 : World.alloc wr _ = w1; obtain ⟨ha1, -, hz1, hb1⟩ := alloc_of' hW1; have HA1 := Lib.hid ha1; have HB1 := Lib.hid (HBW.out.trans (hb1.mono HBW.out.size)); clear hW1 ha1 hb1)
      | refine wpl_load rfl rfl stC rfl (ccells_len _) (fun j _ => by rw [Nat.zero_add, cell_of_row _ _ _ _ _ _ HA1.out, List.getElem?_toArray]) ?_)
    refine (HO.out _ HB1.out).mono ?_
    rintro e w2 ⟨rfl, hb2⟩
    have HB2 := Lib.hid (HB1.out.trans (hb2.mono HB1.out.size))
    clear hb2 hc29 HO
    by_cases he : e1 = 0
    case neg =>
      have HF : Hid (r = e1) := by unfold Hid; rw [HS.out, if_pos he]
      have hq : ((e1 : Int) != 0) = true := by rw [bne_iff_ne]; omega
      clear HS he
      go_wp2_with fail
      go_ret
      exact ⟨ri (by rw [HF.out]), HB2.out⟩
    subst he
    have HF : Hid (r = (firstC (xs.drop (k + 1)) (k + 1)).2) := by unfold Hid; rw [HS.out]; rfl
    clear HS
    go_wp2_with fail
    exact ⟨⟨k + 1, by omega, rfl, HF, HB2.out⟩, by simp [intOf]; omega⟩
theorem RFirst_any (v : Value) (xs : List Ch) (w : World) (hok : okC xs) (hv : RdL w v xs) :
    Calls Tryz.prog 25 #[v] w fun e w' => e = .returned (.tuple #[.int .i64 ((firstL xs).1 : Nat), .int .i64 ((firstL xs).2 : Nat)]) ∧ Below w.heap.size w w' := by
  obtain ⟨r, hr⟩ : ∃ r : Nat × Nat, r = firstL xs := ⟨_, rfl⟩
  rw [← hr]
  unfold firstL at hr
  have HR := Lib.hid hr
  have HN := Lib.hid hok.2
  have hlen := hok.1
  obtain ⟨cc, ⟨a, cap, rfl, h1, ⟨h2, -⟩, h3, h4⟩, hc⟩ := hv
  have HA := Lib.hid h4
  have HC := Lib.hid hc
  clear h4 h3 hc hr hok
  by_cases hbig : 4096 < xs.length
  · have HF : Hid (r = (0, 10)) := by unfold Hid; rw [HR.out, if_pos hbig]
    have hb : (4096 : Int) < xs.length := by omega
    clear HR hbig
    go_enter Tryz.func25, Tryz.ntmps25
    go_wp2_with fail
    go_ret2
    exact ⟨rii (by rw [HF.out]; rfl) (by rw [HF.out]; rfl), Below.refl _ _⟩
  have HS : Hid (r = firstC (xs.drop 0) 0) := by unfold Hid; rw [HR.out, if_neg hbig, List.drop_zero]
  have hb : ¬ (4096 : Int) < xs.length := by omega
  clear HR hbig
  go_enter Tryz.func25, Tryz.ntmps25
  go_wp2_with fail
  go_loopw [4] (fun iv wr => ∃ k : Nat, k ≤ xs.length ∧ iv = .int .i64 k ∧ Hid (r = firstC (xs.drop k) k) ∧ Below w.heap.size w wr) (fun iv _ => xs.length - (intOf iv).toNat)
  case atStart => exact ⟨0, Nat.zero_le _, rfl, HS.out, Below.refl _ _⟩
  case round =>
    clear HS
    obtain ⟨k, hk, rfl, HR, hbw⟩ := hrel
    by_cases hlt : k < xs.length
    case neg =>
      have HF : Hid (r = (0, 0)) := by unfold Hid; rw [HR.out, List.drop_of_length_le (by omega)]; rfl
      clear HR
      go_wp2_with fail
      go_ret2
      exact ⟨rii (by rw [HF.out]; rfl) (by rw [HF.out]; rfl), hbw⟩
    obtain ⟨g, o, rfl, hg, hat⟩ := HA.out (by omega)
    have hrd := HC.out k hlt
    have hc29 : Hid (∀ j, j < 29 → wr.cell? ⟨g, o + k * 29 + j, none⟩ = (cc k).cells[j]?) := fun j hj => (hbw.cell hg).trans (hat k hlt j hj)
    have HBW := Lib.hid hbw
    have HO := Lib.hid (fun w' (hb : Below w.heap.size w w') => One_any xs[k] (cc k) w' (HN.out k hlt).1 (HN.out k hlt).2 (hrd.stays hb))
    have HS := HR.out
    rw [firstC_drop xs k hlt] at HS
    replace HS := Lib.hid HS
    clear hat hbw HR hrd
    generalize oneC xs[k] = e1 at *
    generalize cc k = c at *
    go_wp2_with (refine wpl_load rfl rfl stC rfl (ccells_len _) hc29.out ?_)
    refine (HO.out _ HBW.out).mono ?_
    rintro e w2 ⟨rfl, hb2⟩
    have HB2 := Lib.hid (HBW.out.trans (hb2.mono HBW.out.size))
    clear hb2 hc29 HO
    by_cases he : e1 = 0
    case neg =>
      have HF : Hid (r = (k, e1)) := by unfold Hid; rw [HS.out, if_pos he]
      have hq : ((e1 : Int) != 0) = true := by rw [bne_iff_ne]; omega
      clear HS he
      go_wp2_with fail
      go_ret2
      exact ⟨rii (by rw [HF.out]) (by rw [HF.out]), HB2.out⟩
    subst he
    have HF : Hid (r = firstC (xs.drop (k + 1)) (k + 1)) := by unfold Hid; rw [HS.out]; rfl
    clear HS
    go_wp2_with fail
    exact ⟨⟨k + 1, by omega, rfl, HF, HB2.out⟩, by simp [intOf]; omega⟩
theorem RChk_any (v : Value) (xs : List Ch) (w : World) (hok : okC xs) (hv : RdL w v xs) :
    Calls Tryz.prog 41 #[v] w fun e w' => e = .returned (.int .i64 ((firstL xs).2 : Nat)) ∧ Below w.heap.size w w' := by
  have HC := Lib.hid (RFirst_any v xs w hok hv)
  clear hok hv
  generalize firstL xs = r at *
  obtain ⟨i, q⟩ := r
  simp only at HC ⊢
  go_enter Tryz.func41, Tryz.ntmps41
  go_wp2_with fail
  refine HC.out.mono ?_
  rintro e w1 ⟨rfl, hb⟩
  go_wp2_with fail
  go_ret
  exact ⟨rfl, hb⟩
end Go.Proofs.YthdninnjjmhpfaaGreatDoor
