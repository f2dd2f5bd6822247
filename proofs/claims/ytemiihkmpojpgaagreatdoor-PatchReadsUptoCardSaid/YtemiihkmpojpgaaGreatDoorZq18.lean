/- few, datakitref55.SameChange, Same walked. Conditions: none. -/
import Derived.Test.YtemiihkmpojpgaaGreatDoorZq15
import Derived.Test.YtemiihkmpojpgaaGreatDoorZq16
import Derived.Test.YtemiihkmpojpgaaGreatDoorZq9
import Derived.Test.YtemiihkmpojpgaaGreatDoorZq14
namespace Go.Proofs.YtemiihkmpojpgaaGreatDoor
open Go.RowKit
set_option maxHeartbeats 4000000
set_option maxRecDepth 100000

def sameC (x y : Ch) : Bool := decide (x.op = y.op) && (decide (x.pos = y.pos) && (decide (x.p = y.p) && (eqV x.o y.o && eqV x.n y.n)))
theorem sameC_self (x : Ch) : sameC x x = true := by
  unfold sameC
  rw [eqV_self, eqV_self]
  simp
/-- A box of a change. -/
theorem box29 {w : World} {g : Nat} {t : TypeId} {a0 a1 a2 a3 a4 a5 a6 a7 a8 a9 a10 a11 a12 a13 a14 a15 a16 a17 a18 a19 a20 a21 a22 a23 a24 a25 a26 a27 a28 : Value} (h : w.heap[g]? = some (.cells #[a0, a1, a2, a3, a4, a5, a6, a7, a8, a9, a10, a11, a12, a13, a14, a15, a16, a17, a18, a19, a20, a21, a22, a23, a24, a25, a26, a27, a28] t (0, 0))) :
    ((w.cell? ⟨g, 0, none⟩ = some a0 ∧ w.cell? ⟨g, 1, none⟩ = some a1 ∧ w.cell? ⟨g, 2, none⟩ = some a2) ∧
    (w.cell? ⟨g, 3, none⟩ = some a3 ∧ w.cell? ⟨g, 4, none⟩ = some a4 ∧ w.cell? ⟨g, 5, none⟩ = some a5 ∧ w.cell? ⟨g, 6, none⟩ = some a6 ∧ w.cell? ⟨g, 7, none⟩ = some a7 ∧ w.cell? ⟨g, 8, none⟩ = some a8 ∧ w.cell? ⟨g, 9, none⟩ = some a9 ∧
      w.cell? ⟨g, 10, none⟩ = some a10 ∧ w.cell? ⟨g, 11, none⟩ = some a11 ∧ w.cell? ⟨g, 12, none⟩ = some a12 ∧ w.cell? ⟨g, 13, none⟩ = some a13 ∧ w.cell? ⟨g, 14, none⟩ = some a14 ∧ w.cell? ⟨g, 15, none⟩ = some a15) ∧
    (w.cell? ⟨g, 16, none⟩ = some a16 ∧ w.cell? ⟨g, 17, none⟩ = some a17 ∧ w.cell? ⟨g, 18, none⟩ = some a18 ∧ w.cell? ⟨g, 19, none⟩ = some a19 ∧ w.cell? ⟨g, 20, none⟩ = some a20 ∧ w.cell? ⟨g, 21, none⟩ = some a21 ∧ w.cell? ⟨g, 22, none⟩ = some a22 ∧
      w.cell? ⟨g, 23, none⟩ = some a23 ∧ w.cell? ⟨g, 24, none⟩ = some a24 ∧ w.cell? ⟨g, 25, none⟩ = some a25 ∧ w.cell? ⟨g, 26, none⟩ = some a26 ∧ w.cell? ⟨g, 27, none⟩ = some a27 ∧ w.cell? ⟨g, 28, none⟩ = some a28)) ∧ (∀ j, w.frozen? ⟨g, j, none⟩ = false) := by
  refine ⟨⟨⟨?_, ?_, ?_⟩, ⟨?_, ?_, ?_, ?_, ?_, ?_, ?_, ?_, ?_, ?_, ?_, ?_, ?_⟩, ⟨?_, ?_, ?_, ?_, ?_, ?_, ?_, ?_, ?_, ?_, ?_, ?_, ?_⟩⟩, fun j => ?_⟩
  all_goals first
    | exact (cell_of_row w g _ _ t (0, 0) h).trans rfl
    | (simp [World.frozen?, h])
theorem two_held {w w1 : World} {x y : Obj} (hb : Below ((w.alloc x).alloc y).heap.size ((w.alloc x).alloc y) w1) : Below w.heap.size w w1 ∧ w1.heap[w.heap.size]? = some x ∧ w1.heap[w.heap.size + 1]? = some y ∧ w.heap.size + 2 ≤ w1.heap.size := two_allocs hb
theorem RdC.forms {w : World} {S : Nat → Prop} {c : CC} {x : Ch} (h : RdC w S c x) : ∃ (op pos : Int) (a0 : Option Addr) (n0 m0 : Nat) (h h' : Hd) (a1 a2 a3 b1 b2 b3 : Option Addr) (n1 n2 n3 m1 m2 m3 i1 i2 i3 j1 j2 j3 : Nat),
    c = ⟨op, .slice a0 n0 m0, pos, ⟨h, .slice a1 n1 m1, .slice a2 n2 m2, .slice a3 n3 m3⟩, ⟨h', .slice b1 i1 j1, .slice b2 i2 j2, .slice b3 i3 j3⟩⟩ := by
  obtain ⟨op, p, pos, o, n⟩ := c
  obtain ⟨a0, m0, hp, _⟩ := h.p
  obtain ⟨h1, a1, a2, a3, n1, n2, n3, m1, m2, m3, ho⟩ := h.o.forms
  obtain ⟨h2, b1, b2, b3, i1, i2, i3, j1, j2, j3, hn⟩ := h.n.forms
  simp only at hp ho hn
  subst hp ho hn
  exact ⟨_, _, _, _, _, _, _, _, _, _, _, _, _, _, _, _, _, _, _, _, _, _, _, _, _, rfl⟩
theorem SameChange_any (ca cb : CC) (x y : Ch) (w : World) (hx : RdC w (fun _ => True) ca x) (hy : RdC w (fun _ => True) cb y) :
    Calls Tryz.prog 13 #[aggC ca, aggC cb] w fun e w' => e = .returned (.bool (sameC x y)) ∧ Below w.heap.size w w' := by
  have HP := Lib.hid (fun w' (hb : Below w.heap.size w w') => REqual_any ca.p cb.p x.p y.p w' (hx.p.below hb) (hy.p.below hb))
  have HO := Lib.hid (fun w' (hb : Below w.heap.size w w') => RSame_any _ x.o y.o ca.o cb.o w' (Nat.le_refl _) (hx.o.stays hb) (hy.o.stays hb))
  have HN := Lib.hid (fun w' (hb : Below w.heap.size w w') => RSame_any _ x.n y.n ca.n cb.n w' (Nat.le_refl _) (hx.n.stays hb) (hy.n.stays hb))
  obtain ⟨r, hr⟩ : ∃ r, r = sameC x y := ⟨_, rfl⟩
  rw [← hr]
  unfold sameC at hr
  have eop := hx.op
  have epos := hx.pos
  have fop := hy.op
  have fpos := hy.pos
  rw [← eop, ← epos, ← fop, ← fpos] at hr
  generalize decide (x.p = y.p) = qp at *
  generalize eqV x.o y.o = qo at *
  generalize eqV x.n y.n = qn at *
  obtain ⟨op, pos, a0, n0, m0, ⟨p0, p1, p2, p3, p4, p5, p6, p7, p8, p9, p10⟩, ⟨q0, q1, q2, q3, q4, q5, q6, q7, q8, q9, q10⟩, a1, a2, a3, b1, b2, b3, n1, n2, n3, m1, m2, m3, i1, i2, i3, j1, j2, j3, rfl⟩ := hx.forms
  obtain ⟨op', pos', a0', n0', m0', ⟨p0', p1', p2', p3', p4', p5', p6', p7', p8', p9', p10'⟩, ⟨q0', q1', q2', q3', q4', q5', q6', q7', q8', q9', q10'⟩, a1', a2', a3', b1', b2', b3', n1', n2', n3', m1', m2', m3', i1', i2', i3', j1', j2', j3', rfl⟩ := hy.forms
  simp only at hr
  have HR := Lib.hid hr
  have hb2 : ∀ x y, Below w.heap.size w ((w.alloc x).alloc y) := fun x y => ((Below.refl _ w).alloc (Nat.le_refl _) _).alloc (by simp) _
  have HB2 := Lib.hid hb2
  clear hx hy hr eop epos fop fpos hb2
  simp only [aggC, aggV] at HP HO HN ⊢
  by_cases e1 : op = op'
  case neg =>
    have HF : Hid (r = false) := by unfold Hid; rw [HR.out, decide_eq_false e1]; rfl
    have hq : (op == op') = false := by rw [beq_eq_false_iff_ne]; exact e1
    clear HR e1
    go_enter Tryz.func13, Tryz.ntmps13
    go_wp2_with fail
    go_ret
    exact ⟨rb HF.out.symm, HB2.out _ _⟩
  subst e1
  by_cases e2 : pos = pos'
  case neg =>
    have HF : Hid (r = false) := by unfold Hid; rw [HR.out, decide_eq_true rfl, decide_eq_false e2]; rfl
    have hq : (pos == pos') = false := by rw [beq_eq_false_iff_ne]; exact e2
    clear HR e2
    go_enter Tryz.func13, Tryz.ntmps13
    go_wp2_with fail
    go_ret
    exact ⟨rb HF.out.symm, HB2.out _ _⟩
  subst e2
  have HR2 : Hid (r = (qp && (qo && qn))) := by unfold Hid; rw [HR.out, decide_eq_true rfl, decide_eq_true rfl, Bool.true_and, Bool.true_and]
  clear HR
  go_enter Tryz.func13, Tryz.ntmps13
  go_wp2_with fail
  refine (HP.out _ (HB2.out _ _)).mono ?_
  rintro e w1 ⟨rfl, hb⟩
  obtain ⟨hbw, hx, hy, hz⟩ := two_held hb
  have HX := Lib.hid hx
  have HY := Lib.hid hy
  clear hx hy hb HP HB2
  cases qp with
  | false =>
    have HF : Hid (r = false) := HR2.out
    clear HR2
    go_wp2_with fail
    go_ret
    exact ⟨rb HF.out.symm, hbw⟩
  | true =>
  obtain ⟨⟨_, ⟨x3, x4, x5, x6, x7, x8, x9, x10, x11, x12, x13, x14, x15⟩, _⟩, xf⟩ := box29 HX.out
  obtain ⟨⟨_, ⟨y3, y4, y5, y6, y7, y8, y9, y10, y11, y12, y13, y14, y15⟩, _⟩, yf⟩ := box29 HY.out
  clear xf yf
  go_wp2_with fail
  refine (HO.out _ hbw).mono ?_
  rintro e w2 ⟨rfl, hb⟩
  have hbw2 := hbw.trans (hb.mono hbw.size)
  have HX2 := Lib.hid ((hb.block _ (by omega)).trans HX.out)
  have HY2 := Lib.hid ((hb.block _ (by omega)).trans HY.out)
  clear hb hbw HX HY HO hz x3 x4 x5 x6 x7 x8 x9 x10 x11 x12 x13 x14 x15 y3 y4 y5 y6 y7 y8 y9 y10 y11 y12 y13 y14 y15
  cases qo with
  | false =>
    have HF : Hid (r = false) := HR2.out
    clear HR2
    go_wp2_with fail
    go_ret
    exact ⟨rb HF.out.symm, hbw2⟩
  | true =>
  obtain ⟨⟨_, _, ⟨x3, x4, x5, x6, x7, x8, x9, x10, x11, x12, x13, x14, x15⟩⟩, xf⟩ := box29 HX2.out
  obtain ⟨⟨_, _, ⟨y3, y4, y5, y6, y7, y8, y9, y10, y11, y12, y13, y14, y15⟩⟩, yf⟩ := box29 HY2.out
  clear xf yf
  go_wp2_with fail
  refine (HN.out _ hbw2).mono ?_
  rintro e w3 ⟨rfl, hb⟩
  have hbw3 := hbw2.trans (hb.mono hbw2.size)
  have HF : Hid (r = qn) := HR2.out
  clear HR2 hb hbw2 HX2 HY2
  go_wp2_with fail
  go_ret
  exact ⟨rb HF.out.symm, hbw3⟩
end Go.Proofs.YtemiihkmpojpgaaGreatDoor
