/- Changes in memory: what they read as; how they are inverted, in plain words. Conditions: none. -/
import Derived.Test.YthdninnjjmhpfaaGreatDoorSt
import Derived.Test.YthdninnjjmhpfaaGreatDoorOt
namespace Go.Proofs.YthdninnjjmhpfaaGreatDoor
open Go.RowKit
set_option maxHeartbeats 1000000
set_option maxRecDepth 100000

/-- The cells of a change. -/
structure CC where
  op : Int
  p : Value
  pos : Int
  o : VC
  n : VC
def CC.cells (c : CC) : List Value := .int .i64 c.op :: c.p :: .int .i64 c.pos :: (c.o.cells ++ c.n.cells)
theorem ccells_len (c : CC) : c.cells.length = 29 := rfl
/-- A change. -/
structure Ch where
  op : Int
  p : List St
  pos : Int
  o : V
  n : V
structure RdC (w : World) (S : Nat → Prop) (c : CC) (x : Ch) : Prop where
  op : c.op = x.op
  pos : c.pos = x.pos
  iop : I64 x.op
  ipos : I64 x.pos
  p : Rd w c.p x.p
  sp : BlkIn S c.p
  o : RdI w S c.o x.o
  n : RdI w S c.n x.n
theorem Rd.kept {w w' : World} {v : Value} {l : List St} {S : Nat → Prop} (h : Rd w v l) (hs : BlkIn S v) (hk : ∀ b, S b → b < w.heap.size → w'.heap[b]? = w.heap[b]?) (hz : w.heap.size ≤ w'.heap.size) : Rd w' v l := by
  obtain ⟨a, cap, hv, h1, h2, h0, h3⟩ := h
  refine ⟨a, cap, hv, h1, h2, h0, fun hl => ?_⟩
  obtain ⟨g, o, ha, hg, hc⟩ := h3 hl
  have hb := hk g (hs g o none l.length cap (by rw [hv, ha]) (List.length_pos_iff.2 hl)) hg
  refine ⟨g, o, ha, Nat.lt_of_lt_of_le hg hz, fun i hi => ?_⟩
  obtain ⟨c0, c1, c2⟩ := hc i hi
  exact ⟨(World.cell?_of_block (a := ⟨g, o + i * 3, none⟩) hb).trans c0, (World.cell?_of_block (a := ⟨g, o + i * 3 + 1, none⟩) hb).trans c1, (World.cell?_of_block (a := ⟨g, o + i * 3 + 2, none⟩) hb).trans c2⟩
theorem Rd.blk {w : World} {v : Value} {l : List St} (h : Rd w v l) {S : Nat → Prop} (hs : BlkIn S v) : BlkIn (fun b => S b ∧ b < w.heap.size) v := by
  obtain ⟨a, cap, rfl, h1, h2, h0, h3⟩ := h
  intro g o p m cap' hv hm
  refine ⟨hs g o p m cap' hv hm, ?_⟩
  simp only [Value.slice.injEq] at hv
  obtain ⟨rfl, rfl, rfl⟩ := hv
  obtain ⟨g', o', ha, hg, _⟩ := h3 (List.length_pos_iff.1 hm)
  simp only [Option.some.injEq, Addr.mk.injEq] at ha
  rw [ha.1]
  exact hg
theorem stbC : Stb RdC :=
  ⟨fun h hk hz => ⟨h.op, h.pos, h.iop, h.ipos, h.p.kept h.sp hk hz, h.p.blk h.sp, stbV.kept h.o hk hz, stbV.kept h.n hk hz⟩,
   fun h hs => ⟨h.op, h.pos, h.iop, h.ipos, h.p, h.sp.mono hs, h.o.mono hs, h.n.mono hs⟩⟩
theorem RdC.stays {w w' : World} {S : Nat → Prop} {c : CC} {x : Ch} (h : RdC w S c x) (hb : Below w.heap.size w w') : RdC w' S c x :=
  stbC.mono (stbC.kept h (fun b _ hb' => hb.block b hb') hb.size) (fun _ h => h.1)
theorem RdC.any {w : World} {S : Nat → Prop} {c : CC} {x : Ch} (h : RdC w S c x) : RdC w (fun _ => True) c x := stbC.mono h (fun _ _ => trivial)
/-- A list of changes. -/
def RdL (w : World) (v : Value) (xs : List Ch) : Prop := ∃ cc : Nat → CC, Sl w v xs.length 29 (fun i => (cc i).cells) ∧ ∀ i (hi : i < xs.length), RdC w (fun _ => True) (cc i) xs[i]
theorem RdL.below {w w' : World} {v : Value} {xs : List Ch} (h : RdL w v xs) (hb : Below w.heap.size w w') : RdL w' v xs := by
  obtain ⟨cc, h1, h2⟩ := h
  exact ⟨cc, h1.below hb, fun i hi => (h2 i hi).stays hb⟩
/-- A change as an aggregate. -/
abbrev aggC (c : CC) : Value := .agg #[.int .i64 c.op, c.p, .int .i64 c.pos,
  .int .i64 c.o.h.kind, .bool c.o.h.bool, .bool c.o.h.neg, .string c.o.h.ds, .int .i64 c.o.h.exp, .int .i64 c.o.h.tk, .int .i64 c.o.h.day, .int .i64 c.o.h.nano, .int .i64 c.o.h.off, .string c.o.h.text, c.o.b, c.o.l, c.o.f,
  .int .i64 c.n.h.kind, .bool c.n.h.bool, .bool c.n.h.neg, .string c.n.h.ds, .int .i64 c.n.h.exp, .int .i64 c.n.h.tk, .int .i64 c.n.h.day, .int .i64 c.n.h.nano, .int .i64 c.n.h.off, .string c.n.h.text, c.n.b, c.n.l, c.n.f]
theorem cells_at {w : World} {g o : Nat} {cs : List Value} {n : Nat} (h : ∀ j, j < n → w.cell? ⟨g, o + j, none⟩ = cs[j]?) (d m : Nat) (hd : d + m ≤ n) : ∀ j, j < m → w.cell? ⟨g, o + d + j, none⟩ = (cs.drop d)[j]? := by
  intro j hj
  rw [Nat.add_assoc, h (d + j) (by omega), List.getElem?_drop]
/-- The cells of an element that is a change, each value at its own place. -/
theorem cells29 {w : World} {g o : Nat} {c : CC} (h : ∀ j, j < 29 → w.cell? ⟨g, o + j, none⟩ = c.cells[j]?) :
    w.cell? ⟨g, o, none⟩ = some (.int .i64 c.op) ∧ w.cell? ⟨g, o + 1, none⟩ = some c.p ∧ w.cell? ⟨g, o + 2, none⟩ = some (.int .i64 c.pos) ∧
      (∀ j, j < 13 → w.cell? ⟨g, o + 3 + j, none⟩ = c.o.cells[j]?) ∧ (∀ j, j < 13 → w.cell? ⟨g, o + 16 + j, none⟩ = c.n.cells[j]?) := by
  refine ⟨h 0 (by decide), h 1 (by decide), h 2 (by decide), fun j hj => ?_, fun j hj => ?_⟩
  · rw [cells_at h 3 13 (by decide) j hj]
    show (c.o.cells ++ c.n.cells)[j]? = _
    rw [List.getElem?_append_left (by rw [cells_len]; exact hj)]
  · rw [cells_at h 16 13 (by decide) j hj]
    rfl
/-! What few asks; inverting. -/
def fewOne (x : Ch) : Bool := decide (0 ≤ roomV x.o 150 60) && (decide (0 ≤ roomV x.n 150 60) && decide (x.p.length ≤ 60))
def fewB (xs : List Ch) : Bool := decide (xs.length ≤ 30) && xs.all fewOne
theorem fewOne_is {x : Ch} (h : fewOne x = true) : nodV x.o ≤ 150 ∧ depV x.o ≤ 60 ∧ nodV x.n ≤ 150 ∧ depV x.n ≤ 60 ∧ x.p.length ≤ 60 := by
  unfold fewOne at h
  rw [Bool.and_eq_true, Bool.and_eq_true, decide_eq_true_iff, decide_eq_true_iff, decide_eq_true_iff] at h
  obtain ⟨h1, h2, h3⟩ := h
  obtain ⟨a, b⟩ := roomV_is x.o 150 60 h1
  obtain ⟨c, d⟩ := roomV_is x.n 150 60 h2
  omega
theorem fewB_is {xs : List Ch} (h : fewB xs = true) : xs.length ≤ 30 ∧ ∀ i (hi : i < xs.length), fewOne xs[i] = true := by
  unfold fewB at h
  rw [Bool.and_eq_true, decide_eq_true_iff, List.all_eq_true] at h
  exact ⟨h.1, fun i hi => h.2 _ (List.getElem_mem hi)⟩
theorem all_dropC (l : List Ch) (k : Nat) (h : k < l.length) : (l.drop k).all fewOne = (fewOne l[k] && (l.drop (k + 1)).all fewOne) := by
  rw [List.drop_eq_getElem_cons h, List.all_cons]
def invC (x : Ch) : Ch := if x.op = 1 then ⟨1, x.p, x.pos, x.n, x.o⟩ else if x.op = 2 then ⟨3, x.p, x.pos, x.n, x.o⟩ else if x.op = 3 then ⟨2, x.p, x.pos, x.n, x.o⟩ else x
def invL (xs : List Ch) : List Ch := xs.reverse.map invC
end Go.Proofs.YthdninnjjmhpfaaGreatDoor
