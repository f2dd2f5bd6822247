/- What is wrong with a change, and with a list of changes: plain words, no program in sight. Conditions: none. -/
import Derived.Test.YtemiihkmpojpgaaGreatDoorZq9
import Derived.Test.YtemiihkmpojpgaaGreatDoorZq11
import Derived.Deep.AppendSrc
namespace Go.Proofs.YtemiihkmpojpgaaGreatDoor
open Go.RowKit
set_option maxHeartbeats 1000000
set_option maxRecDepth 100000

/-- A step's cells. -/
def stk (x : St) : List Value := [.bool x.1, .string x.2.1, .int .i64 x.2.2]
theorem stk_len (x : St) : (stk x).length = 3 := rfl
theorem stk_one (x : St) : ∀ u ∈ stk x, u.oneCell' = true := by
  intro u hu
  simp only [stk, List.mem_cons, List.mem_nil_iff, or_false] at hu
  rcases hu with rfl | rfl | rfl <;> rfl
/-- A row of one's own reads as the path. -/
theorem Rd.of_own {w : World} {base : Nat} {e : TypeId} {v : Value} {l : List St} (h : w.ownsRow base e 3 v l.length (l.flatMap stk)) : Rd w v l := by
  rcases h.2 with ⟨rfl, h0⟩ | ⟨g, cap, cur, rfl, hb, hh, hn, hc, _⟩
  · obtain rfl : l = [] := List.length_eq_zero_iff.1 h0
    exact Rd.nil
  · refine ⟨some ⟨g, 0, none⟩, cap, rfl, hn, by omega, (fun h => by cases h), fun _ => ⟨g, 0, rfl, (h.lt g rfl).2, fun i hi => ?_⟩⟩
    refine ⟨?_, ?_, ?_⟩
    · rw [Nat.zero_add, World.ownsRow.cellAt h (i * 3) (by omega)]
      exact flat_get stk 3 stk_len l i hi 0 (by decide)
    · rw [Nat.zero_add, World.ownsRow.cellAt h (i * 3 + 1) (by omega)]
      exact flat_get stk 3 stk_len l i hi 1 (by decide)
    · rw [Nat.zero_add, World.ownsRow.cellAt h (i * 3 + 2) (by omega)]
      exact flat_get stk 3 stk_len l i hi 2 (by decide)
theorem elem_step : Elem Tryz.prog 44 81 3 := elem_of (z := .agg #[.bool false, .string ⟨#[]⟩, .int .i64 0]) (bytes := 32) Tryz.underlying44 (by kernel_rfl) (by decide) (by decide) rfl
theorem flat_cells {w : World} {g o : Nat} {l : List St} (h : At3 w g o l) : ∀ j u, (l.flatMap stk)[j]? = some u → w.cell? ((⟨g, o, none⟩ : Addr).add j) = some u := by
  intro j u hu
  have hadd : (⟨g, o, none⟩ : Addr).add j = ⟨g, o + j, none⟩ := by unfold Addr.add; split <;> simp_all
  rw [hadd]
  have hlen : (l.flatMap stk).length = l.length * 3 := by
    clear h hu
    induction l with
    | nil => rfl
    | cons x l ih => rw [List.flatMap_cons, List.length_append, ih, stk_len, List.length_cons]; omega
  have hj : j < l.length * 3 := by
    rw [List.getElem?_eq_some_iff] at hu
    obtain ⟨h1, _⟩ := hu
    omega
  have hi : j / 3 < l.length := by omega
  obtain ⟨c0, c1, c2⟩ := h (j / 3) hi
  have hf := flat_get stk 3 stk_len l (j / 3) hi (j % 3) (by omega)
  rw [show j / 3 * 3 + j % 3 = j by omega, hu] at hf
  rcases (by omega : j % 3 = 0 ∨ j % 3 = 1 ∨ j % 3 = 2) with h3 | h3 | h3
  · rw [h3] at hf
    rw [show o + j = o + j / 3 * 3 by omega, c0, hf]; rfl
  · rw [h3] at hf
    rw [show o + j = o + j / 3 * 3 + 1 by omega, c1, hf]; rfl
  · rw [h3] at hf
    rw [show o + j = o + j / 3 * 3 + 2 by omega, c2, hf]; rfl
theorem flat_len3 (l : List St) : (l.flatMap stk).length = l.length * 3 := by
  induction l with
  | nil => rfl
  | cons x l ih => rw [List.flatMap_cons, List.length_append, ih, stk_len, List.length_cons]; omega
theorem stk_all (l : List St) : ∀ u ∈ l.flatMap stk, u.oneCell' = true := by
  intro u hu
  obtain ⟨x, _, hx⟩ := List.mem_flatMap.1 hu
  exact stk_one x u hx
/-- 'append(v, p...)': p is a path that is read. -/
theorem wp_appendRd {P : Program} {w1 : World} {ops : Array Oper} {rest : List Oper} {o : Oper} {a : Act} {Q : Exit → Act → World → Prop} {t e : TypeId} {base n : Nat} {v u : Value} {xs : List Value} {l : List St}
    (he : Elem P t e 3) (hgd : o.guard = none) (s x : Operand) (ho : o.op = .call { callee := .builtin .append, args := #[s, x], argTypes := #[t, t] })
    (hown : w1.ownsRow base e 3 v n xs) (hu : Rd w1 u l) (hs : a.eval s = v) (hx : a.eval x = u)
    (hn : n + l.length < 100000000000) (hbase : base ≤ w1.heap.size)
    (h : ∀ v' w', w'.ownsRow base e 3 v' (n + l.length) (xs ++ l.flatMap stk) → w1.grownBy w' v.ownBlock → Below base w1 w' → wpList P ops Q rest (a.put o.dst v') w') :
    wpList P ops Q (o :: rest) a w1 := by
  obtain ⟨ht, hsz, i, z, hi, hz, hsi, hby, hzs⟩ := he
  have hbytes : (n + l.length) * i.bytes ≤ 140737488355328 := Nat.le_trans (Nat.mul_le_mul (show n + l.length ≤ 100000000000 by omega) hby) (by decide)
  have fin : ∀ v' w', w'.ownsRow base e 3 v' (n + l.length) (xs ++ l.flatMap stk) → w1.grownBy w' v.ownBlock → wpList P ops Q rest (a.put o.dst v') w' :=
    fun v' w' h1 h2 => h v' w' h1 h2 ((Below.refl base w1).grown h2 hbase (fun k hk => (hown.lt k hk).1))
  obtain ⟨ad, cap, rfl, hcap, hmax, hnil, hl⟩ := hu
  rcases ad with _ | ad
  · have h0 := hnil rfl
    have hl0 : l = [] := List.length_eq_zero_iff.1 (by omega)
    subst hl0 h0
    simp only [List.length_nil] at hx fin
    have hrun : (Builtin.append_ #[t, t] o.type #[v, .slice none 0 0]).run P w1 = .ok v w1 := by
      rcases hown.2 with ⟨rfl, rfl⟩ | ⟨g, cap, cur, rfl, _, hh, hnc, hc, hsc⟩
      · simp [Builtin.append_, run_underlying ht, sizeOf, typeInfo, hi, Builtin.lenOf, Builtin.firstCells]
      · have := run_append_room_src (P := P) w1 t t o.type e i ht hi g 0 n cap (.slice none 0 0) 0 [] (Src.ofNil w1 ht 0) (by omega) (by intro j hj; cases hj) (by intro j hj; cases hj)
        exact this
    refine wpList_plain hgd fun K hK => ?_
    unfold Oper.wp execOp
    simp only [ho, resolve, invoke, builtin, Sem.run_bind, Sem.run_pure, Result.andThen_ok, List.map_toArray, List.map_cons, List.map_nil, hs, hx, hrun]
    exact hK _ _ (fin v w1 (by simpa using hown) ⟨rfl, rfl, rfl, Nat.le_refl _, fun _ _ _ => rfl⟩)
  · refine wpList_append_own _ hgd s x t ho base e i z 3 i.bytes ht hi hz hsi rfl hzs hsz v n xs hs hown ad l.length cap (l.flatMap stk) hx (flat_len3 l) ?_ (stk_all l) (by simp only [maxLen]; omega) hbytes hbase (fun v' w' h1 h2 _ => fin v' w' h1 h2)
    by_cases hl0 : l = []
    · subst hl0; intro j u hu; simp at hu
    · obtain ⟨g, off, had, _, hat⟩ := hl hl0
      cases had
      exact flat_cells hat
theorem own_empty (w : World) (e : TypeId) : (w.alloc (.cells #[] e)).ownsRow w.heap.size e 3 (.slice (some ⟨w.heap.size, 0, none⟩) 0 0) 0 [] :=
  ⟨rfl, .inr ⟨w.heap.size, 0, #[], rfl, Nat.le_refl _, heap_alloc_new w _, Nat.le_refl _, by decide, rfl, rfl⟩⟩
end Go.Proofs.YtemiihkmpojpgaaGreatDoor

namespace Go.Proofs.YtemiihkmpojpgaaGreatDoor
open Go.RowKit
set_option maxHeartbeats 1000000
set_option maxRecDepth 100000

/-- The cells of a change. -/
structure CC where
  op : Int
  p : Value
  pos : Int
  o : VC
  n : VC
def CC.cells (c : CC) : List Value := .int .i64 c.op :: c.p :: .int .i64 c.pos :: (c.o.cells ++ c.n.cells)
theorem ccells_len (c : CC) : c.cells.length = 29 := rfl
/-- A change. -/
structure Ch where
  op : Int
  p : List St
  pos : Int
  o : V
  n : V
structure RdC (w : World) (S : Nat → Prop) (c : CC) (x : Ch) : Prop where
  op : c.op = x.op
  pos : c.pos = x.pos
  iop : I64 x.op
  ipos : I64 x.pos
  p : Rd w c.p x.p
  sp : BlkIn S c.p
  o : RdI w S c.o x.o
  n : RdI w S c.n x.n
theorem Rd.kept {w w' : World} {v : Value} {l : List St} {S : Nat → Prop} (h : Rd w v l) (hs : BlkIn S v) (hk : ∀ b, S b → b < w.heap.size → w'.heap[b]? = w.heap[b]?) (hz : w.heap.size ≤ w'.heap.size) : Rd w' v l := by
  obtain ⟨a, cap, hv, h1, h2, h0, h3⟩ := h
  refine ⟨a, cap, hv, h1, h2, h0, fun hl => ?_⟩
  obtain ⟨g, o, ha, hg, hc⟩ := h3 hl
  have hb := hk g (hs g o none l.length cap (by rw [hv, ha]) (List.length_pos_iff.2 hl)) hg
  refine ⟨g, o, ha, Nat.lt_of_lt_of_le hg hz, fun i hi => ?_⟩
  obtain ⟨c0, c1, c2⟩ := hc i hi
  exact ⟨(World.cell?_of_block (a := ⟨g, o + i * 3, none⟩) hb).trans c0, (World.cell?_of_block (a := ⟨g, o + i * 3 + 1, none⟩) hb).trans c1, (World.cell?_of_block (a := ⟨g, o + i * 3 + 2, none⟩) hb).trans c2⟩
theorem Rd.blk {w : World} {v : Value} {l : List St} (h : Rd w v l) {S : Nat → Prop} (hs : BlkIn S v) : BlkIn (fun b => S b ∧ b < w.heap.size) v := by
  obtain ⟨a, cap, rfl, h1, h2, h0, h3⟩ := h
  intro g o p m cap' hv hm
  refine ⟨hs g o p m cap' hv hm, ?_⟩
  simp only [Value.slice.injEq] at hv
  obtain ⟨rfl, rfl, rfl⟩ := hv
  obtain ⟨g', o', ha, hg, _⟩ := h3 (List.length_pos_iff.1 hm)
  simp only [Option.some.injEq, Addr.mk.injEq] at ha
  rw [ha.1]
  exact hg
theorem stbC : Stb RdC :=
  ⟨fun h hk hz => ⟨h.op, h.pos, h.iop, h.ipos, h.p.kept h.sp hk hz, h.p.blk h.sp, stbV.kept h.o hk hz, stbV.kept h.n hk hz⟩,
   fun h hs => ⟨h.op, h.pos, h.iop, h.ipos, h.p, h.sp.mono hs, h.o.mono hs, h.n.mono hs⟩⟩
theorem RdC.stays {w w' : World} {S : Nat → Prop} {c : CC} {x : Ch} (h : RdC w S c x) (hb : Below w.heap.size w w') : RdC w' S c x :=
  stbC.mono (stbC.kept h (fun b _ hb' => hb.block b hb') hb.size) (fun _ h => h.1)
theorem RdC.any {w : World} {S : Nat → Prop} {c : CC} {x : Ch} (h : RdC w S c x) : RdC w (fun _ => True) c x := stbC.mono h (fun _ _ => trivial)
/-- A list of changes. -/
def RdL (w : World) (v : Value) (xs : List Ch) : Prop := ∃ cc : Nat → CC, Sl w v xs.length 29 (fun i => (cc i).cells) ∧ ∀ i (hi : i < xs.length), RdC w (fun _ => True) (cc i) xs[i]
theorem RdL.below {w w' : World} {v : Value} {xs : List Ch} (h : RdL w v xs) (hb : Below w.heap.size w w') : RdL w' v xs := by
  obtain ⟨cc, h1, h2⟩ := h
  exact ⟨cc, h1.below hb, fun i hi => (h2 i hi).stays hb⟩
/-- A change as an aggregate. -/
abbrev aggC (c : CC) : Value := .agg #[.int .i64 c.op, c.p, .int .i64 c.pos,
  .int .i64 c.o.h.kind, .bool c.o.h.bool, .bool c.o.h.neg, .string c.o.h.ds, .int .i64 c.o.h.exp, .int .i64 c.o.h.tk, .int .i64 c.o.h.day, .int .i64 c.o.h.nano, .int .i64 c.o.h.off, .string c.o.h.text, c.o.b, c.o.l, c.o.f,
  .int .i64 c.n.h.kind, .bool c.n.h.bool, .bool c.n.h.neg, .string c.n.h.ds, .int .i64 c.n.h.exp, .int .i64 c.n.h.tk, .int .i64 c.n.h.day, .int .i64 c.n.h.nano, .int .i64 c.n.h.off, .string c.n.h.text, c.n.b, c.n.l, c.n.f]
theorem cells_at {w : World} {g o : Nat} {cs : List Value} {n : Nat} (h : ∀ j, j < n → w.cell? ⟨g, o + j, none⟩ = cs[j]?) (d m : Nat) (hd : d + m ≤ n) : ∀ j, j < m → w.cell? ⟨g, o + d + j, none⟩ = (cs.drop d)[j]? := by
  intro j hj
  rw [Nat.add_assoc, h (d + j) (by omega), List.getElem?_drop]
/-- The cells of an element that is a change, each value at its own place. -/
theorem cells29 {w : World} {g o : Nat} {c : CC} (h : ∀ j, j < 29 → w.cell? ⟨g, o + j, none⟩ = c.cells[j]?) :
    w.cell? ⟨g, o, none⟩ = some (.int .i64 c.op) ∧ w.cell? ⟨g, o + 1, none⟩ = some c.p ∧ w.cell? ⟨g, o + 2, none⟩ = some (.int .i64 c.pos) ∧
      (∀ j, j < 13 → w.cell? ⟨g, o + 3 + j, none⟩ = c.o.cells[j]?) ∧ (∀ j, j < 13 → w.cell? ⟨g, o + 16 + j, none⟩ = c.n.cells[j]?) := by
  refine ⟨h 0 (by decide), h 1 (by decide), h 2 (by decide), fun j hj => ?_, fun j hj => ?_⟩
  · rw [cells_at h 3 13 (by decide) j hj]
    show (c.o.cells ++ c.n.cells)[j]? = _
    rw [List.getElem?_append_left (by rw [cells_len]; exact hj)]
  · rw [cells_at h 16 13 (by decide) j hj]
    rfl
/-! What few asks; inverting. -/
def fewOne (x : Ch) : Bool := decide (0 ≤ roomV x.o 150 60) && (decide (0 ≤ roomV x.n 150 60) && decide (x.p.length ≤ 60))
def fewB (xs : List Ch) : Bool := decide (xs.length ≤ 30) && xs.all fewOne
theorem fewOne_is {x : Ch} (h : fewOne x = true) : nodV x.o ≤ 150 ∧ depV x.o ≤ 60 ∧ nodV x.n ≤ 150 ∧ depV x.n ≤ 60 ∧ x.p.length ≤ 60 := by
  unfold fewOne at h
  rw [Bool.and_eq_true, Bool.and_eq_true, decide_eq_true_iff, decide_eq_true_iff, decide_eq_true_iff] at h
  obtain ⟨h1, h2, h3⟩ := h
  obtain ⟨a, b⟩ := roomV_is x.o 150 60 h1
  obtain ⟨c, d⟩ := roomV_is x.n 150 60 h2
  omega
theorem fewB_is {xs : List Ch} (h : fewB xs = true) : xs.length ≤ 30 ∧ ∀ i (hi : i < xs.length), fewOne xs[i] = true := by
  unfold fewB at h
  rw [Bool.and_eq_true, decide_eq_true_iff, List.all_eq_true] at h
  exact ⟨h.1, fun i hi => h.2 _ (List.getElem_mem hi)⟩
theorem all_dropC (l : List Ch) (k : Nat) (h : k < l.length) : (l.drop k).all fewOne = (fewOne l[k] && (l.drop (k + 1)).all fewOne) := by
  rw [List.drop_eq_getElem_cons h, List.all_cons]
def invC (x : Ch) : Ch := if x.op = 1 then ⟨1, x.p, x.pos, x.n, x.o⟩ else if x.op = 2 then ⟨3, x.p, x.pos, x.n, x.o⟩ else if x.op = 3 then ⟨2, x.p, x.pos, x.n, x.o⟩ else x
def invL (xs : List Ch) : List Ch := xs.reverse.map invC
end Go.Proofs.YtemiihkmpojpgaaGreatDoor

namespace Go.Proofs.YtemiihkmpojpgaaGreatDoor
open Go.RowKit
set_option maxRecDepth 100000
set_option maxHeartbeats 1000000

/-- Are all parts of a value zero? -/
def zeroV : V → Bool
  | .mk h l f => decide (h.kind = 0 ∧ h.bool = false ∧ (h.neg = false ∧ h.ds.toList = [] ∧ h.exp = 0) ∧ (h.tk = 0 ∧ h.day = 0 ∧ h.nano = 0 ∧ h.off = 0) ∧ h.text.toList = [] ∧ h.bytes.length = 0 ∧ l.length = 0 ∧ f.length = 0)
/-- Is the last step a key? -/
def lastK (p : List St) : Bool := decide (0 < p.length) && !(p.getD (p.length - 1) (false, ⟨#[]⟩, 0)).1
def movB (op : Int) : Bool := decide (op = 2 ∨ op = 3)
def oldB (op : Int) : Bool := decide (op = 1 ∨ op = 3 ∨ op = 4)
def newB (op : Int) : Bool := decide (op = 1 ∨ op = 2)
/-- The first question, and the second one. -/
def arg1 (x : Ch) : Bool := !((!oldB x.op && !newB x.op) || (!validP x.p || (decide (x.p.length = 0) && movB x.op)))
def arg2 (x : Ch) : Bool := !(decide (x.pos < 0) || (decide (65536 < x.pos) || ((decide (x.pos ≠ 0) && !(movB x.op && lastK x.p)) || ((!oldB x.op && !zeroV x.o) || (!newB x.op && !zeroV x.n)))))
def oneC (x : Ch) : Nat :=
  if arg1 x = false then 1 else if arg2 x = false then 1 else if oldB x.op = true ∧ checkV x.o ≠ 0 then checkV x.o else if newB x.op = true then checkV x.n else 0
/-- The place of the first change that is not valid, and its error. -/
def firstC : List Ch → Nat → Nat × Nat
  | [], _ => (0, 0)
  | x :: t, i => if oneC x ≠ 0 then (i, oneC x) else firstC t (i + 1)
def checkL (xs : List Ch) : Nat := if 4096 < xs.length then 10 else (firstC xs 0).2
theorem firstC_drop (xs : List Ch) (k : Nat) (h : k < xs.length) (i : Nat) : firstC (xs.drop k) i = if oneC xs[k] ≠ 0 then (i, oneC xs[k]) else firstC (xs.drop (k + 1)) (i + 1) := by
  rw [List.drop_eq_getElem_cons h, firstC]
end Go.Proofs.YtemiihkmpojpgaaGreatDoor
