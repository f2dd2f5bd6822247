/- An argument that is a pattern is read, whatever its size; how many nodes there are where the data are few. Conditions: none. -/
import Derived.Test.YtggolmamacoplaaDoorZz1
import Derived.Test.YtggolmamacoplaaDoorZz5
import Derived.Test.YtggolmamacoplaaDoorZz7
import Derived.Test.YtggolmamacoplaaDoorZz10
import Derived.Laws.AppendOwn
import Derived.Maps.AppendAt
import Derived.Test.YtggolmamacoplaaDoorZz2
import Derived.Test.YtggolmamacoplaaDoorZz11
namespace Go.Proofs.YtggolmamacoplaaDoor
open Go.RowKit
set_option maxHeartbeats 1000000
set_option maxRecDepth 100000

/-! Patterns in memory. -/
/-- v is a slice of n elements, size cells each, that reads element i as c i; of whatever length. -/
def SlX (w : World) (v : Value) (n size : Nat) (c : Nat → List Value) : Prop :=
  ∃ (a : Option Addr) (cap : Nat), v = .slice a n cap ∧ n ≤ cap ∧ cap ≤ maxLen ∧ (a = none → cap = 0) ∧
    (0 < n → ∃ g o, a = some ⟨g, o, none⟩ ∧ g < w.heap.size ∧ ∀ i, i < n → ∀ j, j < size → w.cell? ⟨g, o + i * size + j, none⟩ = (c i)[j]?)
theorem SlX.below {w w' : World} {v : Value} {n size : Nat} {c : Nat → List Value} (h : SlX w v n size c) (hb : Below w.heap.size w w') : SlX w' v n size c := by
  obtain ⟨a, cap, hv, h1, h2, h0, h3⟩ := h
  refine ⟨a, cap, hv, h1, h2, h0, fun hl => ?_⟩
  obtain ⟨g, o, ha, hg, hc⟩ := h3 hl
  exact ⟨g, o, ha, Nat.lt_of_lt_of_le hg hb.size, fun i hi j hj => (hb.cell hg).trans (hc i hi j hj)⟩
theorem SlX.nil {w : World} {size : Nat} {c : Nat → List Value} : SlX w (.slice none 0 0) 0 size c :=
  ⟨none, 0, rfl, Nat.le_refl _, Nat.zero_le _, fun _ => rfl, fun h => absurd h (Nat.lt_irrefl _)⟩
/-- A pattern's cells. -/
structure PC where
  op : Int
  lo : Int
  hi : Int
  mn : Int
  mx : Int
  a : Value
def PC.cells (c : PC) : List Value := [.int .i64 c.op, .int .i64 c.lo, .int .i64 c.hi, .int .i64 c.mn, .int .i64 c.mx, c.a]
abbrev aggP (c : PC) : Value := .agg #[.int .i64 c.op, .int .i64 c.lo, .int .i64 c.hi, .int .i64 c.mn, .int .i64 c.mx, c.a]
/-- The cells c read as the pattern. -/
inductive RdP (w : World) : PC → RX → Prop
  | mk (op lo hi mn mx : Int) (l : List RX) (lv : Value) (c : Nat → PC) (hl : SlX w lv l.length 6 (fun i => (c i).cells)) (hL : ∀ i (hi : i < l.length), RdP w (c i) l[i]) : RdP w ⟨op, lo, hi, mn, mx, lv⟩ (.mk op lo hi mn mx l)
theorem RdP.stays {w w' : World} {c : PC} {p : RX} (h : RdP w c p) (hb : Below w.heap.size w w') : RdP w' c p := by
  induction h with
  | mk op lo hi mn mx l lv c hl hL ih => exact .mk op lo hi mn mx l lv c (hl.below hb) (fun i hi => ih i hi)
theorem RdP.forms {w : World} {c : PC} {p : RX} (h : RdP w c p) : ∃ a cap, c.a = .slice a p.args.length cap := by
  cases h with
  | mk op lo hi mn mx l lv c hl hL =>
    obtain ⟨a, cap, rfl, -⟩ := hl
    exact ⟨a, cap, rfl⟩
theorem cells6 {w : World} {g o : Nat} {c : PC} (h : ∀ j, j < 6 → w.cell? ⟨g, o + j, none⟩ = c.cells[j]?) :
    w.cell? ⟨g, o, none⟩ = some (.int .i64 c.op) ∧ w.cell? ⟨g, o + 1, none⟩ = some (.int .i64 c.lo) ∧ w.cell? ⟨g, o + 2, none⟩ = some (.int .i64 c.hi) ∧ w.cell? ⟨g, o + 3, none⟩ = some (.int .i64 c.mn) ∧ w.cell? ⟨g, o + 4, none⟩ = some (.int .i64 c.mx) ∧ w.cell? ⟨g, o + 5, none⟩ = some c.a :=
  ⟨h 0 (by omega), h 1 (by omega), h 2 (by omega), h 3 (by omega), h 4 (by omega), h 5 (by omega)⟩
theorem row6 {w : World} {g : Nat} {t : TypeId} {a b c d e f : Value} (h : w.heap[g]? = some (.cells [a, b, c, d, e, f].toArray t (0, 0))) :
    w.cell? ⟨g, 0, none⟩ = some a ∧ w.cell? ⟨g, 1, none⟩ = some b ∧ w.cell? ⟨g, 2, none⟩ = some c ∧ w.cell? ⟨g, 3, none⟩ = some d ∧ w.cell? ⟨g, 4, none⟩ = some e ∧ w.cell? ⟨g, 5, none⟩ = some f :=
  ⟨(cell_of_row w g _ _ t (0, 0) h).trans rfl, (cell_of_row w g _ _ t (0, 0) h).trans rfl, (cell_of_row w g _ _ t (0, 0) h).trans rfl, (cell_of_row w g _ _ t (0, 0) h).trans rfl, (cell_of_row w g _ _ t (0, 0) h).trans rfl, (cell_of_row w g _ _ t (0, 0) h).trans rfl⟩
end Go.Proofs.YtggolmamacoplaaDoor

namespace Go.Proofs.YtggolmamacoplaaDoor
open Go.RowKit
set_option maxHeartbeats 1000000
set_option maxRecDepth 100000

/-- The cells c read as the pattern; every block that is read is one of N. -/
inductive RdQ (N : Nat → Prop) (w : World) : PC → RX → Prop
  | mk (op lo hi mn mx : Int) (l : List RX) (lv : Value) (c : Nat → PC) (hl : SlX w lv l.length 6 (fun i => (c i).cells)) (hN : 0 < l.length → ∃ g o n cap, lv = .slice (some ⟨g, o, none⟩) n cap ∧ N g)
      (hL : ∀ i (hi : i < l.length), RdQ N w (c i) l[i]) : RdQ N w ⟨op, lo, hi, mn, mx, lv⟩ (.mk op lo hi mn mx l)
theorem RdQ.rd {N : Nat → Prop} {w : World} {c : PC} {p : RX} (h : RdQ N w c p) : RdP w c p := by
  induction h with
  | mk op lo hi mn mx l lv c hl hN hL ih => exact .mk op lo hi mn mx l lv c hl (fun i hi => ih i hi)
theorem RdP.q {w : World} {c : PC} {p : RX} (h : RdP w c p) : RdQ (fun g => g < w.heap.size) w c p := by
  induction h with
  | mk op lo hi mn mx l lv c hl hL ih =>
    refine .mk op lo hi mn mx l lv c hl (fun h0 => ?_) (fun i hi => ih i hi)
    obtain ⟨a, cap, rfl, -, -, -, h3⟩ := hl
    obtain ⟨g, o, rfl, hg, -⟩ := h3 h0
    exact ⟨g, o, _, cap, rfl, hg⟩
theorem RdQ.mono {N M : Nat → Prop} {w : World} {c : PC} {p : RX} (h : RdQ N w c p) (hm : ∀ g, N g → g < w.heap.size → M g) : RdQ M w c p := by
  induction h with
  | mk op lo hi mn mx l lv c hl hN hL ih =>
    refine .mk op lo hi mn mx l lv c hl (fun h0 => ?_) (fun i hi => ih i hi)
    obtain ⟨g, o, n, cap, rfl, hg⟩ := hN h0
    obtain ⟨a, cap2, he, -, -, -, h3⟩ := hl
    obtain ⟨g2, o2, rfl, hg2, -⟩ := h3 h0
    cases he
    exact ⟨g, o, _, _, rfl, hm g hg hg2⟩
/-- Where the blocks are kept the pattern is kept. -/
theorem RdQ.keep {N : Nat → Prop} {w w' : World} {c : PC} {p : RX} (h : RdQ N w c p) (hk : ∀ g, N g → g < w.heap.size → w'.heap[g]? = w.heap[g]?) : RdQ N w' c p := by
  induction h with
  | mk op lo hi mn mx l lv c hl hN hL ih =>
    refine .mk op lo hi mn mx l lv c ?_ hN (fun i hi => ih i hi)
    obtain ⟨a, cap, rfl, h1, h2, h0, h3⟩ := hl
    refine ⟨a, cap, rfl, h1, h2, h0, fun hl => ?_⟩
    obtain ⟨g, o, rfl, hg, hc⟩ := h3 hl
    obtain ⟨g2, o2, n2, cap2, he, hn⟩ := hN hl
    cases he
    have hh := hk g hn hg
    have hg' : g < w'.heap.size := by
      rcases Nat.lt_or_ge g w'.heap.size with h | h
      · exact h
      · rw [Array.getElem?_eq_none h, Array.getElem?_eq_getElem hg] at hh
        cases hh
    refine ⟨g, o, rfl, hg', fun i hi j hj => ?_⟩
    rw [← hc i hi j hj]
    unfold World.cell?
    rw [hh]
end Go.Proofs.YtggolmamacoplaaDoor

namespace Go.Proofs.YtggolmamacoplaaDoor
open Go.RowKit
set_option maxHeartbeats 1000000
set_option maxRecDepth 100000

theorem PC.len (c : PC) : c.cells.length = 6 := rfl
theorem flat_len : ∀ cs : List PC, (cs.flatMap PC.cells).length = cs.length * 6
  | [] => rfl
  | c :: t => by
    rw [List.flatMap_cons, List.length_append, flat_len t, PC.len, List.length_cons]
    omega
theorem flat_at : ∀ (cs : List PC) (i : Nat) (hi : i < cs.length) (j : Nat), j < 6 → (cs.flatMap PC.cells)[i * 6 + j]? = cs[i].cells[j]?
  | c :: t, 0, _, j, hj => by
    rw [List.flatMap_cons, List.getElem?_append_left (by rw [PC.len]; omega)]
    simp
  | c :: t, i + 1, hi, j, hj => by
    rw [List.flatMap_cons, List.getElem?_append_right (by rw [PC.len]; omega), PC.len, show (i + 1) * 6 + j - 6 = i * 6 + j by omega, flat_at t i (by simpa using hi) j hj]
    rfl
/-- v is an own row of the patterns ps, whose other blocks are of N and not the row's. -/
def OwnP (N : Nat → Prop) (B : Nat) (w : World) (v : Value) (cs : List PC) (ps : List RX) : Prop :=
  w.ownsRow B 24 6 v cs.length (cs.flatMap PC.cells) ∧ cs.length = ps.length ∧ ∀ i (h1 : i < cs.length) (h2 : i < ps.length), RdQ (fun g => N g ∧ some g ≠ v.ownBlock) w cs[i] ps[i]
theorem OwnP.nil (N : Nat → Prop) (B : Nat) (w : World) : OwnP N B w (.slice none 0 0) [] [] :=
  ⟨World.ownsRow_nil w B _ 6, rfl, fun _ h1 _ => absurd h1 (Nat.not_lt_zero _)⟩
theorem OwnP.slx {N : Nat → Prop} {B : Nat} {w : World} {v : Value} {cs : List PC} {ps : List RX} (h : OwnP N B w v cs ps) :
    SlX w v ps.length 6 (fun i => (cs.getD i ⟨0, 0, 0, 0, 0, v⟩).cells) ∧ (0 < ps.length → ∃ g o n cap, v = .slice (some ⟨g, o, none⟩) n cap ∧ B ≤ g ∧ g < w.heap.size) := by
  obtain ⟨ho, hlen, -⟩ := h
  rcases ho.2 with ⟨rfl, h0⟩ | ⟨g, cap, cur, rfl, hb, hg, h1, h2, h3, h4⟩
  · have hz : ps.length = 0 := by omega
    rw [hz]
    exact ⟨⟨none, 0, rfl, Nat.le_refl _, Nat.zero_le _, fun _ => rfl, fun h => absurd h (Nat.lt_irrefl _)⟩, fun h => absurd h (Nat.lt_irrefl _)⟩
  · have hgl : g < w.heap.size := (Array.getElem?_eq_some_iff.1 hg).1
    rw [← hlen]
    refine ⟨⟨some ⟨g, 0, none⟩, cap, rfl, h1, h2, (fun h => by cases h), fun _ => ⟨g, 0, rfl, hgl, fun i hi j hj => ?_⟩⟩, fun _ => ⟨g, 0, _, cap, rfl, hb, hgl⟩⟩
    have hx := ho.cells (g := g) rfl (i * 6 + j)
    have hf := flat_at cs i hi j hj
    have hjc : j < cs[i].cells.length := by rw [PC.len]; exact hj
    rw [List.getElem?_eq_getElem hjc] at hf
    have hc := hx _ hf
    have hadd : (⟨g, 0, none⟩ : Addr).add (i * 6 + j) = ⟨g, 0 + i * 6 + j, none⟩ := by
      unfold Addr.add
      split <;> simp_all
    rw [hadd] at hc
    rw [hc]
    show _ = (cs.getD i _).cells[j]?
    rw [List.getD_eq_getElem?_getD, List.getElem?_eq_getElem hi]
    exact (List.getElem?_eq_getElem hjc).symm
/-- A node over an own row. -/
theorem OwnP.node {N : Nat → Prop} {B : Nat} {w : World} {v : Value} {cs : List PC} {ps : List RX} (h : OwnP N B w v cs ps) (hN : ∀ g, B ≤ g → g < w.heap.size → N g) (op lo hi mn mx : Int) :
    RdQ N w ⟨op, lo, hi, mn, mx, v⟩ (.mk op lo hi mn mx ps) := by
  refine .mk op lo hi mn mx ps v _ h.slx.1 (fun h0 => ?_) (fun i hi => ?_)
  · obtain ⟨g, o, n, cap, he, h1, h2⟩ := h.slx.2 h0
    exact ⟨g, o, n, cap, he, hN g h1 h2⟩
  · have h1 : i < cs.length := by rw [h.2.1]; exact hi
    have := h.2.2 i h1 hi
    rw [List.getD_eq_getElem?_getD, List.getElem?_eq_getElem h1]
    exact this.mono (fun g hg _ => hg.1)
/-- Where its blocks are kept an own row is kept. -/
theorem OwnP.keep {N : Nat → Prop} {B : Nat} {w w' : World} {v : Value} {cs : List PC} {ps : List RX} (h : OwnP N B w v cs ps) (hk : ∀ g, (N g ∨ B ≤ g) → g < w.heap.size → w'.heap[g]? = w.heap[g]?) : OwnP N B w' v cs ps := by
  obtain ⟨ho, hlen, hr⟩ := h
  refine ⟨⟨ho.1, ?_⟩, hlen, fun i h1 h2 => (hr i h1 h2).keep (fun g hg hl => hk g (.inl hg.1) hl)⟩
  rcases ho.2 with h | ⟨g, cap, cur, rfl, hb, hg, rest⟩
  · exact .inl h
  · exact .inr ⟨g, cap, cur, rfl, hb, (hk g (.inr hb) (Array.getElem?_eq_some_iff.1 hg).1).trans hg, rest⟩
/-- append lays one more. -/
theorem OwnP.push {N : Nat → Prop} {B : Nat} {w w' : World} {v v' : Value} {cs : List PC} {ps : List RX} {c : PC} {p : RX} (h : OwnP N B w v cs ps) (hc : RdQ (fun g => N g ∧ some g ≠ v.ownBlock) w c p)
    (hg : w.grownBy w' v.ownBlock) (hown : w'.ownsRow B 24 6 v' (cs.length + 1) (cs.flatMap PC.cells ++ c.cells)) (hat : v'.ownBlock = v.ownBlock ∨ ∃ k, w.heap.size ≤ k ∧ v'.ownBlock = some k) : OwnP N B w' v' (cs ++ [c]) (ps ++ [p]) := by
  have hst : ∀ (c : PC) (p : RX), RdQ (fun g => N g ∧ some g ≠ v.ownBlock) w c p → RdQ (fun g => N g ∧ some g ≠ v'.ownBlock) w' c p := by
    intro c p hq
    have h2 : RdQ (fun g => (N g ∧ some g ≠ v.ownBlock) ∧ g < w.heap.size) w c p := hq.mono (fun g h1 h2 => ⟨h1, h2⟩)
    refine (h2.keep (fun g h1 h3 => hg.block g h3 h1.1.2)).mono (fun g h1 _ => ⟨h1.1.1, ?_⟩)
    rcases hat with he | ⟨k, hk, he⟩
    · rw [he]
      exact h1.1.2
    · rw [he]
      intro h4
      cases h4
      have := h1.2
      omega
  refine ⟨?_, by rw [List.length_append, List.length_append, h.2.1]; rfl, fun i h1 h2 => ?_⟩
  · rw [List.length_append, List.flatMap_append]
    simpa using hown
  · by_cases hi : i < cs.length
    · have h3 : i < ps.length := by rw [← h.2.1]; exact hi
      rw [List.getElem_append_left hi, List.getElem_append_left h3]
      exact hst _ _ (h.2.2 i hi h3)
    · have h3 : i = cs.length := by
        rw [List.length_append] at h1
        simp only [List.length_cons, List.length_nil] at h1
        omega
      subst h3
      have h4 : (cs ++ [c])[cs.length] = c := by simp
      have h5 : (ps ++ [p])[cs.length] = p := by simp [h.2.1]
      rw [h4, h5]
      exact hst _ _ hc
end Go.Proofs.YtggolmamacoplaaDoor

namespace Go.Proofs.YtggolmamacoplaaDoor
open Go.RowKit Go.ChangeShapes Go.Deep
set_option maxRecDepth 100000
set_option maxHeartbeats 1000000

section
variable {H : Type} {enc : TypeId × Value → H} {W : World}
/-- A pattern is read; N bounds its nodes, if B bounds the data. -/
theorem rdp_of : ∀ (m fuel : Nat) (cs : List Value) (x : DataW H × List MemPlace), fuel ≤ m → DataW.trod enc Tryd.prog W 0 (fun _ => true) true fuel 24 cs = some x →
    ∃ c p, cs = PC.cells c ∧ RdP W c p ∧ ∀ D, cntN D p ≤ Rows.uptoBulk x.1 := by
  intro m
  induction m with
  | zero =>
    intro fuel cs x hm h
    obtain rfl : fuel = 0 := by omega
    cases h
  | succ m ih =>
    intro fuel cs x hm h
    obtain ⟨xs, n, hn, hx, hlen, hxl, hf⟩ := DataW.trod_struct Tryd.underlying24 h
    have hxl6 : xs.length = 6 := hxl
    have hC : Tryd.prog.cellsOf 24 = 6 := by kernel_rfl
    have c3 : Tryd.prog.cellsOf 3 = 1 := by kernel_rfl
    have c7 : Tryd.prog.cellsOf 22 = 1 := by kernel_rfl
    rw [hC] at hlen
    match cs, hlen with
    | [a0, a1, a2, a3, a4, a5], _ =>
      have h0 : DataW.trod enc Tryd.prog W 0 (fun _ => true) true n 3 (([a0, a1, a2, a3, a4, a5].drop 0).take (Tryd.prog.cellsOf 3)) = some (xs[0]'(by omega)) := by rw [← List.getElem?_eq_getElem]; exact hf 0 _ rfl
      have h1 : DataW.trod enc Tryd.prog W 0 (fun _ => true) true n 3 (([a0, a1, a2, a3, a4, a5].drop 1).take (Tryd.prog.cellsOf 3)) = some (xs[1]'(by omega)) := by rw [← List.getElem?_eq_getElem]; exact hf 1 _ rfl
      have h2 : DataW.trod enc Tryd.prog W 0 (fun _ => true) true n 3 (([a0, a1, a2, a3, a4, a5].drop 2).take (Tryd.prog.cellsOf 3)) = some (xs[2]'(by omega)) := by rw [← List.getElem?_eq_getElem]; exact hf 2 _ rfl
      have h3 : DataW.trod enc Tryd.prog W 0 (fun _ => true) true n 3 (([a0, a1, a2, a3, a4, a5].drop 3).take (Tryd.prog.cellsOf 3)) = some (xs[3]'(by omega)) := by rw [← List.getElem?_eq_getElem]; exact hf 3 _ rfl
      have h4 : DataW.trod enc Tryd.prog W 0 (fun _ => true) true n 3 (([a0, a1, a2, a3, a4, a5].drop 4).take (Tryd.prog.cellsOf 3)) = some (xs[4]'(by omega)) := by rw [← List.getElem?_eq_getElem]; exact hf 4 _ rfl
      have h5 : DataW.trod enc Tryd.prog W 0 (fun _ => true) true n 22 (([a0, a1, a2, a3, a4, a5].drop 5).take (Tryd.prog.cellsOf 22)) = some (xs[5]'(by omega)) := by rw [← List.getElem?_eq_getElem]; exact hf 5 _ rfl
      rw [c3] at h0 h1 h2 h3 h4
      rw [c7] at h5
      obtain ⟨b0, e0, _, _⟩ := DataW.trod_int Tryd.underlying3 h0
      obtain ⟨b1, e1, _, _⟩ := DataW.trod_int Tryd.underlying3 h1
      obtain ⟨b2, e2, _, _⟩ := DataW.trod_int Tryd.underlying3 h2
      obtain ⟨b3, e3, _, _⟩ := DataW.trod_int Tryd.underlying3 h3
      obtain ⟨b4, e4, _, _⟩ := DataW.trod_int Tryd.underlying3 h4
      simp only [List.drop_zero, List.drop_succ_cons, List.take_succ_cons, List.take_zero, List.cons.injEq, and_true] at e0 e1 e2 e3 e4 h5
      subst e0 e1 e2 e3 e4
      have hbulk : Rows.uptoBulk (xs[5]'(by omega)).1 + 1 ≤ Rows.uptoBulk x.1 := by
        rw [hx]
        rw [Rows.uptoBulk]
        have := part_le (d := (xs[5]'(by omega)).1) (l := xs.map (·.1)) (List.mem_map_of_mem (List.getElem_mem _))
        omega
      rcases DataW.trod_slice Tryd.underlying22 h5 with ⟨h6, _⟩ | ⟨a, len, cap, elems, rest, k, hk, h6, hx5, _, hl, hm', hel, hat, hsp, _⟩
      · simp only [List.cons.injEq, and_true] at h6
        subst h6
        refine ⟨⟨b0, b1, b2, b3, b4, .slice none 0 0⟩, .mk b0 b1 b2 b3 b4 [], rfl, .mk b0 b1 b2 b3 b4 [] _ (fun _ => ⟨0, 0, 0, 0, 0, .slice none 0 0⟩) SlX.nil (fun _ h => absurd h (Nat.not_lt_zero _)), fun D => ?_⟩
        have h1 : cntN D (.mk b0 b1 b2 b3 b4 []) ≤ 1 := by
          cases D with
          | zero => rw [cntN]; omega
          | succ D => rw [cntN]; simp
        omega
      · simp only [List.cons.injEq, and_true] at h6
        subst h6
        have hr := (hsp rfl).1
        have at1 : ∀ i (hi : i < len), ∃ c p, W.cells? 0 (a.add (i * 6)) 6 = some (PC.cells c) ∧ RdP W c p ∧ ∀ D, cntN D p ≤ Rows.uptoBulk (elems[i]'(by omega)).1 := by
          intro i hi
          have key := hat i hi
          rw [List.getElem?_eq_getElem (by omega), hC] at key
          obtain ⟨cs', g1, g2⟩ := Option.bind_eq_some_iff.1 key
          obtain ⟨c, p, rfl, g3, g4⟩ := ih k cs' _ (by omega) g2
          exact ⟨c, p, g1, g3, g4⟩
        obtain ⟨cc, hcc⟩ := pick (α := PC) ⟨0, 0, 0, 0, 0, .slice none 0 0⟩ (p := fun i c => ∃ p, W.cells? 0 (a.add (i * 6)) 6 = some (PC.cells c) ∧ RdP W c p ∧ ∀ (hi : i < len) D, cntN D p ≤ Rows.uptoBulk (elems[i]'(by omega)).1)
          (fun i hi => by
            obtain ⟨c, p, g1, g2, g3⟩ := at1 i hi
            exact ⟨c, p, g1, g2, fun _ D => g3 D⟩)
        obtain ⟨pp, hpp⟩ := pick (α := RX) (.mk 0 0 0 0 0 []) hcc
        have hcell : ∀ i, i < len → ∀ j, j < 6 → W.cell? ((a.add (i * 6)).add j) = (cc i).cells[j]? := by
          intro i hi j hj
          obtain ⟨g1, _, _⟩ := hpp i hi
          exact (World.cells?_some g1).2.2 j hj
        have hlst : ((List.range len).map pp).length = len := by simp
        have hsl : SlX W (.slice (some a) len cap) len 6 (fun i => (cc i).cells) := by
          refine ⟨some a, cap, rfl, hl, hm', (fun h => by cases h), fun hpos => ?_⟩
          obtain ⟨g, o, sp⟩ := a
          have hsp2 : sp = none := by
            have h2 := hcell 0 hpos 0 (by omega)
            cases sp with
            | none => rfl
            | some q =>
              simp [Addr.add, World.cell?, PC.cells] at h2
              split at h2 <;> simp at h2
          subst hsp2
          have hadd : ∀ k, (⟨g, o, none⟩ : Addr).add k = ⟨g, o + k, none⟩ := fun k => by unfold Addr.add; split <;> simp_all
          have hc : ∀ i, i < len → ∀ j, j < 6 → W.cell? ⟨g, o + i * 6 + j, none⟩ = (cc i).cells[j]? := by
            intro i hi j hj
            have := hcell i hi j hj
            rw [Go.Deep.add_add, hadd] at this
            rw [Nat.add_assoc]
            exact this
          refine ⟨g, o, rfl, ?_, hc⟩
          have := hc 0 hpos 0 (by omega)
          exact cell_lt (v := .int .i64 (cc 0).op) this
        refine ⟨⟨b0, b1, b2, b3, b4, .slice (some a) len cap⟩, .mk b0 b1 b2 b3 b4 ((List.range len).map pp), rfl, ?_, fun D => ?_⟩
        · refine .mk b0 b1 b2 b3 b4 _ _ cc (by rw [hlst]; exact hsl) (fun i hi => ?_)
          have hi' : i < len := by rw [hlst] at hi; exact hi
          have : ((List.range len).map pp)[i] = pp i := by simp
          rw [this]
          exact (hpp i hi').2.1
        · cases D with
          | zero => rw [cntN]; omega
          | succ D =>
            rw [cntN]
            have hsum : (((List.range len).map pp).map (cntN D)).sum ≤ Rows.uptoBulkAll (elems.map (·.1)) := by
              have gen : ∀ (es : List (DataW H × List MemPlace)) (f : Nat → RX), (∀ i (hi : i < es.length), cntN D (f i) ≤ Rows.uptoBulk es[i].1) → (((List.range es.length).map f).map (cntN D)).sum ≤ Rows.uptoBulkAll (es.map (·.1)) := by
                intro es
                induction es with
                | nil => intro f _; simp [Rows.uptoBulkAll]
                | cons e t iht =>
                  intro f hf
                  have h1 := hf 0 (by simp)
                  have h2 := iht (fun i => f (i + 1)) (fun i hi => by have := hf (i + 1) (by simpa using hi); simpa using this)
                  have h4 : Rows.uptoBulk (e :: t)[0].fst = Rows.uptoBulk e.fst := rfl
                  rw [h4] at h1
                  have h5 : ((List.range (e :: t).length).map f).map (cntN D) = cntN D (f 0) :: ((List.range t.length).map fun i => f (i + 1)).map (cntN D) := by
                    rw [List.length_cons, List.range_succ_eq_map]
                    simp [Function.comp_def]
                  rw [h5, List.sum_cons, List.map_cons, Rows.uptoBulkAll]
                  omega
              have := gen elems pp (fun i hi => (hpp i (by omega)).2.2 (by omega) D)
              rw [hel] at this
              exact this
            have h2 : Rows.uptoBulkAll (elems.map (·.1)) + 1 ≤ Rows.uptoBulk (xs[5]'(by omega)).1 := by
              rw [hx5, Rows.uptoBulk]
              omega
            omega
end
end Go.Proofs.YtggolmamacoplaaDoor
