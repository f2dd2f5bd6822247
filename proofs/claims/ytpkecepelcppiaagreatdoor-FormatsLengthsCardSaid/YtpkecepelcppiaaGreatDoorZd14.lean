/- An argument that is a pattern is read, whatever its size; how many nodes there are where the data are few. Conditions: none. -/
import Derived.Test.YtpkecepelcppiaaGreatDoorZd1
import Derived.Test.YtpkecepelcppiaaGreatDoorZd6
import Derived.Test.YtpkecepelcppiaaGreatDoorZd8
import Derived.Test.YtpkecepelcppiaaGreatDoorZd11
import Derived.Laws.AppendOwn
import Derived.Maps.AppendAt
import Derived.Test.YtpkecepelcppiaaGreatDoorZd3
import Derived.Test.YtpkecepelcppiaaGreatDoorZd12
namespace Go.Proofs.YtpkecepelcppiaaGreatDoor
open Go.RowKit
set_option maxHeartbeats 1000000
set_option maxRecDepth 100000

/-! Patterns in memory. -/
def SlX (w : World) (v : Value) (n size : Nat) (c : Nat → List Value) : Prop :=
 ∃ (a : Option Addr) (cap : Nat), v = .slice a n cap ∧ n ≤ cap ∧ cap ≤ maxLen ∧ (a = none → cap = 0) ∧
  (0 < n → ∃ g o, a = some ⟨g, o, none⟩ ∧ g < w.heap.size ∧ ∀ i, i < n → ∀ j, j < size → w.cell? ⟨g, o + i * size + j, none⟩ = (c i)[j]?)
theorem SlX.below {w w' : World} {v : Value} {n size : Nat} {c : Nat → List Value} (h : SlX w v n size c) (hb : Below w.heap.size w w') : SlX w' v n size c := by
 obtain ⟨a, cap, hv, h1, h2, h0, h3⟩ := h
 refine ⟨a, cap, hv, h1, h2, h0, fun hl => ?_⟩
 obtain ⟨g, o, ha, hg, hc⟩ := h3 hl
 exact ⟨g, o, ha, Nat.lt_of_lt_of_le hg hb.size, fun i hi j hj => (hb.cell hg).trans (hc i hi j hj)⟩
theorem SlX.nil {w : World} {size : Nat} {c : Nat → List Value} : SlX w (.slice none 0 0) 0 size c :=
 ⟨none, 0, rfl, Nat.le_refl _, Nat.zero_le _, fun _ => rfl, fun h => absurd h (Nat.lt_irrefl _)⟩
structure PC where
 op : Int
 lo : Int
 hi : Int
 mn : Int
 mx : Int
 a : Value
def PC.cells (c : PC) : List Value := [.int .i64 c.op, .int .i64 c.lo, .int .i64 c.hi, .int .i64 c.mn, .int .i64 c.mx, c.a]
abbrev aggP (c : PC) : Value := .agg #[.int .i64 c.op, .int .i64 c.lo, .int .i64 c.hi, .int .i64 c.mn, .int .i64 c.mx, c.a]
inductive RdP (w : World) : PC → RX → Prop
 | mk (op lo hi mn mx : Int) (l : List RX) (lv : Value) (c : Nat → PC) (hl : SlX w lv l.length 6 (fun i => (c i).cells)) (hL : ∀ i (hi : i < l.length), RdP w (c i) l[i]) : RdP w ⟨op, lo, hi, mn, mx, lv⟩ (.mk op lo hi mn mx l)
theorem RdP.stays {w w' : World} {c : PC} {p : RX} (h : RdP w c p) (hb : Below w.heap.size w w') : RdP w' c p := by
 induction h with
 | mk op lo hi mn mx l lv c hl hL ih => exact .mk op lo hi mn mx l lv c (hl.below hb) (fun i hi => ih i hi)
theorem RdP.forms {w : World} {c : PC} {p : RX} (h : RdP w c p) : ∃ a cap, c.a = .slice a p.args.length cap := by
 cases h with
 | mk op lo hi mn mx l lv c hl hL =>
  obtain ⟨a, cap, rfl, -⟩ := hl
  exact ⟨a, cap, rfl⟩
theorem cells6 {w : World} {g o : Nat} {c : PC} (h : ∀ j, j < 6 → w.cell? ⟨g, o + j, none⟩ = c.cells[j]?) :
  w.cell? ⟨g, o, none⟩ = some (.int .i64 c.op) ∧ w.cell? ⟨g, o + 1, none⟩ = some (.int .i64 c.lo) ∧ w.cell? ⟨g, o + 2, none⟩ = some (.int .i64 c.hi) ∧ w.cell? ⟨g, o + 3, none⟩ = some (.int .i64 c.mn) ∧ w.cell? ⟨g, o + 4, none⟩ = some (.int .i64 c.mx) ∧ w.cell? ⟨g, o + 5, none⟩ = some c.a :=
 ⟨h 0 (by omega), h 1 (by omega), h 2 (by omega), h 3 (by omega), h 4 (by omega), h 5 (by omega)⟩
theorem row6 {w : World} {g : Nat} {t : TypeId} {a b c d e f : Value} (h : w.heap[g]? = some (.cells [a, b, c, d, e, f].toArray t (0, 0))) :
  w.cell? ⟨g, 0, none⟩ = some a ∧ w.cell? ⟨g, 1, none⟩ = some b ∧ w.cell? ⟨g, 2, none⟩ = some c ∧ w.cell? ⟨g, 3, none⟩ = some d ∧ w.cell? ⟨g, 4, none⟩ = some e ∧ w.cell? ⟨g, 5, none⟩ = some f :=
 ⟨(cell_of_row w g _ _ t (0, 0) h).trans rfl, (cell_of_row w g _ _ t (0, 0) h).trans rfl, (cell_of_row w g _ _ t (0, 0) h).trans rfl, (cell_of_row w g _ _ t (0, 0) h).trans rfl, (cell_of_row w g _ _ t (0, 0) h).trans rfl, (cell_of_row w g _ _ t (0, 0) h).trans rfl⟩
end Go.Proofs.YtpkecepelcppiaaGreatDoor

namespace Go.Proofs.YtpkecepelcppiaaGreatDoor
open Go.RowKit
set_option maxHeartbeats 1000000
set_option maxRecDepth 100000

inductive RdQ (N : Nat → Prop) (w : World) : PC → RX → Prop
 | mk (op lo hi mn mx : Int) (l : List RX) (lv : Value) (c : Nat → PC) (hl : SlX w lv l.length 6 (fun i => (c i).cells)) (hN : 0 < l.length → ∃ g o n cap, lv = .slice (some ⟨g, o, none⟩) n cap ∧ N g)
   (hL : ∀ i (hi : i < l.length), RdQ N w (c i) l[i]) : RdQ N w ⟨op, lo, hi, mn, mx, lv⟩ (.mk op lo hi mn mx l)
theorem RdQ.rd {N : Nat → Prop} {w : World} {c : PC} {p : RX} (h : RdQ N w c p) : RdP w c p := by
 induction h with
 | mk op lo hi mn mx l lv c hl hN hL ih => exact .mk op lo hi mn mx l lv c hl (fun i hi => ih i hi)
theorem RdP.q {w : World} {c : PC} {p : RX} (h : RdP w c p) : RdQ (fun g => g < w.heap.size) w c p := by
 induction h with
 | mk op lo hi mn mx l lv c hl hL ih =>
  refine .mk op lo hi mn mx l lv c hl (fun h0 => ?_) (fun i hi => ih i hi)
  obtain ⟨a, cap, rfl, -, -, -, h3⟩ := hl
  obtain ⟨g, o, rfl, hg, -⟩ := h3 h0
  exact ⟨g, o, _, cap, rfl, hg⟩
theorem RdQ.mono {N M : Nat → Prop} {w : World} {c : PC} {p : RX} (h : RdQ N w c p) (hm : ∀ g, N g → g < w.heap.size → M g) : RdQ M w c p := by
 induction h with
 | mk op lo hi mn mx l lv c hl hN hL ih =>
  refine .mk op lo hi mn mx l lv c hl (fun h0 => ?_) (fun i hi => ih i hi)
  obtain ⟨g, o, n, cap, rfl, hg⟩ := hN h0
  obtain ⟨a, cap2, he, -, -, -, h3⟩ := hl
  obtain ⟨g2, o2, rfl, hg2, -⟩ := h3 h0
  cases he
  exact ⟨g, o, _, _, rfl, hm g hg hg2⟩
theorem RdQ.keep {N : Nat → Prop} {w w' : World} {c : PC} {p : RX} (h : RdQ N w c p) (hk : ∀ g, N g → g < w.heap.size → w'.heap[g]? = w.heap[g]?) : RdQ N w' c p := by
 induction h with
 | mk op lo hi mn mx l lv c hl hN hL ih =>
  refine .mk op lo hi mn mx l lv c ?_ hN (fun i hi => ih i hi)
  obtain ⟨a, cap, rfl, h1, h2, h0, h3⟩ := hl
  refine ⟨a, cap, rfl, h1, h2, h0, fun hl => ?_⟩
  obtain ⟨g, o, rfl, hg, hc⟩ := h3 hl
  obtain ⟨g2, o2, n2, cap2, he, hn⟩ := hN hl
  cases he
  have hh := hk g hn hg
  have hg' : g < w'.heap.size := by
   rcases Nat.lt_or_ge g w'.heap.size with h | h
   ·exact h
   ·rw [Array.getElem?_eq_none h, Array.getElem?_eq_getElem hg] at hh
    cases hh
  refine ⟨g, o, rfl, hg', fun i hi j hj => ?_⟩
  rw [← hc i hi j hj]
  unfold World.cell?
  rw [hh]
end Go.Proofs.YtpkecepelcppiaaGreatDoor

namespace Go.Proofs.YtpkecepelcppiaaGreatDoor
open Go.RowKit
set_option maxHeartbeats 1000000
set_option maxRecDepth 100000

theorem PC.len (c : PC) : c.cells.length = 6 := rfl
theorem flat_at : ∀ (cs : List PC) (i : Nat) (hi : i < cs.length) (j : Nat), j < 6 → (cs.flatMap PC.cells)[i * 6 + j]? = cs[i].cells[j]?
 | c :: t, 0, _, j, hj => by
  rw [List.flatMap_cons, List.getElem?_append_left (by rw [PC.len]; omega)]
  simp
 | c :: t, i + 1, hi, j, hj => by
  rw [List.flatMap_cons, List.getElem?_append_right (by rw [PC.len]; omega), PC.len, show (i + 1) * 6 + j - 6 = i * 6 + j by omega, flat_at t i (by simpa using hi) j hj]
  rfl
def OwnP (N : Nat → Prop) (B : Nat) (w : World) (v : Value) (cs : List PC) (ps : List RX) : Prop :=
 w.ownsRow B 45 6 v cs.length (cs.flatMap PC.cells) ∧ cs.length = ps.length ∧ ∀ i (h1 : i < cs.length) (h2 : i < ps.length), RdQ (fun g => N g ∧ some g ≠ v.ownBlock) w cs[i] ps[i]
theorem OwnP.nil (N : Nat → Prop) (B : Nat) (w : World) : OwnP N B w (.slice none 0 0) [] [] :=
 ⟨World.ownsRow_nil w B _ 6, rfl, fun _ h1 _ => absurd h1 (Nat.not_lt_zero _)⟩
theorem OwnP.slx {N : Nat → Prop} {B : Nat} {w : World} {v : Value} {cs : List PC} {ps : List RX} (h : OwnP N B w v cs ps) :
  SlX w v ps.length 6 (fun i => (cs.getD i ⟨0, 0, 0, 0, 0, v⟩).cells) ∧ (0 < ps.length → ∃ g o n cap, v = .slice (some ⟨g, o, none⟩) n cap ∧ B ≤ g ∧ g < w.heap.size) := by
 obtain ⟨ho, hlen, -⟩ := h
 rcases ho.2 with ⟨rfl, h0⟩ | ⟨g, cap, cur, rfl, hb, hg, h1, h2, h3, h4⟩
 ·have hz : ps.length = 0 := by omega
  rw [hz]
  exact ⟨⟨none, 0, rfl, Nat.le_refl _, Nat.zero_le _, fun _ => rfl, fun h => absurd h (Nat.lt_irrefl _)⟩, fun h => absurd h (Nat.lt_irrefl _)⟩
 ·have hgl : g < w.heap.size := (Array.getElem?_eq_some_iff.1 hg).1
  rw [← hlen]
  refine ⟨⟨some ⟨g, 0, none⟩, cap, rfl, h1, h2, (fun h => by cases h), fun _ => ⟨g, 0, rfl, hgl, fun i hi j hj => ?_⟩⟩, fun _ => ⟨g, 0, _, cap, rfl, hb, hgl⟩⟩
  have hx := ho.cells (g := g) rfl (i * 6 + j)
  have hf := flat_at cs i hi j hj
  have hjc : j < cs[i].cells.length := by rw [PC.len]; exact hj
  rw [List.getElem?_eq_getElem hjc] at hf
  have hc := hx _ hf
  have hadd : (⟨g, 0, none⟩ : Addr).add (i * 6 + j) = ⟨g, 0 + i * 6 + j, none⟩ := by
   unfold Addr.add
   split <;> simp_all
  rw [hadd] at hc
  rw [hc]
  show _ = (cs.getD i _).cells[j]?
  rw [List.getD_eq_getElem?_getD, List.getElem?_eq_getElem hi]
  exact (List.getElem?_eq_getElem hjc).symm
theorem OwnP.keep {N : Nat → Prop} {B : Nat} {w w' : World} {v : Value} {cs : List PC} {ps : List RX} (h : OwnP N B w v cs ps) (hk : ∀ g, (N g ∨ B ≤ g) → g < w.heap.size → w'.heap[g]? = w.heap[g]?) : OwnP N B w' v cs ps := by
 obtain ⟨ho, hlen, hr⟩ := h
 refine ⟨⟨ho.1, ?_⟩, hlen, fun i h1 h2 => (hr i h1 h2).keep (fun g hg hl => hk g (.inl hg.1) hl)⟩
 rcases ho.2 with h | ⟨g, cap, cur, rfl, hb, hg, rest⟩
 ·exact .inl h
 ·exact .inr ⟨g, cap, cur, rfl, hb, (hk g (.inr hb) (Array.getElem?_eq_some_iff.1 hg).1).trans hg, rest⟩
theorem OwnP.push {N : Nat → Prop} {B : Nat} {w w' : World} {v v' : Value} {cs : List PC} {ps : List RX} {c : PC} {p : RX} (h : OwnP N B w v cs ps) (hc : RdQ (fun g => N g ∧ some g ≠ v.ownBlock) w c p)
  (hg : w.grownBy w' v.ownBlock) (hown : w'.ownsRow B 45 6 v' (cs.length + 1) (cs.flatMap PC.cells ++ c.cells)) (hat : v'.ownBlock = v.ownBlock ∨ ∃ k, w.heap.size ≤ k ∧ v'.ownBlock = some k) : OwnP N B w' v' (cs ++ [c]) (ps ++ [p]) := by
 have hst : ∀ (c : PC) (p : RX), RdQ (fun g => N g ∧ some g ≠ v.ownBlock) w c p → RdQ (fun g => N g ∧ some g ≠ v'.ownBlock) w' c p := by
  intro c p hq
  have h2 : RdQ (fun g => (N g ∧ some g ≠ v.ownBlock) ∧ g < w.heap.size) w c p := hq.mono (fun g h1 h2 => ⟨h1, h2⟩)
  refine (h2.keep (fun g h1 h3 => hg.block g h3 h1.1.2)).mono (fun g h1 _ => ⟨h1.1.1, ?_⟩)
  rcases hat with he | ⟨k, hk, he⟩
  ·rw [he]
   exact h1.1.2
  ·rw [he]
   intro h4
   cases h4
   have := h1.2
   omega
 refine ⟨?_, by rw [List.length_append, List.length_append, h.2.1]; rfl, fun i h1 h2 => ?_⟩
 ·rw [List.length_append, List.flatMap_append]
  simpa using hown
 ·by_cases hi : i < cs.length
  ·have h3 : i < ps.length := by rw [← h.2.1]; exact hi
   rw [List.getElem_append_left hi, List.getElem_append_left h3]
   exact hst _ _ (h.2.2 i hi h3)
  ·have h3 : i = cs.length := by
    rw [List.length_append] at h1
    simp only [List.length_cons, List.length_nil] at h1
    omega
   subst h3
   have h4 : (cs ++ [c])[cs.length] = c := by simp
   have h5 : (ps ++ [p])[cs.length] = p := by simp [h.2.1]
   rw [h4, h5]
   exact hst _ _ hc
end Go.Proofs.YtpkecepelcppiaaGreatDoor

namespace Go.Proofs.YtpkecepelcppiaaGreatDoor
open Go.RowKit Go.ChangeShapes Go.Deep
set_option maxRecDepth 100000
set_option maxHeartbeats 1000000

section
variable {H : Type} {enc : TypeId × Value → H} {W : World}
end
end Go.Proofs.YtpkecepelcppiaaGreatDoor
