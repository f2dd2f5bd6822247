/- What stands while the least automaton is sought: rows of rows. No walk. Conditions: none. -/
import Derived.Test.YtpkecepelcppiaaGreatDoorZd20
import Derived.Test.YtpkecepelcppiaaGreatDoorZd1
import Derived.Deep.OwnRows
import Derived.Maps.Views
import Derived.Maps.OwnSet
import Derived.Test.YtpkecepelcppiaaGreatDoorZd19
import Derived.ChangeKeysEq
import Derived.Test.YtpkecepelcppiaaGreatDoorZd11
namespace Go.Proofs.YtpkecepelcppiaaGreatDoor
open Go.RowKit Go.Shelf
set_option maxHeartbeats 4000000
set_option maxRecDepth 100000

theorem flatG_len {α : Type} {f : α → List Value} {sz : Nat} (hf : ∀ a, (f a).length = sz) : ∀ l : List α, (l.flatMap f).length = l.length * sz
 | [] => by simp
 | c :: t => by
  rw [List.flatMap_cons, List.length_append, flatG_len hf t, hf, List.length_cons, Nat.succ_mul]
  omega
theorem flatG_at {α : Type} {f : α → List Value} {sz : Nat} (hf : ∀ a, (f a).length = sz) : ∀ (l : List α) (i : Nat) (hi : i < l.length) (j : Nat), j < sz → (l.flatMap f)[i * sz + j]? = (f l[i])[j]?
 | c :: t, 0, _, j, hj => by
  rw [List.flatMap_cons, List.getElem?_append_left (by rw [hf]; omega)]
  simp
 | c :: t, i + 1, hi, j, hj => by
  rw [List.flatMap_cons, List.getElem?_append_right (by rw [hf, Nat.succ_mul]; omega), hf, show (i + 1) * sz + j - sz = i * sz + j by rw [Nat.succ_mul]; omega, flatG_at hf t i (by simpa using hi) j hj]
  rfl
def cellsAt {α : Type} (f : α → List Value) (l : List α) (i : Nat) : List Value := match l[i]? with
 | some a => f a
 | none => []
theorem cellsAt_eq {α : Type} (f : α → List Value) (l : List α) (i : Nat) (hi : i < l.length) : cellsAt f l i = f l[i] := by
 unfold cellsAt
 rw [List.getElem?_eq_getElem hi]
def OwnL {α : Type} (B : Nat) (e : TypeId) (sz : Nat) (f : α → List Value) (w : World) (v : Value) (l : List α) : Prop := w.ownsRow B e sz v l.length (l.flatMap f)
theorem OwnL.nil {α : Type} (B : Nat) (e : TypeId) (sz : Nat) (f : α → List Value) (w : World) : OwnL B e sz f w (.slice none 0 0) [] := World.ownsRow_nil w B e sz
theorem OwnL.form {α : Type} {B : Nat} {e : TypeId} {sz : Nat} {f : α → List Value} {w : World} {v : Value} {l : List α} (h : OwnL B e sz f w v l) : ∃ a cap, v = .slice a l.length cap ∧ l.length ≤ cap ∧ cap ≤ maxLen := by
 rcases h.2 with ⟨rfl, h0⟩ | ⟨g, cap, cur, rfl, hb, hg, h1, h2, h3⟩
 ·exact ⟨none, 0, by rw [h0], by omega, by simp [maxLen]⟩
 ·exact ⟨_, cap, rfl, h1, h2⟩
theorem OwnL.slx {α : Type} {B : Nat} {e : TypeId} {sz : Nat} {f : α → List Value} {w : World} {v : Value} {l : List α} (h : OwnL B e sz f w v l) (hf : ∀ a, (f a).length = sz) :
  SlX w v l.length sz (cellsAt f l) ∧ (0 < l.length → ∃ g cap, v = .slice (some ⟨g, 0, none⟩) l.length cap ∧ B ≤ g ∧ g < w.heap.size) := by
 rcases h.2 with ⟨rfl, h0⟩ | ⟨g, cap, cur, rfl, hb, hg, h1, h2, h3, h4⟩
 ·rw [h0]
  exact ⟨⟨none, 0, rfl, Nat.le_refl _, Nat.zero_le _, fun _ => rfl, fun h => absurd h (Nat.lt_irrefl _)⟩, fun h => absurd h (Nat.lt_irrefl _)⟩
 ·have hgl : g < w.heap.size := (Array.getElem?_eq_some_iff.1 hg).1
  refine ⟨⟨some ⟨g, 0, none⟩, cap, rfl, h1, h2, (fun h => by cases h), fun _ => ⟨g, 0, rfl, hgl, fun i hi j hj => ?_⟩⟩, fun _ => ⟨g, cap, rfl, hb, hgl⟩⟩
  have hx := h.cells (g := g) rfl (i * sz + j)
  have hfl := flatG_at hf l i hi j hj
  have hjc : j < (f l[i]).length := by rw [hf]; exact hj
  rw [List.getElem?_eq_getElem hjc] at hfl
  have hc := hx _ hfl
  have hadd : (⟨g, 0, none⟩ : Addr).add (i * sz + j) = ⟨g, 0 + i * sz + j, none⟩ := by
   unfold Addr.add
   split <;> simp_all
  rw [hadd] at hc
  rw [hc, cellsAt_eq f l i hi]
  exact (List.getElem?_eq_getElem hjc).symm
theorem OwnL.keep {α : Type} {B : Nat} {e : TypeId} {sz : Nat} {f : α → List Value} {w w' : World} {v : Value} {l : List α} (h : OwnL B e sz f w v l) (hk : ∀ g, v.ownBlock = some g → B ≤ g → g < w.heap.size → w'.heap[g]? = w.heap[g]?) : OwnL B e sz f w' v l := by
 refine ⟨h.1, ?_⟩
 rcases h.2 with h | ⟨g, cap, cur, rfl, hb, hg, rest⟩
 ·exact .inl h
 ·exact .inr ⟨g, cap, cur, rfl, hb, (hk g rfl hb (Array.getElem?_eq_some_iff.1 hg).1).trans hg, rest⟩
theorem OwnL.stay {α : Type} {B : Nat} {e : TypeId} {sz : Nat} {f : α → List Value} {w w' : World} {v : Value} {l : List α} (h : OwnL B e sz f w v l) (hb : Below w.heap.size w w') : OwnL B e sz f w' v l := h.keep (fun g _ _ hg => hb.block g hg)
theorem OwnL.lt {α : Type} {B : Nat} {e : TypeId} {sz : Nat} {f : α → List Value} {w : World} {v : Value} {l : List α} (h : OwnL B e sz f w v l) (g : Nat) (hg : v.ownBlock = some g) : B ≤ g ∧ g < w.heap.size := World.ownsRow.lt h g hg
theorem wp_pushL {α : Type} {o : Oper} {a : Act} {w : World} {K : Act → World → Prop} {Q : Exit → Act → World → Prop} {B k sz : Nat} {S e : TypeId} {f : α → List Value} {v : Value} {l : List α} {x : α} (s y : Operand)
  (ho : o.op = .call { callee := .builtin .append, args := #[s, y], argTypes := #[S, S] }) (hel : Elem Tryz.prog S e sz)
  (hf : ∀ a, (f a).length = sz) (_hsz0 : 0 < sz) (hone : ∀ u ∈ f x, u.oneCell' = true) (hown : OwnL B e sz f w v l) (hs : a.eval s = v) (hx : a.eval y = .slice (some ⟨k, 0, none⟩) 1 1) (hk : k = w.heap.size) (hn : l.length < 1000000000) (hbase : B ≤ w.heap.size)
  (h : ∀ v' w', OwnL B e sz f w' v' (l ++ [x]) → w.grownBy w' v.ownBlock → (∃ A cap, v' = .slice A (l.length + 1) cap) → (v'.ownBlock = v.ownBlock ∨ ∃ k, w.heap.size ≤ k ∧ v'.ownBlock = some k) → K (a.put o.dst v') w') : o.wp Tryz.prog a (w.alloc (.cells (f x).toArray e)) K Q := by
 subst hk
 obtain ⟨ht, hsz, i, z, hi, hz, hsi, hby, hzs⟩ := hel
 refine wp_append_at s y _ ho B _ i z sz i.bytes ht hi hz hsi rfl hzs hsz v l.length _ hs (hown.alloc _) ⟨w.heap.size, 0, none⟩ 1 1 (f x) hx (by rw [hf, Nat.one_mul]) (new_cells w (f x) _) hone (by simp only [maxLen]; omega) (Nat.le_trans (Nat.mul_le_mul (show l.length + 1 ≤ 1000000000 by omega) hby) (by decide)) (by simp; omega) ?_
 intro v' w' hown' hg hat
 have hg' : w.grownBy w' v.ownBlock := ⟨hg.os, hg.tape, hg.output, Nat.le_trans (by simp) hg.size, fun k hk hne => (hg.block k (by simp; omega) hne).trans (heap_alloc_old w _ hk)⟩
 have hat' : v'.ownBlock = v.ownBlock ∨ ∃ k, w.heap.size ≤ k ∧ v'.ownBlock = some k := by
  rcases hat with h | h
  ·exact .inl h
  ·exact .inr ⟨_, by simp, h⟩
 refine h v' w' ?_ hg' ?_ hat'
 ·unfold OwnL
  rw [List.length_append, List.flatMap_append, List.flatMap_cons, List.flatMap_nil, List.append_nil]
  exact hown'
 ·rcases hown'.2 with ⟨_, h0⟩ | ⟨g, cap, cur, hv, _⟩
  ·omega
  ·exact ⟨_, _, hv⟩
theorem wpl_pushL {α : Type} {ops : Array Oper} {rest : List Oper} {o : Oper} {a : Act} {w : World} {Q : Exit → Act → World → Prop} {B k sz : Nat} {S e : TypeId} {f : α → List Value} {v : Value} {l : List α} {x : α} (s y : Operand)
  (hgd : o.guard = none) (ho : o.op = .call { callee := .builtin .append, args := #[s, y], argTypes := #[S, S] }) (hel : Elem Tryz.prog S e sz)
  (hf : ∀ a, (f a).length = sz) (hsz0 : 0 < sz) (hone : ∀ u ∈ f x, u.oneCell' = true) (hown : OwnL B e sz f w v l) (hs : a.eval s = v) (hx : a.eval y = .slice (some ⟨k, 0, none⟩) 1 1) (hk : k = w.heap.size) (hn : l.length < 1000000000) (hbase : B ≤ w.heap.size)
  (h : ∀ v' w', OwnL B e sz f w' v' (l ++ [x]) → w.grownBy w' v.ownBlock → (∃ A cap, v' = .slice A (l.length + 1) cap) → (v'.ownBlock = v.ownBlock ∨ ∃ k, w.heap.size ≤ k ∧ v'.ownBlock = some k) → wpList Tryz.prog ops Q rest (a.put o.dst v') w') :
  wpList Tryz.prog ops Q (o :: rest) a (w.alloc (.cells (f x).toArray e)) := by
 refine wpList_plain hgd fun K hK => ?_
 exact wp_pushL s y ho hel hf hsz0 hone hown hs hx hk hn hbase (fun v' w' h1 h2 h3 h4 => hK _ _ (h v' w' h1 h2 h3 h4))
/-! Automata in memory. -/
def arcV (a : ArcA) : List Value := [.int .i64 (a.lo : Int), .int .i64 (a.hi : Int), .int .i64 (a.nx : Int)]
theorem arcV_len (a : ArcA) : (arcV a).length = 3 := rfl
theorem arcV_one (a : ArcA) : ∀ u ∈ arcV a, u.oneCell' = true := by
 intro u hu
 simp only [arcV, List.mem_cons, List.not_mem_nil, or_false] at hu
 rcases hu with rfl | rfl | rfl <;> rfl
def natV (n : Nat) : List Value := [.int .i64 (n : Int)]
theorem natV_len (n : Nat) : (natV n).length = 1 := rfl
theorem natV_one (n : Nat) : ∀ u ∈ natV n, u.oneCell' = true := by
 intro u hu
 simp only [natV, List.mem_cons, List.not_mem_nil, or_false] at hu
 rw [hu]
 rfl
def RdA (N : Nat → Prop) (w : World) (v : Value) (l : List ArcA) : Prop :=
 SlX w v l.length 3 (cellsAt arcV l) ∧ (0 < l.length → ∃ g o n cap, v = .slice (some ⟨g, o, none⟩) n cap ∧ N g)
def RdS (N : Nat → Prop) (w : World) (v : Value) (m : List StA) : Prop :=
 ∃ cc : Nat → Value, SlX w v m.length 2 (fun i => match m[i]? with | some s => [.bool s.acc, cc i] | none => []) ∧ (0 < m.length → ∃ g o n cap, v = .slice (some ⟨g, o, none⟩) n cap ∧ N g) ∧ ∀ i (hi : i < m.length), RdA N w (cc i) m[i].arcs
theorem RdA.keep {N : Nat → Prop} {w w' : World} {v : Value} {l : List ArcA} (h : RdA N w v l) (hs : ∀ g, N g → g < w.heap.size → w'.heap[g]? = w.heap[g]?) : RdA N w' v l := by
 obtain ⟨⟨a, cap, rfl, h1, h2, h0, h3⟩, hN⟩ := h
 refine ⟨⟨a, cap, rfl, h1, h2, h0, fun hl => ?_⟩, hN⟩
 obtain ⟨g, o, rfl, hg, hc⟩ := h3 hl
 obtain ⟨g2, o2, n2, cap2, he, hn⟩ := hN hl
 cases he
 have hh := hs g hn hg
 have hg' : g < w'.heap.size := by
  rcases Nat.lt_or_ge g w'.heap.size with h | h
  ·exact h
  ·rw [Array.getElem?_eq_none h, Array.getElem?_eq_getElem hg] at hh
   cases hh
 refine ⟨g, o, rfl, hg', fun i hi j hj => ?_⟩
 rw [← hc i hi j hj]
 unfold World.cell?
 rw [hh]
theorem RdA.mono {N M : Nat → Prop} {w : World} {v : Value} {l : List ArcA} (h : RdA N w v l) (hm : ∀ g, N g → g < w.heap.size → M g) : RdA M w v l := by
 refine ⟨h.1, fun hl => ?_⟩
 obtain ⟨g, o, n, cap, rfl, hg⟩ := h.2 hl
 obtain ⟨a, cap2, he, -, -, -, h3⟩ := h.1
 obtain ⟨g2, o2, rfl, hg2, -⟩ := h3 hl
 cases he
 exact ⟨g, o, _, _, rfl, hm g hg hg2⟩
theorem RdS.keep {N : Nat → Prop} {w w' : World} {v : Value} {m : List StA} (h : RdS N w v m) (hs : ∀ g, N g → g < w.heap.size → w'.heap[g]? = w.heap[g]?) : RdS N w' v m := by
 obtain ⟨cc, ⟨a, cap, rfl, h1, h2, h0, h3⟩, hN, hR⟩ := h
 refine ⟨cc, ⟨a, cap, rfl, h1, h2, h0, fun hl => ?_⟩, hN, fun i hi => (hR i hi).keep hs⟩
 obtain ⟨g, o, rfl, hg, hc⟩ := h3 hl
 obtain ⟨g2, o2, n2, cap2, he, hn⟩ := hN hl
 cases he
 have hh := hs g hn hg
 have hg' : g < w'.heap.size := by
  rcases Nat.lt_or_ge g w'.heap.size with h | h
  ·exact h
  ·rw [Array.getElem?_eq_none h, Array.getElem?_eq_getElem hg] at hh
   cases hh
 refine ⟨g, o, rfl, hg', fun i hi j hj => ?_⟩
 rw [← hc i hi j hj]
 unfold World.cell?
 rw [hh]
theorem RdS.mono {N M : Nat → Prop} {w : World} {v : Value} {m : List StA} (h : RdS N w v m) (hm : ∀ g, N g → g < w.heap.size → M g) : RdS M w v m := by
 obtain ⟨cc, hs, hN, hR⟩ := h
 refine ⟨cc, hs, fun hl => ?_, fun i hi => (hR i hi).mono hm⟩
 obtain ⟨g, o, n, cap, rfl, hg⟩ := hN hl
 obtain ⟨a, cap2, he, -, -, -, h3⟩ := hs
 obtain ⟨g2, o2, rfl, hg2, -⟩ := h3 hl
 cases he
 exact ⟨g, o, _, _, rfl, hm g hg hg2⟩
theorem RdS.stay {N : Nat → Prop} {w w' : World} {v : Value} {m : List StA} (h : RdS N w v m) (hb : Below w.heap.size w w') : RdS N w' v m := h.keep (fun g _ hg => hb.block g hg)
theorem RdA.stay {N : Nat → Prop} {w w' : World} {v : Value} {l : List ArcA} (h : RdA N w v l) (hb : Below w.heap.size w w') : RdA N w' v l := h.keep (fun g _ hg => hb.block g hg)
theorem RdA.form {N : Nat → Prop} {w : World} {v : Value} {l : List ArcA} (h : RdA N w v l) : ∃ a cap, v = .slice a l.length cap ∧ l.length ≤ maxLen := by
 obtain ⟨⟨a, cap, rfl, h1, h2, -⟩, -⟩ := h
 exact ⟨a, cap, rfl, by omega⟩
theorem RdS.form {N : Nat → Prop} {w : World} {v : Value} {m : List StA} (h : RdS N w v m) : ∃ a cap, v = .slice a m.length cap ∧ m.length ≤ maxLen := by
 obtain ⟨cc, ⟨a, cap, rfl, h1, h2, -⟩, -⟩ := h
 exact ⟨a, cap, rfl, by omega⟩
theorem OwnL.arcs {N : Nat → Prop} {B : Nat} {e : TypeId} {w : World} {v : Value} {l : List ArcA} (h : OwnL B e 3 arcV w v l) (hN : ∀ g, B ≤ g → g < w.heap.size → N g) : RdA N w v l := by
 obtain ⟨h1, h2⟩ := h.slx arcV_len
 refine ⟨h1, fun hl => ?_⟩
 obtain ⟨g, cap, rfl, hb, hg⟩ := h2 hl
 exact ⟨g, 0, _, cap, rfl, hN g hb hg⟩
theorem RdA.at_ {N : Nat → Prop} {w : World} {a : Option Addr} {n cap : Nat} {l : List ArcA} (h : RdA N w (.slice a n cap) l) (i : Nat) (hi : i < l.length) :
  ∃ g o, a = some ⟨g, o, none⟩ ∧ w.cell? ⟨g, o + i * 3, none⟩ = some (.int .i64 (l[i].lo : Int)) ∧ w.cell? ⟨g, o + i * 3 + 1, none⟩ = some (.int .i64 (l[i].hi : Int)) ∧ w.cell? ⟨g, o + i * 3 + 2, none⟩ = some (.int .i64 (l[i].nx : Int)) := by
 obtain ⟨a', cap', he, -, -, -, h3⟩ := h.1
 cases he
 obtain ⟨g, o, rfl, hg, hc⟩ := h3 (by omega)
 have h4 := hc i hi
 rw [cellsAt_eq arcV l i hi] at h4
 exact ⟨g, o, rfl, h4 0 (by omega), h4 1 (by omega), h4 2 (by omega)⟩
theorem RdS.at_ {N : Nat → Prop} {w : World} {a : Option Addr} {n cap : Nat} {m : List StA} (h : RdS N w (.slice a n cap) m) (i : Nat) (hi : i < m.length) :
  ∃ g o b k c, a = some ⟨g, o, none⟩ ∧ w.cell? ⟨g, o + i * 2, none⟩ = some (.bool m[i].acc) ∧ w.cell? ⟨g, o + i * 2 + 1, none⟩ = some (.slice b k c) ∧ k = m[i].arcs.length ∧ RdA N w (.slice b k c) m[i].arcs := by
 obtain ⟨cc, hs, -, hR⟩ := h
 obtain ⟨a', cap', he, -, -, -, h3⟩ := hs
 cases he
 obtain ⟨g, o, rfl, hg, hc⟩ := h3 (by omega)
 have h4 := hc i hi
 dsimp only at h4
 rw [List.getElem?_eq_getElem hi] at h4
 obtain ⟨b, c, hb, -⟩ := (hR i hi).form
 have h5 := hR i hi
 rw [hb] at h5
 refine ⟨g, o, b, _, c, rfl, h4 0 (by omega), ?_, rfl, h5⟩
 rw [← hb]
 exact h4 1 (by omega)
theorem slx_block {α : Type} {f : α → List Value} {sz : Nat} (hf : ∀ a, (f a).length = sz) {w : World} {g : Nat} {T : TypeId} {l : List α} (h : w.heap[g]? = some (.cells (l.flatMap f).toArray T (0, 0))) (hl : l.length ≤ maxLen) :
  SlX w (.slice (some ⟨g, 0, none⟩) l.length l.length) l.length sz (cellsAt f l) := by
 refine ⟨some ⟨g, 0, none⟩, _, rfl, Nat.le_refl _, hl, (fun h => by cases h), fun _ => ⟨g, 0, rfl, (Array.getElem?_eq_some_iff.1 h).1, fun i hi j hj => ?_⟩⟩
 rw [cellsAt_eq f l i hi, ← flatG_at hf l i hi j hj, cell_of_row w g _ _ _ (0, 0) h, Nat.zero_add]
 exact List.getElem?_toArray
/-! Rows of strings. -/
def strV (s : ByteArray) : List Value := [.string s]
theorem strV_len (s : ByteArray) : (strV s).length = 1 := rfl
theorem strV_one (s : ByteArray) : ∀ u ∈ strV s, u.oneCell' = true := by
 intro u hu
 simp only [strV, List.mem_cons, List.not_mem_nil, or_false] at hu
 rw [hu]
 rfl
def RdT (w : World) (v : Value) (l : List ByteArray) : Prop := SlX w v l.length 1 (cellsAt strV l)
theorem RdT.stay {w w' : World} {v : Value} {l : List ByteArray} (h : RdT w v l) (hb : Below w.heap.size w w') : RdT w' v l := SlX.below h hb
theorem RdT.form {w : World} {v : Value} {l : List ByteArray} (h : RdT w v l) : ∃ a cap, v = .slice a l.length cap ∧ l.length ≤ maxLen := by
 obtain ⟨a, cap, rfl, h1, h2, -⟩ := h
 exact ⟨a, cap, rfl, by omega⟩
theorem RdT.at_ {w : World} {a : Option Addr} {n cap : Nat} {l : List ByteArray} (h : RdT w (.slice a n cap) l) (i : Nat) (hi : i < l.length) : ∃ g o, a = some ⟨g, o, none⟩ ∧ w.cell? ⟨g, o + i, none⟩ = some (.string l[i]) := by
 obtain ⟨a', cap', he, -, -, -, h3⟩ := h
 cases he
 obtain ⟨g, o, rfl, hg, hc⟩ := h3 (by omega)
 have h4 := hc i hi 0 (by omega)
 rw [cellsAt_eq strV l i hi, Nat.mul_one] at h4
 exact ⟨g, o, rfl, h4⟩
theorem OwnL.strs {B : Nat} {e : TypeId} {w : World} {v : Value} {l : List ByteArray} (h : OwnL B e 1 strV w v l) : RdT w v l := (h.slx strV_len).1
def RdNm (w : World) (v : Value) (l : List Nat) : Prop := SlX w v l.length 1 (cellsAt natV l)
theorem RdNm.stay {w w' : World} {v : Value} {l : List Nat} (h : RdNm w v l) (hb : Below w.heap.size w w') : RdNm w' v l := SlX.below h hb
theorem RdNm.form {w : World} {v : Value} {l : List Nat} (h : RdNm w v l) : ∃ a cap, v = .slice a l.length cap ∧ l.length ≤ maxLen := by
 obtain ⟨a, cap, rfl, h1, h2, -⟩ := h
 exact ⟨a, cap, rfl, by omega⟩
theorem RdNm.at_ {w : World} {a : Option Addr} {n cap : Nat} {l : List Nat} (h : RdNm w (.slice a n cap) l) (i : Nat) (hi : i < l.length) : ∃ g o, a = some ⟨g, o, none⟩ ∧ w.cell? ⟨g, o + i, none⟩ = some (.int .i64 (l[i] : Int)) := by
 obtain ⟨a', cap', he, -, -, -, h3⟩ := h
 cases he
 obtain ⟨g, o, rfl, hg, hc⟩ := h3 (by omega)
 have h4 := hc i hi 0 (by omega)
 rw [cellsAt_eq natV l i hi, Nat.mul_one] at h4
 exact ⟨g, o, rfl, h4⟩
end Go.Proofs.YtpkecepelcppiaaGreatDoor

namespace Go.Proofs.YtpkecepelcppiaaGreatDoor
open Go.RowKit Go.Maps
set_option maxHeartbeats 4000000
set_option maxRecDepth 100000

theorem wpl_look_ok {H : Type} {P : Program} {w : World} {ops : Array Oper} {rest : List Oper} {o : Oper} {a : Act} {Q : Exit → Act → World → Prop} {q : IntKind}
  (hg : o.guard = none) {m x : Operand} {t : TypeId} (hop : o.op = Op.lookup t m x true)
  {k e : TypeId} (K : Keyed P k) (ht : P.underlying t = some (.map k e)) (he : P.underlying e = some (.int q)) (hz : (zeroValue e).run P w = .ok (.int q 0) w) {b n : Nat} {D : DataW H}
  (hm : a.eval m = .map (some b)) (hown : w.ownsMap P k (plainElem P e) b n D) {key : Value} {kl : Lit} (hx : a.eval x = key) (hkey : keyOf P k key = some kl) (r : Bool) (c : Int) (hr : has D kl = r) (hc : D.atKey kl (.lit (.int q 0)) = .lit (.int q c))
  (hK : wpList P ops Q rest (a.put o.dst (.tuple #[.int q c, .bool r])) w) :
  wpList P ops Q (o :: rest) a w := by
 refine wpList_plain hg fun K' hK' => ?_
 have hw0 : (Lit.int q 0).wf = true := by cases q <;> decide
 obtain ⟨v, ps, hrun, hv⟩ := hown.look_ok K ht hz (plainElem_int he hw0) hkey
 obtain ⟨y, rfl, hy, -⟩ := plainElem_int_inv he hv
 simp only [Prod.mk.injEq] at hy
 have hyr : y = c := by
  have := hy.1.symm.trans hc
  simpa using this
 subst hyr
 rw [hr] at hrun
 have hk := hK' _ _ hK
 unfold Oper.wp
 simp [execOp, hop, hm, hx, hrun, Result.andThen]
 exact hk
structure NumM {κ : Type} [DecidableEq κ] (kf : κ → Lit) (D : DataW Unit) (ks : List κ) : Prop where
 tidy : Tidy D
 has_ : ∀ x, has D (kf x) = (ks.findIdx? (fun y => decide (y = x))).isSome
 num : ∀ x i, ks.findIdx? (fun y => decide (y = x)) = some i → D.atKey (kf x) (.lit (.int .i64 0)) = .lit (.int .i64 (i : Int))
 len : size D = ks.length
theorem NumM.nil {κ : Type} [DecidableEq κ] (kf : κ → Lit) : NumM kf (.map []) [] := ⟨tidy_empty, fun _ => rfl, fun _ _ h => (by cases h), rfl⟩
theorem NumM.zero {κ : Type} [DecidableEq κ] {kf : κ → Lit} {D : DataW Unit} {ks : List κ} (h : NumM kf D ks) {x : κ} (hx : ks.findIdx? (fun y => decide (y = x)) = none) : D.atKey (kf x) (.lit (.int .i64 0)) = .lit (.int .i64 0) :=
 atKey_of_not_has (by rw [h.has_, hx]; rfl) _
theorem NumM.push {κ : Type} [DecidableEq κ] {kf : κ → Lit} (hinj : ∀ x y, kf x = kf y → x = y) (hk : ∀ x, WideAt.IsKeyLit (kf x)) {D : DataW Unit} {ks : List κ} (h : NumM kf D ks) (x : κ) (hx : ks.findIdx? (fun y => decide (y = x)) = none) :
  NumM kf (D.put (kf x) (.lit (.int .i64 (ks.length : Int)))) (ks ++ [x]) := by
 have hh : has D (kf x) = false := by rw [h.has_, hx]; rfl
 refine ⟨h.tidy.put (hk x) _, fun y => ?_, fun y i hi => ?_, ?_⟩
 ·rw [List.findIdx?_append]
  by_cases he : x = y
  ·subst he
   rw [has_put_same h.tidy.isMap (hk x), hx]
   simp
  ·rw [has_put_other (fun hh => he (hinj _ _ hh).symm), h.has_]
   cases ks.findIdx? (fun z => decide (z = y)) with
   | some j => rfl
   | none => simp [he]
 ·rw [List.findIdx?_append] at hi
  by_cases he : x = y
  ·subst he
   rw [atKey_put_same h.tidy.isMap (hk x)]
   rw [hx] at hi
   simp at hi
   rw [← hi]
  ·rw [atKey_put_other (fun hh => he (hinj _ _ hh).symm)]
   cases hj : ks.findIdx? (fun z => decide (z = y)) with
   | some j =>
    rw [hj] at hi
    simp at hi
    subst hi
    exact h.num y _ hj
   | none =>
    rw [hj] at hi
    simp [he] at hi
 ·rw [size_put h.tidy, hh, h.len, List.length_append]
  rfl
end Go.Proofs.YtpkecepelcppiaaGreatDoor

namespace Go.Proofs.YtpkecepelcppiaaGreatDoor
open Go.RowKit Go.Shelf
set_option maxHeartbeats 4000000
set_option maxRecDepth 100000

def BoxV (g : Nat) (T : TypeId) (cs : List Value) (w : World) : Prop := w.heap[g]? = some (.cells cs.toArray T (0, 0))
theorem BoxV.cell {g : Nat} {T : TypeId} {cs : List Value} {w : World} (h : BoxV g T cs w) (j : Nat) : w.cell? ⟨g, j, none⟩ = cs[j]? := (cell_of_row w g _ _ T (0, 0) h).trans List.getElem?_toArray
theorem BoxV.free {g : Nat} {T : TypeId} {cs : List Value} {w : World} (h : BoxV g T cs w) (j : Nat) : w.frozen? ⟨g, j, none⟩ = false := Lib.frozen_of_heap h j
theorem BoxV.lt {g : Nat} {T : TypeId} {cs : List Value} {w : World} (h : BoxV g T cs w) : g < w.heap.size := (Array.getElem?_eq_some_iff.1 h).1
theorem BoxV.below {g : Nat} {T : TypeId} {cs : List Value} {w w' : World} (h : BoxV g T cs w) (hb : Below w.heap.size w w') : BoxV g T cs w' := (hb.block g h.lt).trans h
theorem BoxV.keep {g : Nat} {T : TypeId} {cs : List Value} {w w' : World} (h : BoxV g T cs w) (hb : w'.heap[g]? = w.heap[g]?) : BoxV g T cs w' := hb.trans h
theorem RdS.arcs_len {N : Nat → Prop} {w : World} {v : Value} {m : List StA} (h : RdS N w v m) (q : Nat) (hq : q < m.length) : (m[q].arcs.length : Int) ≤ 9223372036854775807 := by
 obtain ⟨cc, -, -, hR⟩ := h
 obtain ⟨a, cap, -, h1⟩ := (hR q hq).form
 simp only [maxLen] at h1
 omega
theorem step_any (N : Nat → Prop) (m : List StA) (v : Value) (q b : Nat) (w : World) (hm : RdS N w v m) (hq : q < m.length) :
  Calls Tryz.prog 121 #[.agg #[v], .int .i64 (q : Int), .int .i64 (b : Int)] w fun e w' => e = .returned (.int .i64 (stepL m[q].arcs b : Nat)) ∧ Below w.heap.size w w' := by
 obtain ⟨a, cap, rfl, hml⟩ := hm.form
 have hal := hm.arcs_len q hq
 obtain ⟨g, o, b0, k0, c0, rfl, m0, m1, hk0, ha⟩ := hm.at_ q hq
 have hqi : (q : Int) < m.length := by omega
 have hmi : (m.length : Int) ≤ 9223372036854775807 := by simp only [maxLen] at hml; omega
 have HM := Lib.hid hm
 have HA := Lib.hid ha
 have hgl : g < w.heap.size := by
  obtain ⟨cc, ⟨a', cap', he, -, -, -, h3⟩, -⟩ := hm
  cases he
  obtain ⟨g2, o2, he2, hg, -⟩ := h3 (by omega)
  cases he2
  exact hg
 generalize m[q].arcs = arcs at *
 subst hk0
 obtain ⟨r, hr⟩ : ∃ r, r = stepL arcs b := ⟨_, rfl⟩
 rw [← hr]
 have HR := Lib.hid hr
 clear hr hm ha hml
 go_enter Tryz.func121, Tryz.ntmps121
 go_upto_region 1 with fail
 generalize hW : World.alloc w _ = w1
 obtain ⟨hbx, -, hz1, hb1⟩ := alloc_of hW
 have HX := Lib.hid (show BoxV w.heap.size 29 [.slice (some ⟨g, o, none⟩) m.length cap] w1 from hbx)
 have HB := Lib.hid hb1
 have x0 : w1.cell? ⟨w.heap.size, 0, none⟩ = some (.slice (some ⟨g, o, none⟩) m.length cap) := HX.out.cell 0
 have y1 : w1.cell? ⟨g, o + q * 2 + 1, none⟩ = some (.slice b0 arcs.length c0) := (hb1.cell (p := ⟨g, o + q * 2 + 1, none⟩) hgl).trans m1
 have HA1 := Lib.hid (HA.out.stay hb1)
 clear hW hbx hz1 hb1 m0 m1
 go_wp2_with fail
 go_loopw [16] (fun kv wr => ∃ k : Nat, kv = .int .i64 (k : Int) ∧ k ≤ arcs.length ∧ Hid (r = stepL (arcs.drop k) b) ∧ Hid (Below w1.heap.size w1 wr)) (fun kv _ => arcs.length - (intOf kv).toNat)
 case atStart => exact ⟨0, rfl, Nat.zero_le _, HR.out, Below.refl _ _⟩
 case round =>
  clear HR x0 y1
  obtain ⟨k, rfl, hk, HR, HW⟩ := hrel
  by_cases hlt : k < arcs.length
  case neg =>
   have hge : ¬ (k : Int) < arcs.length := by omega
   have HF : Hid (r = 0) := HR.out.trans (step_end arcs k b hlt)
   clear hlt
   go_wp2_with fail
   go_ret
   exact ⟨by rw [HF.out]; rfl, HB.out.trans (HW.out.mono HB.out.size)⟩
  case pos =>
   have hlti : (k : Int) < arcs.length := by omega
   obtain ⟨ga, oa, rfl, k0, k1, k2⟩ := (HA1.out.stay HW.out).at_ k hlt
   have HN := Lib.hid (HR.out.trans (step_at arcs k b hlt))
   clear HR
   generalize arcs[k] = arc at *
   obtain ⟨lo, hi, nx⟩ := arc
   simp only at k0 k1 k2 HN
   by_cases hb : b ≤ hi
   ·have hbi : (b : Int) ≤ (hi : Int) := by omega
    have HF := Lib.hid (HN.out.trans (if_pos hb))
    clear HN hb hlt
    go_wp2_with fail
    go_ret
    refine ⟨by rw [HF.out]; rfl, (HB.out.trans (HW.out.mono HB.out.size)).alloc ?_ _⟩
    exact Nat.le_trans HB.out.size HW.out.size
   ·have hbi : ¬ (b : Int) ≤ (hi : Int) := by omega
    have HF := Lib.hid (HN.out.trans (if_neg hb))
    clear HN hb
    go_wp2_with fail
    exact ⟨⟨k + 1, by simp, by omega, HF.out, HW.out.alloc HW.out.size _⟩, by simp [intOf]; omega⟩
theorem Next_any (N : Nat → Prop) (m : List StA) (v : Value) (q b : Nat) (w : World) (hm : RdS N w v m) (hq : q < m.length) :
  Calls Tryz.prog 40 #[.agg #[v], .int .i64 (q : Int), .int .i64 (b : Int)] w fun e w' => e = .returned (.int .i64 (nextL m[q].arcs b : Nat)) ∧ Below w.heap.size w w' := by
 obtain ⟨a, cap, rfl, hml⟩ := hm.form
 have hal := hm.arcs_len q hq
 obtain ⟨g, o, b0, k0, c0, rfl, m0, m1, hk0, ha⟩ := hm.at_ q hq
 have hqi : (q : Int) < m.length := by omega
 have hmi : (m.length : Int) ≤ 9223372036854775807 := by simp only [maxLen] at hml; omega
 have HA := Lib.hid ha
 have hgl : g < w.heap.size := by
  obtain ⟨cc, ⟨a', cap', he, -, -, -, h3⟩, -⟩ := hm
  cases he
  obtain ⟨g2, o2, he2, hg, -⟩ := h3 (by omega)
  cases he2
  exact hg
 generalize m[q].arcs = arcs at *
 subst hk0
 obtain ⟨r, hr⟩ : ∃ r, r = nextL arcs b := ⟨_, rfl⟩
 rw [← hr]
 have HR := Lib.hid hr
 clear hr hm ha hml
 go_enter Tryz.func40, Tryz.ntmps40
 go_upto_region 1 with fail
 generalize hW : World.alloc w _ = w1
 obtain ⟨hbx, -, hz1, hb1⟩ := alloc_of hW
 have HX := Lib.hid (show BoxV w.heap.size 29 [.slice (some ⟨g, o, none⟩) m.length cap] w1 from hbx)
 have HB := Lib.hid hb1
 have HM1 : Hid (w1.cell? ⟨g, o + q * 2 + 1, none⟩ = some (.slice b0 arcs.length c0) ∧ g < w1.heap.size) := ⟨(hb1.cell (p := ⟨g, o + q * 2 + 1, none⟩) hgl).trans m1, Nat.lt_of_lt_of_le hgl hb1.size⟩
 have HA1 := Lib.hid (HA.out.stay hb1)
 clear hW hbx hz1 hb1 m0 m1
 go_wp2_with fail
 go_loopw [7] (fun kv wr => ∃ k : Nat, kv = .int .i64 (k : Int) ∧ k ≤ arcs.length ∧ Hid (r = nextL (arcs.drop k) b) ∧ Hid (Below w1.heap.size w1 wr)) (fun kv _ => arcs.length - (intOf kv).toNat)
 case atStart => exact ⟨0, rfl, Nat.zero_le _, HR.out, Below.refl _ _⟩
 case round =>
  clear HR
  obtain ⟨k, rfl, hk, HR, HW⟩ := hrel
  have x0 : wr.cell? ⟨w.heap.size, 0, none⟩ = some (.slice (some ⟨g, o, none⟩) m.length cap) := (HX.out.below HW.out).cell 0
  have y1 : wr.cell? ⟨g, o + q * 2 + 1, none⟩ = some (.slice b0 arcs.length c0) := (HW.out.cell (p := ⟨g, o + q * 2 + 1, none⟩) HM1.out.2).trans HM1.out.1
  by_cases hlt : k < arcs.length
  case neg =>
   have hge : ¬ (k : Int) < arcs.length := by omega
   have HF : Hid (r = 0) := HR.out.trans (next_end arcs k b hlt)
   clear hlt
   go_wp2_with fail
   go_ret
   exact ⟨by rw [HF.out]; rfl, HB.out.trans (HW.out.mono HB.out.size)⟩
  case pos =>
   have hlti : (k : Int) < arcs.length := by omega
   obtain ⟨ga, oa, rfl, k0, k1, k2⟩ := (HA1.out.stay HW.out).at_ k hlt
   have HN := Lib.hid (HR.out.trans (next_at arcs k b hlt))
   clear HR
   generalize arcs[k] = arc at *
   obtain ⟨lo, hi, nx⟩ := arc
   simp only at k0 k1 k2 HN
   by_cases hc : lo ≤ b
   ·have hci : (lo : Int) ≤ (b : Int) := by omega
    by_cases hb : b ≤ hi
    ·have hbi : (b : Int) ≤ (hi : Int) := by omega
     have HF := Lib.hid (HN.out.trans (if_pos ⟨hc, hb⟩))
     clear HN hb hc hlt
     go_wp2_with fail
     go_ret
     refine ⟨by rw [HF.out]; rfl, (HB.out.trans (HW.out.mono HB.out.size)).alloc ?_ _⟩
     exact Nat.le_trans HB.out.size HW.out.size
    ·have hbi : ¬ (b : Int) ≤ (hi : Int) := by omega
     have HF := Lib.hid (HN.out.trans (if_neg (fun h => hb h.2)))
     clear HN hb hc
     go_wp2_with fail
     exact ⟨⟨k + 1, by simp, by omega, HF.out, HW.out.alloc HW.out.size _⟩, by simp [intOf]; omega⟩
   ·have hci : ¬ (lo : Int) ≤ (b : Int) := by omega
    have HF := Lib.hid (HN.out.trans (if_neg (fun h => hc h.1)))
    clear HN hc
    go_wp2_with fail
    exact ⟨⟨k + 1, by simp, by omega, HF.out, HW.out.alloc HW.out.size _⟩, by simp [intOf]; omega⟩
end Go.Proofs.YtpkecepelcppiaaGreatDoor

namespace Go.Proofs.YtpkecepelcppiaaGreatDoor
open Go.RowKit Go.Shelf
set_option maxHeartbeats 4000000
set_option maxRecDepth 100000

theorem elemIn : Elem Tryz.prog 82 3 1 := elem_of (z := .int .i64 0) (bytes := 8) Tryz.underlying82 (by kernel_rfl) (by decide) (by decide) rfl
theorem stB : StT Tryz.prog 143 256 := ⟨by kernel_rfl, by kernel_rfl⟩
def BlkA (w : World) (g : Nat) (F : Nat → Prop) : Prop := w.rowIs g 143 256 (bvB F)
theorem BlkA.congr {w : World} {g : Nat} {F G : Nat → Prop} (h : BlkA w g F) (e : ∀ j, j < 256 → (F j ↔ G j)) : BlkA w g G := World.rowIs.congr h (fun j hj => bvB_congr (e j hj))
theorem BlkA.cell {w : World} {g : Nat} {F : Nat → Prop} (h : BlkA w g F) {j : Nat} (hj : j < 256) : w.cell? ⟨g, j, none⟩ = some (bvB F j) := World.rowIs.cell h hj
theorem BlkA.lt {w : World} {g : Nat} {F : Nat → Prop} (h : BlkA w g F) : g < w.heap.size := World.rowIs.lt h
theorem BlkA.stay {w w' : World} {g : Nat} {F : Nat → Prop} (h : BlkA w g F) (hb : Below w.heap.size w w') : BlkA w' g F := World.rowIs.of_block h (hb.block g h.lt)
theorem BlkA.set {w : World} {g : Nat} {F : Nat → Prop} (h : BlkA w g F) (i : Nat) : BlkA (w.setCell ⟨g, i, none⟩ (.bool true)) g (fun j => j = i ∨ F j) := by
 refine World.rowIs.congr (World.rowIs.set h i (.bool true)) (fun j _ => ?_)
 by_cases hj : j = i
 ·rw [if_pos hj, bvB_true (.inl hj)]
 ·rw [if_neg hj]
  exact bvB_congr ⟨fun h => .inr h, fun h => h.resolve_left hj⟩
theorem zeros256 : Tryz.zeroCells143 = madeCells #[.bool false] 256 := by kernel_rfl
theorem blkA_new (w : World) : BlkA (w.alloc (.cells Tryz.zeroCells143 143)) w.heap.size (fun _ => False) := by
 rw [zeros256]
 exact World.rowIs.congr (World.rowIs_made w (.bool false) 256 143) (fun _ _ => (bvB_false (fun h => h)).symm)
def mkP (m : List StA) (i j b : Nat) : Prop := (m.take i).any (fun s => s.arcs.any fun a => decide (a.lo = b)) = true ∨ ((arcsOf m i).take j).any (fun a => decide (a.lo = b)) = true
theorem mk_zero (m : List StA) (b : Nat) : False ↔ mkP m 0 0 b := by
 unfold mkP
 simp
theorem mk_arc {m : List StA} {i j b : Nat} (hi : i < m.length) (hj : j < m[i].arcs.length) : (b = (m[i].arcs[j]).lo ∨ mkP m i j b) ↔ mkP m i (j + 1) b := by
 unfold mkP arcsOf
 rw [List.getElem?_eq_getElem hi]
 dsimp only
 rw [List.take_succ_eq_append_getElem hj, List.any_append]
 simp only [List.any_cons, List.any_nil, Bool.or_false, Bool.or_eq_true, decide_eq_true_eq]
 constructor
 ·rintro (h | h | h)
  ·exact .inr (.inr h.symm)
  ·exact .inl h
  ·exact .inr (.inl h)
 ·rintro (h | h | h)
  ·exact .inr (.inl h)
  ·exact .inr (.inr h)
  ·exact .inl h.symm
theorem mk_state {m : List StA} {i b : Nat} (hi : i < m.length) : mkP m i m[i].arcs.length b ↔ mkP m (i + 1) 0 b := by
 unfold mkP arcsOf
 rw [List.getElem?_eq_getElem hi]
 dsimp only
 rw [List.take_succ_eq_append_getElem hi, List.any_append, List.take_of_length_le (Nat.le_refl _)]
 simp
theorem mk_end (m : List StA) (b : Nat) : mkP m m.length 0 b ↔ (m.any fun s => s.arcs.any fun a => decide (a.lo = b)) = true := by
 unfold mkP
 rw [List.take_of_length_le (Nat.le_refl _)]
 simp
def stG (m : List StA) (k : Nat) : List Nat := (List.range k).filter fun b => m.any fun s => s.arcs.any fun a => decide (a.lo = b)
theorem stG_step (m : List StA) (k : Nat) : stG m (k + 1) = if (m.any fun s => s.arcs.any fun a => decide (a.lo = k)) = true then stG m k ++ [k] else stG m k := by
 unfold stG
 rw [List.range_succ, List.filter_append]
 by_cases h : (m.any fun s => s.arcs.any fun a => decide (a.lo = k)) = true
 ·rw [if_pos h]
  simp only [List.filter_cons, List.filter_nil]
  rw [if_pos h]
 ·rw [if_neg h]
  simp only [List.filter_cons, List.filter_nil]
  rw [if_neg h, List.append_nil]
theorem stG_len (m : List StA) (k : Nat) : (stG m k).length ≤ k := Nat.le_trans (List.length_filter_le _ _) (by rw [List.length_range]; exact Nat.le_refl _)
theorem grown_belowL {w w' : World} {v : Value} {B : Nat} (hg : w.grownBy w' v.ownBlock) (hv : ∀ x, v.ownBlock = some x → B ≤ x) (hB : B ≤ w.heap.size) : Below B w w' :=
 ⟨hg.os, hg.tape, hg.output, hg.size, fun x hx => hg.block x (Nat.lt_of_lt_of_le hx hB) (fun he => by have := hv x he.symm; omega)⟩
theorem idx256 (cs : List Value) (k : Nat) (b : Bool) (hk : k < 256) (h : cs[k]? = some (.bool b)) (w : World) : (Instr.index 143 (.agg cs.toArray) (.int .i64 (k : Int))).run Tryz.prog w = .ok (.bool b) w := by
 have h1 : (0 : Int) ≤ (k : Int) ∧ (k : Int) < 256 := by omega
 have hu := Tryz.underlying143
 simp [Instr.index, run_underlying hu, asIntOf, h1, Result.andThen]
 rw [if_pos hk]
 exact run_part_plain w (by kernel_rfl) (List.getElem?_toArray.trans h)
theorem RdS.lt0 {N : Nat → Prop} {w : World} {g o n cap : Nat} {m : List StA} (h : RdS N w (.slice (some ⟨g, o, none⟩) n cap) m) (h0 : 0 < m.length) : g < w.heap.size := by
 obtain ⟨cc, ⟨a', cap', he, -, -, -, h3⟩, -⟩ := h
 cases he
 obtain ⟨g2, o2, he2, hg, -⟩ := h3 h0
 cases he2
 exact hg
theorem starts_any (N : Nat → Prop) (m : List StA) (v : Value) (g0 : Nat) (w : World) (h0 : w.cell? ⟨g0, 0, none⟩ = some v) (hg0 : g0 < w.heap.size) (hm : RdS N w v m) (hlo : ∀ i (hi : i < m.length) j (hj : j < m[i].arcs.length), (m[i].arcs[j]).lo ≤ 255) :
  Calls Tryz.prog 120 #[.slice (some ⟨g0, 0, none⟩) 1 1] w fun e w' => ∃ v', e = .returned v' ∧ RdNm w' v' (startsA m) ∧ Below w.heap.size w w' := by
 obtain ⟨a, cap, rfl, hml⟩ := hm.form
 have hmi : (m.length : Int) ≤ 9223372036854775807 := by simp only [maxLen] at hml; omega
 have HM := Lib.hid hm
 have HLO := Lib.hid hlo
 have H0 := Lib.hid h0
 have HAL := Lib.hid (fun i hi => hm.arcs_len i hi)
 have HG0 := Lib.hid hg0
 clear hml hm hlo h0 hg0
 go_enter Tryz.func120, Tryz.ntmps120
 go_upto_region 2 with fail
 generalize hW : World.alloc w _ = w1
 have HK := Lib.hid (show BlkA w1 w.heap.size (fun _ => False) from hW ▸ blkA_new w)
 obtain ⟨-, -, hz1, hb1⟩ := alloc_of hW
 have HB := Lib.hid hb1
 clear hW hz1 hb1
 go_wp2_with fail
 go_loopw [15] (fun kv wr => ∃ k : Nat, kv = .int .i64 (k : Int) ∧ k ≤ 1 ∧ Hid (BlkA wr w.heap.size (fun b => k = 1 ∧ mkP m m.length 0 b)) ∧ Hid (Below w.heap.size w wr)) (fun kv _ => 1 - (intOf kv).toNat)
 case atStart => exact ⟨0, rfl, by omega, HK.out.congr (fun b _ => ⟨fun h => h.elim, fun h => absurd h.1 (by decide)⟩), HB.out⟩
 case round =>
  clear HK HB
  obtain ⟨k, rfl, hk, HK, HB⟩ := hrel
  by_cases hk0 : k = 0
  case pos =>
   subst hk0
   have h0 : wr.cell? ⟨g0, 0, none⟩ = some (.slice a m.length cap) := (HB.out.cell (p := ⟨g0, 0, none⟩) HG0.out).trans H0.out
   replace HK := Lib.hid (HK.out.congr (G := fun b => mkP m 0 0 b) (fun b _ => ⟨fun h => absurd h.1 (by decide), fun h => ((mk_zero m b).2 h).elim⟩))
   go_upto_region 5 with fail
   generalize hW : World.alloc wr _ = w2
   obtain ⟨hbx, -, hz1, hb1⟩ := alloc_of hW
   have x0 : w2.cell? ⟨wr.heap.size, 0, none⟩ = some (.slice a m.length cap) := (show BoxV wr.heap.size 29 [.slice a m.length cap] w2 from hbx).cell 0
   replace HK := Lib.hid (HK.out.stay hb1)
   replace HB := Lib.hid (HB.out.trans (hb1.mono HB.out.size))
   clear hW hbx hz1 hb1 h0
   go_wp2_with fail
   clear x0
   go_loopw [22] (fun iv wr => ∃ i : Nat, iv = .int .i64 (i : Int) ∧ i ≤ m.length ∧ Hid (BlkA wr w.heap.size (fun b => mkP m i 0 b)) ∧ Hid (Below w.heap.size w wr)) (fun iv _ => m.length - (intOf iv).toNat)
   case atStart => exact ⟨0, rfl, Nat.zero_le _, HK.out, HB.out⟩
   case round =>
    clear HK HB
    obtain ⟨i, rfl, hi, HK, HB⟩ := hrel
    by_cases hlt : i < m.length
    case neg =>
     have hge : ¬ (i : Int) < m.length := by omega
     have hie : i = m.length := by omega
     have HK2 := Lib.hid (HK.out.congr (G := fun b => 1 = 1 ∧ mkP m m.length 0 b) (fun b _ => by rw [hie]; exact ⟨fun h => ⟨rfl, h⟩, fun h => h.2⟩))
     clear hlt hie
     go_wp2_with fail
     exact ⟨⟨1, rfl, Nat.le_refl _, HK2.out, HB.out⟩, by simp [intOf]⟩
    case pos =>
     have hlti : (i : Int) < m.length := by omega
     obtain ⟨g, o, b0, k0, c0, rfl, m0, m1, hk0, ha⟩ := HM.out.at_ i hlt
     have hgl := HM.out.lt0 (by omega)
     replace m0 := (HB.out.cell (p := ⟨g, o + i * 2, none⟩) hgl).trans m0
     replace m1 := (HB.out.cell (p := ⟨g, o + i * 2 + 1, none⟩) hgl).trans m1
     have HA := Lib.hid ha
     have hal := HAL.out i hlt
     have HMA := Lib.hid (fun j (hj : j < m[i].arcs.length) b => mk_arc (b := b) hlt hj)
     have HMS := Lib.hid (fun b => mk_state (m := m) (b := b) hlt)
     have HLB := Lib.hid (HLO.out i hlt)
     have HLT : Hid (i + 1 ≤ m.length) := hlt
     generalize m[i].acc = acc at *
     generalize m[i].arcs = arcs at *
     subst hk0
     clear ha hlt hgl
     go_upto_region 8 with fail
     generalize hW2 : World.alloc wr _ = w3
     obtain ⟨hbx, -, hz1, hb1⟩ := alloc_of hW2
     have s1 : w3.cell? ⟨wr.heap.size, 1, none⟩ = some (.slice b0 arcs.length c0) := (show BoxV wr.heap.size 70 [.bool acc, .slice b0 arcs.length c0] w3 from hbx).cell 1
     replace HK := Lib.hid (HK.out.stay hb1)
     replace HB := Lib.hid (HB.out.trans (hb1.mono HB.out.size))
     clear hW2 hbx hz1 hb1 m0 m1
     go_wp2_with fail
     clear s1
     go_loopw [29] (fun jv wr => ∃ j : Nat, jv = .int .i64 (j : Int) ∧ j ≤ arcs.length ∧ Hid (BlkA wr w.heap.size (fun b => mkP m i j b)) ∧ Hid (Below w.heap.size w wr)) (fun jv _ => arcs.length - (intOf jv).toNat)
     case atStart => exact ⟨0, rfl, Nat.zero_le _, HK.out, HB.out⟩
     case round =>
      clear HK HB
      obtain ⟨j, rfl, hj, HK, HB⟩ := hrel
      by_cases hjt : j < arcs.length
      case neg =>
       have hge : ¬ (j : Int) < arcs.length := by omega
       have hje : j = arcs.length := by omega
       have HK2 := Lib.hid (HK.out.congr (G := fun b => mkP m (i + 1) 0 b) (fun b _ => by rw [hje]; exact HMS.out b))
       clear hjt hje
       go_wp2_with fail
       exact ⟨⟨i + 1, by simp, HLT.out, HK2.out, HB.out⟩, by have := HLT.out; simp [intOf]; omega⟩
      case pos =>
       have hjti : (j : Int) < arcs.length := by omega
       obtain ⟨ga, oa, rfl, k0, k1, k2⟩ := (HA.out.stay HB.out).at_ j hjt
       have HST := Lib.hid (HMA.out j hjt)
       have hl5 := HLB.out j hjt
       generalize arcs[j] = arc at *
       obtain ⟨lo, hh, nx⟩ := arc
       simp only at k0 k1 k2 HST hl5
       have hl6 : (lo : Int) < 256 := by omega
       have HL : Hid (lo < 256) := by unfold Hid; omega
       have HJ : Hid (j + 1 ≤ arcs.length) := hjt
       clear hjt
       go_upto_region 11 with fail
       generalize hW3 : World.alloc wr _ = w5
       obtain ⟨hbx, -, hz1, hb1⟩ := alloc_of hW3
       have d0 : w5.cell? ⟨wr.heap.size, 0, none⟩ = some (.int .i64 (lo : Int)) := (show BoxV wr.heap.size 72 [.int .i64 (lo : Int), .int .i64 (hh : Int), .int .i64 (nx : Int)] w5 from hbx).cell 0
       replace HK := Lib.hid (HK.out.stay hb1)
       replace HB := Lib.hid (HB.out.trans (hb1.mono HB.out.size))
       have hcl := HK.out.cell HL.out
       have hfz := World.rowIs.frozen HK.out lo
       clear hW3 hbx hz1 hb1 k0 k1 k2
       go_wp2_with fail
       exact ⟨⟨j + 1, by simp, HJ.out, (HK.out.set lo).congr (fun b _ => HST.out b), HB.out.setCell (p := ⟨w.heap.size, lo, none⟩) (Nat.le_refl _) _⟩, by have := HJ.out; simp [intOf]; omega⟩
  case neg =>
   have hk1 : k = 1 := by omega
   subst hk1
   replace HK := Lib.hid (HK.out.congr (G := fun b => (m.any fun s => s.arcs.any fun a => decide (a.lo = b)) = true) (fun b _ => ⟨fun h => (mk_end m b).1 h.2, fun h => ⟨rfl, (mk_end m b).2 h⟩⟩))
   obtain ⟨cs, hcl, hcs⟩ : ∃ cs : List Value, cs.length = 256 ∧ ∀ j, j < 256 → cs[j]? = some (bvB (fun b => (m.any fun s => s.arcs.any fun a => decide (a.lo = b)) = true) j) :=
    ⟨(List.range 256).map (bvB _), by simp, fun j hj => by rw [List.getElem?_map, List.getElem?_range hj]; rfl⟩
   have HCS := Lib.hid hcs
   have HCL := Lib.hid hcl
   have HCC : Hid (∀ j, j < 256 → wr.cell? ⟨w.heap.size, 0 + j, none⟩ = cs[j]?) := fun j hj => by rw [Nat.zero_add, HCS.out j hj]; exact HK.out.cell hj
   clear hcl hcs hk0 HK
   go_wp2_with (refine wpl_load rfl rfl stB rfl (cs := cs) HCL.out HCC.out ?_)
   clear HCC
   go_loopw [10, 40] (fun ov kv wr => ∃ (k : Nat) (A : Option Addr) (cap : Nat), kv = .int .i64 (k : Int) ∧ k ≤ 256 ∧ ov = .slice A (stG m k).length cap ∧ Hid (OwnL w.heap.size 3 1 natV wr (.slice A (stG m k).length cap) (stG m k)) ∧ Hid (Below w.heap.size w wr)) (fun _ kv _ => 256 - (intOf kv).toNat)
   case atStart => exact ⟨0, none, 0, rfl, by omega, rfl, OwnL.nil _ _ _ _ _, HB.out⟩
   case round =>
    clear HB
    obtain ⟨k, A, cap, rfl, hk, rfl, HO, HB⟩ := hrel
    by_cases hlt : k < 256
    case neg =>
     have hke : k = 256 := by omega
     subst hke
     have HRD : Hid (RdNm wr (.slice A (stG m 256).length cap) (startsA m)) := (HO.out.slx natV_len).1
     clear hlt
     go_wp2_with fail
     go_ret
     exact ⟨_, rfl, HRD.out, HB.out⟩
    case pos =>
     have hlti : (k : Int) < 256 := by omega
     have HC := Lib.hid (HCS.out k hlt)
     have HLT : Hid (k + 1 ≤ 256) := hlt
     have HST := Lib.hid (stG_step m k)
     have HLE := Lib.hid (stG_len m k)
     by_cases hf : (m.any fun s => s.arcs.any fun a => decide (a.lo = k)) = true
     ·have hix := fun w' => idx256 cs k true hlt (HC.out.trans (by rw [bvB_true hf])) w'
      replace HST := Lib.hid (HST.out.trans (if_pos hf))
      have HBL := Lib.hid HB.out.size
      clear hlt hf HC
      go_wp2_with (at_builtin; refine wpl_pushL (f := natV) (x := k) (v := .slice A (stG m k).length cap) (l := stG m k) (B := w.heap.size) (e := 3) (sz := 1) _ _ rfl rfl elemIn natV_len (by decide) (natV_one k) HO.out rfl rfl rfl (by have := HLE.out; omega) HBL.out ?_; intro v3 w3 hown3 hg3 hfm3 hat3; obtain ⟨A3, cap3, rfl⟩ := hfm3)
      have hgb := grown_belowL hg3 (fun x hx => (HO.out.lt x hx).1) HBL.out
      exact ⟨⟨k + 1, A3, cap3, by simp, HLT.out, by rw [HST.out, List.length_append]; rfl, by rw [HST.out]; unfold Hid; simpa using hown3, HB.out.trans hgb⟩, by have := HLT.out; simp [intOf]; omega⟩
     ·have hix := fun w' => idx256 cs k false hlt (HC.out.trans (by rw [bvB_false hf])) w'
      replace HST := Lib.hid (HST.out.trans (if_neg hf))
      clear hlt hf HC
      go_wp2_with fail
      exact ⟨⟨k + 1, A, cap, by simp, HLT.out, by rw [HST.out], by rw [HST.out]; exact HO.out, HB.out⟩, by have := HLT.out; simp [intOf]; omega⟩
end Go.Proofs.YtpkecepelcppiaaGreatDoor

namespace Go.Proofs.YtpkecepelcppiaaGreatDoor
open Go.RowKit Go.Shelf
set_option maxHeartbeats 4000000
set_option maxRecDepth 100000

theorem hiOf_any (bytes : List Nat) (v : Value) (i : Nat) (w : World) (hr : RdNm w v bytes) (hi : i < bytes.length) (hp : ∀ b, bytes[i + 1]? = some b → 1 ≤ b ∧ b ≤ 255) :
  Calls Tryz.prog 149 #[v, .int .i64 (i : Int)] w fun e w' => e = .returned (.int .i64 (hiA bytes i : Nat)) ∧ w = w' := by
 obtain ⟨a, cap, rfl, hl⟩ := hr.form
 have hli : (bytes.length : Int) ≤ 9223372036854775807 := by simp only [maxLen] at hl; omega
 have hii : (i : Int) < bytes.length := by omega
 have HR := Lib.hid hr
 by_cases hn : i + 1 < bytes.length
 ·obtain ⟨g, o, rfl, hc⟩ := hr.at_ (i + 1) hn
  have hh : hiA bytes i = bytes[i + 1] - 1 := by unfold hiA; rw [List.getElem?_eq_getElem hn]
  obtain ⟨h1, h2⟩ := hp _ (List.getElem?_eq_getElem hn)
  have HF : Hid (hiA bytes i = bytes[i + 1] - 1) := hh
  generalize hiA bytes i = R at *
  generalize bytes[i + 1] = b at *
  have hni : (i : Int) + 1 < bytes.length := by omega
  have HB : Hid (1 ≤ b) := h1
  have hb1 : (1 : Int) ≤ (b : Int) := by omega
  have hb2 : (b : Int) ≤ 255 := by omega
  clear hl hr hi hp hn hh h1 h2
  go_enter Tryz.func149, Tryz.ntmps149
  go_wp2_with fail
  go_ret
  refine ⟨?_, rfl⟩
  rw [HF.out, Int.ofNat_sub HB.out]
  rfl
 ·have hh : hiA bytes i = 255 := by unfold hiA; rw [List.getElem?_eq_none (by omega)]
  rw [hh]
  have hni : ¬ (i : Int) + 1 < bytes.length := by omega
  clear hl hr hi hp hn hh
  go_enter Tryz.func149, Tryz.ntmps149
  go_wp2_with fail
  go_ret
  exact ⟨rfl, rfl⟩
theorem elemA : Elem Tryz.prog 68 72 3 := elem_of (z := .agg #[.int .i64 0, .int .i64 0, .int .i64 0]) (bytes := 24) Tryz.underlying68 (by kernel_rfl) (by decide) (by decide) rfl
theorem arcs_set : ∀ (l : List ArcA) (i : Nat) (hi : i < l.length) (hh : Nat), (l.flatMap arcV).set (i * 3 + 1) (.int .i64 (hh : Int)) = (l.set i ⟨l[i].lo, hh, l[i].nx⟩).flatMap arcV
 | a :: t, 0, _, hh => rfl
 | a :: t, i + 1, hi, hh => by
  rw [List.flatMap_cons, List.set_cons_succ, List.flatMap_cons]
  show List.set (arcV a ++ _) _ _ = arcV a ++ _
  rw [show (i + 1) * 3 + 1 = (arcV a).length + (i * 3 + 1) by rw [arcV_len]; omega, List.set_append_right _ _ (by omega), Nat.add_sub_cancel_left, arcs_set t i (by simpa using hi) hh]
  rfl
theorem OwnL.setArc {B : Nat} {e : TypeId} {w : World} {g n cap : Nat} {l : List ArcA} (h : OwnL B e 3 arcV w (.slice (some ⟨g, 0, none⟩) n cap) l) (i : Nat) (hi : i < l.length) (hh : Nat) :
  OwnL B e 3 arcV (w.setCell ⟨g, i * 3 + 1, none⟩ (.int .i64 (hh : Int))) (.slice (some ⟨g, 0, none⟩) n cap) (l.set i ⟨l[i].lo, hh, l[i].nx⟩) := by
 obtain ⟨h1, h2⟩ := h
 rcases h2 with ⟨he, -⟩ | ⟨g2, cap2, cur, he, hb, hg, h3, h4, h5, h6⟩
 ·cases he
 ·cases he
  refine ⟨by rw [List.length_set, flatG_len arcV_len, List.length_set], .inr ⟨g, cap, cur.setIfInBounds (i * 3 + 1) (.int .i64 (hh : Int)), by rw [List.length_set], hb, heap_setCell_same w g (i * 3 + 1) _ _ _ hg, by rw [List.length_set]; exact h3, h4, by simpa using h5, ?_⟩⟩
  rw [Array.toList_setIfInBounds, List.take_set, List.length_set, h6, arcs_set l i hi hh]
theorem addArcA_last (l : List ArcA) (a : ArcA) (lo hi nx : Nat) : addArcA (l ++ [a]) lo hi nx = if a.nx = nx then l ++ [⟨a.lo, hi, a.nx⟩] else (l ++ [a]) ++ [⟨lo, hi, nx⟩] := by
 unfold addArcA
 rw [List.getLast?_concat]
 dsimp only
 rw [List.dropLast_concat]
def AddQ (B : Nat) (w : World) (v : Value) (l : List ArcA) (e : Ending) (w' : World) : Prop :=
 ∃ v', e = .returned v' ∧ OwnL B 72 3 arcV w' v' l ∧ w.grownBy w' v.ownBlock ∧ (v'.ownBlock = v.ownBlock ∨ ∃ k, w.heap.size ≤ k ∧ v'.ownBlock = some k)
theorem addArc_any (B : Nat) (l : List ArcA) (v : Value) (lo hi nx : Nat) (w : World) (ho : OwnL B 72 3 arcV w v l) (hB : B ≤ w.heap.size) (hl : l.length < 100000000) :
  Calls Tryz.prog 148 #[v, .int .i64 (lo : Int), .int .i64 (hi : Int), .int .i64 (nx : Int)] w (AddQ B w v (addArcA l lo hi nx)) := by
 have HO := Lib.hid ho
 have HL := Lib.hid hl
 have HB := Lib.hid hB
 rcases List.eq_nil_or_concat l with rfl | ⟨l', a, rfl⟩
 ·obtain ⟨A, cap, rfl, -⟩ := ho.form
  clear ho hl hB
  go_enter Tryz.func148, Tryz.ntmps148
  go_wp2_with (at_builtin; refine wpl_pushL (f := arcV) (x := ⟨lo, hi, nx⟩) (B := B) (e := 72) (sz := 3) _ _ rfl rfl elemA arcV_len (by decide) (arcV_one _) HO.out rfl rfl rfl (by have := HL.out; omega) HB.out ?_; intro v3 w3 hown3 hg3 hfm3 hat3; obtain ⟨A3, cap3, rfl⟩ := hfm3)
  go_ret
  exact ⟨_, rfl, hown3, hg3, hat3⟩
 ·rw [List.concat_eq_append] at *
  obtain ⟨A, cap, hv, -⟩ := ho.form
  obtain ⟨g, cap2, hg, -, hgl⟩ := (ho.slx arcV_len).2 (by simp)
  obtain ⟨a1, cap3, he, -, -, -, h3⟩ := (ho.slx arcV_len).1
  rw [hg] at he
  cases he
  obtain ⟨g2, o2, he2, -, h4⟩ := h3 (by simp)
  cases he2
  have h5 := h4 l'.length (by simp)
  rw [cellsAt_eq arcV _ _ (by simp), List.getElem_concat_length rfl] at h5
  have q2 : w.cell? ⟨g, l'.length * 3 + 2, none⟩ = some (.int .i64 (a.nx : Int)) := by have := h5 2 (by omega); rw [Nat.zero_add] at this; exact this
  have q1 : w.cell? ⟨g, l'.length * 3 + 1, none⟩ = some (.int .i64 (a.hi : Int)) := by have := h5 1 (by omega); rw [Nat.zero_add] at this; exact this
  have qf : w.frozen? ⟨g, l'.length * 3 + 1, none⟩ = false := by
   rcases ho.2 with ⟨hz, -⟩ | ⟨g3, cap4, cur, hz, -, hh, -⟩
   ·rw [hg] at hz; cases hz
   ·rw [hg] at hz
    cases hz
    exact Lib.frozen_of_heap hh _
  clear h3 h4 h5
  subst hg
  have HA := Lib.hid (addArcA_last l' a lo hi nx)
  generalize addArcA (l' ++ [a]) lo hi nx = R at *
  rw [List.length_append, List.length_singleton] at *
  have hp : (l'.length : Int) < 100000000 := by omega
  have HSET := Lib.hid (HO.out.setArc l'.length (by simp) hi)
  rw [List.getElem_concat_length rfl, List.set_append_right _ _ (Nat.le_refl _), Nat.sub_self] at HSET
  clear hv ho hl hB hgl
  by_cases hx : a.nx = nx
  ·have HF := Lib.hid (HA.out.trans (if_pos hx))
   have hxi : ((a.nx : Int) == (nx : Int)) = true := by rw [hx]; exact beq_self_eq_true _
   clear HA
   go_enter Tryz.func148, Tryz.ntmps148
   go_wp2_with fail
   go_ret
   rw [HF.out]
   exact ⟨_, rfl, HSET.out, ⟨rfl, rfl, rfl, by simp, fun k _ hne => Below.heap_setCell w ⟨g, l'.length * 3 + 1, none⟩ _ k (fun h => hne (by rw [h]; rfl))⟩, .inl rfl⟩
  ·have HF := Lib.hid (HA.out.trans (if_neg hx))
   have hxi : ((a.nx : Int) == (nx : Int)) = false := beq_false_of_ne (by omega)
   clear HA
   go_enter Tryz.func148, Tryz.ntmps148
   go_wp2_with (at_builtin; refine wpl_pushL (f := arcV) (x := ⟨lo, hi, nx⟩) (B := B) (e := 72) (sz := 3) (l := l' ++ [a]) _ _ rfl rfl elemA arcV_len (by decide) (arcV_one _) HO.out rfl rfl rfl (by have := HL.out; simp; omega) HB.out ?_; intro v3 w3 hown3 hg3 hfm3 hat3; obtain ⟨A3, cap3, rfl⟩ := hfm3)
   go_ret
   rw [HF.out]
   rw [List.length_append, List.length_singleton] at hown3 hat3
   exact ⟨_, rfl, hown3, hg3, hat3⟩
end Go.Proofs.YtpkecepelcppiaaGreatDoor

namespace Go.Proofs.YtpkecepelcppiaaGreatDoor
open Go.RowKit Go.Shelf
set_option maxHeartbeats 4000000
set_option maxRecDepth 100000

theorem val_len {m : List StA} (h : valA m = true) : 1 ≤ m.length ∧ m.length ≤ 1024 := by
 unfold valA at h
 simp only [Bool.and_eq_true, decide_eq_true_eq] at h
 exact h.1
theorem val_at {m : List StA} (h : valA m = true) (i : Nat) (hi : i < m.length) : okArcs m.length 0 m[i].arcs = true := by
 unfold valA at h
 simp only [Bool.and_eq_true] at h
 exact List.all_eq_true.1 h.2 _ (List.getElem_mem hi)
theorem ok_parts {n : Nat} {l : List ArcA} {k b : Nat} (hk : k < l.length) (h : okArcs n b (l.drop k) = true) : l[k].lo = b ∧ l[k].lo ≤ l[k].hi ∧ l[k].hi ≤ 255 ∧ l[k].nx < n ∧ okArcs n (l[k].hi + 1) (l.drop (k + 1)) = true := by
 rw [ok_at n l k b hk] at h
 simp only [Bool.and_eq_true, decide_eq_true_eq] at h
 exact ⟨h.1.1.1.1, h.1.1.1.2, h.1.1.2, h.1.2, h.2⟩
theorem ok_last {n : Nat} {l : List ArcA} {k b : Nat} (hk : ¬ k < l.length) (h : okArcs n b (l.drop k) = true) : b = 256 := by
 rw [ok_end n l k b hk] at h
 exact of_decide_eq_true h
theorem Valid_yes (N : Nat → Prop) (m : List StA) (v : Value) (w : World) (hm : RdS N w v m) (hv : valA m = true) :
  Calls Tryz.prog 94 #[.agg #[v]] w fun e w' => e = .returned (.bool true) ∧ Below w.heap.size w w' := by
 obtain ⟨a, cap, rfl, hml⟩ := hm.form
 obtain ⟨hn1, hn2⟩ := val_len hv
 have hni1 : ¬ (m.length : Int) < 1 := by omega
 have hni2 : ¬ (1024 : Int) < (m.length : Int) := by omega
 have hni3 : (m.length : Int) ≤ 1024 := by omega
 have HM := Lib.hid hm
 have HV := Lib.hid (fun i (hi : i < m.length) => val_at hv i hi)
 have HAL := Lib.hid (fun i hi => hm.arcs_len i hi)
 clear hm hml hv hn1 hn2
 go_enter Tryz.func94, Tryz.ntmps94
 go_upto_region 1 with fail
 generalize hW : World.alloc w _ = w1
 obtain ⟨hbx, -, hz1, hb1⟩ := alloc_of hW
 have HX := Lib.hid (show BoxV w.heap.size 29 [.slice a m.length cap] w1 from hbx)
 have HB := Lib.hid hb1
 have x0 : w1.cell? ⟨w.heap.size, 0, none⟩ = some (.slice a m.length cap) := HX.out.cell 0
 replace HM := Lib.hid (HM.out.stay hb1)
 clear hW hbx hz1 hb1
 go_wp2_with fail
 clear x0
 go_loopw [21] (fun kv wr => ∃ i : Nat, kv = .int .i64 (i : Int) ∧ i ≤ m.length ∧ Hid (Below w1.heap.size w1 wr)) (fun kv _ => m.length - (intOf kv).toNat)
 case atStart => exact ⟨0, rfl, Nat.zero_le _, Below.refl _ _⟩
 case round =>
  obtain ⟨i, rfl, hi, HW⟩ := hrel
  by_cases hlt : i < m.length
  case neg =>
   have hge : ¬ (i : Int) < m.length := by omega
   clear hlt
   go_wp2_with fail
   go_ret
   exact ⟨rfl, HB.out.trans (HW.out.mono HB.out.size)⟩
  case pos =>
   have hlti : (i : Int) < m.length := by omega
   obtain ⟨g, o, b0, k0, c0, rfl, m0, m1, hk0, ha⟩ := (HM.out.stay HW.out).at_ i hlt
   have HOK := Lib.hid (HV.out i hlt)
   have hal := HAL.out i hlt
   have HLT := Lib.hid hlt
   generalize m[i].acc = acc at *
   generalize m[i].arcs = arcs at *
   subst hk0
   have HA := Lib.hid ha
   clear ha hlt
   go_upto_region 6 with fail
   generalize hW2 : World.alloc wr _ = w2
   obtain ⟨hbx, -, hz1, hb1⟩ := alloc_of hW2
   have s1 : w2.cell? ⟨wr.heap.size, 1, none⟩ = some (.slice b0 arcs.length c0) := (show BoxV wr.heap.size 70 [.bool acc, .slice b0 arcs.length c0] w2 from hbx).cell 1
   have HW2 := Lib.hid (HW.out.trans (hb1.mono HW.out.size))
   replace HA := Lib.hid (HA.out.stay hb1)
   clear hW2 hbx hz1 hb1 m0 m1 HW
   go_wp2_with fail
   clear s1
   go_loopw [5, 28] (fun bv jv wx => ∃ j b : Nat, bv = .int .i64 (b : Int) ∧ jv = .int .i64 (j : Int) ∧ j ≤ arcs.length ∧ Hid (b ≤ 256) ∧ Hid (okArcs m.length b (arcs.drop j) = true) ∧ Hid (Below w2.heap.size w2 wx)) (fun _ jv _ => arcs.length - (intOf jv).toNat)
   case atStart => exact ⟨0, 0, rfl, rfl, Nat.zero_le _, (by unfold Hid; omega), HOK.out, Below.refl _ _⟩
   case round =>
    clear HOK
    obtain ⟨j, b, rfl, rfl, hj, HB6, HOK, HWX⟩ := hrel
    by_cases hjt : j < arcs.length
    case neg =>
     have hge : ¬ (j : Int) < arcs.length := by omega
     have hb : b = 256 := ok_last hjt HOK.out
     subst hb
     clear hjt
     go_wp2_with fail
     exact ⟨⟨i + 1, by simp, by have := HLT.out; omega, HW2.out.trans (HWX.out.mono HW2.out.size)⟩, by have := HLT.out; simp [intOf]; omega⟩
    case pos =>
     have hjti : (j : Int) < arcs.length := by omega
     obtain ⟨ga, oa, rfl, k0, k1, k2⟩ := (HA.out.stay HWX.out).at_ j hjt
     obtain ⟨e1, e2, e3, e4, e5⟩ := ok_parts hjt HOK.out
     generalize arcs[j] = arc at *
     obtain ⟨lo, hh, nx⟩ := arc
     simp only at k0 k1 k2 e1 e2 e3 e4 e5
     subst e1
     have HN := Lib.hid e5
     have hh6 : Hid (hh + 1 ≤ 256) := by unfold Hid; omega
     have t2 : ¬ (hh : Int) < (lo : Int) := by omega
     have t3 : ¬ (255 : Int) < (hh : Int) := by omega
     have t4 : ¬ (nx : Int) < 0 := by omega
     have t5 : ¬ (m.length : Int) ≤ (nx : Int) := by omega
     clear e2 e3 e4 e5 HOK hjt
     go_upto_region 10 with fail
     generalize hW3 : World.alloc wr _ = w5
     obtain ⟨hbx, -, hz1, hb1⟩ := alloc_of hW3
     have c0 := (show BoxV wr.heap.size 72 [.int .i64 (lo : Int), .int .i64 (hh : Int), .int .i64 (nx : Int)] w5 from hbx).cell
     have d0 : w5.cell? ⟨wr.heap.size, 0, none⟩ = some (.int .i64 (lo : Int)) := c0 0
     have d1 : w5.cell? ⟨wr.heap.size, 1, none⟩ = some (.int .i64 (hh : Int)) := c0 1
     have d2 : w5.cell? ⟨wr.heap.size, 2, none⟩ = some (.int .i64 (nx : Int)) := c0 2
     have x0 : w5.cell? ⟨w.heap.size, 0, none⟩ = some (.slice (some ⟨g, o, none⟩) m.length cap) := (((HX.out.below HW2.out).below HWX.out).below hb1).cell 0
     have HW5 := Lib.hid (HWX.out.trans (hb1.mono HWX.out.size))
     clear hW3 hbx hz1 hb1 c0 k0 k1 k2
     go_wp2_with fail
     exact ⟨⟨j + 1, hh + 1, by simp, by simp, by omega, hh6.out, HN.out, HW5.out⟩, by simp [intOf]; omega⟩
theorem state_yes (N : Nat → Prop) (n : Nat) (arcs : List ArcA) (acc : Bool) (v : Value) (w : World) (ha : RdA N w v arcs) (hv : okArcs n 0 arcs = true) (hn : n ≤ 1024) :
  Calls Tryz.prog 42 #[.agg #[.bool acc, v], .int .i64 (n : Int)] w fun e w' => e = .returned (.bool true) ∧ Below w.heap.size w w' := by
 obtain ⟨b0, c0, rfl, hal⟩ := ha.form
 have hni : (n : Int) ≤ 1024 := by omega
 have hali : (arcs.length : Int) ≤ 9223372036854775807 := by simp only [maxLen] at hal; omega
 have HA := Lib.hid ha
 have HOK0 := Lib.hid hv
 clear ha hal hv hn
 go_enter Tryz.func42, Tryz.ntmps42
 go_upto_region 1 with fail
 generalize hW : World.alloc w _ = w2
 obtain ⟨hbx, -, hz1, hb1⟩ := alloc_of hW
 have HX := Lib.hid (show BoxV w.heap.size 70 [.bool acc, .slice b0 arcs.length c0] w2 from hbx)
 have HB := Lib.hid hb1
 replace HA := Lib.hid (HA.out.stay hb1)
 clear hW hbx hz1 hb1
 go_wp2_with fail
 go_loopw [5, 6] (fun bv jv wx => ∃ j b : Nat, bv = .int .i64 (b : Int) ∧ jv = .int .i64 (j : Int) ∧ j ≤ arcs.length ∧ Hid (b ≤ 256) ∧ Hid (okArcs n b (arcs.drop j) = true) ∧ Hid (Below w2.heap.size w2 wx)) (fun _ jv _ => arcs.length - (intOf jv).toNat)
 case atStart => exact ⟨0, 0, rfl, rfl, Nat.zero_le _, (by unfold Hid; omega), HOK0.out, Below.refl _ _⟩
 case round =>
  clear HOK0
  obtain ⟨j, b, rfl, rfl, hj, HB6, HOK, HWX⟩ := hrel
  have s1 : wr.cell? ⟨w.heap.size, 1, none⟩ = some (.slice b0 arcs.length c0) := (HX.out.below HWX.out).cell 1
  by_cases hjt : j < arcs.length
  case neg =>
   have hge : ¬ (j : Int) < arcs.length := by omega
   have hb : b = 256 := ok_last hjt HOK.out
   subst hb
   clear hjt
   go_wp2_with fail
   go_ret
   exact ⟨rfl, HB.out.trans (HWX.out.mono HB.out.size)⟩
  case pos =>
   have hjti : (j : Int) < arcs.length := by omega
   obtain ⟨ga, oa, rfl, k0, k1, k2⟩ := (HA.out.stay HWX.out).at_ j hjt
   obtain ⟨e1, e2, e3, e4, e5⟩ := ok_parts hjt HOK.out
   generalize arcs[j] = arc at *
   obtain ⟨lo, hh, nx⟩ := arc
   simp only at k0 k1 k2 e1 e2 e3 e4 e5
   subst e1
   have HN := Lib.hid e5
   have hh6 : Hid (hh + 1 ≤ 256) := by unfold Hid; omega
   have t2 : ¬ (hh : Int) < (lo : Int) := by omega
   have t3 : ¬ (255 : Int) < (hh : Int) := by omega
   have t4 : ¬ (nx : Int) < 0 := by omega
   have t5 : ¬ (n : Int) ≤ (nx : Int) := by omega
   clear e2 e3 e4 e5 HOK hjt
   go_wp2_with fail
   exact ⟨⟨j + 1, hh + 1, by simp, by simp, by omega, hh6.out, HN.out, HWX.out.alloc HWX.out.size _⟩, by simp [intOf]; omega⟩
theorem RMValid_yes (N : Nat → Prop) (m : List StA) (v : Value) (w : World) (hm : RdS N w v m) (hv : valA m = true) :
  Calls Tryz.prog 21 #[.agg #[v]] w fun e w' => e = .returned (.bool true) ∧ Below w.heap.size w w' := by
 obtain ⟨a, cap, rfl, hml⟩ := hm.form
 obtain ⟨hn1, hn2⟩ := val_len hv
 have hni1 : (1 : Int) ≤ (m.length : Int) := by omega
 have hni3 : (m.length : Int) ≤ 1024 := by omega
 have HM := Lib.hid hm
 have HV := Lib.hid (fun i (hi : i < m.length) => val_at hv i hi)
 have HN := Lib.hid hn2
 clear hm hml hv hn1 hn2
 go_enter Tryz.func21, Tryz.ntmps21
 go_upto_region 1 with fail
 generalize hW : World.alloc w _ = w1
 obtain ⟨hbx, -, hz1, hb1⟩ := alloc_of hW
 have HX := Lib.hid (show BoxV w.heap.size 29 [.slice a m.length cap] w1 from hbx)
 have HB := Lib.hid hb1
 replace HM := Lib.hid (HM.out.stay hb1)
 have HX0 : Hid (∀ w', Below w1.heap.size w1 w' → w'.cell? ⟨w.heap.size, 0, none⟩ = some (.slice a m.length cap)) := fun w' hb => (HX.out.below hb).cell 0
 clear hW hbx hz1 hb1 HX
 have HBX : Hid (w.heap.size ≤ w1.heap.size) := HB.out.size
 generalize hbe : w.heap.size = bx at *
 have HBE := Lib.hid hbe
 clear hbe
 go_wp2_with fail
 go_loopw [3] (fun kv wr => ∃ i : Nat, kv = .int .i64 (i : Int) ∧ i ≤ m.length ∧ Hid (Below w1.heap.size w1 wr)) (fun kv _ => m.length - (intOf kv).toNat)
 case atStart => exact ⟨0, rfl, Nat.zero_le _, Below.refl _ _⟩
 case round =>
  obtain ⟨i, rfl, hi, HW⟩ := hrel
  have x0 := HX0.out wr HW.out
  by_cases hlt : i < m.length
  case neg =>
   have hge : ¬ (i : Int) < m.length := by omega
   clear hlt
   go_wp2_with fail
   go_ret
   exact ⟨rfl, HBE.out ▸ HB.out.trans (HW.out.mono HBX.out)⟩
  case pos =>
   have hlti : (i : Int) < m.length := by omega
   obtain ⟨g, o, b0, k0, c0, rfl, m0, m1, hk0, ha⟩ := HM.out.at_ i hlt
   have HM0 : Hid (∀ w', Below w1.heap.size w1 w' → w'.cell? ⟨g, o + i * 2, none⟩ = some (.bool m[i].acc)) := by
    intro w' hb
    obtain ⟨g2, o2, b2, k2, c2, e, h0, -⟩ := (HM.out.stay hb).at_ i hlt
    cases e
    exact h0
   have HG : Hid (g < w1.heap.size) := by
    obtain ⟨cc, ⟨a', cap', he, -, -, -, h3⟩, -⟩ := HM.out
    cases he
    obtain ⟨g2, o2, he2, hg, -⟩ := h3 (by omega)
    cases he2
    exact hg
   have HM1 : Hid (∀ w', Below w1.heap.size w1 w' → w'.cell? ⟨g, o + i * 2 + 1, none⟩ = some (.slice b0 k0 c0)) := fun w' hb => (hb.cell (p := ⟨g, o + i * 2 + 1, none⟩) HG.out).trans m1
   have HC : Hid (∀ w', Below w1.heap.size w1 w' → Calls Tryz.prog 42 #[.agg #[.bool m[i].acc, .slice b0 k0 c0], .int .i64 (m.length : Int)] w' fun e w'' => e = .returned (.bool true) ∧ Below w'.heap.size w' w'') := fun w' hb => state_yes N m.length m[i].arcs m[i].acc _ w' (ha.stay hb) (HV.out i hlt) HN.out
   generalize m[i].acc = acc at *
   have HLT := Lib.hid hlt
   clear ha m0 m1 hlt HG hk0
   go_upto_region 4 with fail
   clear x0
   have hS0 : Below w1.heap.size w1 wr.drew := HW.out.trans ((drewBn wr).mono HW.out.size)
   refine wpq_region (fun w' => Below w1.heap.size w1 w') 9 (by kernel_rfl) hS0 (fun hHeld => ?_)
   clear hS0 HW
   generalize wr.drew = wd at *
   refine wpq_tk 0 (some 11) [1, 3, 4, 8, 9] (Or.inl ⟨by rfl, fun w hSw => by (have x0 := HX0.out w hSw; have y0 := HM0.out w hSw; have y1 := HM1.out w hSw; go_simp; with_reducible rfl)⟩) hHeld ?_ rfl rfl
   simp only [Act.put, sA, sZ, sS]
   refine wpq_tk 1 (some 12) [3, 4, 8, 9] (Or.inl ⟨by rfl, fun w hSw => by (have x0 := HX0.out w hSw; have y0 := HM0.out w hSw; have y1 := HM1.out w hSw; go_simp; with_reducible rfl)⟩) hHeld ?_ rfl rfl
   simp only [Act.put, sA, sZ, sS]
   refine wpq_tk 2 (some 13) [3, 4, 8, 9] (Or.inl ⟨by rfl, fun w hSw => by (have x0 := HX0.out w hSw; have y0 := HM0.out w hSw; have y1 := HM1.out w hSw; go_simp; with_reducible rfl)⟩) hHeld ?_ rfl rfl
   simp only [Act.put, sA, sZ, sS]
   refine wpq_tk 3 (some 14) [4, 8, 9] (Or.inl ⟨by rfl, fun w hSw => by (have x0 := HX0.out w hSw; have y0 := HM0.out w hSw; have y1 := HM1.out w hSw; go_simp; with_reducible rfl)⟩) hHeld ?_ rfl rfl
   simp only [Act.put, sA, sZ, sS]
   refine wpq_tk 4 (some 15) [8, 9] (Or.inl ⟨by rfl, fun w hSw => by (have x0 := HX0.out w hSw; have y0 := HM0.out w hSw; have y1 := HM1.out w hSw; go_simp; with_reducible rfl)⟩) hHeld ?_ rfl rfl
   simp only [Act.put, sA, sZ, sS]
   refine wpq_tk 5 (some 16) [6, 7, 8, 9] (Or.inl ⟨by rfl, fun w hSw => by (have x0 := HX0.out w hSw; have y0 := HM0.out w hSw; have y1 := HM1.out w hSw; go_simp; with_reducible rfl)⟩) hHeld ?_ rfl rfl
   simp only [Act.put, sA, sZ, sS]
   refine wpq_tk 6 (some 17) [7, 8, 9] (Or.inl ⟨by rfl, fun w hSw => by (have x0 := HX0.out w hSw; have y0 := HM0.out w hSw; have y1 := HM1.out w hSw; go_simp; with_reducible rfl)⟩) hHeld ?_ rfl rfl
   simp only [Act.put, sA, sZ, sS]
   refine wpq_tk 7 (some 18) [8, 9] (Or.inl ⟨by rfl, fun w hSw => by (have x0 := HX0.out w hSw; have y0 := HM0.out w hSw; have y1 := HM1.out w hSw; go_simp; with_reducible rfl)⟩) hHeld ?_ rfl rfl
   simp only [Act.put, sA, sZ, sS]
   refine wpq_one 8 (by kernel_rfl) rfl (fun K hK => ?_)
   go_simp
   refine (HC.out _ hHeld).mono ?_
   rintro e wx ⟨rfl, hb⟩
   replace hHeld := hHeld.trans (hb.mono hHeld.size)
   clear hb
   generalize wx = wd at *
   refine hK.out _ _ hHeld (fun hHeld => ?_)
   clear hK K
   refine wpq_end 9 (by kernel_rfl) rfl (by kernel_rfl) (fun K hK => ?_)
   go_simp
   refine hK.out _ _ ?_
   clear hK K
   refine wpq_done (by kernel_rfl) ?_ _
   go_simp
   go_wp2_with fail
   exact ⟨⟨i + 1, by simp, by have := HLT.out; omega, hHeld⟩, by have := HLT.out; simp [intOf]; omega⟩
theorem runA_snoc (m : List StA) : ∀ (l : List UInt8) (q : Nat) (c : UInt8), runA m q (l ++ [c]) = nextL (arcsOf m (runA m q l)) c.toNat
 | [], _, _ => rfl
 | _a :: t, _q, c => runA_snoc m t _ c
theorem nextL_lt {n : Nat} : ∀ (l : List ArcA) (b c : Nat), okArcs n b l = true → 0 < n → nextL l c < n
 | [], _, _, _, h0 => h0
 | a :: t, b, c, h, h0 => by
  unfold nextL
  have h' := h
  unfold okArcs at h'
  simp only [Bool.and_eq_true, decide_eq_true_eq] at h'
  split
  ·exact h'.1.2
  ·exact nextL_lt t _ c h'.2 h0
theorem run_lt {m : List StA} (hv : valA m = true) : ∀ (l : List UInt8) (q : Nat), q < m.length → runA m q l < m.length
 | [], q, h => h
 | c :: t, q, h => by
  refine run_lt hv t _ ?_
  unfold arcsOf
  rw [List.getElem?_eq_getElem h]
  exact nextL_lt _ 0 _ (val_at hv q h) (by omega)
theorem acc_eq {m : List StA} {q : Nat} (h : q < m.length) : accOf m q = m[q].acc := by
 unfold accOf
 rw [List.getElem?_eq_getElem h]
theorem accs_eq {m : List StA} {q : Nat} (h : q < m.length) : arcsOf m q = m[q].arcs := by
 unfold arcsOf
 rw [List.getElem?_eq_getElem h]
theorem Accepts_any (N : Nat → Prop) (m : List StA) (v : Value) (s : ByteArray) (w : World) (hm : RdS N w v m) (hv : valA m = true) (hs : s.size ≤ 1000000) :
  Calls Tryz.prog 17 #[.agg #[v], .string s] w fun e w' => e = .returned (.bool (accA m (L s))) ∧ Below w.heap.size w w' := by
 obtain ⟨a, cap, rfl, hml⟩ := hm.form
 obtain ⟨hn1, hn2⟩ := val_len hv
 have hni3 : (m.length : Int) ≤ 1024 := by omega
 have hsi : (s.size : Int) ≤ 1000000 := by omega
 have HM := Lib.hid hm
 have HVA := Lib.hid (fun w' (h : RdS N w' (.slice a m.length cap) m) => RMValid_yes N m _ w' h hv)
 have HRL := Lib.hid (fun l => run_lt hv l 0 hn1)
 have HACC : Hid (accA m (L s) = accOf m (runA m 0 (L s))) := by unfold Hid accA; rw [hv]; rfl
 generalize accA m (L s) = R at *
 clear hm hml hv hn1 hn2 hs
 go_enter Tryz.func17, Tryz.ntmps17
 go_upto_region 1 with fail
 generalize hW : World.alloc w _ = w1
 obtain ⟨hbx, -, hz1, hb1⟩ := alloc_of hW
 have HX := Lib.hid (show BoxV w.heap.size 29 [.slice a m.length cap] w1 from hbx)
 have HB := Lib.hid hb1
 replace HM := Lib.hid (HM.out.stay hb1)
 have HX0 : Hid (∀ w', Below w1.heap.size w1 w' → w'.cell? ⟨w.heap.size, 0, none⟩ = some (.slice a m.length cap)) := fun w' hb => (HX.out.below hb).cell 0
 clear hW hbx hz1 hb1 HX
 have HBX : Hid (w.heap.size ≤ w1.heap.size) := HB.out.size
 generalize hbe : w.heap.size = bx at *
 have HBE := Lib.hid hbe
 clear hbe
 have x0 := HX0.out w1 (Below.refl _ _)
 go_wp2_with fail
 refine (HVA.out w1 HM.out).mono ?_
 rintro e w2 ⟨rfl, hb⟩
 have HW2 := Lib.hid hb
 clear hb x0 HVA
 go_wp2_with fail
 go_loopw [5, 6] (fun qv kv wr => ∃ i : Nat, qv = .int .i64 (runA m 0 ((L s).take i) : Nat) ∧ kv = .int .i64 (i : Int) ∧ i ≤ s.size ∧ Hid (Below w1.heap.size w1 wr)) (fun _ kv _ => s.size - (intOf kv).toNat)
 case atStart => exact ⟨0, rfl, rfl, Nat.zero_le _, HW2.out⟩
 case round =>
  clear HW2
  obtain ⟨i, rfl, rfl, hi, HW⟩ := hrel
  have HQ := Lib.hid (HRL.out ((L s).take i))
  obtain ⟨q, hq⟩ : ∃ q, q = runA m 0 ((L s).take i) := ⟨_, rfl⟩
  rw [← hq] at HQ ⊢
  have HQE := Lib.hid hq
  have hqi : (q : Int) < m.length := by have := HQ.out; omega
  clear hq
  by_cases hlt : i < s.size
  case neg =>
   have hge : ¬ (i : Int) < s.size := by omega
   have HF : Hid (R = accOf m q) := by
    unfold Hid
    rw [HACC.out, HQE.out, List.take_of_length_le (by rw [L_len]; omega)]
   have x0 := HX0.out wr HW.out
   obtain ⟨g, o, b0, k0, c0, rfl, m0, -⟩ := (HM.out.stay HW.out).at_ q HQ.out
   have HAC : Hid (accOf m q = m[q].acc) := acc_eq HQ.out
   generalize m[q].acc = acc at *
   clear hlt
   go_wp2_with fail
   go_ret
   exact ⟨by rw [HF.out, HAC.out]; rfl, HBE.out ▸ HB.out.trans (HW.out.mono HBX.out)⟩
  case pos =>
   have hlti : (i : Int) < s.size := by omega
   have hb8 : s[i].toNat < 256 := s[i].toNat_lt
   have hwr : IntKind.i64.wrap (s[i].toNat : Int) = (s[i].toNat : Int) := IntWalk.i64_in _ (by omega)
   have hge2 : (L s)[i]'(by rw [L_len]; exact hlt) = s[i] := L_get s i hlt
   have HS : Hid (runA m 0 ((L s).take (i + 1)) = nextL (arcsOf m q) s[i].toNat) := by
    unfold Hid
    rw [List.take_succ_eq_append_getElem (by rw [L_len]; exact hlt), runA_snoc, HQE.out, hge2]
   have HC : Hid (∀ w', Below w1.heap.size w1 w' → Calls Tryz.prog 40 #[.agg #[.slice a m.length cap], .int .i64 (q : Int), .int .i64 (s[i].toNat : Int)] w' fun e w'' => e = .returned (.int .i64 (nextL (arcsOf m q) s[i].toNat : Nat)) ∧ Below w'.heap.size w' w'') := fun w' hb => by
    have := Next_any N m _ q s[i].toNat w' (HM.out.stay hb) HQ.out
    rw [show arcsOf m q = m[q].arcs from accs_eq HQ.out]
    exact this
   have HLT := Lib.hid hlt
   clear hge2 HQE
   go_upto_region 7 with fail
   have hS0 : Below w1.heap.size w1 wr.drew := HW.out.trans ((drewBn wr).mono HW.out.size)
   refine wpq_region (fun w' => Below w1.heap.size w1 w') 7 (by kernel_rfl) hS0 (fun hHeld => ?_)
   clear hS0 HW
   generalize wr.drew = wd at *
   refine wpq_tk 0 (some 16) [7] (Or.inl ⟨by rfl, fun w hSw => by (have x0 := HX0.out w hSw; go_simp; with_reducible rfl)⟩) hHeld ?_ rfl rfl
   simp only [Act.put, sA, sZ, sS]
   refine wpq_tk 1 (some 17) [7] (Or.inl ⟨by rfl, fun w hSw => by (have x0 := HX0.out w hSw; go_simp; with_reducible rfl)⟩) hHeld ?_ rfl rfl
   simp only [Act.put, sA, sZ, sS]
   refine wpq_tk 2 (some 18) [7] (Or.inl ⟨by rfl, fun w hSw => by (have x0 := HX0.out w hSw; go_simp; with_reducible rfl)⟩) hHeld ?_ rfl rfl
   simp only [Act.put, sA, sZ, sS]
   refine wpq_tk 3 (some 19) [7] (Or.inl ⟨by rfl, fun w hSw => by (have x0 := HX0.out w hSw; go_simp; with_reducible rfl)⟩) hHeld ?_ rfl rfl
   simp only [Act.put, sA, sZ, sS]
   refine wpq_tk 4 (some 20) [7] (Or.inl ⟨by rfl, fun w hSw => by (have x0 := HX0.out w hSw; go_simp; with_reducible rfl)⟩) hHeld ?_ rfl rfl
   simp only [Act.put, sA, sZ, sS]
   refine wpq_tk 5 (some 21) [7] (Or.inl ⟨by rfl, fun w hSw => by (have x0 := HX0.out w hSw; go_simp; with_reducible rfl)⟩) hHeld ?_ rfl rfl
   simp only [Act.put, sA, sZ, sS]
   refine wpq_one 6 (by kernel_rfl) rfl (fun K hK => ?_)
   go_simp
   refine (HC.out _ hHeld).mono ?_
   rintro e wx ⟨rfl, hb⟩
   replace hHeld := hHeld.trans (hb.mono hHeld.size)
   clear hb
   generalize wx = wd at *
   refine hK.out _ _ hHeld (fun hHeld => ?_)
   clear hK K
   refine wpq_end 7 (by kernel_rfl) rfl (by kernel_rfl) (fun K hK => ?_)
   go_simp
   refine hK.out _ _ ?_
   clear hK K
   refine wpq_done (by kernel_rfl) ?_ _
   go_simp
   go_wp2_with fail
   exact ⟨⟨i + 1, by rw [HS.out], by simp, by have := HLT.out; omega, hHeld⟩, by have := HLT.out; simp [intOf]; omega⟩
end Go.Proofs.YtpkecepelcppiaaGreatDoor

namespace Go.Proofs.YtpkecepelcppiaaGreatDoor
open Go.RowKit Go.Shelf
set_option maxHeartbeats 4000000
set_option maxRecDepth 100000

/-! The least number. -/
theorem exists_min {P : Nat → Prop} : ∀ n, P n → ∃ k, P k ∧ ∀ j, P j → k ≤ j := by
 intro n
 induction n using Nat.strongRecOn with
 | ind n ih =>
  intro h
  by_cases hx : ∃ j, j < n ∧ P j
  ·obtain ⟨j, hj, hp⟩ := hx
   exact ih j hj hp
  ·exact ⟨n, h, fun j hj => Nat.le_of_not_lt (fun hlt => hx ⟨j, hlt, hj⟩)⟩
open Classical in
noncomputable def minN (P : Nat → Prop) : Nat := if h : ∃ n, P n ∧ ∀ j, P j → n ≤ j then Classical.choose h else 0
theorem minN_spec {P : Nat → Prop} (h : ∃ n, P n) : P (minN P) := by
 obtain ⟨n, hn⟩ := h
 unfold minN
 rw [dif_pos (exists_min n hn)]
 exact (Classical.choose_spec (exists_min n hn)).1
theorem minN_le {P : Nat → Prop} {n : Nat} (h : P n) : minN P ≤ n := by
 unfold minN
 rw [dif_pos (exists_min n h)]
 exact (Classical.choose_spec (exists_min n h)).2 n h
def RdN2 (N : Nat → Prop) (w : World) (v : Value) (l : List Nat) : Prop := RdNm w v l ∧ (0 < l.length → ∃ g o n cap, v = .slice (some ⟨g, o, none⟩) n cap ∧ N g)
theorem RdNm.n2 {w : World} {v : Value} {l : List Nat} (h : RdNm w v l) : RdN2 (fun g => g < w.heap.size) w v l := by
 refine ⟨h, fun hl => ?_⟩
 obtain ⟨a, cap, rfl, -, -, -, h3⟩ := h
 obtain ⟨g, o, rfl, hg, -⟩ := h3 hl
 exact ⟨g, o, _, cap, rfl, hg⟩
theorem RdN2.keep {N : Nat → Prop} {w w' : World} {v : Value} {l : List Nat} (h : RdN2 N w v l) (hs : ∀ g, N g → g < w.heap.size → w'.heap[g]? = w.heap[g]?) : RdN2 N w' v l := by
 obtain ⟨⟨a, cap, rfl, h1, h2, h0, h3⟩, hN⟩ := h
 refine ⟨⟨a, cap, rfl, h1, h2, h0, fun hl => ?_⟩, hN⟩
 obtain ⟨g, o, rfl, hg, hc⟩ := h3 hl
 obtain ⟨g2, o2, n2, cap2, he, hn⟩ := hN hl
 cases he
 have hh := hs g hn hg
 have hg' : g < w'.heap.size := by
  rcases Nat.lt_or_ge g w'.heap.size with h | h
  ·exact h
  ·rw [Array.getElem?_eq_none h, Array.getElem?_eq_getElem hg] at hh
   cases hh
 refine ⟨g, o, rfl, hg', fun i hi j hj => ?_⟩
 rw [← hc i hi j hj]
 unfold World.cell?
 rw [hh]
theorem RdN2.mono {N M : Nat → Prop} {w : World} {v : Value} {l : List Nat} (h : RdN2 N w v l) (hm : ∀ g, N g → g < w.heap.size → M g) : RdN2 M w v l := by
 refine ⟨h.1, fun hl => ?_⟩
 obtain ⟨g, o, n, cap, rfl, hg⟩ := h.2 hl
 obtain ⟨a, cap2, he, -, -, -, h3⟩ := h.1
 obtain ⟨g2, o2, rfl, hg2, -⟩ := h3 hl
 cases he
 exact ⟨g, o, _, _, rfl, hm g hg hg2⟩
theorem OwnL.n2 {B : Nat} {e : TypeId} {w : World} {v : Value} {l : List Nat} (h : OwnL B e 1 natV w v l) : RdN2 (fun g => B ≤ g ∧ g < w.heap.size) w v l := by
 obtain ⟨h1, h2⟩ := h.slx natV_len
 refine ⟨h1, fun hl => ?_⟩
 obtain ⟨g, cap, rfl, hb, hg⟩ := h2 hl
 exact ⟨g, 0, _, cap, rfl, hb, hg⟩
structure LA (n : Nat) (m : List StA) (bytes : List Nat) (q : Nat) (RV : Nat → Value) (w3 wr : World) : Prop where
 bel : Below w3.heap.size w3 wr
 nx : wr.rowIs w3.heap.size 82 n (fun i => if i < q then RV i else .slice none 0 0)
 cl : wr.rowIs (w3.heap.size + 1) 3 n (fun i => .int .i64 (if i < q ∧ accOf m i = true then 1 else 0))
 rows : ∀ i, i < q → RdN2 (fun g => w3.heap.size + 2 ≤ g) wr (RV i) (bytes.map (stepL (arcsOf m i)))
structure LB (n : Nat) (m : List StA) (bytes : List Nat) (q k B : Nat) (RV : Nat → Value) (v : Value) (w3 wr : World) : Prop where
 bel : Below w3.heap.size w3 wr
 nx : wr.rowIs w3.heap.size 82 n (fun i => if i < q then RV i else if i = q then v else .slice none 0 0)
 cl : wr.rowIs (w3.heap.size + 1) 3 n (fun i => .int .i64 (if i < q ∧ accOf m i = true then 1 else 0))
 rows : ∀ i, i < q → RdN2 (fun g => w3.heap.size + 2 ≤ g ∧ g < B) wr (RV i) (bytes.map (stepL (arcsOf m i)))
 own : OwnL B 3 1 natV wr v ((bytes.map (stepL (arcsOf m q))).take k)
 base : w3.heap.size + 2 ≤ B ∧ B ≤ wr.heap.size
theorem LA.stay {n : Nat} {m : List StA} {bytes : List Nat} {q : Nat} {RV : Nat → Value} {w3 wr wx : World} (h : LA n m bytes q RV w3 wr) (hb : Below wr.heap.size wr wx) : LA n m bytes q RV w3 wx :=
 ⟨h.bel.trans (hb.mono h.bel.size), h.nx.of_block (hb.block _ h.nx.lt), h.cl.of_block (hb.block _ h.cl.lt), fun i hi => (h.rows i hi).keep (fun g _ hg => hb.block g hg)⟩
theorem LB.stay {n : Nat} {m : List StA} {bytes : List Nat} {q k B : Nat} {RV : Nat → Value} {v : Value} {w3 wr wx : World} (h : LB n m bytes q k B RV v w3 wr) (hb : Below wr.heap.size wr wx) : LB n m bytes q k B RV v w3 wx :=
 ⟨h.bel.trans (hb.mono h.bel.size), h.nx.of_block (hb.block _ h.nx.lt), h.cl.of_block (hb.block _ h.cl.lt), fun i hi => (h.rows i hi).keep (fun g _ hg => hb.block g hg), h.own.stay hb, h.base.1, Nat.le_trans h.base.2 hb.size⟩
theorem LA.inner {n : Nat} {m : List StA} {bytes : List Nat} {q : Nat} {RV : Nat → Value} {w3 wr : World} (h : LA n m bytes q RV w3 wr) : LB n m bytes q 0 wr.heap.size RV (.slice none 0 0) w3 wr :=
 ⟨h.bel, h.nx.congr (fun i _ => by
  by_cases h1 : i < q
  ·rw [if_pos h1, if_pos h1]
  ·rw [if_neg h1, if_neg h1]
   by_cases h2 : i = q
   ·rw [if_pos h2]
   ·rw [if_neg h2]), h.cl, fun i hi => (h.rows i hi).mono (fun g hg hl => ⟨hg, hl⟩), OwnL.nil _ _ _ _ _, by have := h.cl.lt; omega, Nat.le_refl _⟩
theorem LB.done {n : Nat} {m : List StA} {bytes : List Nat} {q k B : Nat} {RV : Nat → Value} {v : Value} {w3 wr : World} (h : LB n m bytes q k B RV v w3 wr) (hk : bytes.length ≤ k) (ha : accOf m q = false) : LA n m bytes (q + 1) (fun i => if i = q then v else RV i) w3 wr := by
 refine ⟨h.bel, h.nx.congr (fun i _ => ?_), h.cl.congr (fun i _ => ?_), fun i hi => ?_⟩
 ·by_cases h1 : i < q
  ·rw [if_pos h1, if_pos (show i < q + 1 by omega), if_neg (show ¬ i = q by omega)]
  ·rw [if_neg h1]
   by_cases h2 : i = q
   ·rw [if_pos h2, if_pos (show i < q + 1 by omega), if_pos h2]
   ·rw [if_neg h2, if_neg (show ¬ i < q + 1 by omega)]
 ·congr 2
  by_cases h2 : i = q
  ·rw [h2, ha]
   simp
  ·have : (i < q) ↔ (i < q + 1) := by omega
   rw [this]
 ·by_cases h2 : i = q
  ·rw [if_pos h2, h2]
   have := h.own.n2
   rw [List.take_of_length_le (by rw [List.length_map]; exact hk)] at this
   exact this.mono (fun g hg _ => by have := h.base.1; omega)
  ·rw [if_neg h2]
   exact (h.rows i (by omega)).mono (fun g hg _ => hg.1)
theorem LB.done1 {n : Nat} {m : List StA} {bytes : List Nat} {q k B : Nat} {RV : Nat → Value} {v : Value} {w3 wr : World} (h : LB n m bytes q k B RV v w3 wr) (hk : bytes.length ≤ k) (ha : accOf m q = true) (_hq : q < n) : LA n m bytes (q + 1) (fun i => if i = q then v else RV i) w3 (wr.setCell ⟨w3.heap.size + 1, q, none⟩ (.int .i64 1)) := by
 have hot : ∀ y, y ≠ w3.heap.size + 1 → (wr.setCell ⟨w3.heap.size + 1, q, none⟩ (.int .i64 1)).heap[y]? = wr.heap[y]? := fun y hy => Below.heap_setCell wr ⟨w3.heap.size + 1, q, none⟩ _ y hy
 refine ⟨h.bel.setCell (p := ⟨w3.heap.size + 1, q, none⟩) (by show _ ≤ w3.heap.size + 1; omega) _, World.rowIs.congr (h.nx.of_block (hot _ (by omega))) (fun i _ => ?_), World.rowIs.congr (h.cl.set q (.int .i64 1)) (fun i _ => ?_), fun i hi => ?_⟩
 ·by_cases h1 : i < q
  ·rw [if_pos h1, if_pos (show i < q + 1 by omega), if_neg (show ¬ i = q by omega)]
  ·rw [if_neg h1]
   by_cases h2 : i = q
   ·rw [if_pos h2, if_pos (show i < q + 1 by omega), if_pos h2]
   ·rw [if_neg h2, if_neg (show ¬ i < q + 1 by omega)]
 ·by_cases h2 : i = q
  ·rw [if_pos h2, h2, if_pos ⟨by omega, ha⟩]
  ·rw [if_neg h2]
   have : (i < q) ↔ (i < q + 1) := by omega
   simp only [this]
 ·by_cases h2 : i = q
  ·rw [if_pos h2, h2]
   have := h.own.n2
   rw [List.take_of_length_le (by rw [List.length_map]; exact hk)] at this
   exact (this.keep (fun g hg _ => hot g (by have := h.base.1; omega))).mono (fun g hg _ => by have := h.base.1; omega)
  ·rw [if_neg h2]
   exact ((h.rows i (by omega)).keep (fun g hg _ => hot g (by omega))).mono (fun g hg _ => hg.1)
theorem LB.push {n : Nat} {m : List StA} {bytes : List Nat} {q k B x : Nat} {RV : Nat → Value} {v v' : Value} {w3 wr w7 : World} (h : LB n m bytes q k B RV v w3 wr) (hk : k < bytes.length) (hx : x = stepL (arcsOf m q) bytes[k]) (_hq : q < n)
  (hown : OwnL B 3 1 natV w7 v' ((bytes.map (stepL (arcsOf m q))).take k ++ [x])) (hg : wr.grownBy w7 v.ownBlock) : LB n m bytes q (k + 1) B RV v' w3 (w7.setCell ⟨w3.heap.size, q, none⟩ v') := by
 have hot : ∀ y, y ≠ w3.heap.size → (w7.setCell ⟨w3.heap.size, q, none⟩ v').heap[y]? = w7.heap[y]? := fun y hy => Below.heap_setCell w7 ⟨w3.heap.size, q, none⟩ _ y hy
 have hbl : Below B wr w7 := grown_belowL hg (fun y hy => (h.own.lt y hy).1) h.base.2
 have h1 := h.base.1
 refine ⟨(h.bel.trans (hbl.mono (by omega))).setCell (p := ⟨w3.heap.size, q, none⟩) (Nat.le_refl _) _, World.rowIs.congr ((h.nx.of_block (hbl.block _ (by omega))).set q v') (fun i _ => ?_), (h.cl.of_block ((hot _ (by omega)).trans (hbl.block _ (by omega)))), fun i hi => ((h.rows i hi).keep (fun g hg _ => (hot g (by omega)).trans (hbl.block g hg.2))), ?_, h1, Nat.le_trans h.base.2 (Nat.le_trans hbl.size (by simp))⟩
 ·by_cases h2 : i = q
  ·rw [if_pos h2, if_neg (by omega), if_pos h2]
  ·rw [if_neg h2, if_neg h2]
   by_cases h3 : i < q
   ·rw [if_pos h3, if_pos h3]
   ·rw [if_neg h3, if_neg h3, if_neg h2]
 ·have h4 : (bytes.map (stepL (arcsOf m q))).take (k + 1) = (bytes.map (stepL (arcsOf m q))).take k ++ [x] := by
   rw [List.take_succ_eq_append_getElem (by rw [List.length_map]; exact hk), List.getElem_map, hx]
  rw [h4]
  exact hown.keep (fun g hg hb _ => hot g (by omega))
/-! The rounds. -/
theorem round_hit {k : List UInt8} {t seen : List (List UInt8)} {i : Nat} (h : seen.findIdx? (fun x => decide (x = k)) = some i) : roundA (k :: t) seen = (i :: (roundA t seen).1, (roundA t seen).2) := by
 rw [roundA, h]
theorem round_miss {k : List UInt8} {t seen : List (List UInt8)} (h : seen.findIdx? (fun x => decide (x = k)) = none) : roundA (k :: t) seen = (seen.length :: (roundA t (seen ++ [k])).1, (roundA t (seen ++ [k])).2) := by
 rw [roundA, h]
structure RI (keys : List (List UInt8)) (fin : List Nat) (seen : List (List UInt8)) (q : Nat) : Prop where
 eq : roundA keys [] = (fin ++ (roundA (keys.drop q) seen).1, (roundA (keys.drop q) seen).2)
 len : fin.length = q
 few : seen.length ≤ q
 lt : ∀ c ∈ fin, c < seen.length
theorem RI.nil (keys : List (List UInt8)) : RI keys [] [] 0 := ⟨by rw [List.drop_zero]; rfl, rfl, Nat.le_refl _, fun c hc => by cases hc⟩
theorem RI.hit {keys : List (List UInt8)} {fin : List Nat} {seen : List (List UInt8)} {q i : Nat} (h : RI keys fin seen q) (hq : q < keys.length) (hi : seen.findIdx? (fun x => decide (x = keys[q])) = some i) : RI keys (fin ++ [i]) seen (q + 1) := by
 refine ⟨?_, by rw [List.length_append, h.len]; rfl, Nat.le_succ_of_le h.few, fun c hc => ?_⟩
 ·rw [h.eq, List.drop_eq_getElem_cons hq, round_hit hi, List.append_assoc]
  rfl
 ·rcases List.mem_append.1 hc with hc | hc
  ·exact h.lt c hc
  ·rw [List.mem_singleton.1 hc]
   exact (List.findIdx?_eq_some_iff_findIdx_eq.1 hi).1
theorem RI.miss {keys : List (List UInt8)} {fin : List Nat} {seen : List (List UInt8)} {q : Nat} (h : RI keys fin seen q) (hq : q < keys.length) (hi : seen.findIdx? (fun x => decide (x = keys[q])) = none) : RI keys (fin ++ [seen.length]) (seen ++ [keys[q]]) (q + 1) := by
 refine ⟨?_, by rw [List.length_append, h.len]; rfl, by rw [List.length_append]; exact Nat.succ_le_succ h.few, fun c hc => ?_⟩
 ·rw [h.eq, List.drop_eq_getElem_cons hq, round_miss hi, List.append_assoc]
  rfl
 ·rw [List.length_append]
  rcases List.mem_append.1 hc with hc | hc
  ·have := h.lt c hc
   exact Nat.lt_succ_of_lt this
  ·rw [List.mem_singleton.1 hc]
   exact Nat.lt_succ_self _
theorem RI.done {keys : List (List UInt8)} {fin : List Nat} {seen : List (List UInt8)} {q : Nat} (h : RI keys fin seen q) (hq : keys.length ≤ q) : roundA keys [] = (fin, seen.length) := by
 rw [h.eq, List.drop_of_length_le hq]
 show (fin ++ [], seen.length) = _
 rw [List.append_nil]
def keysA (cl : List Nat) (nx : List (List Nat)) : List (List UInt8) := (List.range cl.length).map (keyA cl nx)
theorem keysA_len (cl : List Nat) (nx : List (List Nat)) : (keysA cl nx).length = cl.length := by unfold keysA; simp
theorem keysA_at (cl : List Nat) (nx : List (List Nat)) (q : Nat) (hq : q < (keysA cl nx).length) : (keysA cl nx)[q] = keyA cl nx q := by
 have h1 : q < cl.length := by rw [keysA_len] at hq; exact hq
 have h2 : (keysA cl nx)[q]? = some (keyA cl nx q) := by
  unfold keysA
  rw [List.getElem?_map, List.getElem?_range h1]
  rfl
 exact Option.some.inj ((List.getElem?_eq_getElem hq).symm.trans h2)
theorem loopA_succ (nx : List (List Nat)) (f : Nat) (cl : List Nat) (known : Nat) (fin : List Nat) (n : Nat) (h : roundA (keysA cl nx) [] = (fin, n)) : loopA nx (f + 1) cl known = if n = known then some fin else loopA nx f fin n := by
 rw [loopA]
 show (if (roundA (keysA cl nx) []).2 = known then some (roundA (keysA cl nx) []).1 else loopA nx f (roundA (keysA cl nx) []).1 (roundA (keysA cl nx) []).2) = _
 rw [h]
def nxL (m : List StA) (bytes : List Nat) : List (List Nat) := m.map fun s => bytes.map (stepL s.arcs)
def cl0 (m : List StA) : List Nat := m.map fun s => if s.acc then 1 else 0
theorem nxL_at {m : List StA} {bytes : List Nat} {q : Nat} (hq : q < m.length) : (nxL m bytes).getD q [] = bytes.map (stepL (arcsOf m q)) := by
 unfold nxL
 rw [List.getD_eq_getElem?_getD, List.getElem?_map, List.getElem?_eq_getElem hq, accs_eq hq]
 rfl
theorem cl0_at {m : List StA} {q : Nat} (hq : q < m.length) : (cl0 m).getD q 0 = if accOf m q = true then 1 else 0 := by
 unfold cl0
 rw [List.getD_eq_getElem?_getD, List.getElem?_map, List.getElem?_eq_getElem hq, acc_eq hq]
 rfl
theorem least_parts {f : Nat} {m out : List StA} (h : leastA f m = some out) : ∃ cl, loopA (nxL m (startsA m)) f (cl0 m) 0 = some cl ∧ numA m (startsA m) cl (nxL m (startsA m)) f 0 [0] [] = some out := by
 unfold leastA at h
 dsimp only at h
 cases hc : loopA (nxL m (startsA m)) f (cl0 m) 0 with
 | none =>
  rw [show loopA (m.map fun s => (startsA m).map (stepL s.arcs)) f (m.map fun s => if s.acc then 1 else 0) 0 = none from hc] at h
  cases h
 | some cl =>
  rw [show loopA (m.map fun s => (startsA m).map (stepL s.arcs)) f (m.map fun s => if s.acc then 1 else 0) 0 = some cl from hc] at h
  exact ⟨cl, rfl, h⟩
theorem stepL_lt {n : Nat} : ∀ (l : List ArcA) (b c : Nat), okArcs n b l = true → 0 < n → stepL l c < n
 | [], _, _, _, h0 => h0
 | a :: t, b, c, h, h0 => by
  unfold stepL
  have h' := h
  unfold okArcs at h'
  simp only [Bool.and_eq_true, decide_eq_true_eq] at h'
  split
  ·exact h'.1.2
  ·exact stepL_lt t _ c h'.2 h0
structure LC (n : Nat) (m : List StA) (bytes : List Nat) (clF : List Nat) (wA : World) (cv kv : Value) (wr : World) (f gc known : Nat) (cl : List Nat) : Prop where
 cv : cv = .slice (some ⟨gc, 0, none⟩) n n
 kv : kv = .int .i64 (known : Int)
 row : wr.rowIs gc 3 n (fun i => .int .i64 ((cl.getD i 0 : Nat) : Int))
 len : cl.length = n
 lt : ∀ i, cl.getD i 0 ≤ n
 kn : known ≤ n
 ev : loopA (nxL m bytes) f cl known = some clF
 bel : Below wA.heap.size wA wr
theorem LC.least {n : Nat} {m : List StA} {bytes : List Nat} {clF : List Nat} {wA : World} {cv kv : Value} {wr : World} {f gc known : Nat} {cl : List Nat} (h : LC n m bytes clF wA cv kv wr f gc known cl) :
  ∃ μ gc known cl, LC n m bytes clF wA cv kv wr μ gc known cl ∧ minN (fun f => ∃ gc known cl, LC n m bytes clF wA cv kv wr f gc known cl) = μ := by
 obtain ⟨gc, known, cl, hP⟩ := minN_spec (P := fun f => ∃ gc known cl, LC n m bytes clF wA cv kv wr f gc known cl) ⟨f, gc, known, cl, h⟩
 exact ⟨_, gc, known, cl, hP, rfl⟩
theorem snoc_getD (l : List Nat) (x j : Nat) : (l ++ [x]).getD j 0 = if j = l.length then x else l.getD j 0 := by
 rw [List.getD_eq_getElem?_getD, List.getD_eq_getElem?_getD]
 rcases Nat.lt_trichotomy j l.length with h | h | h
 ·rw [if_neg (by omega), List.getElem?_append_left h]
 ·rw [if_pos h, List.getElem?_append_right (by omega), h, Nat.sub_self]
  rfl
 ·rw [if_neg (by omega), List.getElem?_append_right (by omega), List.getElem?_eq_none (by simp; omega), List.getElem?_eq_none (by omega)]
theorem row_snoc {w : World} {g n q x : Nat} {T : TypeId} {fin : List Nat} (h : w.rowIs g T n (fun i => .int .i64 ((fin.getD i 0 : Nat) : Int))) (hl : fin.length = q) : (w.setCell ⟨g, q, none⟩ (.int .i64 (x : Int))).rowIs g T n (fun i => .int .i64 (((fin ++ [x]).getD i 0 : Nat) : Int)) :=
 World.rowIs.congr (h.set q (.int .i64 (x : Int))) (fun i _ => by
  rw [snoc_getD, hl]
  by_cases hi : i = q
  ·rw [if_pos hi, if_pos hi]
  ·rw [if_neg hi, if_neg hi])
end Go.Proofs.YtpkecepelcppiaaGreatDoor
