/- formats.spans, counter.dead, state, arcs walked; printed by gen_fr.py. Conditions: at most 100 characters are told apart. -/
import Derived.Test.YtpkecepelcppiaaGreatDoorZa19
import Derived.Test.YtpkecepelcppiaaGreatDoorZa1
import Derived.Deep.OwnRows
import Derived.Maps.Views
import Derived.Maps.OwnSet
import Derived.Test.YtpkecepelcppiaaGreatDoorZa18
import Derived.ChangeKeysEq
import Derived.Test.YtpkecepelcppiaaGreatDoorZa10
import Derived.Deep.DeepCutAuto
import Derived.Deep.CutBlock
namespace Go.Proofs.YtpkecepelcppiaaGreatDoor
open Go.RowKit Go.Shelf
set_option maxHeartbeats 4000000
set_option maxRecDepth 100000

theorem flatG_len {α : Type} {f : α → List Value} {sz : Nat} (hf : ∀ a, (f a).length = sz) : ∀ l : List α, (l.flatMap f).length = l.length * sz
 | [] => by simp
 | c :: t => by
  rw [List.flatMap_cons, List.length_append, flatG_len hf t, hf, List.length_cons, Nat.succ_mul]
  omega
theorem flatG_at {α : Type} {f : α → List Value} {sz : Nat} (hf : ∀ a, (f a).length = sz) : ∀ (l : List α) (i : Nat) (hi : i < l.length) (j : Nat), j < sz → (l.flatMap f)[i * sz + j]? = (f l[i])[j]?
 | c :: t, 0, _, j, hj => by
  rw [List.flatMap_cons, List.getElem?_append_left (by rw [hf]; omega)]
  simp
 | c :: t, i + 1, hi, j, hj => by
  rw [List.flatMap_cons, List.getElem?_append_right (by rw [hf, Nat.succ_mul]; omega), hf, show (i + 1) * sz + j - sz = i * sz + j by rw [Nat.succ_mul]; omega, flatG_at hf t i (by simpa using hi) j hj]
  rfl
def cellsAt {α : Type} (f : α → List Value) (l : List α) (i : Nat) : List Value := match l[i]? with
 | some a => f a
 | none => []
theorem cellsAt_eq {α : Type} (f : α → List Value) (l : List α) (i : Nat) (hi : i < l.length) : cellsAt f l i = f l[i] := by
 unfold cellsAt
 rw [List.getElem?_eq_getElem hi]
def OwnL {α : Type} (B : Nat) (e : TypeId) (sz : Nat) (f : α → List Value) (w : World) (v : Value) (l : List α) : Prop := w.ownsRow B e sz v l.length (l.flatMap f)
theorem OwnL.nil {α : Type} (B : Nat) (e : TypeId) (sz : Nat) (f : α → List Value) (w : World) : OwnL B e sz f w (.slice none 0 0) [] := World.ownsRow_nil w B e sz
theorem OwnL.form {α : Type} {B : Nat} {e : TypeId} {sz : Nat} {f : α → List Value} {w : World} {v : Value} {l : List α} (h : OwnL B e sz f w v l) : ∃ a cap, v = .slice a l.length cap ∧ l.length ≤ cap ∧ cap ≤ maxLen := by
 rcases h.2 with ⟨rfl, h0⟩ | ⟨g, cap, cur, rfl, hb, hg, h1, h2, h3⟩
 ·exact ⟨none, 0, by rw [h0], by omega, by simp [maxLen]⟩
 ·exact ⟨_, cap, rfl, h1, h2⟩
theorem OwnL.slx {α : Type} {B : Nat} {e : TypeId} {sz : Nat} {f : α → List Value} {w : World} {v : Value} {l : List α} (h : OwnL B e sz f w v l) (hf : ∀ a, (f a).length = sz) :
  SlX w v l.length sz (cellsAt f l) ∧ (0 < l.length → ∃ g cap, v = .slice (some ⟨g, 0, none⟩) l.length cap ∧ B ≤ g ∧ g < w.heap.size) := by
 rcases h.2 with ⟨rfl, h0⟩ | ⟨g, cap, cur, rfl, hb, hg, h1, h2, h3, h4⟩
 ·rw [h0]
  exact ⟨⟨none, 0, rfl, Nat.le_refl _, Nat.zero_le _, fun _ => rfl, fun h => absurd h (Nat.lt_irrefl _)⟩, fun h => absurd h (Nat.lt_irrefl _)⟩
 ·have hgl : g < w.heap.size := (Array.getElem?_eq_some_iff.1 hg).1
  refine ⟨⟨some ⟨g, 0, none⟩, cap, rfl, h1, h2, (fun h => by cases h), fun _ => ⟨g, 0, rfl, hgl, fun i hi j hj => ?_⟩⟩, fun _ => ⟨g, cap, rfl, hb, hgl⟩⟩
  have hx := h.cells (g := g) rfl (i * sz + j)
  have hfl := flatG_at hf l i hi j hj
  have hjc : j < (f l[i]).length := by rw [hf]; exact hj
  rw [List.getElem?_eq_getElem hjc] at hfl
  have hc := hx _ hfl
  have hadd : (⟨g, 0, none⟩ : Addr).add (i * sz + j) = ⟨g, 0 + i * sz + j, none⟩ := by
   unfold Addr.add
   split <;> simp_all
  rw [hadd] at hc
  rw [hc, cellsAt_eq f l i hi]
  exact (List.getElem?_eq_getElem hjc).symm
theorem OwnL.keep {α : Type} {B : Nat} {e : TypeId} {sz : Nat} {f : α → List Value} {w w' : World} {v : Value} {l : List α} (h : OwnL B e sz f w v l) (hk : ∀ g, v.ownBlock = some g → B ≤ g → g < w.heap.size → w'.heap[g]? = w.heap[g]?) : OwnL B e sz f w' v l := by
 refine ⟨h.1, ?_⟩
 rcases h.2 with h | ⟨g, cap, cur, rfl, hb, hg, rest⟩
 ·exact .inl h
 ·exact .inr ⟨g, cap, cur, rfl, hb, (hk g rfl hb (Array.getElem?_eq_some_iff.1 hg).1).trans hg, rest⟩
theorem OwnL.stay {α : Type} {B : Nat} {e : TypeId} {sz : Nat} {f : α → List Value} {w w' : World} {v : Value} {l : List α} (h : OwnL B e sz f w v l) (hb : Below w.heap.size w w') : OwnL B e sz f w' v l := h.keep (fun g _ _ hg => hb.block g hg)
theorem OwnL.lt {α : Type} {B : Nat} {e : TypeId} {sz : Nat} {f : α → List Value} {w : World} {v : Value} {l : List α} (h : OwnL B e sz f w v l) (g : Nat) (hg : v.ownBlock = some g) : B ≤ g ∧ g < w.heap.size := World.ownsRow.lt h g hg
theorem wp_pushL {α : Type} {o : Oper} {a : Act} {w : World} {K : Act → World → Prop} {Q : Exit → Act → World → Prop} {B k sz : Nat} {S e : TypeId} {f : α → List Value} {v : Value} {l : List α} {x : α} (s y : Operand)
  (ho : o.op = .call { callee := .builtin .append, args := #[s, y], argTypes := #[S, S] }) (hel : Elem Tryz.prog S e sz)
  (hf : ∀ a, (f a).length = sz) (hsz0 : 0 < sz) (hone : ∀ u ∈ f x, u.oneCell' = true) (hown : OwnL B e sz f w v l) (hs : a.eval s = v) (hx : a.eval y = .slice (some ⟨k, 0, none⟩) 1 1) (hk : k = w.heap.size) (hn : l.length < 1000000000) (hbase : B ≤ w.heap.size)
  (h : ∀ v' w', OwnL B e sz f w' v' (l ++ [x]) → w.grownBy w' v.ownBlock → (∃ A cap, v' = .slice A (l.length + 1) cap) → (v'.ownBlock = v.ownBlock ∨ ∃ k, w.heap.size ≤ k ∧ v'.ownBlock = some k) → K (a.put o.dst v') w') : o.wp Tryz.prog a (w.alloc (.cells (f x).toArray e)) K Q := by
 subst hk
 obtain ⟨ht, hsz, i, z, hi, hz, hsi, hby, hzs⟩ := hel
 refine wp_append_at s y _ ho B _ i z sz i.bytes ht hi hz hsi rfl hzs hsz v l.length _ hs (hown.alloc _) ⟨w.heap.size, 0, none⟩ 1 1 (f x) hx (by rw [hf, Nat.one_mul]) (new_cells w (f x) _) hone (by simp only [maxLen]; omega) (Nat.le_trans (Nat.mul_le_mul (show l.length + 1 ≤ 1000000000 by omega) hby) (by decide)) (by simp; omega) ?_
 intro v' w' hown' hg hat
 have hg' : w.grownBy w' v.ownBlock := ⟨hg.os, hg.tape, hg.output, Nat.le_trans (by simp) hg.size, fun k hk hne => (hg.block k (by simp; omega) hne).trans (heap_alloc_old w _ hk)⟩
 have hat' : v'.ownBlock = v.ownBlock ∨ ∃ k, w.heap.size ≤ k ∧ v'.ownBlock = some k := by
  rcases hat with h | h
  ·exact .inl h
  ·exact .inr ⟨_, by simp, h⟩
 refine h v' w' ?_ hg' ?_ hat'
 ·unfold OwnL
  rw [List.length_append, List.flatMap_append, List.flatMap_cons, List.flatMap_nil, List.append_nil]
  exact hown'
 ·rcases hown'.2 with ⟨_, h0⟩ | ⟨g, cap, cur, hv, _⟩
  ·omega
  ·exact ⟨_, _, hv⟩
theorem wpl_pushL {α : Type} {ops : Array Oper} {rest : List Oper} {o : Oper} {a : Act} {w : World} {Q : Exit → Act → World → Prop} {B k sz : Nat} {S e : TypeId} {f : α → List Value} {v : Value} {l : List α} {x : α} (s y : Operand)
  (hgd : o.guard = none) (ho : o.op = .call { callee := .builtin .append, args := #[s, y], argTypes := #[S, S] }) (hel : Elem Tryz.prog S e sz)
  (hf : ∀ a, (f a).length = sz) (hsz0 : 0 < sz) (hone : ∀ u ∈ f x, u.oneCell' = true) (hown : OwnL B e sz f w v l) (hs : a.eval s = v) (hx : a.eval y = .slice (some ⟨k, 0, none⟩) 1 1) (hk : k = w.heap.size) (hn : l.length < 1000000000) (hbase : B ≤ w.heap.size)
  (h : ∀ v' w', OwnL B e sz f w' v' (l ++ [x]) → w.grownBy w' v.ownBlock → (∃ A cap, v' = .slice A (l.length + 1) cap) → (v'.ownBlock = v.ownBlock ∨ ∃ k, w.heap.size ≤ k ∧ v'.ownBlock = some k) → wpList Tryz.prog ops Q rest (a.put o.dst v') w') :
  wpList Tryz.prog ops Q (o :: rest) a (w.alloc (.cells (f x).toArray e)) := by
 refine wpList_plain hgd fun K hK => ?_
 exact wp_pushL s y ho hel hf hsz0 hone hown hs hx hk hn hbase (fun v' w' h1 h2 h3 h4 => hK _ _ (h v' w' h1 h2 h3 h4))
/-! Automata in memory. -/
def arcV (a : ArcA) : List Value := [.int .i64 (a.lo : Int), .int .i64 (a.hi : Int), .int .i64 (a.nx : Int)]
theorem arcV_len (a : ArcA) : (arcV a).length = 3 := rfl
theorem arcV_one (a : ArcA) : ∀ u ∈ arcV a, u.oneCell' = true := by
 intro u hu
 simp only [arcV, List.mem_cons, List.not_mem_nil, or_false] at hu
 rcases hu with rfl | rfl | rfl <;> rfl
def natV (n : Nat) : List Value := [.int .i64 (n : Int)]
theorem natV_len (n : Nat) : (natV n).length = 1 := rfl
theorem natV_one (n : Nat) : ∀ u ∈ natV n, u.oneCell' = true := by
 intro u hu
 simp only [natV, List.mem_cons, List.not_mem_nil, or_false] at hu
 rw [hu]
 rfl
def RdA (N : Nat → Prop) (w : World) (v : Value) (l : List ArcA) : Prop :=
 SlX w v l.length 3 (cellsAt arcV l) ∧ (0 < l.length → ∃ g o n cap, v = .slice (some ⟨g, o, none⟩) n cap ∧ N g)
def RdS (N : Nat → Prop) (w : World) (v : Value) (m : List StA) : Prop :=
 ∃ cc : Nat → Value, SlX w v m.length 2 (fun i => match m[i]? with | some s => [.bool s.acc, cc i] | none => []) ∧ (0 < m.length → ∃ g o n cap, v = .slice (some ⟨g, o, none⟩) n cap ∧ N g) ∧ ∀ i (hi : i < m.length), RdA N w (cc i) m[i].arcs
theorem RdA.keep {N : Nat → Prop} {w w' : World} {v : Value} {l : List ArcA} (h : RdA N w v l) (hs : ∀ g, N g → g < w.heap.size → w'.heap[g]? = w.heap[g]?) : RdA N w' v l := by
 obtain ⟨⟨a, cap, rfl, h1, h2, h0, h3⟩, hN⟩ := h
 refine ⟨⟨a, cap, rfl, h1, h2, h0, fun hl => ?_⟩, hN⟩
 obtain ⟨g, o, rfl, hg, hc⟩ := h3 hl
 obtain ⟨g2, o2, n2, cap2, he, hn⟩ := hN hl
 cases he
 have hh := hs g hn hg
 have hg' : g < w'.heap.size := by
  rcases Nat.lt_or_ge g w'.heap.size with h | h
  ·exact h
  ·rw [Array.getElem?_eq_none h, Array.getElem?_eq_getElem hg] at hh
   cases hh
 refine ⟨g, o, rfl, hg', fun i hi j hj => ?_⟩
 rw [← hc i hi j hj]
 unfold World.cell?
 rw [hh]
theorem RdA.mono {N M : Nat → Prop} {w : World} {v : Value} {l : List ArcA} (h : RdA N w v l) (hm : ∀ g, N g → g < w.heap.size → M g) : RdA M w v l := by
 refine ⟨h.1, fun hl => ?_⟩
 obtain ⟨g, o, n, cap, rfl, hg⟩ := h.2 hl
 obtain ⟨a, cap2, he, -, -, -, h3⟩ := h.1
 obtain ⟨g2, o2, rfl, hg2, -⟩ := h3 hl
 cases he
 exact ⟨g, o, _, _, rfl, hm g hg hg2⟩
theorem RdS.keep {N : Nat → Prop} {w w' : World} {v : Value} {m : List StA} (h : RdS N w v m) (hs : ∀ g, N g → g < w.heap.size → w'.heap[g]? = w.heap[g]?) : RdS N w' v m := by
 obtain ⟨cc, ⟨a, cap, rfl, h1, h2, h0, h3⟩, hN, hR⟩ := h
 refine ⟨cc, ⟨a, cap, rfl, h1, h2, h0, fun hl => ?_⟩, hN, fun i hi => (hR i hi).keep hs⟩
 obtain ⟨g, o, rfl, hg, hc⟩ := h3 hl
 obtain ⟨g2, o2, n2, cap2, he, hn⟩ := hN hl
 cases he
 have hh := hs g hn hg
 have hg' : g < w'.heap.size := by
  rcases Nat.lt_or_ge g w'.heap.size with h | h
  ·exact h
  ·rw [Array.getElem?_eq_none h, Array.getElem?_eq_getElem hg] at hh
   cases hh
 refine ⟨g, o, rfl, hg', fun i hi j hj => ?_⟩
 rw [← hc i hi j hj]
 unfold World.cell?
 rw [hh]
theorem RdS.mono {N M : Nat → Prop} {w : World} {v : Value} {m : List StA} (h : RdS N w v m) (hm : ∀ g, N g → g < w.heap.size → M g) : RdS M w v m := by
 obtain ⟨cc, hs, hN, hR⟩ := h
 refine ⟨cc, hs, fun hl => ?_, fun i hi => (hR i hi).mono hm⟩
 obtain ⟨g, o, n, cap, rfl, hg⟩ := hN hl
 obtain ⟨a, cap2, he, -, -, -, h3⟩ := hs
 obtain ⟨g2, o2, rfl, hg2, -⟩ := h3 hl
 cases he
 exact ⟨g, o, _, _, rfl, hm g hg hg2⟩
theorem RdS.stay {N : Nat → Prop} {w w' : World} {v : Value} {m : List StA} (h : RdS N w v m) (hb : Below w.heap.size w w') : RdS N w' v m := h.keep (fun g _ hg => hb.block g hg)
theorem RdA.stay {N : Nat → Prop} {w w' : World} {v : Value} {l : List ArcA} (h : RdA N w v l) (hb : Below w.heap.size w w') : RdA N w' v l := h.keep (fun g _ hg => hb.block g hg)
theorem RdA.form {N : Nat → Prop} {w : World} {v : Value} {l : List ArcA} (h : RdA N w v l) : ∃ a cap, v = .slice a l.length cap ∧ l.length ≤ maxLen := by
 obtain ⟨⟨a, cap, rfl, h1, h2, -⟩, -⟩ := h
 exact ⟨a, cap, rfl, by omega⟩
theorem RdS.form {N : Nat → Prop} {w : World} {v : Value} {m : List StA} (h : RdS N w v m) : ∃ a cap, v = .slice a m.length cap ∧ m.length ≤ maxLen := by
 obtain ⟨cc, ⟨a, cap, rfl, h1, h2, -⟩, -⟩ := h
 exact ⟨a, cap, rfl, by omega⟩
theorem OwnL.arcs {N : Nat → Prop} {B : Nat} {e : TypeId} {w : World} {v : Value} {l : List ArcA} (h : OwnL B e 3 arcV w v l) (hN : ∀ g, B ≤ g → g < w.heap.size → N g) : RdA N w v l := by
 obtain ⟨h1, h2⟩ := h.slx arcV_len
 refine ⟨h1, fun hl => ?_⟩
 obtain ⟨g, cap, rfl, hb, hg⟩ := h2 hl
 exact ⟨g, 0, _, cap, rfl, hN g hb hg⟩
theorem RdA.at_ {N : Nat → Prop} {w : World} {a : Option Addr} {n cap : Nat} {l : List ArcA} (h : RdA N w (.slice a n cap) l) (i : Nat) (hi : i < l.length) :
  ∃ g o, a = some ⟨g, o, none⟩ ∧ w.cell? ⟨g, o + i * 3, none⟩ = some (.int .i64 (l[i].lo : Int)) ∧ w.cell? ⟨g, o + i * 3 + 1, none⟩ = some (.int .i64 (l[i].hi : Int)) ∧ w.cell? ⟨g, o + i * 3 + 2, none⟩ = some (.int .i64 (l[i].nx : Int)) := by
 obtain ⟨a', cap', he, -, -, -, h3⟩ := h.1
 cases he
 obtain ⟨g, o, rfl, hg, hc⟩ := h3 (by omega)
 have h4 := hc i hi
 rw [cellsAt_eq arcV l i hi] at h4
 exact ⟨g, o, rfl, h4 0 (by omega), h4 1 (by omega), h4 2 (by omega)⟩
theorem RdS.at_ {N : Nat → Prop} {w : World} {a : Option Addr} {n cap : Nat} {m : List StA} (h : RdS N w (.slice a n cap) m) (i : Nat) (hi : i < m.length) :
  ∃ g o b k c, a = some ⟨g, o, none⟩ ∧ w.cell? ⟨g, o + i * 2, none⟩ = some (.bool m[i].acc) ∧ w.cell? ⟨g, o + i * 2 + 1, none⟩ = some (.slice b k c) ∧ k = m[i].arcs.length ∧ RdA N w (.slice b k c) m[i].arcs := by
 obtain ⟨cc, hs, -, hR⟩ := h
 obtain ⟨a', cap', he, -, -, -, h3⟩ := hs
 cases he
 obtain ⟨g, o, rfl, hg, hc⟩ := h3 (by omega)
 have h4 := hc i hi
 dsimp only at h4
 rw [List.getElem?_eq_getElem hi] at h4
 obtain ⟨b, c, hb, -⟩ := (hR i hi).form
 have h5 := hR i hi
 rw [hb] at h5
 refine ⟨g, o, b, _, c, rfl, h4 0 (by omega), ?_, rfl, h5⟩
 rw [← hb]
 exact h4 1 (by omega)
theorem slx_block {α : Type} {f : α → List Value} {sz : Nat} (hf : ∀ a, (f a).length = sz) {w : World} {g : Nat} {T : TypeId} {l : List α} (h : w.heap[g]? = some (.cells (l.flatMap f).toArray T (0, 0))) (hl : l.length ≤ maxLen) :
  SlX w (.slice (some ⟨g, 0, none⟩) l.length l.length) l.length sz (cellsAt f l) := by
 refine ⟨some ⟨g, 0, none⟩, _, rfl, Nat.le_refl _, hl, (fun h => by cases h), fun _ => ⟨g, 0, rfl, (Array.getElem?_eq_some_iff.1 h).1, fun i hi j hj => ?_⟩⟩
 rw [cellsAt_eq f l i hi, ← flatG_at hf l i hi j hj, cell_of_row w g _ _ _ (0, 0) h, Nat.zero_add]
 exact List.getElem?_toArray
/-! Rows of strings. -/
def strV (s : ByteArray) : List Value := [.string s]
theorem strV_len (s : ByteArray) : (strV s).length = 1 := rfl
theorem strV_one (s : ByteArray) : ∀ u ∈ strV s, u.oneCell' = true := by
 intro u hu
 simp only [strV, List.mem_cons, List.not_mem_nil, or_false] at hu
 rw [hu]
 rfl
def RdT (w : World) (v : Value) (l : List ByteArray) : Prop := SlX w v l.length 1 (cellsAt strV l)
theorem RdT.stay {w w' : World} {v : Value} {l : List ByteArray} (h : RdT w v l) (hb : Below w.heap.size w w') : RdT w' v l := SlX.below h hb
theorem RdT.form {w : World} {v : Value} {l : List ByteArray} (h : RdT w v l) : ∃ a cap, v = .slice a l.length cap ∧ l.length ≤ maxLen := by
 obtain ⟨a, cap, rfl, h1, h2, -⟩ := h
 exact ⟨a, cap, rfl, by omega⟩
theorem RdT.at_ {w : World} {a : Option Addr} {n cap : Nat} {l : List ByteArray} (h : RdT w (.slice a n cap) l) (i : Nat) (hi : i < l.length) : ∃ g o, a = some ⟨g, o, none⟩ ∧ w.cell? ⟨g, o + i, none⟩ = some (.string l[i]) := by
 obtain ⟨a', cap', he, -, -, -, h3⟩ := h
 cases he
 obtain ⟨g, o, rfl, hg, hc⟩ := h3 (by omega)
 have h4 := hc i hi 0 (by omega)
 rw [cellsAt_eq strV l i hi, Nat.mul_one] at h4
 exact ⟨g, o, rfl, h4⟩
theorem OwnL.strs {B : Nat} {e : TypeId} {w : World} {v : Value} {l : List ByteArray} (h : OwnL B e 1 strV w v l) : RdT w v l := (h.slx strV_len).1
def RdNm (w : World) (v : Value) (l : List Nat) : Prop := SlX w v l.length 1 (cellsAt natV l)
theorem RdNm.stay {w w' : World} {v : Value} {l : List Nat} (h : RdNm w v l) (hb : Below w.heap.size w w') : RdNm w' v l := SlX.below h hb
theorem RdNm.form {w : World} {v : Value} {l : List Nat} (h : RdNm w v l) : ∃ a cap, v = .slice a l.length cap ∧ l.length ≤ maxLen := by
 obtain ⟨a, cap, rfl, h1, h2, -⟩ := h
 exact ⟨a, cap, rfl, by omega⟩
theorem RdNm.at_ {w : World} {a : Option Addr} {n cap : Nat} {l : List Nat} (h : RdNm w (.slice a n cap) l) (i : Nat) (hi : i < l.length) : ∃ g o, a = some ⟨g, o, none⟩ ∧ w.cell? ⟨g, o + i, none⟩ = some (.int .i64 (l[i] : Int)) := by
 obtain ⟨a', cap', he, -, -, -, h3⟩ := h
 cases he
 obtain ⟨g, o, rfl, hg, hc⟩ := h3 (by omega)
 have h4 := hc i hi 0 (by omega)
 rw [cellsAt_eq natV l i hi, Nat.mul_one] at h4
 exact ⟨g, o, rfl, h4⟩
end Go.Proofs.YtpkecepelcppiaaGreatDoor

namespace Go.Proofs.YtpkecepelcppiaaGreatDoor
open Go.RowKit Go.Maps
set_option maxHeartbeats 4000000
set_option maxRecDepth 100000

theorem wpl_look_ok {H : Type} {P : Program} {w : World} {ops : Array Oper} {rest : List Oper} {o : Oper} {a : Act} {Q : Exit → Act → World → Prop} {q : IntKind}
  (hg : o.guard = none) {m x : Operand} {t : TypeId} (hop : o.op = Op.lookup t m x true)
  {k e : TypeId} (K : Keyed P k) (ht : P.underlying t = some (.map k e)) (he : P.underlying e = some (.int q)) (hz : (zeroValue e).run P w = .ok (.int q 0) w) {b n : Nat} {D : DataW H}
  (hm : a.eval m = .map (some b)) (hown : w.ownsMap P k (plainElem P e) b n D) {key : Value} {kl : Lit} (hx : a.eval x = key) (hkey : keyOf P k key = some kl) (r : Bool) (c : Int) (hr : has D kl = r) (hc : D.atKey kl (.lit (.int q 0)) = .lit (.int q c))
  (hK : wpList P ops Q rest (a.put o.dst (.tuple #[.int q c, .bool r])) w) :
  wpList P ops Q (o :: rest) a w := by
 refine wpList_plain hg fun K' hK' => ?_
 have hw0 : (Lit.int q 0).wf = true := by cases q <;> decide
 obtain ⟨v, ps, hrun, hv⟩ := hown.look_ok K ht hz (plainElem_int he hw0) hkey
 obtain ⟨y, rfl, hy, -⟩ := plainElem_int_inv he hv
 simp only [Prod.mk.injEq] at hy
 have hyr : y = c := by
  have := hy.1.symm.trans hc
  simpa using this
 subst hyr
 rw [hr] at hrun
 have hk := hK' _ _ hK
 unfold Oper.wp
 simp [execOp, hop, hm, hx, hrun, Result.andThen]
 exact hk
structure NumM {κ : Type} [DecidableEq κ] (kf : κ → Lit) (D : DataW Unit) (ks : List κ) : Prop where
 tidy : Tidy D
 has_ : ∀ x, has D (kf x) = (ks.findIdx? (fun y => decide (y = x))).isSome
 num : ∀ x i, ks.findIdx? (fun y => decide (y = x)) = some i → D.atKey (kf x) (.lit (.int .i64 0)) = .lit (.int .i64 (i : Int))
 len : size D = ks.length
theorem NumM.nil {κ : Type} [DecidableEq κ] (kf : κ → Lit) : NumM kf (.map []) [] := ⟨tidy_empty, fun _ => rfl, fun _ _ h => (by cases h), rfl⟩
theorem NumM.zero {κ : Type} [DecidableEq κ] {kf : κ → Lit} {D : DataW Unit} {ks : List κ} (h : NumM kf D ks) {x : κ} (hx : ks.findIdx? (fun y => decide (y = x)) = none) : D.atKey (kf x) (.lit (.int .i64 0)) = .lit (.int .i64 0) :=
 atKey_of_not_has (by rw [h.has_, hx]; rfl) _
theorem NumM.push {κ : Type} [DecidableEq κ] {kf : κ → Lit} (hinj : ∀ x y, kf x = kf y → x = y) (hk : ∀ x, WideAt.IsKeyLit (kf x)) {D : DataW Unit} {ks : List κ} (h : NumM kf D ks) (x : κ) (hx : ks.findIdx? (fun y => decide (y = x)) = none) :
  NumM kf (D.put (kf x) (.lit (.int .i64 (ks.length : Int)))) (ks ++ [x]) := by
 have hh : has D (kf x) = false := by rw [h.has_, hx]; rfl
 refine ⟨h.tidy.put (hk x) _, fun y => ?_, fun y i hi => ?_, ?_⟩
 ·rw [List.findIdx?_append]
  by_cases he : x = y
  ·subst he
   rw [has_put_same h.tidy.isMap (hk x), hx]
   simp
  ·rw [has_put_other (fun hh => he (hinj _ _ hh).symm), h.has_]
   cases ks.findIdx? (fun z => decide (z = y)) with
   | some j => rfl
   | none => simp [he]
 ·rw [List.findIdx?_append] at hi
  by_cases he : x = y
  ·subst he
   rw [atKey_put_same h.tidy.isMap (hk x)]
   rw [hx] at hi
   simp at hi
   rw [← hi]
  ·rw [atKey_put_other (fun hh => he (hinj _ _ hh).symm)]
   cases hj : ks.findIdx? (fun z => decide (z = y)) with
   | some j =>
    rw [hj] at hi
    simp at hi
    subst hi
    exact h.num y _ hj
   | none =>
    rw [hj] at hi
    simp [he] at hi
 ·rw [size_put h.tidy, hh, h.len, List.length_append]
  rfl
end Go.Proofs.YtpkecepelcppiaaGreatDoor

namespace Go.Proofs.YtpkecepelcppiaaGreatDoor
open Go.RowKit Go.Shelf
set_option maxHeartbeats 4000000
set_option maxRecDepth 100000

def BoxV (g : Nat) (T : TypeId) (cs : List Value) (w : World) : Prop := w.heap[g]? = some (.cells cs.toArray T (0, 0))
theorem BoxV.cell {g : Nat} {T : TypeId} {cs : List Value} {w : World} (h : BoxV g T cs w) (j : Nat) : w.cell? ⟨g, j, none⟩ = cs[j]? := (cell_of_row w g _ _ T (0, 0) h).trans List.getElem?_toArray
theorem BoxV.free {g : Nat} {T : TypeId} {cs : List Value} {w : World} (h : BoxV g T cs w) (j : Nat) : w.frozen? ⟨g, j, none⟩ = false := Lib.frozen_of_heap h j
theorem BoxV.lt {g : Nat} {T : TypeId} {cs : List Value} {w : World} (h : BoxV g T cs w) : g < w.heap.size := (Array.getElem?_eq_some_iff.1 h).1
theorem BoxV.below {g : Nat} {T : TypeId} {cs : List Value} {w w' : World} (h : BoxV g T cs w) (hb : Below w.heap.size w w') : BoxV g T cs w' := (hb.block g h.lt).trans h
theorem BoxV.keep {g : Nat} {T : TypeId} {cs : List Value} {w w' : World} (h : BoxV g T cs w) (hb : w'.heap[g]? = w.heap[g]?) : BoxV g T cs w' := hb.trans h
theorem RdS.arcs_len {N : Nat → Prop} {w : World} {v : Value} {m : List StA} (h : RdS N w v m) (q : Nat) (hq : q < m.length) : (m[q].arcs.length : Int) ≤ 9223372036854775807 := by
 obtain ⟨cc, -, -, hR⟩ := h
 obtain ⟨a, cap, -, h1⟩ := (hR q hq).form
 simp only [maxLen] at h1
 omega
theorem step_any (N : Nat → Prop) (m : List StA) (v : Value) (q b : Nat) (w : World) (hm : RdS N w v m) (hq : q < m.length) :
  Calls Tryz.prog 121 #[.agg #[v], .int .i64 (q : Int), .int .i64 (b : Int)] w fun e w' => e = .returned (.int .i64 (stepL m[q].arcs b : Nat)) ∧ Below w.heap.size w w' := by
 obtain ⟨a, cap, rfl, hml⟩ := hm.form
 have hal := hm.arcs_len q hq
 obtain ⟨g, o, b0, k0, c0, rfl, m0, m1, hk0, ha⟩ := hm.at_ q hq
 have hqi : (q : Int) < m.length := by omega
 have hmi : (m.length : Int) ≤ 9223372036854775807 := by simp only [maxLen] at hml; omega
 have HM := Lib.hid hm
 have HA := Lib.hid ha
 have hgl : g < w.heap.size := by
  obtain ⟨cc, ⟨a', cap', he, -, -, -, h3⟩, -⟩ := hm
  cases he
  obtain ⟨g2, o2, he2, hg, -⟩ := h3 (by omega)
  cases he2
  exact hg
 generalize m[q].arcs = arcs at *
 subst hk0
 obtain ⟨r, hr⟩ : ∃ r, r = stepL arcs b := ⟨_, rfl⟩
 rw [← hr]
 have HR := Lib.hid hr
 clear hr hm ha hml
 go_enter Tryz.func121, Tryz.ntmps121
 go_upto_region 1 with fail
 generalize hW : World.alloc w _ = w1
 obtain ⟨hbx, -, hz1, hb1⟩ := alloc_of hW
 have HX := Lib.hid (show BoxV w.heap.size 29 [.slice (some ⟨g, o, none⟩) m.length cap] w1 from hbx)
 have HB := Lib.hid hb1
 have x0 : w1.cell? ⟨w.heap.size, 0, none⟩ = some (.slice (some ⟨g, o, none⟩) m.length cap) := HX.out.cell 0
 have y1 : w1.cell? ⟨g, o + q * 2 + 1, none⟩ = some (.slice b0 arcs.length c0) := (hb1.cell (p := ⟨g, o + q * 2 + 1, none⟩) hgl).trans m1
 have HA1 := Lib.hid (HA.out.stay hb1)
 clear hW hbx hz1 hb1 m0 m1
 go_wp2_with fail
 go_loopw [16] (fun kv wr => ∃ k : Nat, kv = .int .i64 (k : Int) ∧ k ≤ arcs.length ∧ Hid (r = stepL (arcs.drop k) b) ∧ Hid (Below w1.heap.size w1 wr)) (fun kv _ => arcs.length - (intOf kv).toNat)
 case atStart => exact ⟨0, rfl, Nat.zero_le _, HR.out, Below.refl _ _⟩
 case round =>
  clear HR x0 y1
  obtain ⟨k, rfl, hk, HR, HW⟩ := hrel
  by_cases hlt : k < arcs.length
  case neg =>
   have hge : ¬ (k : Int) < arcs.length := by omega
   have HF : Hid (r = 0) := HR.out.trans (step_end arcs k b hlt)
   clear hlt
   go_wp2_with fail
   go_ret
   exact ⟨by rw [HF.out]; rfl, HB.out.trans (HW.out.mono HB.out.size)⟩
  case pos =>
   have hlti : (k : Int) < arcs.length := by omega
   obtain ⟨ga, oa, rfl, k0, k1, k2⟩ := (HA1.out.stay HW.out).at_ k hlt
   have HN := Lib.hid (HR.out.trans (step_at arcs k b hlt))
   clear HR
   generalize arcs[k] = arc at *
   obtain ⟨lo, hi, nx⟩ := arc
   simp only at k0 k1 k2 HN
   by_cases hb : b ≤ hi
   ·have hbi : (b : Int) ≤ (hi : Int) := by omega
    have HF := Lib.hid (HN.out.trans (if_pos hb))
    clear HN hb hlt
    go_wp2_with fail
    go_ret
    refine ⟨by rw [HF.out]; rfl, (HB.out.trans (HW.out.mono HB.out.size)).alloc ?_ _⟩
    exact Nat.le_trans HB.out.size HW.out.size
   ·have hbi : ¬ (b : Int) ≤ (hi : Int) := by omega
    have HF := Lib.hid (HN.out.trans (if_neg hb))
    clear HN hb
    go_wp2_with fail
    exact ⟨⟨k + 1, by simp, by omega, HF.out, HW.out.alloc HW.out.size _⟩, by simp [intOf]; omega⟩
theorem Next_any (N : Nat → Prop) (m : List StA) (v : Value) (q b : Nat) (w : World) (hm : RdS N w v m) (hq : q < m.length) :
  Calls Tryz.prog 40 #[.agg #[v], .int .i64 (q : Int), .int .i64 (b : Int)] w fun e w' => e = .returned (.int .i64 (nextL m[q].arcs b : Nat)) ∧ Below w.heap.size w w' := by
 obtain ⟨a, cap, rfl, hml⟩ := hm.form
 have hal := hm.arcs_len q hq
 obtain ⟨g, o, b0, k0, c0, rfl, m0, m1, hk0, ha⟩ := hm.at_ q hq
 have hqi : (q : Int) < m.length := by omega
 have hmi : (m.length : Int) ≤ 9223372036854775807 := by simp only [maxLen] at hml; omega
 have HA := Lib.hid ha
 have hgl : g < w.heap.size := by
  obtain ⟨cc, ⟨a', cap', he, -, -, -, h3⟩, -⟩ := hm
  cases he
  obtain ⟨g2, o2, he2, hg, -⟩ := h3 (by omega)
  cases he2
  exact hg
 generalize m[q].arcs = arcs at *
 subst hk0
 obtain ⟨r, hr⟩ : ∃ r, r = nextL arcs b := ⟨_, rfl⟩
 rw [← hr]
 have HR := Lib.hid hr
 clear hr hm ha hml
 go_enter Tryz.func40, Tryz.ntmps40
 go_upto_region 1 with fail
 generalize hW : World.alloc w _ = w1
 obtain ⟨hbx, -, hz1, hb1⟩ := alloc_of hW
 have HX := Lib.hid (show BoxV w.heap.size 29 [.slice (some ⟨g, o, none⟩) m.length cap] w1 from hbx)
 have HB := Lib.hid hb1
 have HM1 : Hid (w1.cell? ⟨g, o + q * 2 + 1, none⟩ = some (.slice b0 arcs.length c0) ∧ g < w1.heap.size) := ⟨(hb1.cell (p := ⟨g, o + q * 2 + 1, none⟩) hgl).trans m1, Nat.lt_of_lt_of_le hgl hb1.size⟩
 have HA1 := Lib.hid (HA.out.stay hb1)
 clear hW hbx hz1 hb1 m0 m1
 go_wp2_with fail
 go_loopw [7] (fun kv wr => ∃ k : Nat, kv = .int .i64 (k : Int) ∧ k ≤ arcs.length ∧ Hid (r = nextL (arcs.drop k) b) ∧ Hid (Below w1.heap.size w1 wr)) (fun kv _ => arcs.length - (intOf kv).toNat)
 case atStart => exact ⟨0, rfl, Nat.zero_le _, HR.out, Below.refl _ _⟩
 case round =>
  clear HR
  obtain ⟨k, rfl, hk, HR, HW⟩ := hrel
  have x0 : wr.cell? ⟨w.heap.size, 0, none⟩ = some (.slice (some ⟨g, o, none⟩) m.length cap) := (HX.out.below HW.out).cell 0
  have y1 : wr.cell? ⟨g, o + q * 2 + 1, none⟩ = some (.slice b0 arcs.length c0) := (HW.out.cell (p := ⟨g, o + q * 2 + 1, none⟩) HM1.out.2).trans HM1.out.1
  by_cases hlt : k < arcs.length
  case neg =>
   have hge : ¬ (k : Int) < arcs.length := by omega
   have HF : Hid (r = 0) := HR.out.trans (next_end arcs k b hlt)
   clear hlt
   go_wp2_with fail
   go_ret
   exact ⟨by rw [HF.out]; rfl, HB.out.trans (HW.out.mono HB.out.size)⟩
  case pos =>
   have hlti : (k : Int) < arcs.length := by omega
   obtain ⟨ga, oa, rfl, k0, k1, k2⟩ := (HA1.out.stay HW.out).at_ k hlt
   have HN := Lib.hid (HR.out.trans (next_at arcs k b hlt))
   clear HR
   generalize arcs[k] = arc at *
   obtain ⟨lo, hi, nx⟩ := arc
   simp only at k0 k1 k2 HN
   by_cases hc : lo ≤ b
   ·have hci : (lo : Int) ≤ (b : Int) := by omega
    by_cases hb : b ≤ hi
    ·have hbi : (b : Int) ≤ (hi : Int) := by omega
     have HF := Lib.hid (HN.out.trans (if_pos ⟨hc, hb⟩))
     clear HN hb hc hlt
     go_wp2_with fail
     go_ret
     refine ⟨by rw [HF.out]; rfl, (HB.out.trans (HW.out.mono HB.out.size)).alloc ?_ _⟩
     exact Nat.le_trans HB.out.size HW.out.size
    ·have hbi : ¬ (b : Int) ≤ (hi : Int) := by omega
     have HF := Lib.hid (HN.out.trans (if_neg (fun h => hb h.2)))
     clear HN hb hc
     go_wp2_with fail
     exact ⟨⟨k + 1, by simp, by omega, HF.out, HW.out.alloc HW.out.size _⟩, by simp [intOf]; omega⟩
   ·have hci : ¬ (lo : Int) ≤ (b : Int) := by omega
    have HF := Lib.hid (HN.out.trans (if_neg (fun h => hc h.1)))
    clear HN hc
    go_wp2_with fail
    exact ⟨⟨k + 1, by simp, by omega, HF.out, HW.out.alloc HW.out.size _⟩, by simp [intOf]; omega⟩
end Go.Proofs.YtpkecepelcppiaaGreatDoor

namespace Go.Proofs.YtpkecepelcppiaaGreatDoor
open Go.RowKit Go.Shelf
set_option maxHeartbeats 4000000
set_option maxRecDepth 100000

theorem elemIn : Elem Tryz.prog 82 3 1 := elem_of (z := .int .i64 0) (bytes := 8) Tryz.underlying82 (by kernel_rfl) (by decide) (by decide) rfl
theorem stB : StT Tryz.prog 143 256 := ⟨by kernel_rfl, by kernel_rfl⟩
def BlkA (w : World) (g : Nat) (F : Nat → Prop) : Prop := w.rowIs g 143 256 (bvB F)
theorem BlkA.congr {w : World} {g : Nat} {F G : Nat → Prop} (h : BlkA w g F) (e : ∀ j, j < 256 → (F j ↔ G j)) : BlkA w g G := World.rowIs.congr h (fun j hj => bvB_congr (e j hj))
theorem BlkA.cell {w : World} {g : Nat} {F : Nat → Prop} (h : BlkA w g F) {j : Nat} (hj : j < 256) : w.cell? ⟨g, j, none⟩ = some (bvB F j) := World.rowIs.cell h hj
theorem BlkA.lt {w : World} {g : Nat} {F : Nat → Prop} (h : BlkA w g F) : g < w.heap.size := World.rowIs.lt h
theorem BlkA.stay {w w' : World} {g : Nat} {F : Nat → Prop} (h : BlkA w g F) (hb : Below w.heap.size w w') : BlkA w' g F := World.rowIs.of_block h (hb.block g h.lt)
theorem BlkA.set {w : World} {g : Nat} {F : Nat → Prop} (h : BlkA w g F) (i : Nat) : BlkA (w.setCell ⟨g, i, none⟩ (.bool true)) g (fun j => j = i ∨ F j) := by
 refine World.rowIs.congr (World.rowIs.set h i (.bool true)) (fun j _ => ?_)
 by_cases hj : j = i
 ·rw [if_pos hj, bvB_true (.inl hj)]
 ·rw [if_neg hj]
  exact bvB_congr ⟨fun h => .inr h, fun h => h.resolve_left hj⟩
theorem zeros256 : Tryz.zeroCells143 = madeCells #[.bool false] 256 := by kernel_rfl
theorem blkA_new (w : World) : BlkA (w.alloc (.cells Tryz.zeroCells143 143)) w.heap.size (fun _ => False) := by
 rw [zeros256]
 exact World.rowIs.congr (World.rowIs_made w (.bool false) 256 143) (fun _ _ => (bvB_false (fun h => h)).symm)
def mkP (m : List StA) (i j b : Nat) : Prop := (m.take i).any (fun s => s.arcs.any fun a => decide (a.lo = b)) = true ∨ ((arcsOf m i).take j).any (fun a => decide (a.lo = b)) = true
theorem mk_zero (m : List StA) (b : Nat) : False ↔ mkP m 0 0 b := by
 unfold mkP
 simp
theorem mk_arc {m : List StA} {i j b : Nat} (hi : i < m.length) (hj : j < m[i].arcs.length) : (b = (m[i].arcs[j]).lo ∨ mkP m i j b) ↔ mkP m i (j + 1) b := by
 unfold mkP arcsOf
 rw [List.getElem?_eq_getElem hi]
 dsimp only
 rw [List.take_succ_eq_append_getElem hj, List.any_append]
 simp only [List.any_cons, List.any_nil, Bool.or_false, Bool.or_eq_true, decide_eq_true_eq]
 constructor
 ·rintro (h | h | h)
  ·exact .inr (.inr h.symm)
  ·exact .inl h
  ·exact .inr (.inl h)
 ·rintro (h | h | h)
  ·exact .inr (.inl h)
  ·exact .inr (.inr h)
  ·exact .inl h.symm
theorem mk_state {m : List StA} {i b : Nat} (hi : i < m.length) : mkP m i m[i].arcs.length b ↔ mkP m (i + 1) 0 b := by
 unfold mkP arcsOf
 rw [List.getElem?_eq_getElem hi]
 dsimp only
 rw [List.take_succ_eq_append_getElem hi, List.any_append, List.take_of_length_le (Nat.le_refl _)]
 simp
theorem mk_end (m : List StA) (b : Nat) : mkP m m.length 0 b ↔ (m.any fun s => s.arcs.any fun a => decide (a.lo = b)) = true := by
 unfold mkP
 rw [List.take_of_length_le (Nat.le_refl _)]
 simp
def stG (m : List StA) (k : Nat) : List Nat := (List.range k).filter fun b => m.any fun s => s.arcs.any fun a => decide (a.lo = b)
theorem stG_step (m : List StA) (k : Nat) : stG m (k + 1) = if (m.any fun s => s.arcs.any fun a => decide (a.lo = k)) = true then stG m k ++ [k] else stG m k := by
 unfold stG
 rw [List.range_succ, List.filter_append]
 by_cases h : (m.any fun s => s.arcs.any fun a => decide (a.lo = k)) = true
 ·rw [if_pos h]
  simp only [List.filter_cons, List.filter_nil]
  rw [if_pos h]
 ·rw [if_neg h]
  simp only [List.filter_cons, List.filter_nil]
  rw [if_neg h, List.append_nil]
theorem stG_len (m : List StA) (k : Nat) : (stG m k).length ≤ k := Nat.le_trans (List.length_filter_le _ _) (by rw [List.length_range]; exact Nat.le_refl _)
theorem grown_belowL {w w' : World} {v : Value} {B : Nat} (hg : w.grownBy w' v.ownBlock) (hv : ∀ x, v.ownBlock = some x → B ≤ x) (hB : B ≤ w.heap.size) : Below B w w' :=
 ⟨hg.os, hg.tape, hg.output, hg.size, fun x hx => hg.block x (Nat.lt_of_lt_of_le hx hB) (fun he => by have := hv x he.symm; omega)⟩
theorem idx256 (cs : List Value) (k : Nat) (b : Bool) (hk : k < 256) (h : cs[k]? = some (.bool b)) (w : World) : (Instr.index 143 (.agg cs.toArray) (.int .i64 (k : Int))).run Tryz.prog w = .ok (.bool b) w := by
 have h1 : (0 : Int) ≤ (k : Int) ∧ (k : Int) < 256 := by omega
 have hu := Tryz.underlying143
 simp [Instr.index, run_underlying hu, asIntOf, h1, Result.andThen]
 rw [if_pos hk]
 exact run_part_plain w (by kernel_rfl) (List.getElem?_toArray.trans h)
theorem RdS.lt0 {N : Nat → Prop} {w : World} {g o n cap : Nat} {m : List StA} (h : RdS N w (.slice (some ⟨g, o, none⟩) n cap) m) (h0 : 0 < m.length) : g < w.heap.size := by
 obtain ⟨cc, ⟨a', cap', he, -, -, -, h3⟩, -⟩ := h
 cases he
 obtain ⟨g2, o2, he2, hg, -⟩ := h3 h0
 cases he2
 exact hg
theorem starts_any (N : Nat → Prop) (m : List StA) (v : Value) (g0 : Nat) (w : World) (h0 : w.cell? ⟨g0, 0, none⟩ = some v) (hg0 : g0 < w.heap.size) (hm : RdS N w v m) (hlo : ∀ i (hi : i < m.length) j (hj : j < m[i].arcs.length), (m[i].arcs[j]).lo ≤ 255) :
  Calls Tryz.prog 120 #[.slice (some ⟨g0, 0, none⟩) 1 1] w fun e w' => ∃ v', e = .returned v' ∧ RdNm w' v' (startsA m) ∧ Below w.heap.size w w' := by
 obtain ⟨a, cap, rfl, hml⟩ := hm.form
 have hmi : (m.length : Int) ≤ 9223372036854775807 := by simp only [maxLen] at hml; omega
 have HM := Lib.hid hm
 have HLO := Lib.hid hlo
 have H0 := Lib.hid h0
 have HAL := Lib.hid (fun i hi => hm.arcs_len i hi)
 have HG0 := Lib.hid hg0
 clear hml hm hlo h0 hg0
 go_enter Tryz.func120, Tryz.ntmps120
 go_upto_region 2 with fail
 generalize hW : World.alloc w _ = w1
 have HK := Lib.hid (show BlkA w1 w.heap.size (fun _ => False) from hW ▸ blkA_new w)
 obtain ⟨-, -, hz1, hb1⟩ := alloc_of hW
 have HB := Lib.hid hb1
 clear hW hz1 hb1
 go_wp2_with fail
 go_loopw [15] (fun kv wr => ∃ k : Nat, kv = .int .i64 (k : Int) ∧ k ≤ 1 ∧ Hid (BlkA wr w.heap.size (fun b => k = 1 ∧ mkP m m.length 0 b)) ∧ Hid (Below w.heap.size w wr)) (fun kv _ => 1 - (intOf kv).toNat)
 case atStart => exact ⟨0, rfl, by omega, HK.out.congr (fun b _ => ⟨fun h => h.elim, fun h => absurd h.1 (by decide)⟩), HB.out⟩
 case round =>
  clear HK HB
  obtain ⟨k, rfl, hk, HK, HB⟩ := hrel
  by_cases hk0 : k = 0
  case pos =>
   subst hk0
   have h0 : wr.cell? ⟨g0, 0, none⟩ = some (.slice a m.length cap) := (HB.out.cell (p := ⟨g0, 0, none⟩) HG0.out).trans H0.out
   replace HK := Lib.hid (HK.out.congr (G := fun b => mkP m 0 0 b) (fun b _ => ⟨fun h => absurd h.1 (by decide), fun h => ((mk_zero m b).2 h).elim⟩))
   go_upto_region 5 with fail
   generalize hW : World.alloc wr _ = w2
   obtain ⟨hbx, -, hz1, hb1⟩ := alloc_of hW
   have x0 : w2.cell? ⟨wr.heap.size, 0, none⟩ = some (.slice a m.length cap) := (show BoxV wr.heap.size 29 [.slice a m.length cap] w2 from hbx).cell 0
   replace HK := Lib.hid (HK.out.stay hb1)
   replace HB := Lib.hid (HB.out.trans (hb1.mono HB.out.size))
   clear hW hbx hz1 hb1 h0
   go_wp2_with fail
   clear x0
   go_loopw [22] (fun iv wr => ∃ i : Nat, iv = .int .i64 (i : Int) ∧ i ≤ m.length ∧ Hid (BlkA wr w.heap.size (fun b => mkP m i 0 b)) ∧ Hid (Below w.heap.size w wr)) (fun iv _ => m.length - (intOf iv).toNat)
   case atStart => exact ⟨0, rfl, Nat.zero_le _, HK.out, HB.out⟩
   case round =>
    clear HK HB
    obtain ⟨i, rfl, hi, HK, HB⟩ := hrel
    by_cases hlt : i < m.length
    case neg =>
     have hge : ¬ (i : Int) < m.length := by omega
     have hie : i = m.length := by omega
     have HK2 := Lib.hid (HK.out.congr (G := fun b => 1 = 1 ∧ mkP m m.length 0 b) (fun b _ => by rw [hie]; exact ⟨fun h => ⟨rfl, h⟩, fun h => h.2⟩))
     clear hlt hie
     go_wp2_with fail
     exact ⟨⟨1, rfl, Nat.le_refl _, HK2.out, HB.out⟩, by simp [intOf]⟩
    case pos =>
     have hlti : (i : Int) < m.length := by omega
     obtain ⟨g, o, b0, k0, c0, rfl, m0, m1, hk0, ha⟩ := HM.out.at_ i hlt
     have hgl := HM.out.lt0 (by omega)
     replace m0 := (HB.out.cell (p := ⟨g, o + i * 2, none⟩) hgl).trans m0
     replace m1 := (HB.out.cell (p := ⟨g, o + i * 2 + 1, none⟩) hgl).trans m1
     have HA := Lib.hid ha
     have hal := HAL.out i hlt
     have HMA := Lib.hid (fun j (hj : j < m[i].arcs.length) b => mk_arc (b := b) hlt hj)
     have HMS := Lib.hid (fun b => mk_state (m := m) (b := b) hlt)
     have HLB := Lib.hid (HLO.out i hlt)
     have HLT : Hid (i + 1 ≤ m.length) := hlt
     generalize m[i].acc = acc at *
     generalize m[i].arcs = arcs at *
     subst hk0
     clear ha hlt hgl
     go_upto_region 8 with fail
     generalize hW2 : World.alloc wr _ = w3
     obtain ⟨hbx, -, hz1, hb1⟩ := alloc_of hW2
     have s1 : w3.cell? ⟨wr.heap.size, 1, none⟩ = some (.slice b0 arcs.length c0) := (show BoxV wr.heap.size 70 [.bool acc, .slice b0 arcs.length c0] w3 from hbx).cell 1
     replace HK := Lib.hid (HK.out.stay hb1)
     replace HB := Lib.hid (HB.out.trans (hb1.mono HB.out.size))
     clear hW2 hbx hz1 hb1 m0 m1
     go_wp2_with fail
     clear s1
     go_loopw [29] (fun jv wr => ∃ j : Nat, jv = .int .i64 (j : Int) ∧ j ≤ arcs.length ∧ Hid (BlkA wr w.heap.size (fun b => mkP m i j b)) ∧ Hid (Below w.heap.size w wr)) (fun jv _ => arcs.length - (intOf jv).toNat)
     case atStart => exact ⟨0, rfl, Nat.zero_le _, HK.out, HB.out⟩
     case round =>
      clear HK HB
      obtain ⟨j, rfl, hj, HK, HB⟩ := hrel
      by_cases hjt : j < arcs.length
      case neg =>
       have hge : ¬ (j : Int) < arcs.length := by omega
       have hje : j = arcs.length := by omega
       have HK2 := Lib.hid (HK.out.congr (G := fun b => mkP m (i + 1) 0 b) (fun b _ => by rw [hje]; exact HMS.out b))
       clear hjt hje
       go_wp2_with fail
       exact ⟨⟨i + 1, by simp, HLT.out, HK2.out, HB.out⟩, by have := HLT.out; simp [intOf]; omega⟩
      case pos =>
       have hjti : (j : Int) < arcs.length := by omega
       obtain ⟨ga, oa, rfl, k0, k1, k2⟩ := (HA.out.stay HB.out).at_ j hjt
       have HST := Lib.hid (HMA.out j hjt)
       have hl5 := HLB.out j hjt
       generalize arcs[j] = arc at *
       obtain ⟨lo, hh, nx⟩ := arc
       simp only at k0 k1 k2 HST hl5
       have hl6 : (lo : Int) < 256 := by omega
       have HL : Hid (lo < 256) := by unfold Hid; omega
       have HJ : Hid (j + 1 ≤ arcs.length) := hjt
       clear hjt
       go_upto_region 11 with fail
       generalize hW3 : World.alloc wr _ = w5
       obtain ⟨hbx, -, hz1, hb1⟩ := alloc_of hW3
       have d0 : w5.cell? ⟨wr.heap.size, 0, none⟩ = some (.int .i64 (lo : Int)) := (show BoxV wr.heap.size 72 [.int .i64 (lo : Int), .int .i64 (hh : Int), .int .i64 (nx : Int)] w5 from hbx).cell 0
       replace HK := Lib.hid (HK.out.stay hb1)
       replace HB := Lib.hid (HB.out.trans (hb1.mono HB.out.size))
       have hcl := HK.out.cell HL.out
       have hfz := World.rowIs.frozen HK.out lo
       clear hW3 hbx hz1 hb1 k0 k1 k2
       go_wp2_with fail
       exact ⟨⟨j + 1, by simp, HJ.out, (HK.out.set lo).congr (fun b _ => HST.out b), HB.out.setCell (p := ⟨w.heap.size, lo, none⟩) (Nat.le_refl _) _⟩, by have := HJ.out; simp [intOf]; omega⟩
  case neg =>
   have hk1 : k = 1 := by omega
   subst hk1
   replace HK := Lib.hid (HK.out.congr (G := fun b => (m.any fun s => s.arcs.any fun a => decide (a.lo = b)) = true) (fun b _ => ⟨fun h => (mk_end m b).1 h.2, fun h => ⟨rfl, (mk_end m b).2 h⟩⟩))
   obtain ⟨cs, hcl, hcs⟩ : ∃ cs : List Value, cs.length = 256 ∧ ∀ j, j < 256 → cs[j]? = some (bvB (fun b => (m.any fun s => s.arcs.any fun a => decide (a.lo = b)) = true) j) :=
    ⟨(List.range 256).map (bvB _), by simp, fun j hj => by rw [List.getElem?_map, List.getElem?_range hj]; rfl⟩
   have HCS := Lib.hid hcs
   have HCL := Lib.hid hcl
   have HCC : Hid (∀ j, j < 256 → wr.cell? ⟨w.heap.size, 0 + j, none⟩ = cs[j]?) := fun j hj => by rw [Nat.zero_add, HCS.out j hj]; exact HK.out.cell hj
   clear hcl hcs hk0 HK
   go_wp2_with (refine wpl_load rfl rfl stB rfl (cs := cs) HCL.out HCC.out ?_)
   clear HCC
   go_loopw [10, 40] (fun ov kv wr => ∃ (k : Nat) (A : Option Addr) (cap : Nat), kv = .int .i64 (k : Int) ∧ k ≤ 256 ∧ ov = .slice A (stG m k).length cap ∧ Hid (OwnL w.heap.size 3 1 natV wr (.slice A (stG m k).length cap) (stG m k)) ∧ Hid (Below w.heap.size w wr)) (fun _ kv _ => 256 - (intOf kv).toNat)
   case atStart => exact ⟨0, none, 0, rfl, by omega, rfl, OwnL.nil _ _ _ _ _, HB.out⟩
   case round =>
    clear HB
    obtain ⟨k, A, cap, rfl, hk, rfl, HO, HB⟩ := hrel
    by_cases hlt : k < 256
    case neg =>
     have hke : k = 256 := by omega
     subst hke
     have HRD : Hid (RdNm wr (.slice A (stG m 256).length cap) (startsA m)) := (HO.out.slx natV_len).1
     clear hlt
     go_wp2_with fail
     go_ret
     exact ⟨_, rfl, HRD.out, HB.out⟩
    case pos =>
     have hlti : (k : Int) < 256 := by omega
     have HC := Lib.hid (HCS.out k hlt)
     have HLT : Hid (k + 1 ≤ 256) := hlt
     have HST := Lib.hid (stG_step m k)
     have HLE := Lib.hid (stG_len m k)
     by_cases hf : (m.any fun s => s.arcs.any fun a => decide (a.lo = k)) = true
     ·have hix := fun w' => idx256 cs k true hlt (HC.out.trans (by rw [bvB_true hf])) w'
      replace HST := Lib.hid (HST.out.trans (if_pos hf))
      have HBL := Lib.hid HB.out.size
      clear hlt hf HC
      go_wp2_with (at_builtin; refine wpl_pushL (f := natV) (x := k) (v := .slice A (stG m k).length cap) (l := stG m k) (B := w.heap.size) (e := 3) (sz := 1) _ _ rfl rfl elemIn natV_len (by decide) (natV_one k) HO.out rfl rfl rfl (by have := HLE.out; omega) HBL.out ?_; intro v3 w3 hown3 hg3 hfm3 hat3; obtain ⟨A3, cap3, rfl⟩ := hfm3)
      have hgb := grown_belowL hg3 (fun x hx => (HO.out.lt x hx).1) HBL.out
      exact ⟨⟨k + 1, A3, cap3, by simp, HLT.out, by rw [HST.out, List.length_append]; rfl, by rw [HST.out]; unfold Hid; simpa using hown3, HB.out.trans hgb⟩, by have := HLT.out; simp [intOf]; omega⟩
     ·have hix := fun w' => idx256 cs k false hlt (HC.out.trans (by rw [bvB_false hf])) w'
      replace HST := Lib.hid (HST.out.trans (if_neg hf))
      clear hlt hf HC
      go_wp2_with fail
      exact ⟨⟨k + 1, A, cap, by simp, HLT.out, by rw [HST.out], by rw [HST.out]; exact HO.out, HB.out⟩, by have := HLT.out; simp [intOf]; omega⟩
end Go.Proofs.YtpkecepelcppiaaGreatDoor

namespace Go.Proofs.YtpkecepelcppiaaGreatDoor
open Go.RowKit Go.Shelf
set_option maxHeartbeats 4000000
set_option maxRecDepth 100000

theorem hiOf_any (bytes : List Nat) (v : Value) (i : Nat) (w : World) (hr : RdNm w v bytes) (hi : i < bytes.length) (hp : ∀ b, bytes[i + 1]? = some b → 1 ≤ b ∧ b ≤ 255) :
  Calls Tryz.prog 149 #[v, .int .i64 (i : Int)] w fun e w' => e = .returned (.int .i64 (hiA bytes i : Nat)) ∧ w = w' := by
 obtain ⟨a, cap, rfl, hl⟩ := hr.form
 have hli : (bytes.length : Int) ≤ 9223372036854775807 := by simp only [maxLen] at hl; omega
 have hii : (i : Int) < bytes.length := by omega
 have HR := Lib.hid hr
 by_cases hn : i + 1 < bytes.length
 ·obtain ⟨g, o, rfl, hc⟩ := hr.at_ (i + 1) hn
  have hh : hiA bytes i = bytes[i + 1] - 1 := by unfold hiA; rw [List.getElem?_eq_getElem hn]
  obtain ⟨h1, h2⟩ := hp _ (List.getElem?_eq_getElem hn)
  have HF : Hid (hiA bytes i = bytes[i + 1] - 1) := hh
  generalize hiA bytes i = R at *
  generalize bytes[i + 1] = b at *
  have hni : (i : Int) + 1 < bytes.length := by omega
  have HB : Hid (1 ≤ b) := h1
  have hb1 : (1 : Int) ≤ (b : Int) := by omega
  have hb2 : (b : Int) ≤ 255 := by omega
  clear hl hr hi hp hn hh h1 h2
  go_enter Tryz.func149, Tryz.ntmps149
  go_wp2_with fail
  go_ret
  refine ⟨?_, rfl⟩
  rw [HF.out, Int.ofNat_sub HB.out]
  rfl
 ·have hh : hiA bytes i = 255 := by unfold hiA; rw [List.getElem?_eq_none (by omega)]
  rw [hh]
  have hni : ¬ (i : Int) + 1 < bytes.length := by omega
  clear hl hr hi hp hn hh
  go_enter Tryz.func149, Tryz.ntmps149
  go_wp2_with fail
  go_ret
  exact ⟨rfl, rfl⟩
theorem elemA : Elem Tryz.prog 68 72 3 := elem_of (z := .agg #[.int .i64 0, .int .i64 0, .int .i64 0]) (bytes := 24) Tryz.underlying68 (by kernel_rfl) (by decide) (by decide) rfl
theorem arcs_set : ∀ (l : List ArcA) (i : Nat) (hi : i < l.length) (hh : Nat), (l.flatMap arcV).set (i * 3 + 1) (.int .i64 (hh : Int)) = (l.set i ⟨l[i].lo, hh, l[i].nx⟩).flatMap arcV
 | a :: t, 0, _, hh => rfl
 | a :: t, i + 1, hi, hh => by
  rw [List.flatMap_cons, List.set_cons_succ, List.flatMap_cons]
  show List.set (arcV a ++ _) _ _ = arcV a ++ _
  rw [show (i + 1) * 3 + 1 = (arcV a).length + (i * 3 + 1) by rw [arcV_len]; omega, List.set_append_right _ _ (by omega), Nat.add_sub_cancel_left, arcs_set t i (by simpa using hi) hh]
  rfl
theorem OwnL.setArc {B : Nat} {e : TypeId} {w : World} {g n cap : Nat} {l : List ArcA} (h : OwnL B e 3 arcV w (.slice (some ⟨g, 0, none⟩) n cap) l) (i : Nat) (hi : i < l.length) (hh : Nat) :
  OwnL B e 3 arcV (w.setCell ⟨g, i * 3 + 1, none⟩ (.int .i64 (hh : Int))) (.slice (some ⟨g, 0, none⟩) n cap) (l.set i ⟨l[i].lo, hh, l[i].nx⟩) := by
 obtain ⟨h1, h2⟩ := h
 rcases h2 with ⟨he, -⟩ | ⟨g2, cap2, cur, he, hb, hg, h3, h4, h5, h6⟩
 ·cases he
 ·cases he
  refine ⟨by rw [List.length_set, flatG_len arcV_len, List.length_set], .inr ⟨g, cap, cur.setIfInBounds (i * 3 + 1) (.int .i64 (hh : Int)), by rw [List.length_set], hb, heap_setCell_same w g (i * 3 + 1) _ _ _ hg, by rw [List.length_set]; exact h3, h4, by simpa using h5, ?_⟩⟩
  rw [Array.toList_setIfInBounds, List.take_set, List.length_set, h6, arcs_set l i hi hh]
theorem addArcA_last (l : List ArcA) (a : ArcA) (lo hi nx : Nat) : addArcA (l ++ [a]) lo hi nx = if a.nx = nx then l ++ [⟨a.lo, hi, a.nx⟩] else (l ++ [a]) ++ [⟨lo, hi, nx⟩] := by
 unfold addArcA
 rw [List.getLast?_concat]
 dsimp only
 rw [List.dropLast_concat]
def AddQ (B : Nat) (w : World) (v : Value) (l : List ArcA) (e : Ending) (w' : World) : Prop :=
 ∃ v', e = .returned v' ∧ OwnL B 72 3 arcV w' v' l ∧ w.grownBy w' v.ownBlock ∧ (v'.ownBlock = v.ownBlock ∨ ∃ k, w.heap.size ≤ k ∧ v'.ownBlock = some k)
theorem addArc_any (B : Nat) (l : List ArcA) (v : Value) (lo hi nx : Nat) (w : World) (ho : OwnL B 72 3 arcV w v l) (hB : B ≤ w.heap.size) (hl : l.length < 100000000) :
  Calls Tryz.prog 148 #[v, .int .i64 (lo : Int), .int .i64 (hi : Int), .int .i64 (nx : Int)] w (AddQ B w v (addArcA l lo hi nx)) := by
 have HO := Lib.hid ho
 have HL := Lib.hid hl
 have HB := Lib.hid hB
 rcases List.eq_nil_or_concat l with rfl | ⟨l', a, rfl⟩
 ·obtain ⟨A, cap, rfl, -⟩ := ho.form
  clear ho hl hB
  go_enter Tryz.func148, Tryz.ntmps148
  go_wp2_with (at_builtin; refine wpl_pushL (f := arcV) (x := ⟨lo, hi, nx⟩) (B := B) (e := 72) (sz := 3) _ _ rfl rfl elemA arcV_len (by decide) (arcV_one _) HO.out rfl rfl rfl (by have := HL.out; omega) HB.out ?_; intro v3 w3 hown3 hg3 hfm3 hat3; obtain ⟨A3, cap3, rfl⟩ := hfm3)
  go_ret
  exact ⟨_, rfl, hown3, hg3, hat3⟩
 ·rw [List.concat_eq_append] at *
  obtain ⟨A, cap, hv, -⟩ := ho.form
  obtain ⟨g, cap2, hg, -, hgl⟩ := (ho.slx arcV_len).2 (by simp)
  obtain ⟨a1, cap3, he, -, -, -, h3⟩ := (ho.slx arcV_len).1
  rw [hg] at he
  cases he
  obtain ⟨g2, o2, he2, -, h4⟩ := h3 (by simp)
  cases he2
  have h5 := h4 l'.length (by simp)
  rw [cellsAt_eq arcV _ _ (by simp), List.getElem_concat_length rfl] at h5
  have q2 : w.cell? ⟨g, l'.length * 3 + 2, none⟩ = some (.int .i64 (a.nx : Int)) := by have := h5 2 (by omega); rw [Nat.zero_add] at this; exact this
  have q1 : w.cell? ⟨g, l'.length * 3 + 1, none⟩ = some (.int .i64 (a.hi : Int)) := by have := h5 1 (by omega); rw [Nat.zero_add] at this; exact this
  have qf : w.frozen? ⟨g, l'.length * 3 + 1, none⟩ = false := by
   rcases ho.2 with ⟨hz, -⟩ | ⟨g3, cap4, cur, hz, -, hh, -⟩
   ·rw [hg] at hz; cases hz
   ·rw [hg] at hz
    cases hz
    exact Lib.frozen_of_heap hh _
  clear h3 h4 h5
  subst hg
  have HA := Lib.hid (addArcA_last l' a lo hi nx)
  generalize addArcA (l' ++ [a]) lo hi nx = R at *
  rw [List.length_append, List.length_singleton] at *
  have hp : (l'.length : Int) < 100000000 := by omega
  have HSET := Lib.hid (HO.out.setArc l'.length (by simp) hi)
  rw [List.getElem_concat_length rfl, List.set_append_right _ _ (Nat.le_refl _), Nat.sub_self] at HSET
  clear hv ho hl hB hgl
  by_cases hx : a.nx = nx
  ·have HF := Lib.hid (HA.out.trans (if_pos hx))
   have hxi : ((a.nx : Int) == (nx : Int)) = true := by rw [hx]; exact beq_self_eq_true _
   clear HA
   go_enter Tryz.func148, Tryz.ntmps148
   go_wp2_with fail
   go_ret
   rw [HF.out]
   exact ⟨_, rfl, HSET.out, ⟨rfl, rfl, rfl, by simp, fun k _ hne => Below.heap_setCell w ⟨g, l'.length * 3 + 1, none⟩ _ k (fun h => hne (by rw [h]; rfl))⟩, .inl rfl⟩
  ·have HF := Lib.hid (HA.out.trans (if_neg hx))
   have hxi : ((a.nx : Int) == (nx : Int)) = false := beq_false_of_ne (by omega)
   clear HA
   go_enter Tryz.func148, Tryz.ntmps148
   go_wp2_with (at_builtin; refine wpl_pushL (f := arcV) (x := ⟨lo, hi, nx⟩) (B := B) (e := 72) (sz := 3) (l := l' ++ [a]) _ _ rfl rfl elemA arcV_len (by decide) (arcV_one _) HO.out rfl rfl rfl (by have := HL.out; simp; omega) HB.out ?_; intro v3 w3 hown3 hg3 hfm3 hat3; obtain ⟨A3, cap3, rfl⟩ := hfm3)
   go_ret
   rw [HF.out]
   rw [List.length_append, List.length_singleton] at hown3 hat3
   exact ⟨_, rfl, hown3, hg3, hat3⟩
end Go.Proofs.YtpkecepelcppiaaGreatDoor

namespace Go.Proofs.YtpkecepelcppiaaGreatDoor
open Go.RowKit Go.Shelf
set_option maxHeartbeats 4000000
set_option maxRecDepth 100000

def SpanO (l : List ArcA) (w : World) (e : Ending) (w' : World) : Prop := ∃ v, e = .returned v ∧ RdA (fun g => w.heap.size ≤ g) w' v l ∧ Below w.heap.size w w'
theorem span_new {w w1 : World} {T : TypeId} {X : Array Value} {l : List ArcA} (hW : w.alloc (.cells X T) = w1) (hX : X = (l.flatMap arcV).toArray) (hl : l.length ≤ maxLen) : SpanO l w (.returned (.slice (some ⟨w.heap.size, 0, none⟩) l.length l.length)) w1 := by
 obtain ⟨ha, -, -, hb⟩ := alloc_of hW
 rw [hX] at ha
 exact ⟨_, rfl, ⟨slx_block arcV_len ha hl, fun _ => ⟨_, 0, _, _, rfl, Nat.le_refl _⟩⟩, hb⟩
theorem spans_0 (w : World) : Calls Tryz.prog 92 #[.int .i64 0] w (SpanO (spansA 0) w) := by
 go_enter Tryz.func92, Tryz.ntmps92
 go_wp2_with fail
 go_ret
 exact span_new rfl rfl (by decide)
theorem spans_1 (w : World) : Calls Tryz.prog 92 #[.int .i64 1] w (SpanO (spansA 1) w) := by
 go_enter Tryz.func92, Tryz.ntmps92
 go_wp2_with fail
 go_ret
 exact span_new rfl rfl (by decide)
theorem spans_2 (w : World) : Calls Tryz.prog 92 #[.int .i64 2] w (SpanO (spansA 2) w) := by
 go_enter Tryz.func92, Tryz.ntmps92
 go_wp2_with fail
 go_ret
 exact span_new rfl rfl (by decide)
theorem spans_3 (w : World) : Calls Tryz.prog 92 #[.int .i64 3] w (SpanO (spansA 3) w) := by
 go_enter Tryz.func92, Tryz.ntmps92
 go_wp2_with fail
 go_ret
 exact span_new rfl rfl (by decide)
theorem spans_4 (w : World) : Calls Tryz.prog 92 #[.int .i64 4] w (SpanO (spansA 4) w) := by
 go_enter Tryz.func92, Tryz.ntmps92
 go_wp2_with fail
 go_ret
 exact span_new rfl rfl (by decide)
theorem spans_5 (w : World) : Calls Tryz.prog 92 #[.int .i64 5] w (SpanO (spansA 5) w) := by
 go_enter Tryz.func92, Tryz.ntmps92
 go_wp2_with fail
 go_ret
 exact span_new rfl rfl (by decide)
theorem spans_6 (w : World) : Calls Tryz.prog 92 #[.int .i64 6] w (SpanO (spansA 6) w) := by
 go_enter Tryz.func92, Tryz.ntmps92
 go_wp2_with fail
 go_ret
 exact span_new rfl rfl (by decide)
theorem spans_7 (w : World) : Calls Tryz.prog 92 #[.int .i64 7] w (SpanO (spansA 7) w) := by
 go_enter Tryz.func92, Tryz.ntmps92
 go_wp2_with fail
 go_ret
 exact span_new rfl rfl (by decide)
theorem spans_any (n : Nat) (hn : n < 8) (w : World) : Calls Tryz.prog 92 #[.int .i64 (n : Int)] w (SpanO (spansA n) w) := by
 match n, hn with
 | 0, _ => exact spans_0 w
 | 1, _ => exact spans_1 w
 | 2, _ => exact spans_2 w
 | 3, _ => exact spans_3 w
 | 4, _ => exact spans_4 w
 | 5, _ => exact spans_5 w
 | 6, _ => exact spans_6 w
 | 7, _ => exact spans_7 w
def cntV (mn mx : Int) (top : Nat) : Value := .agg #[.int .i64 mn, .int .i64 mx, .int .i64 (top : Int)]
theorem dead_any (mn mx : Int) (top : Nat) (ht : top ≤ 1000) (w : World) : Calls Tryz.prog 62 #[cntV mn mx top] w fun e w' => e = .returned (.int .i64 (((top + 1) * 8 : Nat) : Int)) ∧ Below w.heap.size w w' := by
 have hti : (top : Int) ≤ 1000 := by omega
 unfold cntV
 go_enter Tryz.func62, Tryz.ntmps62
 go_wp2_with fail
 go_ret
 exact ⟨by simp, (Below.refl _ _).alloc (Nat.le_refl _) _⟩
theorem state_any (mn mx : Int) (top count want : Nat) (ht : count ≤ 1000) (hw : want ≤ 1000) (w : World) : Calls Tryz.prog 93 #[cntV mn mx top, .int .i64 (count : Int), .int .i64 (want : Int)] w fun e w' => e = .returned (.int .i64 ((count * 8 + want : Nat) : Int)) ∧ Below w.heap.size w w' := by
 have hci : (count : Int) ≤ 1000 := by omega
 have hwi : (want : Int) ≤ 1000 := by omega
 unfold cntV
 go_enter Tryz.func93, Tryz.ntmps93
 go_wp2_with fail
 go_ret
 exact ⟨by simp, (Below.refl _ _).alloc (Nat.le_refl _) _⟩
end Go.Proofs.YtpkecepelcppiaaGreatDoor
