/- Sets of offsets: newPlaces and add walked. Conditions: strings of at most 10^8 bytes. -/
import Derived.Test.YtpkecepelcppiaaGreatDoorZd14
import Derived.Test.YtpkecepelcppiaaGreatDoorZd1
import Derived.Deep.OwnRows
import Derived.Maps.AppendAt
namespace Go.Proofs.YtpkecepelcppiaaGreatDoor
open Go.RowKit
set_option maxHeartbeats 4000000
set_option maxRecDepth 100000

def iv (n : Nat) : Value := .int .i64 (n : Int)
def RdN (N : Nat → Prop) (w : World) (v : Value) (l : List Nat) : Prop := SlX w v l.length 1 (fun i => [iv (l.getD i 0)]) ∧ ∀ g o n cap, v = .slice (some ⟨g, o, none⟩) n cap → 0 < l.length → N g
theorem RdN.keep {N : Nat → Prop} {w w' : World} {v : Value} {l : List Nat} (h : RdN N w v l) (hk : ∀ g, N g → g < w.heap.size → w'.heap[g]? = w.heap[g]?) : RdN N w' v l := by
 obtain ⟨⟨a, cap, rfl, h1, h2, h0, h3⟩, hN⟩ := h
 refine ⟨⟨a, cap, rfl, h1, h2, h0, fun hl => ?_⟩, hN⟩
 obtain ⟨g, o, rfl, hg, hc⟩ := h3 hl
 have hh := hk g (hN g o _ _ rfl hl) hg
 have hg' : g < w'.heap.size := by
  rcases Nat.lt_or_ge g w'.heap.size with h | h
  ·exact h
  ·rw [Array.getElem?_eq_none h, Array.getElem?_eq_getElem hg] at hh
   cases hh
 refine ⟨g, o, rfl, hg', fun i hi j hj => ?_⟩
 rw [← hc i hi j hj]
 unfold World.cell?
 rw [hh]
theorem RdN.stay {N : Nat → Prop} {w w' : World} {v : Value} {l : List Nat} (h : RdN N w v l) (hb : Below w.heap.size w w') : RdN N w' v l := h.keep (fun g _ hg => hb.block g hg)
theorem RdN.mono {N M : Nat → Prop} {w : World} {v : Value} {l : List Nat} (h : RdN N w v l) (hm : ∀ g, N g → g < w.heap.size → M g) : RdN M w v l := by
 refine ⟨h.1, fun g o n cap hv hl => hm g (h.2 g o n cap hv hl) ?_⟩
 obtain ⟨a, cap2, he, _, _, _, h3⟩ := h.1
 obtain ⟨g2, o2, rfl, hg2, _⟩ := h3 hl
 rw [hv] at he
 cases he
 exact hg2
theorem RdN.nil (N : Nat → Prop) (w : World) : RdN N w (.slice none 0 0) [] := ⟨SlX.nil, fun _ _ _ _ _ h => absurd h (Nat.lt_irrefl _)⟩
theorem RdN.form {N : Nat → Prop} {w : World} {v : Value} {l : List Nat} (h : RdN N w v l) : ∃ a cap, v = .slice a l.length cap ∧ l.length ≤ cap ∧ cap ≤ maxLen ∧ (0 < l.length → ∃ g o, a = some ⟨g, o, none⟩ ∧ N g ∧ ∀ i (hi : i < l.length), w.cell? ⟨g, o + i, none⟩ = some (.int .i64 (l[i] : Nat))) := by
 obtain ⟨⟨a, cap, rfl, h1, h2, h0, h3⟩, hN⟩ := h
 refine ⟨a, cap, rfl, h1, h2, fun hl => ?_⟩
 obtain ⟨g, o, rfl, hg, hc⟩ := h3 hl
 refine ⟨g, o, rfl, hN g o _ _ rfl hl, fun i hi => ?_⟩
 have := hc i hi 0 (by omega)
 rw [Nat.mul_one, Nat.add_zero] at this
 rw [this]
 dsimp only
 rw [List.getD_eq_getElem?_getD, List.getElem?_eq_getElem hi]
 rfl
theorem own_rdN {w : World} {B : Nat} {v : Value} {l : List Nat} (h : w.ownsRow B 3 1 v l.length (l.map iv)) : RdN (fun g => v.ownBlock = some g) w v l := by
 rcases h.2 with ⟨rfl, h0⟩ | ⟨g, cap, cur, rfl, hb, hg, h1, h2, h3, h4⟩
 ·obtain rfl := List.eq_nil_of_length_eq_zero h0
  exact RdN.nil _ _
 ·refine ⟨⟨some ⟨g, 0, none⟩, cap, rfl, h1, h2, (fun h => by cases h), fun _ => ⟨g, 0, rfl, (Array.getElem?_eq_some_iff.1 hg).1, fun i hi j hj => ?_⟩⟩, fun g' o n cap' hv _ => by cases hv; rfl⟩
  obtain rfl : j = 0 := by omega
  have := h.cells (g := g) rfl i (iv l[i]) (by rw [List.getElem?_map, List.getElem?_eq_getElem hi]; rfl)
  have hadd : (⟨g, 0, none⟩ : Addr).add i = ⟨g, 0 + i, none⟩ := by unfold Addr.add; split <;> simp_all
  rw [hadd] at this
  rw [Nat.mul_one, Nat.add_zero, this]
  dsimp only
  rw [List.getD_eq_getElem?_getD, List.getElem?_eq_getElem hi]
  rfl
def inV (l : List Nat) (j : Nat) : Value := .bool (decide (j ∈ l))
structure Pl (B b n m : Nat) (lv : Value) (l : List Nat) (w : World) : Prop where
 box : w.heap[b]? = some (.cells #[.slice (some ⟨m, 0, none⟩) n n, lv] 122 (0, 0))
 row : w.rowIs m 4 n (inV l)
 own : w.ownsRow B 3 1 lv l.length (l.map iv)
 ne : b ≠ m ∧ lv.ownBlock ≠ some b ∧ lv.ownBlock ≠ some m ∧ B ≤ b ∧ B ≤ m
theorem Pl.cells {B b n m : Nat} {lv : Value} {l : List Nat} {w : World} (h : Pl B b n m lv l w) : w.cell? ⟨b, 0, none⟩ = some (.slice (some ⟨m, 0, none⟩) n n) ∧ w.cell? ⟨b, 1, none⟩ = some lv :=
 ⟨(cell_of_row w b 0 _ _ (0, 0) h.box).trans rfl, (cell_of_row w b 1 _ _ (0, 0) h.box).trans rfl⟩
theorem Pl.lt {B b n m : Nat} {lv : Value} {l : List Nat} {w : World} (h : Pl B b n m lv l w) : b < w.heap.size ∧ m < w.heap.size := ⟨(Array.getElem?_eq_some_iff.1 h.box).1, h.row.lt⟩
def PlB (b m : Nat) (lv : Value) (x : Nat) : Prop := x = b ∨ x = m ∨ lv.ownBlock = some x
theorem Pl.keep {B b n m : Nat} {lv : Value} {l : List Nat} {w w' : World} (h : Pl B b n m lv l w) (hk : ∀ x, PlB b m lv x → x < w.heap.size → w'.heap[x]? = w.heap[x]?) : Pl B b n m lv l w' := by
 refine ⟨(hk b (.inl rfl) h.lt.1).trans h.box, h.row.of_block (hk m (.inr (.inl rfl)) h.lt.2), ⟨h.own.1, ?_⟩, h.ne⟩
 rcases h.own.2 with h1 | ⟨g, cap, cur, rfl, hb, hg, rest⟩
 ·exact .inl h1
 ·exact .inr ⟨g, cap, cur, rfl, hb, (hk g (.inr (.inr rfl)) (Array.getElem?_eq_some_iff.1 hg).1).trans hg, rest⟩
theorem Pl.stay {B b n m : Nat} {lv : Value} {l : List Nat} {w w' : World} (h : Pl B b n m lv l w) (hb : Below w.heap.size w w') : Pl B b n m lv l w' := h.keep (fun x _ hx => hb.block x hx)
def NewP (n : Nat) (w : World) (e : Ending) (w' : World) : Prop := ∃ b m, e = .returned (.pointer (some ⟨b, 0, none⟩)) ∧ Pl w.heap.size b n m (.slice none 0 0) [] w' ∧ Below w.heap.size w w'
theorem bool_info : (Tryz.prog.info? 4).map (fun i => (i.zero, i.size, i.bytes)) = some (some (.bool false), 1, 1) := by kernel_rfl
theorem newPlaces_any (s : ByteArray) (w : World) (hs : s.size ≤ 100000000) : Calls Tryz.prog 83 #[.string s] w (NewP (s.size + 1) w) := by
 have hmk := run_make_row' (P := Tryz.prog) 84 4 (.bool false) 1 Tryz.underlying84 bool_info rfl .i64 .i64 (s.size + 1) (by omega) (by omega)
 rw [show ((s.size + 1 : Nat) : Int) = (s.size : Int) + 1 by omega] at hmk
 have HR := Lib.hid (fun w => World.rowIs_made w (.bool false) (s.size + 1) 4)
 go_enter Tryz.func83, Tryz.ntmps83
 go_wp2_with fail
 go_ret
 generalize hW1 : World.alloc w _ = w1
 have hr : w1.rowIs w.heap.size 4 (s.size + 1) (fun _ => .bool false) := hW1 ▸ HR.out w
 have hb1 : Below w.heap.size w w1 := hW1 ▸ (Below.refl _ _).alloc (Nat.le_refl _) _
 have hz1 : w1.heap.size = w.heap.size + 1 := by rw [← hW1]; simp
 generalize hW2 : World.alloc w1 _ = w2
 have hx : w2.heap[w1.heap.size]? = _ := hW2 ▸ heap_alloc_new w1 _
 have hb2 : Below w1.heap.size w1 w2 := hW2 ▸ (Below.refl _ _).alloc (Nat.le_refl _) _
 refine ⟨w1.heap.size, w.heap.size, ?_, ⟨hx, ?_, World.ownsRow_nil _ _ _ 1, by omega, (by rintro ⟨⟩), (by rintro ⟨⟩), by omega, by omega⟩, hb1.trans (hb2.mono hb1.size)⟩
 ·rw [hz1]
  rfl
 ·have := hr.of_block (hb2.block w.heap.size (by omega))
  exact this.congr (fun i _ => by simp [inV])
theorem elemI : Elem Tryz.prog 82 3 1 := elem_of (z := .int .i64 0) (bytes := 8) Tryz.underlying82 (by kernel_rfl) (by decide) (by decide) rfl
theorem wp_pushI {ops : Array Oper} {rest : List Oper} {o : Oper} {a : Act} {w1 : World} {Q : Exit → Act → World → Prop} {B k x : Nat} {v : Value} {l : List Nat} (s y : Operand)
  (hgd : o.guard = none) (ho : o.op = .call { callee := .builtin .append, args := #[s, y], argTypes := #[82, 82] })
  (hown : w1.ownsRow B 3 1 v l.length (l.map iv)) (hs : a.eval s = v) (hy : a.eval y = .slice (some ⟨k, 0, none⟩) 1 1) (hk : k = w1.heap.size) (hn : l.length < 1000000000) (hbase : B ≤ w1.heap.size)
  (h : ∀ v' w', w'.ownsRow B 3 1 v' (l ++ [x]).length ((l ++ [x]).map iv) → w1.grownBy w' v.ownBlock → (v'.ownBlock = v.ownBlock ∨ ∃ k, w1.heap.size ≤ k ∧ v'.ownBlock = some k) → (∃ A cap, v' = .slice A (l.length + 1) cap) → wpList Tryz.prog ops Q rest (a.put o.dst v') w') :
  wpList Tryz.prog ops Q (o :: rest) a (w1.alloc (.cells #[.int .i64 (x : Int)] 3)) := by
 subst hk
 obtain ⟨ht, hsz, i, z, hi, hz, hsi, hby, hzs⟩ := elemI
 refine wpList_append_own_at _ hgd s y _ ho B _ i z 1 i.bytes ht hi hz hsi rfl hzs hsz v l.length _ hs (hown.alloc _) ⟨w1.heap.size, 0, none⟩ 1 1 [iv x] hy rfl (new_cells w1 [iv x] _) ?_ (by simp only [maxLen]; omega) (Nat.le_trans (Nat.mul_le_mul (show l.length + 1 ≤ 1000000000 by omega) hby) (by decide)) (by simp; omega) ?_
 ·intro u hu
  simp only [List.mem_cons, List.not_mem_nil, or_false] at hu
  subst hu
  rfl
 ·intro v' w' hown' hg _ hat
  have hg' : w1.grownBy w' v.ownBlock := ⟨hg.os, hg.tape, hg.output, Nat.le_trans (by simp) hg.size, fun k hk hne => (hg.block k (by simp; omega) hne).trans (heap_alloc_old w1 _ hk)⟩
  refine h v' w' (by rw [List.length_append, List.map_append]; exact hown') hg' ?_ ?_
  ·rcases hat with h | h
   ·exact .inl h
   ·exact .inr ⟨_, by simp, h⟩
  ·rcases hown'.2 with ⟨_, h0⟩ | ⟨g, cap, cur, hv, _⟩
   ·omega
   ·exact ⟨_, _, hv⟩
end Go.Proofs.YtpkecepelcppiaaGreatDoor
