/- formats.Names, number, Known, datakitref17.Names, the law's same walked. Conditions: none. -/
import Derived.Test.YtpkecepelcppiaaGreatDoorZa21
import Derived.Test.YtpkecepelcppiaaGreatDoorZa22
import Derived.Test.YtpkecepelcppiaaGreatDoorZa2
import Derived.Deep.QuietTactic
import Derived.BigQuiet
namespace Go.Proofs.YtpkecepelcppiaaGreatDoor
open Go.RowKit Go.Shelf
set_option maxHeartbeats 4000000
set_option maxRecDepth 100000

/-! The least number. -/
theorem exists_min {P : Nat → Prop} : ∀ n, P n → ∃ k, P k ∧ ∀ j, P j → k ≤ j := by
 intro n
 induction n using Nat.strongRecOn with
 | ind n ih =>
  intro h
  by_cases hx : ∃ j, j < n ∧ P j
  ·obtain ⟨j, hj, hp⟩ := hx
   exact ih j hj hp
  ·exact ⟨n, h, fun j hj => Nat.le_of_not_lt (fun hlt => hx ⟨j, hlt, hj⟩)⟩
open Classical in
noncomputable def minN (P : Nat → Prop) : Nat := if h : ∃ n, P n ∧ ∀ j, P j → n ≤ j then Classical.choose h else 0
theorem minN_spec {P : Nat → Prop} (h : ∃ n, P n) : P (minN P) := by
 obtain ⟨n, hn⟩ := h
 unfold minN
 rw [dif_pos (exists_min n hn)]
 exact (Classical.choose_spec (exists_min n hn)).1
theorem minN_le {P : Nat → Prop} {n : Nat} (h : P n) : minN P ≤ n := by
 unfold minN
 rw [dif_pos (exists_min n h)]
 exact (Classical.choose_spec (exists_min n h)).2 n h
def RdN2 (N : Nat → Prop) (w : World) (v : Value) (l : List Nat) : Prop := RdNm w v l ∧ (0 < l.length → ∃ g o n cap, v = .slice (some ⟨g, o, none⟩) n cap ∧ N g)
theorem RdNm.n2 {w : World} {v : Value} {l : List Nat} (h : RdNm w v l) : RdN2 (fun g => g < w.heap.size) w v l := by
 refine ⟨h, fun hl => ?_⟩
 obtain ⟨a, cap, rfl, -, -, -, h3⟩ := h
 obtain ⟨g, o, rfl, hg, -⟩ := h3 hl
 exact ⟨g, o, _, cap, rfl, hg⟩
theorem RdN2.keep {N : Nat → Prop} {w w' : World} {v : Value} {l : List Nat} (h : RdN2 N w v l) (hs : ∀ g, N g → g < w.heap.size → w'.heap[g]? = w.heap[g]?) : RdN2 N w' v l := by
 obtain ⟨⟨a, cap, rfl, h1, h2, h0, h3⟩, hN⟩ := h
 refine ⟨⟨a, cap, rfl, h1, h2, h0, fun hl => ?_⟩, hN⟩
 obtain ⟨g, o, rfl, hg, hc⟩ := h3 hl
 obtain ⟨g2, o2, n2, cap2, he, hn⟩ := hN hl
 cases he
 have hh := hs g hn hg
 have hg' : g < w'.heap.size := by
  rcases Nat.lt_or_ge g w'.heap.size with h | h
  ·exact h
  ·rw [Array.getElem?_eq_none h, Array.getElem?_eq_getElem hg] at hh
   cases hh
 refine ⟨g, o, rfl, hg', fun i hi j hj => ?_⟩
 rw [← hc i hi j hj]
 unfold World.cell?
 rw [hh]
theorem RdN2.mono {N M : Nat → Prop} {w : World} {v : Value} {l : List Nat} (h : RdN2 N w v l) (hm : ∀ g, N g → g < w.heap.size → M g) : RdN2 M w v l := by
 refine ⟨h.1, fun hl => ?_⟩
 obtain ⟨g, o, n, cap, rfl, hg⟩ := h.2 hl
 obtain ⟨a, cap2, he, -, -, -, h3⟩ := h.1
 obtain ⟨g2, o2, rfl, hg2, -⟩ := h3 hl
 cases he
 exact ⟨g, o, _, _, rfl, hm g hg hg2⟩
theorem OwnL.n2 {B : Nat} {e : TypeId} {w : World} {v : Value} {l : List Nat} (h : OwnL B e 1 natV w v l) : RdN2 (fun g => B ≤ g ∧ g < w.heap.size) w v l := by
 obtain ⟨h1, h2⟩ := h.slx natV_len
 refine ⟨h1, fun hl => ?_⟩
 obtain ⟨g, cap, rfl, hb, hg⟩ := h2 hl
 exact ⟨g, 0, _, cap, rfl, hb, hg⟩
structure LA (n : Nat) (m : List StA) (bytes : List Nat) (q : Nat) (RV : Nat → Value) (w3 wr : World) : Prop where
 bel : Below w3.heap.size w3 wr
 nx : wr.rowIs w3.heap.size 82 n (fun i => if i < q then RV i else .slice none 0 0)
 cl : wr.rowIs (w3.heap.size + 1) 3 n (fun i => .int .i64 (if i < q ∧ accOf m i = true then 1 else 0))
 rows : ∀ i, i < q → RdN2 (fun g => w3.heap.size + 2 ≤ g) wr (RV i) (bytes.map (stepL (arcsOf m i)))
structure LB (n : Nat) (m : List StA) (bytes : List Nat) (q k B : Nat) (RV : Nat → Value) (v : Value) (w3 wr : World) : Prop where
 bel : Below w3.heap.size w3 wr
 nx : wr.rowIs w3.heap.size 82 n (fun i => if i < q then RV i else if i = q then v else .slice none 0 0)
 cl : wr.rowIs (w3.heap.size + 1) 3 n (fun i => .int .i64 (if i < q ∧ accOf m i = true then 1 else 0))
 rows : ∀ i, i < q → RdN2 (fun g => w3.heap.size + 2 ≤ g ∧ g < B) wr (RV i) (bytes.map (stepL (arcsOf m i)))
 own : OwnL B 3 1 natV wr v ((bytes.map (stepL (arcsOf m q))).take k)
 base : w3.heap.size + 2 ≤ B ∧ B ≤ wr.heap.size
theorem LA.stay {n : Nat} {m : List StA} {bytes : List Nat} {q : Nat} {RV : Nat → Value} {w3 wr wx : World} (h : LA n m bytes q RV w3 wr) (hb : Below wr.heap.size wr wx) : LA n m bytes q RV w3 wx :=
 ⟨h.bel.trans (hb.mono h.bel.size), h.nx.of_block (hb.block _ h.nx.lt), h.cl.of_block (hb.block _ h.cl.lt), fun i hi => (h.rows i hi).keep (fun g _ hg => hb.block g hg)⟩
theorem LB.stay {n : Nat} {m : List StA} {bytes : List Nat} {q k B : Nat} {RV : Nat → Value} {v : Value} {w3 wr wx : World} (h : LB n m bytes q k B RV v w3 wr) (hb : Below wr.heap.size wr wx) : LB n m bytes q k B RV v w3 wx :=
 ⟨h.bel.trans (hb.mono h.bel.size), h.nx.of_block (hb.block _ h.nx.lt), h.cl.of_block (hb.block _ h.cl.lt), fun i hi => (h.rows i hi).keep (fun g _ hg => hb.block g hg), h.own.stay hb, h.base.1, Nat.le_trans h.base.2 hb.size⟩
theorem LA.inner {n : Nat} {m : List StA} {bytes : List Nat} {q : Nat} {RV : Nat → Value} {w3 wr : World} (h : LA n m bytes q RV w3 wr) : LB n m bytes q 0 wr.heap.size RV (.slice none 0 0) w3 wr :=
 ⟨h.bel, h.nx.congr (fun i _ => by
  by_cases h1 : i < q
  ·rw [if_pos h1, if_pos h1]
  ·rw [if_neg h1, if_neg h1]
   by_cases h2 : i = q
   ·rw [if_pos h2]
   ·rw [if_neg h2]), h.cl, fun i hi => (h.rows i hi).mono (fun g hg hl => ⟨hg, hl⟩), OwnL.nil _ _ _ _ _, by have := h.cl.lt; omega, Nat.le_refl _⟩
theorem LB.done {n : Nat} {m : List StA} {bytes : List Nat} {q k B : Nat} {RV : Nat → Value} {v : Value} {w3 wr : World} (h : LB n m bytes q k B RV v w3 wr) (hk : bytes.length ≤ k) (ha : accOf m q = false) : LA n m bytes (q + 1) (fun i => if i = q then v else RV i) w3 wr := by
 refine ⟨h.bel, h.nx.congr (fun i _ => ?_), h.cl.congr (fun i _ => ?_), fun i hi => ?_⟩
 ·by_cases h1 : i < q
  ·rw [if_pos h1, if_pos (show i < q + 1 by omega), if_neg (show ¬ i = q by omega)]
  ·rw [if_neg h1]
   by_cases h2 : i = q
   ·rw [if_pos h2, if_pos (show i < q + 1 by omega), if_pos h2]
   ·rw [if_neg h2, if_neg (show ¬ i < q + 1 by omega)]
 ·congr 2
  by_cases h2 : i = q
  ·rw [h2, ha]
   simp
  ·have : (i < q) ↔ (i < q + 1) := by omega
   rw [this]
 ·by_cases h2 : i = q
  ·rw [if_pos h2, h2]
   have := h.own.n2
   rw [List.take_of_length_le (by rw [List.length_map]; exact hk)] at this
   exact this.mono (fun g hg _ => by have := h.base.1; omega)
  ·rw [if_neg h2]
   exact (h.rows i (by omega)).mono (fun g hg _ => hg.1)
theorem LB.done1 {n : Nat} {m : List StA} {bytes : List Nat} {q k B : Nat} {RV : Nat → Value} {v : Value} {w3 wr : World} (h : LB n m bytes q k B RV v w3 wr) (hk : bytes.length ≤ k) (ha : accOf m q = true) (hq : q < n) : LA n m bytes (q + 1) (fun i => if i = q then v else RV i) w3 (wr.setCell ⟨w3.heap.size + 1, q, none⟩ (.int .i64 1)) := by
 have hot : ∀ y, y ≠ w3.heap.size + 1 → (wr.setCell ⟨w3.heap.size + 1, q, none⟩ (.int .i64 1)).heap[y]? = wr.heap[y]? := fun y hy => Below.heap_setCell wr ⟨w3.heap.size + 1, q, none⟩ _ y hy
 refine ⟨h.bel.setCell (p := ⟨w3.heap.size + 1, q, none⟩) (by show _ ≤ w3.heap.size + 1; omega) _, World.rowIs.congr (h.nx.of_block (hot _ (by omega))) (fun i _ => ?_), World.rowIs.congr (h.cl.set q (.int .i64 1)) (fun i _ => ?_), fun i hi => ?_⟩
 ·by_cases h1 : i < q
  ·rw [if_pos h1, if_pos (show i < q + 1 by omega), if_neg (show ¬ i = q by omega)]
  ·rw [if_neg h1]
   by_cases h2 : i = q
   ·rw [if_pos h2, if_pos (show i < q + 1 by omega), if_pos h2]
   ·rw [if_neg h2, if_neg (show ¬ i < q + 1 by omega)]
 ·by_cases h2 : i = q
  ·rw [if_pos h2, h2, if_pos ⟨by omega, ha⟩]
  ·rw [if_neg h2]
   have : (i < q) ↔ (i < q + 1) := by omega
   simp only [this]
 ·by_cases h2 : i = q
  ·rw [if_pos h2, h2]
   have := h.own.n2
   rw [List.take_of_length_le (by rw [List.length_map]; exact hk)] at this
   exact (this.keep (fun g hg _ => hot g (by have := h.base.1; omega))).mono (fun g hg _ => by have := h.base.1; omega)
  ·rw [if_neg h2]
   exact ((h.rows i (by omega)).keep (fun g hg _ => hot g (by omega))).mono (fun g hg _ => hg.1)
theorem LB.push {n : Nat} {m : List StA} {bytes : List Nat} {q k B x : Nat} {RV : Nat → Value} {v v' : Value} {w3 wr w7 : World} (h : LB n m bytes q k B RV v w3 wr) (hk : k < bytes.length) (hx : x = stepL (arcsOf m q) bytes[k]) (hq : q < n)
  (hown : OwnL B 3 1 natV w7 v' ((bytes.map (stepL (arcsOf m q))).take k ++ [x])) (hg : wr.grownBy w7 v.ownBlock) : LB n m bytes q (k + 1) B RV v' w3 (w7.setCell ⟨w3.heap.size, q, none⟩ v') := by
 have hot : ∀ y, y ≠ w3.heap.size → (w7.setCell ⟨w3.heap.size, q, none⟩ v').heap[y]? = w7.heap[y]? := fun y hy => Below.heap_setCell w7 ⟨w3.heap.size, q, none⟩ _ y hy
 have hbl : Below B wr w7 := grown_belowL hg (fun y hy => (h.own.lt y hy).1) h.base.2
 have h1 := h.base.1
 refine ⟨(h.bel.trans (hbl.mono (by omega))).setCell (p := ⟨w3.heap.size, q, none⟩) (Nat.le_refl _) _, World.rowIs.congr ((h.nx.of_block (hbl.block _ (by omega))).set q v') (fun i _ => ?_), (h.cl.of_block ((hot _ (by omega)).trans (hbl.block _ (by omega)))), fun i hi => ((h.rows i hi).keep (fun g hg _ => (hot g (by omega)).trans (hbl.block g hg.2))), ?_, h1, Nat.le_trans h.base.2 (Nat.le_trans hbl.size (by simp))⟩
 ·by_cases h2 : i = q
  ·rw [if_pos h2, if_neg (by omega), if_pos h2]
  ·rw [if_neg h2, if_neg h2]
   by_cases h3 : i < q
   ·rw [if_pos h3, if_pos h3]
   ·rw [if_neg h3, if_neg h3, if_neg h2]
 ·have h4 : (bytes.map (stepL (arcsOf m q))).take (k + 1) = (bytes.map (stepL (arcsOf m q))).take k ++ [x] := by
   rw [List.take_succ_eq_append_getElem (by rw [List.length_map]; exact hk), List.getElem_map, hx]
  rw [h4]
  exact hown.keep (fun g hg hb _ => hot g (by omega))
/-! The rounds. -/
theorem round_hit {k : List UInt8} {t seen : List (List UInt8)} {i : Nat} (h : seen.findIdx? (fun x => decide (x = k)) = some i) : roundA (k :: t) seen = (i :: (roundA t seen).1, (roundA t seen).2) := by
 rw [roundA, h]
theorem round_miss {k : List UInt8} {t seen : List (List UInt8)} (h : seen.findIdx? (fun x => decide (x = k)) = none) : roundA (k :: t) seen = (seen.length :: (roundA t (seen ++ [k])).1, (roundA t (seen ++ [k])).2) := by
 rw [roundA, h]
structure RI (keys : List (List UInt8)) (fin : List Nat) (seen : List (List UInt8)) (q : Nat) : Prop where
 eq : roundA keys [] = (fin ++ (roundA (keys.drop q) seen).1, (roundA (keys.drop q) seen).2)
 len : fin.length = q
 few : seen.length ≤ q
 lt : ∀ c ∈ fin, c < seen.length
theorem RI.nil (keys : List (List UInt8)) : RI keys [] [] 0 := ⟨by rw [List.drop_zero]; rfl, rfl, Nat.le_refl _, fun c hc => by cases hc⟩
theorem RI.hit {keys : List (List UInt8)} {fin : List Nat} {seen : List (List UInt8)} {q i : Nat} (h : RI keys fin seen q) (hq : q < keys.length) (hi : seen.findIdx? (fun x => decide (x = keys[q])) = some i) : RI keys (fin ++ [i]) seen (q + 1) := by
 refine ⟨?_, by rw [List.length_append, h.len]; rfl, Nat.le_succ_of_le h.few, fun c hc => ?_⟩
 ·rw [h.eq, List.drop_eq_getElem_cons hq, round_hit hi, List.append_assoc]
  rfl
 ·rcases List.mem_append.1 hc with hc | hc
  ·exact h.lt c hc
  ·rw [List.mem_singleton.1 hc]
   exact (List.findIdx?_eq_some_iff_findIdx_eq.1 hi).1
theorem RI.miss {keys : List (List UInt8)} {fin : List Nat} {seen : List (List UInt8)} {q : Nat} (h : RI keys fin seen q) (hq : q < keys.length) (hi : seen.findIdx? (fun x => decide (x = keys[q])) = none) : RI keys (fin ++ [seen.length]) (seen ++ [keys[q]]) (q + 1) := by
 refine ⟨?_, by rw [List.length_append, h.len]; rfl, by rw [List.length_append]; exact Nat.succ_le_succ h.few, fun c hc => ?_⟩
 ·rw [h.eq, List.drop_eq_getElem_cons hq, round_miss hi, List.append_assoc]
  rfl
 ·rw [List.length_append]
  rcases List.mem_append.1 hc with hc | hc
  ·have := h.lt c hc
   exact Nat.lt_succ_of_lt this
  ·rw [List.mem_singleton.1 hc]
   exact Nat.lt_succ_self _
theorem RI.done {keys : List (List UInt8)} {fin : List Nat} {seen : List (List UInt8)} {q : Nat} (h : RI keys fin seen q) (hq : keys.length ≤ q) : roundA keys [] = (fin, seen.length) := by
 rw [h.eq, List.drop_of_length_le hq]
 show (fin ++ [], seen.length) = _
 rw [List.append_nil]
def keysA (cl : List Nat) (nx : List (List Nat)) : List (List UInt8) := (List.range cl.length).map (keyA cl nx)
theorem keysA_len (cl : List Nat) (nx : List (List Nat)) : (keysA cl nx).length = cl.length := by unfold keysA; simp
theorem keysA_at (cl : List Nat) (nx : List (List Nat)) (q : Nat) (hq : q < (keysA cl nx).length) : (keysA cl nx)[q] = keyA cl nx q := by
 have h1 : q < cl.length := by rw [keysA_len] at hq; exact hq
 have h2 : (keysA cl nx)[q]? = some (keyA cl nx q) := by
  unfold keysA
  rw [List.getElem?_map, List.getElem?_range h1]
  rfl
 exact Option.some.inj ((List.getElem?_eq_getElem hq).symm.trans h2)
theorem loopA_succ (nx : List (List Nat)) (f : Nat) (cl : List Nat) (known : Nat) (fin : List Nat) (n : Nat) (h : roundA (keysA cl nx) [] = (fin, n)) : loopA nx (f + 1) cl known = if n = known then some fin else loopA nx f fin n := by
 rw [loopA]
 show (if (roundA (keysA cl nx) []).2 = known then some (roundA (keysA cl nx) []).1 else loopA nx f (roundA (keysA cl nx) []).1 (roundA (keysA cl nx) []).2) = _
 rw [h]
def nxL (m : List StA) (bytes : List Nat) : List (List Nat) := m.map fun s => bytes.map (stepL s.arcs)
def cl0 (m : List StA) : List Nat := m.map fun s => if s.acc then 1 else 0
theorem nxL_at {m : List StA} {bytes : List Nat} {q : Nat} (hq : q < m.length) : (nxL m bytes).getD q [] = bytes.map (stepL (arcsOf m q)) := by
 unfold nxL
 rw [List.getD_eq_getElem?_getD, List.getElem?_map, List.getElem?_eq_getElem hq, accs_eq hq]
 rfl
theorem cl0_at {m : List StA} {q : Nat} (hq : q < m.length) : (cl0 m).getD q 0 = if accOf m q = true then 1 else 0 := by
 unfold cl0
 rw [List.getD_eq_getElem?_getD, List.getElem?_map, List.getElem?_eq_getElem hq, acc_eq hq]
 rfl
theorem least_parts {f : Nat} {m out : List StA} (h : leastA f m = some out) : ∃ cl, loopA (nxL m (startsA m)) f (cl0 m) 0 = some cl ∧ numA m (startsA m) cl (nxL m (startsA m)) f 0 [0] [] = some out := by
 unfold leastA at h
 dsimp only at h
 cases hc : loopA (nxL m (startsA m)) f (cl0 m) 0 with
 | none =>
  rw [show loopA (m.map fun s => (startsA m).map (stepL s.arcs)) f (m.map fun s => if s.acc then 1 else 0) 0 = none from hc] at h
  cases h
 | some cl =>
  rw [show loopA (m.map fun s => (startsA m).map (stepL s.arcs)) f (m.map fun s => if s.acc then 1 else 0) 0 = some cl from hc] at h
  exact ⟨cl, rfl, h⟩
theorem stepL_lt {n : Nat} : ∀ (l : List ArcA) (b c : Nat), okArcs n b l = true → 0 < n → stepL l c < n
 | [], _, _, _, h0 => h0
 | a :: t, b, c, h, h0 => by
  unfold stepL
  have h' := h
  unfold okArcs at h'
  simp only [Bool.and_eq_true, decide_eq_true_eq] at h'
  split
  ·exact h'.1.2
  ·exact stepL_lt t _ c h'.2 h0
structure LC (n : Nat) (m : List StA) (bytes : List Nat) (clF : List Nat) (wA : World) (cv kv : Value) (wr : World) (f gc known : Nat) (cl : List Nat) : Prop where
 cv : cv = .slice (some ⟨gc, 0, none⟩) n n
 kv : kv = .int .i64 (known : Int)
 row : wr.rowIs gc 3 n (fun i => .int .i64 ((cl.getD i 0 : Nat) : Int))
 len : cl.length = n
 lt : ∀ i, cl.getD i 0 < 100
 kn : known ≤ 100
 ev : loopA (nxL m bytes) f cl known = some clF
 bel : Below wA.heap.size wA wr
theorem LC.least {n : Nat} {m : List StA} {bytes : List Nat} {clF : List Nat} {wA : World} {cv kv : Value} {wr : World} {f gc known : Nat} {cl : List Nat} (h : LC n m bytes clF wA cv kv wr f gc known cl) :
  ∃ μ gc known cl, LC n m bytes clF wA cv kv wr μ gc known cl ∧ minN (fun f => ∃ gc known cl, LC n m bytes clF wA cv kv wr f gc known cl) = μ := by
 obtain ⟨gc, known, cl, hP⟩ := minN_spec (P := fun f => ∃ gc known cl, LC n m bytes clF wA cv kv wr f gc known cl) ⟨f, gc, known, cl, h⟩
 exact ⟨_, gc, known, cl, hP, rfl⟩
theorem snoc_getD (l : List Nat) (x j : Nat) : (l ++ [x]).getD j 0 = if j = l.length then x else l.getD j 0 := by
 rw [List.getD_eq_getElem?_getD, List.getD_eq_getElem?_getD]
 rcases Nat.lt_trichotomy j l.length with h | h | h
 ·rw [if_neg (by omega), List.getElem?_append_left h]
 ·rw [if_pos h, List.getElem?_append_right (by omega), h, Nat.sub_self]
  rfl
 ·rw [if_neg (by omega), List.getElem?_append_right (by omega), List.getElem?_eq_none (by simp; omega), List.getElem?_eq_none (by omega)]
theorem row_snoc {w : World} {g n q x : Nat} {T : TypeId} {fin : List Nat} (h : w.rowIs g T n (fun i => .int .i64 ((fin.getD i 0 : Nat) : Int))) (hl : fin.length = q) : (w.setCell ⟨g, q, none⟩ (.int .i64 (x : Int))).rowIs g T n (fun i => .int .i64 (((fin ++ [x]).getD i 0 : Nat) : Int)) :=
 World.rowIs.congr (h.set q (.int .i64 (x : Int))) (fun i _ => by
  rw [snoc_getD, hl]
  by_cases hi : i = q
  ·rw [if_pos hi, if_pos hi]
  ·rw [if_neg hi, if_neg hi])
end Go.Proofs.YtpkecepelcppiaaGreatDoor

namespace Go.Proofs.YtpkecepelcppiaaGreatDoor
open Go.RowKit Go.Shelf Go.Maps
set_option maxHeartbeats 4000000
set_option maxRecDepth 100000

theorem elemS : Elem Tryz.prog 27 70 2 := elem_of (z := .agg #[.bool false, .slice none 0 0]) (bytes := 32) Tryz.underlying27 (by kernel_rfl) (by decide) (by decide) rfl
def stV (p : Bool × Value) : List Value := [.bool p.1, p.2]
theorem stV_len (p : Bool × Value) : (stV p).length = 2 := rfl
theorem stV_one (b : Bool) (a : Option Addr) (n c : Nat) : ∀ u ∈ stV (b, .slice a n c), u.oneCell' = true := by
 intro u hu
 simp only [stV, List.mem_cons, List.not_mem_nil, or_false] at hu
 rcases hu with rfl | rfl <;> rfl
structure OwnS (B : Nat) (w : World) (sv : Value) (ps : List (Bool × Value)) (ml : List StA) : Prop where
 own : OwnL B 70 2 stV w sv ps
 len : ps.length = ml.length
 at_ : ∀ i (h1 : i < ps.length) (h2 : i < ml.length), ps[i].1 = ml[i].acc ∧ RdA (fun g => B ≤ g ∧ sv.ownBlock ≠ some g) w ps[i].2 ml[i].arcs
theorem OwnS.nil (B : Nat) (w : World) : OwnS B w (.slice none 0 0) [] [] := ⟨OwnL.nil _ _ _ _ _, rfl, fun _ h => absurd h (Nat.not_lt_zero _)⟩
theorem OwnS.keep {B : Nat} {w w' : World} {sv : Value} {ps : List (Bool × Value)} {ml : List StA} (h : OwnS B w sv ps ml) (hk : ∀ g, B ≤ g → g < w.heap.size → w'.heap[g]? = w.heap[g]?) : OwnS B w' sv ps ml :=
 ⟨h.own.keep (fun g _ hb hl => hk g hb hl), h.len, fun i h1 h2 => ⟨(h.at_ i h1 h2).1, (h.at_ i h1 h2).2.keep (fun g hg hl => hk g hg.1 hl)⟩⟩
theorem OwnS.stay {B : Nat} {w w' : World} {sv : Value} {ps : List (Bool × Value)} {ml : List StA} (h : OwnS B w sv ps ml) (hb : Below w.heap.size w w') : OwnS B w' sv ps ml := h.keep (fun g _ hl => hb.block g hl)
theorem OwnS.push {B : Nat} {w w' : World} {sv v' : Value} {ps : List (Bool × Value)} {ml : List StA} {acc : Bool} {av : Value} {arcs : List ArcA} (h : OwnS B w sv ps ml) (hown : OwnL B 70 2 stV w' v' (ps ++ [(acc, av)])) (hg : w.grownBy w' sv.ownBlock)
  (hat : v'.ownBlock = sv.ownBlock ∨ ∃ k, w.heap.size ≤ k ∧ v'.ownBlock = some k) (ha : RdA (fun g => B ≤ g ∧ sv.ownBlock ≠ some g) w av arcs) : OwnS B w' v' (ps ++ [(acc, av)]) (ml ++ [⟨acc, arcs⟩]) := by
 have hrd : ∀ {v : Value} {l : List ArcA}, RdA (fun g => B ≤ g ∧ sv.ownBlock ≠ some g) w v l → RdA (fun g => B ≤ g ∧ v'.ownBlock ≠ some g) w' v l := by
  intro v l hr
  have h1 : RdA (fun g => (B ≤ g ∧ sv.ownBlock ≠ some g) ∧ g < w.heap.size) w v l := hr.mono (fun g hg hl => ⟨hg, hl⟩)
  have h2 := h1.keep (w' := w') (fun g hx hl => hg.block g hl (fun he => hx.1.2 he.symm))
  refine h2.mono (fun g hx _ => ⟨hx.1.1, fun he => ?_⟩)
  rcases hat with e | ⟨k, e1, e2⟩
  ·exact hx.1.2 (e ▸ he)
  ·rw [e2] at he
   injection he with he
   omega
 refine ⟨hown, by rw [List.length_append, List.length_append, h.len]; rfl, fun i h1 h2 => ?_⟩
 by_cases hi : i < ps.length
 ·have hi2 : i < ml.length := by rw [← h.len]; exact hi
  rw [List.getElem_append_left hi, List.getElem_append_left hi2]
  exact ⟨(h.at_ i hi hi2).1, hrd (h.at_ i hi hi2).2⟩
 ·have he : i = ps.length := by simp at h1; omega
  subst he
  have e2 : (ml ++ [⟨acc, arcs⟩])[ps.length]'h2 = ⟨acc, arcs⟩ := by
   rw [List.getElem_append_right (by rw [h.len]; exact Nat.le_refl _)]
   simp [h.len]
  rw [List.getElem_concat_length rfl, e2]
  exact ⟨rfl, hrd ha⟩
theorem OwnS.rds {B : Nat} {w : World} {sv : Value} {ps : List (Bool × Value)} {ml : List StA} (h : OwnS B w sv ps ml) : RdS (fun g => B ≤ g) w sv ml := by
 obtain ⟨h1, h2⟩ := h.own.slx stV_len
 rw [h.len] at h1 h2
 refine ⟨fun i => (ps.getD i (false, .slice none 0 0)).2, ?_, fun hl => ?_, fun i hi => ?_⟩
 ·obtain ⟨a, cap, hv, e1, e2, e3, e4⟩ := h1
  refine ⟨a, cap, hv, e1, e2, e3, fun hl => ?_⟩
  obtain ⟨g, o, ha, hg, hc⟩ := e4 hl
  refine ⟨g, o, ha, hg, fun i hi j hj => ?_⟩
  have hip : i < ps.length := by rw [h.len]; exact hi
  rw [hc i hi j hj, cellsAt_eq stV ps i hip]
  dsimp only
  rw [List.getElem?_eq_getElem hi, List.getD_eq_getElem?_getD, List.getElem?_eq_getElem hip]
  dsimp only [Option.getD_some]
  rw [← (h.at_ i hip hi).1]
  rfl
 ·obtain ⟨g, cap, hv, hb, hg⟩ := h2 hl
  exact ⟨g, 0, _, cap, hv, hb⟩
 ·have hip : i < ps.length := by rw [h.len]; exact hi
  show RdA _ w (ps.getD i (false, .slice none 0 0)).2 _
  rw [List.getD_eq_getElem?_getD, List.getElem?_eq_getElem hip]
  exact (h.at_ i hip hi).2.mono (fun g hg _ => hg.1)
/-! The numbering, step by step. -/
def kI (c : Nat) : Lit := Lit.int .i64 (c : Int)
theorem kI_inj (x y : Nat) (h : kI x = kI y) : x = y := by
 unfold kI at h
 injection h with _ h
 omega
theorem row_hit {bytes cl ts order : List Nat} {arcs : List ArcA} {k n : Nat} (hk : k < ts.length) (h : order.findIdx? (fun o => decide (cl.getD o 0 = cl.getD ts[k] 0)) = some n) :
  rowA bytes cl (ts.drop k) k arcs order = rowA bytes cl (ts.drop (k + 1)) (k + 1) (addArcA arcs (bytes.getD k 0) (hiA bytes k) n) order := by
 rw [List.drop_eq_getElem_cons hk, rowA, h]
theorem row_miss {bytes cl ts order : List Nat} {arcs : List ArcA} {k : Nat} (hk : k < ts.length) (h : order.findIdx? (fun o => decide (cl.getD o 0 = cl.getD ts[k] 0)) = none) :
  rowA bytes cl (ts.drop k) k arcs order = rowA bytes cl (ts.drop (k + 1)) (k + 1) (addArcA arcs (bytes.getD k 0) (hiA bytes k) order.length) (order ++ [ts[k]]) := by
 rw [List.drop_eq_getElem_cons hk, rowA, h]
theorem row_end {bytes cl ts order : List Nat} {arcs : List ArcA} {k : Nat} (hk : ¬ k < ts.length) : rowA bytes cl (ts.drop k) k arcs order = (arcs, order) := by
 rw [List.drop_of_length_le (by omega), rowA]
theorem num_map (cl order : List Nat) (t : Nat) : (order.map fun o => cl.getD o 0).findIdx? (fun y => decide (y = cl.getD t 0)) = order.findIdx? (fun o => decide (cl.getD o 0 = cl.getD t 0)) := by
 rw [List.findIdx?_map]
 rfl
end Go.Proofs.YtpkecepelcppiaaGreatDoor

namespace Go.Proofs.YtpkecepelcppiaaGreatDoor
open Go.RowKit Go.Shelf
set_option maxHeartbeats 4000000
set_option maxRecDepth 100000

def stC (mn : Nat) (mx : Int) (top count want : Nat) : StA := ⟨decide (want = 0) && decide (mn ≤ count), arcsC mx top count want⟩
def preC (mn : Nat) (mx : Int) (top count want : Nat) : List StA := ((List.range count).flatMap fun c => (List.range 8).map (stC mn mx top c)) ++ (List.range want).map (stC mn mx top count)
theorem pre_want (mn : Nat) (mx : Int) (top count want : Nat) : preC mn mx top count (want + 1) = preC mn mx top count want ++ [stC mn mx top count want] := by
 unfold preC
 rw [List.range_succ (n := want), List.map_append, List.append_assoc]
 rfl
theorem pre_count (mn : Nat) (mx : Int) (top count : Nat) : preC mn mx top count 8 = preC mn mx top (count + 1) 0 := by
 unfold preC
 rw [List.range_succ (n := count), List.flatMap_append, List.range_zero, List.map_nil, List.append_nil]
 simp only [List.flatMap_cons, List.flatMap_nil, List.append_nil]
theorem pre_end (mn : Nat) (mx : Int) (top : Nat) : preC mn mx top (top + 1) 0 ++ [⟨false, [⟨0, 255, (top + 1) * 8⟩]⟩] = machC mn mx top := by
 unfold preC machC statesC
 rw [List.range_zero, List.map_nil, List.append_nil]
 rfl
theorem pre_len (mn : Nat) (mx : Int) (top count want : Nat) : (preC mn mx top count want).length = count * 8 + want := by
 unfold preC
 rw [List.length_append, List.length_map, List.length_range]
 congr 1
 induction count with
 | zero => rfl
 | succ c ih => rw [List.range_succ (n := c), List.flatMap_append, List.length_append, ih]; simp; omega
structure MS (mn : Nat) (mx : Int) (top : Nat) (w wr : World) (sv : Value) (ps : List (Bool × Value)) (ml : List StA) : Prop where
 bel : Below w.heap.size w wr
 c : BoxV w.heap.size 67 [.int .i64 (mn : Int), .int .i64 mx, .int .i64 (top : Int)] wr
 r : BoxV (w.heap.size + 1) 29 [.slice none 0 0] wr
 b : BoxV (w.heap.size + 2) 29 [sv] wr
 st : OwnS (w.heap.size + 3) wr sv ps ml
theorem MS.stay {mn : Nat} {mx : Int} {top : Nat} {w wr wx : World} {sv : Value} {ps : List (Bool × Value)} {ml : List StA} (h : MS mn mx top w wr sv ps ml) (hb : Below wr.heap.size wr wx) : MS mn mx top w wx sv ps ml :=
 ⟨h.bel.trans (hb.mono h.bel.size), h.c.below hb, h.r.below hb, h.b.below hb, h.st.stay hb⟩
theorem MS.push {mn : Nat} {mx : Int} {top : Nat} {w wr w7 : World} {sv v' : Value} {ps : List (Bool × Value)} {ml : List StA} {acc : Bool} {av : Value} {arcs : List ArcA} (h : MS mn mx top w wr sv ps ml) (hown : OwnL (w.heap.size + 3) 70 2 stV w7 v' (ps ++ [(acc, av)])) (hg : wr.grownBy w7 sv.ownBlock)
  (hat : v'.ownBlock = sv.ownBlock ∨ ∃ k, wr.heap.size ≤ k ∧ v'.ownBlock = some k) (ha : RdA (fun g => w.heap.size + 2 + 1 ≤ g ∧ sv.ownBlock ≠ some g) wr av arcs) : MS mn mx top w (w7.setCell ⟨w.heap.size + 2, 0, none⟩ v') v' (ps ++ [(acc, av)]) (ml ++ [⟨acc, arcs⟩]) := by
 have hgb := grown_belowL hg (fun x hx => (h.st.own.lt x hx).1) (by have := h.b.lt; omega)
 have hot : ∀ y, y ≠ w.heap.size + 2 → (w7.setCell ⟨w.heap.size + 2, 0, none⟩ v').heap[y]? = w7.heap[y]? := fun y hy => Below.heap_setCell w7 ⟨w.heap.size + 2, 0, none⟩ _ y hy
 refine ⟨(h.bel.trans (hgb.mono (by omega))).setCell (p := ⟨w.heap.size + 2, 0, none⟩) (by show _ ≤ w.heap.size + 2; omega) _, h.c.keep ((hot _ (by omega)).trans (hgb.block _ (by omega))), h.r.keep ((hot _ (by omega)).trans (hgb.block _ (by omega))), ?_, (h.st.push hown hg hat ha).keep (fun g hb _ => hot g (by omega))⟩
 exact heap_setCell_same w7 (w.heap.size + 2) 0 _ _ v' ((hgb.block _ (by omega)).trans h.b)
theorem machine_any (mn : Nat) (mx : Int) (top : Nat) (out : List StA) (w : World) (ht : top ≤ 100)
  (hleast : ∀ (N : Nat → Prop) (v : Value) (w' : World), RdS N w' v (machC mn mx top) → Calls Tryz.prog 63 #[.agg #[v]] w' fun e w'' => ∃ v', e = .returned (.agg #[v']) ∧ RdS (fun g => w'.heap.size ≤ g) w'' v' out ∧ Below w'.heap.size w' w'') :
  Calls Tryz.prog 38 #[cntV (mn : Int) mx top] w fun e w' => ∃ v', e = .returned (.agg #[v']) ∧ RdS (fun g => w.heap.size ≤ g) w' v' out ∧ Below w.heap.size w w' := by
 have hti : (top : Int) ≤ 100 := by omega
 have HT := Lib.hid ht
 have HLE := Lib.hid hleast
 have HARC := Lib.hid (fun count want w' hc hw => arcs_any (mn : Int) mx top count want w' ht hc hw)
 unfold cntV at *
 clear ht hleast
 go_enter Tryz.func38, Tryz.ntmps38
 go_upto_region 2 with fail
 generalize hW : World.alloc w _ = w1
 obtain ⟨hbx, -, hz1, hb1⟩ := alloc_of hW
 generalize hW2 : World.alloc w1 _ = w2
 obtain ⟨hbx2, -, hz2, hb2⟩ := alloc_of hW2
 generalize hW3 : World.alloc w2 _ = w3
 obtain ⟨hbx3, -, hz3, hb3⟩ := alloc_of hW3
 rw [hz1] at hbx2
 rw [hz2, hz1] at hbx3
 have HMS0 := Lib.hid (show MS mn mx top w w3 (.slice none 0 0) [] [] from ⟨hb1.trans ((hb2.trans (hb3.mono hb2.size)).mono hb1.size), (hb3.block _ (by omega)).trans ((hb2.block _ (by omega)).trans hbx), (hb3.block _ (by omega)).trans hbx2, hbx3, OwnS.nil _ _⟩)
 clear hW hbx hz1 hb1 hW2 hbx2 hz2 hb2 hW3 hbx3 hz3 hb3
 go_wp2_with fail
 go_loopw [4] (fun cv wr => ∃ (count : Nat) (A : Option Addr) (nl cp : Nat) (ps : List (Bool × Value)), cv = .int .i64 (count : Int) ∧ count ≤ top + 1 ∧ Hid (MS mn mx top w wr (.slice A nl cp) ps (preC mn mx top count 0))) (fun cv _ => top + 1 - (intOf cv).toNat)
 case atStart => exact ⟨0, none, 0, 0, [], rfl, by omega, HMS0.out⟩
 case round =>
  clear HMS0
  obtain ⟨count, A, nl, cp, ps, rfl, hc, HMS⟩ := hrel
  obtain ⟨x0, x1, x2, s0⟩ : wr.cell? ⟨w.heap.size, 0, none⟩ = some (.int .i64 (mn : Int)) ∧ wr.cell? ⟨w.heap.size, 1, none⟩ = some (.int .i64 mx) ∧ wr.cell? ⟨w.heap.size, 2, none⟩ = some (.int .i64 (top : Int)) ∧ wr.cell? ⟨w.heap.size + 2, 0, none⟩ = some (.slice A nl cp) := ⟨HMS.out.c.cell 0, HMS.out.c.cell 1, HMS.out.c.cell 2, HMS.out.b.cell 0⟩
  by_cases hlt : count ≤ top
  case neg =>
   have hge : ¬ (count : Int) ≤ (top : Int) := by omega
   have hce : count = top + 1 := by omega
   subst hce
   have HLN : Hid ((preC mn mx top (top + 1) 0).length ≤ 1000) := by unfold Hid; rw [pre_len]; have := HT.out; omega
   obtain ⟨dd, hdd⟩ : ∃ dd, dd = (top + 1) * 8 := ⟨_, rfl⟩
   have HDE := Lib.hid (fun w' => dead_any (mn : Int) mx top (by have := HT.out; omega) w')
   rw [← hdd] at HDE
   unfold cntV at HDE
   have HME : Hid (preC mn mx top (top + 1) 0 ++ [⟨false, [⟨0, 255, dd⟩]⟩] = machC mn mx top) := by unfold Hid; rw [hdd]; exact pre_end mn mx top
   clear hdd hlt hc
   go_upto_region 10 with fail
   have hd := drewBn wr
   replace HMS := Lib.hid (HMS.out.stay hd)
   obtain ⟨bx, hbx⟩ : ∃ bx, bx = w.heap.size := ⟨_, rfl⟩
   obtain ⟨b3, hb3⟩ : ∃ b3, b3 = w.heap.size + 2 := ⟨_, rfl⟩
   have hS0 : wr.drew.cell? ⟨bx, 0, none⟩ = some (.int .i64 (mn : Int)) ∧ wr.drew.cell? ⟨bx, 1, none⟩ = some (.int .i64 mx) ∧ wr.drew.cell? ⟨bx, 2, none⟩ = some (.int .i64 (top : Int)) ∧ wr.drew.cell? ⟨b3, 0, none⟩ = some (.slice A nl cp) := by rw [hbx, hb3]; exact ⟨HMS.out.c.cell 0, HMS.out.c.cell 1, HMS.out.c.cell 2, HMS.out.b.cell 0⟩
   rw [← hb3, ← hbx]
   have HBX : Hid (bx = w.heap.size) := hbx
   have HB3 : Hid (w.heap.size + 2 = b3) := hb3.symm
   clear hbx hb3 hd x0 x1 x2 s0
   refine wpq_region (fun w' => w'.cell? ⟨bx, 0, none⟩ = some (.int .i64 (mn : Int)) ∧ w'.cell? ⟨bx, 1, none⟩ = some (.int .i64 mx) ∧ w'.cell? ⟨bx, 2, none⟩ = some (.int .i64 (top : Int)) ∧ w'.cell? ⟨b3, 0, none⟩ = some (.slice A nl cp)) 10 (by kernel_rfl) hS0 (fun hHeld => ?_)
   clear hS0
   generalize wr.drew = wd at *
   refine wpq_tk 0 (some 34) [10] (Or.inl ⟨by rfl, fun w hSw => by (obtain ⟨x0, x1, x2, s0⟩ := hSw; go_simp; with_reducible rfl)⟩) hHeld ?_ rfl rfl
   simp only [Act.put, sA, sZ, sS]
   refine wpq_tk 1 (some 35) [10] (Or.inl ⟨by rfl, fun w hSw => by (obtain ⟨x0, x1, x2, s0⟩ := hSw; go_simp; with_reducible rfl)⟩) hHeld ?_ rfl rfl
   simp only [Act.put, sA, sZ, sS]
   refine wpq_tk 2 (some 36) [10] (Or.inl ⟨by rfl, fun w hSw => by (obtain ⟨x0, x1, x2, s0⟩ := hSw; go_simp; with_reducible rfl)⟩) hHeld ?_ rfl rfl
   simp only [Act.put, sA, sZ, sS]
   refine wpq_one 3 (by kernel_rfl) rfl (fun K hK => ?_)
   go_simp
   refine (HDE.out _).mono ?_
   rintro e wx ⟨rfl, hb⟩
   replace hHeld := show wx.cell? ⟨bx, 0, none⟩ = some (.int .i64 (mn : Int)) ∧ wx.cell? ⟨bx, 1, none⟩ = some (.int .i64 mx) ∧ wx.cell? ⟨bx, 2, none⟩ = some (.int .i64 (top : Int)) ∧ wx.cell? ⟨b3, 0, none⟩ = some (.slice A nl cp) from ⟨(hb.cell (p := ⟨bx, 0, none⟩) (cell_ltF hHeld.1)).trans hHeld.1, (hb.cell (p := ⟨bx, 1, none⟩) (cell_ltF hHeld.2.1)).trans hHeld.2.1, (hb.cell (p := ⟨bx, 2, none⟩) (cell_ltF hHeld.2.2.1)).trans hHeld.2.2.1, (hb.cell (p := ⟨b3, 0, none⟩) (cell_ltF hHeld.2.2.2)).trans hHeld.2.2.2⟩
   replace HMS := Lib.hid (HMS.out.stay hb)
   clear hb
   generalize wx = wd at *
   refine hK.out _ _ hHeld (fun hHeld => ?_)
   clear hK K
   refine wpq_tk 4 (some 38) [10] (Or.inl ⟨by rfl, fun w hSw => by (obtain ⟨x0, x1, x2, s0⟩ := hSw; go_simp; with_reducible rfl)⟩) hHeld ?_ rfl rfl
   simp only [Act.put, sA, sZ, sS]
   refine wpq_one 5 (by kernel_rfl) rfl (fun K hK => ?_)
   go_simp
   generalize hW : World.alloc wd _ = we
   obtain ⟨ha, -, -, hb⟩ := alloc_of hW
   have hav : SlX we (.slice (some ⟨wd.heap.size, 0, none⟩) 1 1) 1 3 (cellsAt arcV [⟨0, 255, dd⟩]) := slx_block (l := [(⟨0, 255, dd⟩ : ArcA)]) arcV_len ha (show (1 : Nat) ≤ maxLen by decide)
   have HAV := Lib.hid (show RdA (fun g => b3 + 1 ≤ g ∧ (Value.slice A nl cp).ownBlock ≠ some g) we (.slice (some ⟨wd.heap.size, 0, none⟩) 1 1) [⟨0, 255, dd⟩] from ⟨hav, fun _ => ⟨_, 0, _, _, rfl, by have := HMS.out.b.lt; rw [HB3.out] at this; omega, fun he => by have := (HMS.out.st.own.lt _ he).2; omega⟩⟩)
   replace hHeld := show we.cell? ⟨bx, 0, none⟩ = some (.int .i64 (mn : Int)) ∧ we.cell? ⟨bx, 1, none⟩ = some (.int .i64 mx) ∧ we.cell? ⟨bx, 2, none⟩ = some (.int .i64 (top : Int)) ∧ we.cell? ⟨b3, 0, none⟩ = some (.slice A nl cp) from ⟨(hb.cell (p := ⟨bx, 0, none⟩) (cell_ltF hHeld.1)).trans hHeld.1, (hb.cell (p := ⟨bx, 1, none⟩) (cell_ltF hHeld.2.1)).trans hHeld.2.1, (hb.cell (p := ⟨bx, 2, none⟩) (cell_ltF hHeld.2.2.1)).trans hHeld.2.2.1, (hb.cell (p := ⟨b3, 0, none⟩) (cell_ltF hHeld.2.2.2)).trans hHeld.2.2.2⟩
   replace HMS := Lib.hid (HMS.out.stay hb)
   clear hW ha hb hav
   generalize wd.heap.size = gA at *
   refine hK.out _ _ hHeld (fun hHeld => ?_)
   clear hK K
   generalize we = wd at *
   refine wpq_tk 6 (some 40) [10] (Or.inl ⟨by rfl, fun w hSw => by (obtain ⟨x0, x1, x2, s0⟩ := hSw; go_simp; with_reducible rfl)⟩) hHeld ?_ rfl rfl
   simp only [Act.put, sA, sZ, sS]
   refine wpq_one 7 (by kernel_rfl) rfl (fun K hK => ?_)
   go_simp
   have hb7 : Below wd.heap.size wd (wd.alloc (.cells (stV (false, .slice (some ⟨gA, 0, none⟩) 1 1)).toArray 70)) := (Below.refl _ _).alloc (Nat.le_refl _) _
   refine hK.out _ _ ⟨(hb7.cell (p := ⟨bx, 0, none⟩) (cell_ltF hHeld.1)).trans hHeld.1, (hb7.cell (p := ⟨bx, 1, none⟩) (cell_ltF hHeld.2.1)).trans hHeld.2.1, (hb7.cell (p := ⟨bx, 2, none⟩) (cell_ltF hHeld.2.2.1)).trans hHeld.2.2.1, (hb7.cell (p := ⟨b3, 0, none⟩) (cell_ltF hHeld.2.2.2)).trans hHeld.2.2.2⟩ (fun hHeld2 => ?_)
   clear hK K hb7 hHeld2
   refine wpq_one 8 (by kernel_rfl) rfl (fun K hK => ?_)
   refine step_pushL (f := stV) (x := (false, .slice (some ⟨gA, 0, none⟩) 1 1)) (v := .slice A nl cp) (l := ps) (B := w.heap.size + 3) (e := 70) (sz := 2) rfl _ _ rfl elemS stV_len (by decide) (stV_one _ _ _ _) HMS.out.st.own rfl rfl rfl (by have := HMS.out.st.len; have := HLN.out; omega) (by have := HMS.out.b.lt; omega) ?_
   rintro v3 w7 hown3 hg3 hfm3 hat3
   obtain ⟨A3, n3, cap3, rfl⟩ : ∃ A n cap, v3 = .slice A n cap := (by obtain ⟨A, c, h⟩ := hfm3; exact ⟨A, _, c, h⟩)
   have HN := Lib.hid (HMS.out.push (acc := false) hown3 hg3 hat3 (HB3.out ▸ HAV.out))
   have hgb := grown_belowL hg3 (fun x hx => (HMS.out.st.own.lt x hx).1) (by have := HMS.out.b.lt; omega)
   have hb3 : BoxV b3 29 [.slice A nl cp] w7 := HB3.out ▸ (hgb.block _ (by omega)).trans HMS.out.b
   have hf := hb3.free 0
   have hc := hb3.cell 0
   have hS : w7.cell? ⟨bx, 0, none⟩ = some (.int .i64 (mn : Int)) ∧ w7.cell? ⟨bx, 1, none⟩ = some (.int .i64 mx) ∧ w7.cell? ⟨bx, 2, none⟩ = some (.int .i64 (top : Int)) ∧ w7.cell? ⟨b3, 0, none⟩ = some (.slice A nl cp) := ⟨(hgb.cell (p := ⟨bx, 0, none⟩) (by have := HBX.out; show bx < w.heap.size + 3; omega)).trans hHeld.1, (hgb.cell (p := ⟨bx, 1, none⟩) (by have := HBX.out; show bx < w.heap.size + 3; omega)).trans hHeld.2.1, (hgb.cell (p := ⟨bx, 2, none⟩) (by have := HBX.out; show bx < w.heap.size + 3; omega)).trans hHeld.2.2.1, hc⟩
   clear hown3 hg3 hfm3 hat3 hgb hb3
   refine hK.out _ _ hS (fun hHeld => ?_)
   clear hK K hS
   refine wpq_tk 9 (some 43) [10] (Or.inl ⟨by rfl, fun w hSw => by (obtain ⟨x0, x1, x2, s0⟩ := hSw; go_simp; with_reducible rfl)⟩) hHeld ?_ rfl rfl
   simp only [Act.put, sA, sZ, sS]
   refine wpq_end 10 (by kernel_rfl) rfl (by kernel_rfl) (fun K hK => ?_)
   go_simp
   refine hK.out _ _ ?_
   clear hK K
   refine wpq_done (by kernel_rfl) ?_ _
   go_simp
   have hq1 := HBX.out
   subst hq1
   have hq2 := HB3.out
   subst hq2
   rw [HME.out] at HN
   go_upto_region 11 with fail
   generalize hW9 : World.setCell w7 _ _ = w8 at *
   have s0 := HN.out.b.cell 0
   simp only [List.getElem?_cons_zero] at s0
   clear hW9 hHeld hf hc
   go_wp2_with fail
   refine (HLE.out _ _ w8 HN.out.st.rds).mono ?_
   rintro e w9 ⟨v', rfl, hrd, hb⟩
   obtain ⟨ra, rcap, rfl, -⟩ := hrd.form
   have HB9 := Lib.hid (HN.out.bel.trans (hb.mono HN.out.bel.size))
   have hr9 := HN.out.r.below hb
   have HRD := Lib.hid (hrd.mono (M := fun g => w.heap.size + 2 ≤ g) (fun g h _ => by have := HN.out.b.lt; omega))
   have z0 := hr9.cell 0
   have y0 := hr9.free 0
   simp only [List.getElem?_cons_zero] at z0
   have HR9 := Lib.hid hr9
   clear hb hrd hr9
   go_wp2_with fail
   refine bodyPost_ret (v := .agg #[.slice ra out.length rcap]) ?_ rfl ⟨_, rfl, ?_, ?_⟩
   ·have hbx : BoxV (w.heap.size + 1) 29 [.slice ra out.length rcap] (w9.setCell ⟨w.heap.size + 1, 0, none⟩ (.slice ra out.length rcap)) := heap_setCell_same w9 (w.heap.size + 1) 0 _ _ _ HR9.out
    have q0 := hbx.cell 0
    simp only [List.getElem?_cons_zero] at q0
    simp [results, Tryz.results38, go_sem, q0]
   ·exact (HRD.out.keep (fun g hg _ => Below.heap_setCell w9 ⟨w.heap.size + 1, 0, none⟩ _ g (by show g ≠ w.heap.size + 1; omega))).mono (fun g hg _ => by omega)
   ·exact HB9.out.setCell (p := ⟨w.heap.size + 1, 0, none⟩) (by show _ ≤ w.heap.size + 1; omega) _
  case pos =>
   have hlti : (count : Int) ≤ (top : Int) := by omega
   have HC := Lib.hid hlt
   clear hlt
   go_wp2_with fail
   clear x0 x1 x2 s0
   go_loopw [12] (fun tv wr => ∃ (want : Nat) (A : Option Addr) (nl cp : Nat) (ps : List (Bool × Value)), tv = .int .i64 (want : Int) ∧ want ≤ 8 ∧ Hid (MS mn mx top w wr (.slice A nl cp) ps (preC mn mx top count want))) (fun tv _ => 8 - (intOf tv).toNat)
   case atStart => exact ⟨0, A, nl, cp, ps, rfl, by omega, HMS.out⟩
   case round =>
    clear HMS
    obtain ⟨want, A, nl, cp, ps, rfl, hw, HMS⟩ := hrel
    by_cases hwt : want < 8
    case neg =>
     have hwe : want = 8 := by omega
     subst hwe
     have HM2 := Lib.hid HMS.out
     rw [pre_count] at HM2
     clear hwt
     go_wp2_with fail
     exact ⟨⟨count + 1, A, nl, cp, ps, by simp, by have := HC.out; omega, HM2.out⟩, by have := HC.out; simp [intOf]; omega⟩
    case pos =>
     have hwti : (want : Int) < 8 := by omega
     have HWT : Hid (want + 1 ≤ 8) := hwt
     have HAR := Lib.hid (fun w' => HARC.out count want w' (by have := HC.out; have := HT.out; omega) hwt)
     have HLN : Hid ((preC mn mx top count want).length ≤ 1000) := by unfold Hid; rw [pre_len]; have := HC.out; have := HT.out; omega
     obtain ⟨x0, x1, x2, s0⟩ : wr.cell? ⟨w.heap.size, 0, none⟩ = some (.int .i64 (mn : Int)) ∧ wr.cell? ⟨w.heap.size, 1, none⟩ = some (.int .i64 mx) ∧ wr.cell? ⟨w.heap.size, 2, none⟩ = some (.int .i64 (top : Int)) ∧ wr.cell? ⟨w.heap.size + 2, 0, none⟩ = some (.slice A nl cp) := ⟨HMS.out.c.cell 0, HMS.out.c.cell 1, HMS.out.c.cell 2, HMS.out.b.cell 0⟩
     by_cases hw0 : want = 0
     case neg =>
      have tw : ((want : Int) == 0) = false := beq_false_of_ne (by omega)
      have HST : Hid (stC mn mx top count want = ⟨false, arcsC mx top count want⟩) := by unfold Hid stC; rw [decide_eq_false hw0]; rfl
      clear hwt hw0
      go_upto_region 8 with fail
      have hd := drewBn wr
      replace HMS := Lib.hid (HMS.out.stay hd)
      obtain ⟨bx, hbx⟩ : ∃ bx, bx = w.heap.size := ⟨_, rfl⟩
      obtain ⟨b3, hb3⟩ : ∃ b3, b3 = w.heap.size + 2 := ⟨_, rfl⟩
      have hS0 : wr.drew.cell? ⟨bx, 0, none⟩ = some (.int .i64 (mn : Int)) ∧ wr.drew.cell? ⟨bx, 1, none⟩ = some (.int .i64 mx) ∧ wr.drew.cell? ⟨bx, 2, none⟩ = some (.int .i64 (top : Int)) ∧ wr.drew.cell? ⟨b3, 0, none⟩ = some (.slice A nl cp) := by rw [hbx, hb3]; exact ⟨HMS.out.c.cell 0, HMS.out.c.cell 1, HMS.out.c.cell 2, HMS.out.b.cell 0⟩
      rw [← hb3, ← hbx]
      have HBX : Hid (bx = w.heap.size) := hbx
      have HB3 : Hid (w.heap.size + 2 = b3) := hb3.symm
      clear hbx hb3 hd x0 x1 x2 s0
      refine wpq_region (fun w' => w'.cell? ⟨bx, 0, none⟩ = some (.int .i64 (mn : Int)) ∧ w'.cell? ⟨bx, 1, none⟩ = some (.int .i64 mx) ∧ w'.cell? ⟨bx, 2, none⟩ = some (.int .i64 (top : Int)) ∧ w'.cell? ⟨b3, 0, none⟩ = some (.slice A nl cp)) 18 (by kernel_rfl) hS0 (fun hHeld => ?_)
      clear hS0
      generalize wr.drew = wd at *
      refine wpq_tk 0 (some 15) [18] (Or.inl ⟨by rfl, fun w hSw => by (obtain ⟨x0, x1, x2, s0⟩ := hSw; go_simp; with_reducible rfl)⟩) hHeld ?_ rfl rfl
      simp only [Act.put, sA, sZ, sS]
      refine wpq_tk 1 (some 16) [18] (Or.inl ⟨by rfl, fun w hSw => by (obtain ⟨x0, x1, x2, s0⟩ := hSw; go_simp; with_reducible rfl)⟩) hHeld ?_ rfl rfl
      simp only [Act.put, sA, sZ, sS]
      refine wpq_tk 2 (some 17) [18] (Or.inl ⟨by rfl, fun w hSw => by (obtain ⟨x0, x1, x2, s0⟩ := hSw; go_simp; with_reducible rfl)⟩) hHeld ?_ rfl rfl
      simp only [Act.put, sA, sZ, sS]
      refine wpq_tk 3 (some 18) [18] (Or.inl ⟨by rfl, fun w hSw => by (obtain ⟨x0, x1, x2, s0⟩ := hSw; go_simp; with_reducible rfl)⟩) hHeld ?_ rfl rfl
      simp only [Act.put, sA, sZ, sS]
      refine wpq_tk 4 (some 19) [18] (Or.inl ⟨by rfl, fun w hSw => by (obtain ⟨x0, x1, x2, s0⟩ := hSw; go_simp; with_reducible rfl)⟩) hHeld ?_ rfl rfl
      simp only [Act.put, sA, sZ, sS]
      refine wpq_tk 5 (some 20) [18] (Or.inr ⟨by rfl, rfl⟩) hHeld ?_ rfl rfl
      simp only [Act.put, sA, sZ, sS]
      refine wpq_tk 6 (some 21) [18] (Or.inr ⟨by rfl, rfl⟩) hHeld ?_ rfl rfl
      simp only [Act.put, sA, sZ, sS]
      refine wpq_tk 7 (some 22) [18] (Or.inr ⟨by rfl, rfl⟩) hHeld ?_ rfl rfl
      simp only [Act.put, sA, sZ, sS]
      refine wpq_tk 8 (some 23) [18] (Or.inr ⟨by rfl, rfl⟩) hHeld ?_ rfl rfl
      simp only [Act.put, sA, sZ, sS]
      refine wpq_tk 9 (some 24) [18] (Or.inl ⟨by rfl, fun w hSw => by (obtain ⟨x0, x1, x2, s0⟩ := hSw; go_simp; with_reducible rfl)⟩) hHeld ?_ rfl rfl
      simp only [Act.put, sA, sZ, sS]
      refine wpq_tk 10 (some 25) [18] (Or.inl ⟨by rfl, fun w hSw => by (obtain ⟨x0, x1, x2, s0⟩ := hSw; go_simp; with_reducible rfl)⟩) hHeld ?_ rfl rfl
      simp only [Act.put, sA, sZ, sS]
      refine wpq_tk 11 (some 26) [18] (Or.inl ⟨by rfl, fun w hSw => by (obtain ⟨x0, x1, x2, s0⟩ := hSw; go_simp; with_reducible rfl)⟩) hHeld ?_ rfl rfl
      simp only [Act.put, sA, sZ, sS]
      refine wpq_tk 12 (some 27) [18] (Or.inl ⟨by rfl, fun w hSw => by (obtain ⟨x0, x1, x2, s0⟩ := hSw; go_simp; with_reducible rfl)⟩) hHeld ?_ rfl rfl
      simp only [Act.put, sA, sZ, sS]
      refine wpq_one 13 (by kernel_rfl) rfl (fun K hK => ?_)
      go_simp
      refine (HAR.out _).mono ?_
      rintro e wx ⟨av, rfl, hav, hb⟩
      replace hHeld := show wx.cell? ⟨bx, 0, none⟩ = some (.int .i64 (mn : Int)) ∧ wx.cell? ⟨bx, 1, none⟩ = some (.int .i64 mx) ∧ wx.cell? ⟨bx, 2, none⟩ = some (.int .i64 (top : Int)) ∧ wx.cell? ⟨b3, 0, none⟩ = some (.slice A nl cp) from ⟨(hb.cell (p := ⟨bx, 0, none⟩) (cell_ltF hHeld.1)).trans hHeld.1, (hb.cell (p := ⟨bx, 1, none⟩) (cell_ltF hHeld.2.1)).trans hHeld.2.1, (hb.cell (p := ⟨bx, 2, none⟩) (cell_ltF hHeld.2.2.1)).trans hHeld.2.2.1, (hb.cell (p := ⟨b3, 0, none⟩) (cell_ltF hHeld.2.2.2)).trans hHeld.2.2.2⟩
      have HAV := Lib.hid ((hav.arcs (N := fun g => wd.heap.size ≤ g) (fun g h _ => h)).mono (M := fun g => b3 + 1 ≤ g ∧ (Value.slice A nl cp).ownBlock ≠ some g) (fun g h _ => ⟨by have := HMS.out.b.lt; rw [HB3.out] at this; omega, fun he => by have := (HMS.out.st.own.lt g he).2; omega⟩))
      obtain ⟨aa, acap, haf, -⟩ := hav.form
      replace HMS := Lib.hid (HMS.out.stay hb)
      generalize arcsC mx top count want = arcs at *
      generalize arcs.length = an at *
      subst haf
      clear hb hav
      generalize wx = wd at *
      refine hK.out _ _ hHeld (fun hHeld => ?_)
      clear hK K
      refine wpq_tk 14 (some 29) [18] (Or.inl ⟨by rfl, fun w hSw => by (obtain ⟨x0, x1, x2, s0⟩ := hSw; go_simp; with_reducible rfl)⟩) hHeld ?_ rfl rfl
      simp only [Act.put, sA, sZ, sS]
      refine wpq_one 15 (by kernel_rfl) rfl (fun K hK => ?_)
      go_simp
      have hb7 : Below wd.heap.size wd (wd.alloc (.cells (stV (false, .slice aa an acap)).toArray 70)) := (Below.refl _ _).alloc (Nat.le_refl _) _
      refine hK.out _ _ ⟨(hb7.cell (p := ⟨bx, 0, none⟩) (cell_ltF hHeld.1)).trans hHeld.1, (hb7.cell (p := ⟨bx, 1, none⟩) (cell_ltF hHeld.2.1)).trans hHeld.2.1, (hb7.cell (p := ⟨bx, 2, none⟩) (cell_ltF hHeld.2.2.1)).trans hHeld.2.2.1, (hb7.cell (p := ⟨b3, 0, none⟩) (cell_ltF hHeld.2.2.2)).trans hHeld.2.2.2⟩ (fun hHeld2 => ?_)
      clear hK K hb7 hHeld2
      refine wpq_one 16 (by kernel_rfl) rfl (fun K hK => ?_)
      refine step_pushL (f := stV) (x := (false, .slice aa an acap)) (v := .slice A nl cp) (l := ps) (B := w.heap.size + 3) (e := 70) (sz := 2) rfl _ _ rfl elemS stV_len (by decide) (stV_one _ _ _ _) HMS.out.st.own rfl rfl rfl (by have := HMS.out.st.len; have := HLN.out; omega) (by have := HMS.out.b.lt; omega) ?_
      rintro v3 w7 hown3 hg3 hfm3 hat3
      obtain ⟨A3, n3, cap3, rfl⟩ : ∃ A n cap, v3 = .slice A n cap := (by obtain ⟨A, c, h⟩ := hfm3; exact ⟨A, _, c, h⟩)
      have HN := Lib.hid (HMS.out.push (acc := false) hown3 hg3 hat3 (HB3.out ▸ HAV.out))
      have hgb := grown_belowL hg3 (fun x hx => (HMS.out.st.own.lt x hx).1) (by have := HMS.out.b.lt; omega)
      have hb3 : BoxV b3 29 [.slice A nl cp] w7 := HB3.out ▸ (hgb.block _ (by omega)).trans HMS.out.b
      have hf := hb3.free 0
      have hc := hb3.cell 0
      have hS : w7.cell? ⟨bx, 0, none⟩ = some (.int .i64 (mn : Int)) ∧ w7.cell? ⟨bx, 1, none⟩ = some (.int .i64 mx) ∧ w7.cell? ⟨bx, 2, none⟩ = some (.int .i64 (top : Int)) ∧ w7.cell? ⟨b3, 0, none⟩ = some (.slice A nl cp) := ⟨(hgb.cell (p := ⟨bx, 0, none⟩) (by have := HBX.out; show bx < w.heap.size + 3; omega)).trans hHeld.1, (hgb.cell (p := ⟨bx, 1, none⟩) (by have := HBX.out; show bx < w.heap.size + 3; omega)).trans hHeld.2.1, (hgb.cell (p := ⟨bx, 2, none⟩) (by have := HBX.out; show bx < w.heap.size + 3; omega)).trans hHeld.2.2.1, hc⟩
      clear hown3 hg3 hfm3 hat3 hgb hb3
      refine hK.out _ _ hS (fun hHeld => ?_)
      clear hK K hS
      refine wpq_tk 17 (some 32) [18] (Or.inl ⟨by rfl, fun w hSw => by (obtain ⟨x0, x1, x2, s0⟩ := hSw; go_simp; with_reducible rfl)⟩) hHeld ?_ rfl rfl
      simp only [Act.put, sA, sZ, sS]
      refine wpq_end 18 (by kernel_rfl) rfl (by kernel_rfl) (fun K hK => ?_)
      go_simp
      refine hK.out _ _ ?_
      clear hK K
      refine wpq_done (by kernel_rfl) ?_ _
      go_simp
      have hq1 := HBX.out
      subst hq1
      have hq2 := HB3.out
      subst hq2
      go_wp2_with fail
      exact ⟨⟨want + 1, by simp, HWT.out, A3, n3, cap3, _, by rw [pre_want, HST.out]; exact HN.out⟩, by have := HWT.out; simp [intOf]; omega⟩
     case pos =>
      have tw : ((want : Int) == 0) = true := by rw [hw0]; rfl
      by_cases hmn : mn ≤ count
      case pos =>
       have hmi : (mn : Int) ≤ (count : Int) := by omega
       have HST : Hid (stC mn mx top count want = ⟨true, arcsC mx top count want⟩) := by unfold Hid stC; rw [decide_eq_true hw0, decide_eq_true hmn]; rfl
       clear hwt hw0 hmn
       go_upto_region 8 with fail
       have hd := drewBn wr
       replace HMS := Lib.hid (HMS.out.stay hd)
       obtain ⟨bx, hbx⟩ : ∃ bx, bx = w.heap.size := ⟨_, rfl⟩
       obtain ⟨b3, hb3⟩ : ∃ b3, b3 = w.heap.size + 2 := ⟨_, rfl⟩
       have hS0 : wr.drew.cell? ⟨bx, 0, none⟩ = some (.int .i64 (mn : Int)) ∧ wr.drew.cell? ⟨bx, 1, none⟩ = some (.int .i64 mx) ∧ wr.drew.cell? ⟨bx, 2, none⟩ = some (.int .i64 (top : Int)) ∧ wr.drew.cell? ⟨b3, 0, none⟩ = some (.slice A nl cp) := by rw [hbx, hb3]; exact ⟨HMS.out.c.cell 0, HMS.out.c.cell 1, HMS.out.c.cell 2, HMS.out.b.cell 0⟩
       rw [← hb3, ← hbx]
       have HBX : Hid (bx = w.heap.size) := hbx
       have HB3 : Hid (w.heap.size + 2 = b3) := hb3.symm
       clear hbx hb3 hd x0 x1 x2 s0
       refine wpq_region (fun w' => w'.cell? ⟨bx, 0, none⟩ = some (.int .i64 (mn : Int)) ∧ w'.cell? ⟨bx, 1, none⟩ = some (.int .i64 mx) ∧ w'.cell? ⟨bx, 2, none⟩ = some (.int .i64 (top : Int)) ∧ w'.cell? ⟨b3, 0, none⟩ = some (.slice A nl cp)) 18 (by kernel_rfl) hS0 (fun hHeld => ?_)
       clear hS0
       generalize wr.drew = wd at *
       refine wpq_tk 0 (some 15) [18] (Or.inl ⟨by rfl, fun w hSw => by (obtain ⟨x0, x1, x2, s0⟩ := hSw; go_simp; with_reducible rfl)⟩) hHeld ?_ rfl rfl
       simp only [Act.put, sA, sZ, sS]
       refine wpq_tk 1 (some 16) [18] (Or.inl ⟨by rfl, fun w hSw => by (obtain ⟨x0, x1, x2, s0⟩ := hSw; go_simp; with_reducible rfl)⟩) hHeld ?_ rfl rfl
       simp only [Act.put, sA, sZ, sS]
       refine wpq_tk 2 (some 17) [18] (Or.inl ⟨by rfl, fun w hSw => by (obtain ⟨x0, x1, x2, s0⟩ := hSw; go_simp; with_reducible rfl)⟩) hHeld ?_ rfl rfl
       simp only [Act.put, sA, sZ, sS]
       refine wpq_tk 3 (some 18) [18] (Or.inl ⟨by rfl, fun w hSw => by (obtain ⟨x0, x1, x2, s0⟩ := hSw; go_simp; with_reducible rfl)⟩) hHeld ?_ rfl rfl
       simp only [Act.put, sA, sZ, sS]
       refine wpq_tk 4 (some 19) [18] (Or.inl ⟨by rfl, fun w hSw => by (obtain ⟨x0, x1, x2, s0⟩ := hSw; go_simp; with_reducible rfl)⟩) hHeld ?_ rfl rfl
       simp only [Act.put, sA, sZ, sS]
       refine wpq_tk 5 (some 20) [18] (Or.inl ⟨by rfl, fun w hSw => by (obtain ⟨x0, x1, x2, s0⟩ := hSw; go_simp; with_reducible rfl)⟩) hHeld ?_ rfl rfl
       simp only [Act.put, sA, sZ, sS]
       refine wpq_tk 6 (some 21) [18] (Or.inl ⟨by rfl, fun w hSw => by (obtain ⟨x0, x1, x2, s0⟩ := hSw; go_simp; with_reducible rfl)⟩) hHeld ?_ rfl rfl
       simp only [Act.put, sA, sZ, sS]
       refine wpq_tk 7 (some 22) [18] (Or.inl ⟨by rfl, fun w hSw => by (obtain ⟨x0, x1, x2, s0⟩ := hSw; go_simp; with_reducible rfl)⟩) hHeld ?_ rfl rfl
       simp only [Act.put, sA, sZ, sS]
       refine wpq_tk 8 (some 23) [18] (Or.inl ⟨by rfl, fun w hSw => by (obtain ⟨x0, x1, x2, s0⟩ := hSw; go_simp; with_reducible rfl)⟩) hHeld ?_ rfl rfl
       simp only [Act.put, sA, sZ, sS]
       refine wpq_tk 9 (some 24) [18] (Or.inl ⟨by rfl, fun w hSw => by (obtain ⟨x0, x1, x2, s0⟩ := hSw; go_simp; with_reducible rfl)⟩) hHeld ?_ rfl rfl
       simp only [Act.put, sA, sZ, sS]
       refine wpq_tk 10 (some 25) [18] (Or.inl ⟨by rfl, fun w hSw => by (obtain ⟨x0, x1, x2, s0⟩ := hSw; go_simp; with_reducible rfl)⟩) hHeld ?_ rfl rfl
       simp only [Act.put, sA, sZ, sS]
       refine wpq_tk 11 (some 26) [18] (Or.inl ⟨by rfl, fun w hSw => by (obtain ⟨x0, x1, x2, s0⟩ := hSw; go_simp; with_reducible rfl)⟩) hHeld ?_ rfl rfl
       simp only [Act.put, sA, sZ, sS]
       refine wpq_tk 12 (some 27) [18] (Or.inl ⟨by rfl, fun w hSw => by (obtain ⟨x0, x1, x2, s0⟩ := hSw; go_simp; with_reducible rfl)⟩) hHeld ?_ rfl rfl
       simp only [Act.put, sA, sZ, sS]
       refine wpq_one 13 (by kernel_rfl) rfl (fun K hK => ?_)
       go_simp
       refine (HAR.out _).mono ?_
       rintro e wx ⟨av, rfl, hav, hb⟩
       replace hHeld := show wx.cell? ⟨bx, 0, none⟩ = some (.int .i64 (mn : Int)) ∧ wx.cell? ⟨bx, 1, none⟩ = some (.int .i64 mx) ∧ wx.cell? ⟨bx, 2, none⟩ = some (.int .i64 (top : Int)) ∧ wx.cell? ⟨b3, 0, none⟩ = some (.slice A nl cp) from ⟨(hb.cell (p := ⟨bx, 0, none⟩) (cell_ltF hHeld.1)).trans hHeld.1, (hb.cell (p := ⟨bx, 1, none⟩) (cell_ltF hHeld.2.1)).trans hHeld.2.1, (hb.cell (p := ⟨bx, 2, none⟩) (cell_ltF hHeld.2.2.1)).trans hHeld.2.2.1, (hb.cell (p := ⟨b3, 0, none⟩) (cell_ltF hHeld.2.2.2)).trans hHeld.2.2.2⟩
       have HAV := Lib.hid ((hav.arcs (N := fun g => wd.heap.size ≤ g) (fun g h _ => h)).mono (M := fun g => b3 + 1 ≤ g ∧ (Value.slice A nl cp).ownBlock ≠ some g) (fun g h _ => ⟨by have := HMS.out.b.lt; rw [HB3.out] at this; omega, fun he => by have := (HMS.out.st.own.lt g he).2; omega⟩))
       obtain ⟨aa, acap, haf, -⟩ := hav.form
       replace HMS := Lib.hid (HMS.out.stay hb)
       generalize arcsC mx top count want = arcs at *
       generalize arcs.length = an at *
       subst haf
       clear hb hav
       generalize wx = wd at *
       refine hK.out _ _ hHeld (fun hHeld => ?_)
       clear hK K
       refine wpq_tk 14 (some 29) [18] (Or.inl ⟨by rfl, fun w hSw => by (obtain ⟨x0, x1, x2, s0⟩ := hSw; go_simp; with_reducible rfl)⟩) hHeld ?_ rfl rfl
       simp only [Act.put, sA, sZ, sS]
       refine wpq_one 15 (by kernel_rfl) rfl (fun K hK => ?_)
       go_simp
       have hb7 : Below wd.heap.size wd (wd.alloc (.cells (stV (true, .slice aa an acap)).toArray 70)) := (Below.refl _ _).alloc (Nat.le_refl _) _
       refine hK.out _ _ ⟨(hb7.cell (p := ⟨bx, 0, none⟩) (cell_ltF hHeld.1)).trans hHeld.1, (hb7.cell (p := ⟨bx, 1, none⟩) (cell_ltF hHeld.2.1)).trans hHeld.2.1, (hb7.cell (p := ⟨bx, 2, none⟩) (cell_ltF hHeld.2.2.1)).trans hHeld.2.2.1, (hb7.cell (p := ⟨b3, 0, none⟩) (cell_ltF hHeld.2.2.2)).trans hHeld.2.2.2⟩ (fun hHeld2 => ?_)
       clear hK K hb7 hHeld2
       refine wpq_one 16 (by kernel_rfl) rfl (fun K hK => ?_)
       refine step_pushL (f := stV) (x := (true, .slice aa an acap)) (v := .slice A nl cp) (l := ps) (B := w.heap.size + 3) (e := 70) (sz := 2) rfl _ _ rfl elemS stV_len (by decide) (stV_one _ _ _ _) HMS.out.st.own rfl rfl rfl (by have := HMS.out.st.len; have := HLN.out; omega) (by have := HMS.out.b.lt; omega) ?_
       rintro v3 w7 hown3 hg3 hfm3 hat3
       obtain ⟨A3, n3, cap3, rfl⟩ : ∃ A n cap, v3 = .slice A n cap := (by obtain ⟨A, c, h⟩ := hfm3; exact ⟨A, _, c, h⟩)
       have HN := Lib.hid (HMS.out.push (acc := true) hown3 hg3 hat3 (HB3.out ▸ HAV.out))
       have hgb := grown_belowL hg3 (fun x hx => (HMS.out.st.own.lt x hx).1) (by have := HMS.out.b.lt; omega)
       have hb3 : BoxV b3 29 [.slice A nl cp] w7 := HB3.out ▸ (hgb.block _ (by omega)).trans HMS.out.b
       have hf := hb3.free 0
       have hc := hb3.cell 0
       have hS : w7.cell? ⟨bx, 0, none⟩ = some (.int .i64 (mn : Int)) ∧ w7.cell? ⟨bx, 1, none⟩ = some (.int .i64 mx) ∧ w7.cell? ⟨bx, 2, none⟩ = some (.int .i64 (top : Int)) ∧ w7.cell? ⟨b3, 0, none⟩ = some (.slice A nl cp) := ⟨(hgb.cell (p := ⟨bx, 0, none⟩) (by have := HBX.out; show bx < w.heap.size + 3; omega)).trans hHeld.1, (hgb.cell (p := ⟨bx, 1, none⟩) (by have := HBX.out; show bx < w.heap.size + 3; omega)).trans hHeld.2.1, (hgb.cell (p := ⟨bx, 2, none⟩) (by have := HBX.out; show bx < w.heap.size + 3; omega)).trans hHeld.2.2.1, hc⟩
       clear hown3 hg3 hfm3 hat3 hgb hb3
       refine hK.out _ _ hS (fun hHeld => ?_)
       clear hK K hS
       refine wpq_tk 17 (some 32) [18] (Or.inl ⟨by rfl, fun w hSw => by (obtain ⟨x0, x1, x2, s0⟩ := hSw; go_simp; with_reducible rfl)⟩) hHeld ?_ rfl rfl
       simp only [Act.put, sA, sZ, sS]
       refine wpq_end 18 (by kernel_rfl) rfl (by kernel_rfl) (fun K hK => ?_)
       go_simp
       refine hK.out _ _ ?_
       clear hK K
       refine wpq_done (by kernel_rfl) ?_ _
       go_simp
       have hq1 := HBX.out
       subst hq1
       have hq2 := HB3.out
       subst hq2
       go_wp2_with fail
       exact ⟨⟨want + 1, by simp, HWT.out, A3, n3, cap3, _, by rw [pre_want, HST.out]; exact HN.out⟩, by have := HWT.out; simp [intOf]; omega⟩
      case neg =>
       have hmi : ¬ (mn : Int) ≤ (count : Int) := by omega
       have HST : Hid (stC mn mx top count want = ⟨false, arcsC mx top count want⟩) := by unfold Hid stC; rw [decide_eq_true hw0, decide_eq_false hmn]; rfl
       clear hwt hw0 hmn
       go_upto_region 8 with fail
       have hd := drewBn wr
       replace HMS := Lib.hid (HMS.out.stay hd)
       obtain ⟨bx, hbx⟩ : ∃ bx, bx = w.heap.size := ⟨_, rfl⟩
       obtain ⟨b3, hb3⟩ : ∃ b3, b3 = w.heap.size + 2 := ⟨_, rfl⟩
       have hS0 : wr.drew.cell? ⟨bx, 0, none⟩ = some (.int .i64 (mn : Int)) ∧ wr.drew.cell? ⟨bx, 1, none⟩ = some (.int .i64 mx) ∧ wr.drew.cell? ⟨bx, 2, none⟩ = some (.int .i64 (top : Int)) ∧ wr.drew.cell? ⟨b3, 0, none⟩ = some (.slice A nl cp) := by rw [hbx, hb3]; exact ⟨HMS.out.c.cell 0, HMS.out.c.cell 1, HMS.out.c.cell 2, HMS.out.b.cell 0⟩
       rw [← hb3, ← hbx]
       have HBX : Hid (bx = w.heap.size) := hbx
       have HB3 : Hid (w.heap.size + 2 = b3) := hb3.symm
       clear hbx hb3 hd x0 x1 x2 s0
       refine wpq_region (fun w' => w'.cell? ⟨bx, 0, none⟩ = some (.int .i64 (mn : Int)) ∧ w'.cell? ⟨bx, 1, none⟩ = some (.int .i64 mx) ∧ w'.cell? ⟨bx, 2, none⟩ = some (.int .i64 (top : Int)) ∧ w'.cell? ⟨b3, 0, none⟩ = some (.slice A nl cp)) 18 (by kernel_rfl) hS0 (fun hHeld => ?_)
       clear hS0
       generalize wr.drew = wd at *
       refine wpq_tk 0 (some 15) [18] (Or.inl ⟨by rfl, fun w hSw => by (obtain ⟨x0, x1, x2, s0⟩ := hSw; go_simp; with_reducible rfl)⟩) hHeld ?_ rfl rfl
       simp only [Act.put, sA, sZ, sS]
       refine wpq_tk 1 (some 16) [18] (Or.inl ⟨by rfl, fun w hSw => by (obtain ⟨x0, x1, x2, s0⟩ := hSw; go_simp; with_reducible rfl)⟩) hHeld ?_ rfl rfl
       simp only [Act.put, sA, sZ, sS]
       refine wpq_tk 2 (some 17) [18] (Or.inl ⟨by rfl, fun w hSw => by (obtain ⟨x0, x1, x2, s0⟩ := hSw; go_simp; with_reducible rfl)⟩) hHeld ?_ rfl rfl
       simp only [Act.put, sA, sZ, sS]
       refine wpq_tk 3 (some 18) [18] (Or.inl ⟨by rfl, fun w hSw => by (obtain ⟨x0, x1, x2, s0⟩ := hSw; go_simp; with_reducible rfl)⟩) hHeld ?_ rfl rfl
       simp only [Act.put, sA, sZ, sS]
       refine wpq_tk 4 (some 19) [18] (Or.inl ⟨by rfl, fun w hSw => by (obtain ⟨x0, x1, x2, s0⟩ := hSw; go_simp; with_reducible rfl)⟩) hHeld ?_ rfl rfl
       simp only [Act.put, sA, sZ, sS]
       refine wpq_tk 5 (some 20) [18] (Or.inl ⟨by rfl, fun w hSw => by (obtain ⟨x0, x1, x2, s0⟩ := hSw; go_simp; with_reducible rfl)⟩) hHeld ?_ rfl rfl
       simp only [Act.put, sA, sZ, sS]
       refine wpq_tk 6 (some 21) [18] (Or.inl ⟨by rfl, fun w hSw => by (obtain ⟨x0, x1, x2, s0⟩ := hSw; go_simp; with_reducible rfl)⟩) hHeld ?_ rfl rfl
       simp only [Act.put, sA, sZ, sS]
       refine wpq_tk 7 (some 22) [18] (Or.inl ⟨by rfl, fun w hSw => by (obtain ⟨x0, x1, x2, s0⟩ := hSw; go_simp; with_reducible rfl)⟩) hHeld ?_ rfl rfl
       simp only [Act.put, sA, sZ, sS]
       refine wpq_tk 8 (some 23) [18] (Or.inl ⟨by rfl, fun w hSw => by (obtain ⟨x0, x1, x2, s0⟩ := hSw; go_simp; with_reducible rfl)⟩) hHeld ?_ rfl rfl
       simp only [Act.put, sA, sZ, sS]
       refine wpq_tk 9 (some 24) [18] (Or.inl ⟨by rfl, fun w hSw => by (obtain ⟨x0, x1, x2, s0⟩ := hSw; go_simp; with_reducible rfl)⟩) hHeld ?_ rfl rfl
       simp only [Act.put, sA, sZ, sS]
       refine wpq_tk 10 (some 25) [18] (Or.inl ⟨by rfl, fun w hSw => by (obtain ⟨x0, x1, x2, s0⟩ := hSw; go_simp; with_reducible rfl)⟩) hHeld ?_ rfl rfl
       simp only [Act.put, sA, sZ, sS]
       refine wpq_tk 11 (some 26) [18] (Or.inl ⟨by rfl, fun w hSw => by (obtain ⟨x0, x1, x2, s0⟩ := hSw; go_simp; with_reducible rfl)⟩) hHeld ?_ rfl rfl
       simp only [Act.put, sA, sZ, sS]
       refine wpq_tk 12 (some 27) [18] (Or.inl ⟨by rfl, fun w hSw => by (obtain ⟨x0, x1, x2, s0⟩ := hSw; go_simp; with_reducible rfl)⟩) hHeld ?_ rfl rfl
       simp only [Act.put, sA, sZ, sS]
       refine wpq_one 13 (by kernel_rfl) rfl (fun K hK => ?_)
       go_simp
       refine (HAR.out _).mono ?_
       rintro e wx ⟨av, rfl, hav, hb⟩
       replace hHeld := show wx.cell? ⟨bx, 0, none⟩ = some (.int .i64 (mn : Int)) ∧ wx.cell? ⟨bx, 1, none⟩ = some (.int .i64 mx) ∧ wx.cell? ⟨bx, 2, none⟩ = some (.int .i64 (top : Int)) ∧ wx.cell? ⟨b3, 0, none⟩ = some (.slice A nl cp) from ⟨(hb.cell (p := ⟨bx, 0, none⟩) (cell_ltF hHeld.1)).trans hHeld.1, (hb.cell (p := ⟨bx, 1, none⟩) (cell_ltF hHeld.2.1)).trans hHeld.2.1, (hb.cell (p := ⟨bx, 2, none⟩) (cell_ltF hHeld.2.2.1)).trans hHeld.2.2.1, (hb.cell (p := ⟨b3, 0, none⟩) (cell_ltF hHeld.2.2.2)).trans hHeld.2.2.2⟩
       have HAV := Lib.hid ((hav.arcs (N := fun g => wd.heap.size ≤ g) (fun g h _ => h)).mono (M := fun g => b3 + 1 ≤ g ∧ (Value.slice A nl cp).ownBlock ≠ some g) (fun g h _ => ⟨by have := HMS.out.b.lt; rw [HB3.out] at this; omega, fun he => by have := (HMS.out.st.own.lt g he).2; omega⟩))
       obtain ⟨aa, acap, haf, -⟩ := hav.form
       replace HMS := Lib.hid (HMS.out.stay hb)
       generalize arcsC mx top count want = arcs at *
       generalize arcs.length = an at *
       subst haf
       clear hb hav
       generalize wx = wd at *
       refine hK.out _ _ hHeld (fun hHeld => ?_)
       clear hK K
       refine wpq_tk 14 (some 29) [18] (Or.inl ⟨by rfl, fun w hSw => by (obtain ⟨x0, x1, x2, s0⟩ := hSw; go_simp; with_reducible rfl)⟩) hHeld ?_ rfl rfl
       simp only [Act.put, sA, sZ, sS]
       refine wpq_one 15 (by kernel_rfl) rfl (fun K hK => ?_)
       go_simp
       have hb7 : Below wd.heap.size wd (wd.alloc (.cells (stV (false, .slice aa an acap)).toArray 70)) := (Below.refl _ _).alloc (Nat.le_refl _) _
       refine hK.out _ _ ⟨(hb7.cell (p := ⟨bx, 0, none⟩) (cell_ltF hHeld.1)).trans hHeld.1, (hb7.cell (p := ⟨bx, 1, none⟩) (cell_ltF hHeld.2.1)).trans hHeld.2.1, (hb7.cell (p := ⟨bx, 2, none⟩) (cell_ltF hHeld.2.2.1)).trans hHeld.2.2.1, (hb7.cell (p := ⟨b3, 0, none⟩) (cell_ltF hHeld.2.2.2)).trans hHeld.2.2.2⟩ (fun hHeld2 => ?_)
       clear hK K hb7 hHeld2
       refine wpq_one 16 (by kernel_rfl) rfl (fun K hK => ?_)
       refine step_pushL (f := stV) (x := (false, .slice aa an acap)) (v := .slice A nl cp) (l := ps) (B := w.heap.size + 3) (e := 70) (sz := 2) rfl _ _ rfl elemS stV_len (by decide) (stV_one _ _ _ _) HMS.out.st.own rfl rfl rfl (by have := HMS.out.st.len; have := HLN.out; omega) (by have := HMS.out.b.lt; omega) ?_
       rintro v3 w7 hown3 hg3 hfm3 hat3
       obtain ⟨A3, n3, cap3, rfl⟩ : ∃ A n cap, v3 = .slice A n cap := (by obtain ⟨A, c, h⟩ := hfm3; exact ⟨A, _, c, h⟩)
       have HN := Lib.hid (HMS.out.push (acc := false) hown3 hg3 hat3 (HB3.out ▸ HAV.out))
       have hgb := grown_belowL hg3 (fun x hx => (HMS.out.st.own.lt x hx).1) (by have := HMS.out.b.lt; omega)
       have hb3 : BoxV b3 29 [.slice A nl cp] w7 := HB3.out ▸ (hgb.block _ (by omega)).trans HMS.out.b
       have hf := hb3.free 0
       have hc := hb3.cell 0
       have hS : w7.cell? ⟨bx, 0, none⟩ = some (.int .i64 (mn : Int)) ∧ w7.cell? ⟨bx, 1, none⟩ = some (.int .i64 mx) ∧ w7.cell? ⟨bx, 2, none⟩ = some (.int .i64 (top : Int)) ∧ w7.cell? ⟨b3, 0, none⟩ = some (.slice A nl cp) := ⟨(hgb.cell (p := ⟨bx, 0, none⟩) (by have := HBX.out; show bx < w.heap.size + 3; omega)).trans hHeld.1, (hgb.cell (p := ⟨bx, 1, none⟩) (by have := HBX.out; show bx < w.heap.size + 3; omega)).trans hHeld.2.1, (hgb.cell (p := ⟨bx, 2, none⟩) (by have := HBX.out; show bx < w.heap.size + 3; omega)).trans hHeld.2.2.1, hc⟩
       clear hown3 hg3 hfm3 hat3 hgb hb3
       refine hK.out _ _ hS (fun hHeld => ?_)
       clear hK K hS
       refine wpq_tk 17 (some 32) [18] (Or.inl ⟨by rfl, fun w hSw => by (obtain ⟨x0, x1, x2, s0⟩ := hSw; go_simp; with_reducible rfl)⟩) hHeld ?_ rfl rfl
       simp only [Act.put, sA, sZ, sS]
       refine wpq_end 18 (by kernel_rfl) rfl (by kernel_rfl) (fun K hK => ?_)
       go_simp
       refine hK.out _ _ ?_
       clear hK K
       refine wpq_done (by kernel_rfl) ?_ _
       go_simp
       have hq1 := HBX.out
       subst hq1
       have hq2 := HB3.out
       subst hq2
       go_wp2_with fail
       exact ⟨⟨want + 1, by simp, HWT.out, A3, n3, cap3, _, by rw [pre_want, HST.out]; exact HN.out⟩, by have := HWT.out; simp [intOf]; omega⟩
end Go.Proofs.YtpkecepelcppiaaGreatDoor

namespace Go.Proofs.YtpkecepelcppiaaGreatDoor
open Go.RowKit Go.Shelf
set_option maxHeartbeats 4000000
set_option maxRecDepth 100000

def namesB : List ByteArray := namesF.map fun l => ⟨l.toArray⟩
theorem namesB_at (i : Nat) (hi : i < namesB.length) (hi2 : i < namesF.length) : namesF[i] = L namesB[i] := by
 have h : (namesB[i]?).map L = namesF[i]? := by
  unfold namesB
  rw [List.getElem?_map]
  cases namesF[i]? with
  | none => rfl
  | some l => rfl
 rw [List.getElem?_eq_getElem hi, List.getElem?_eq_getElem hi2] at h
 exact (Option.some.inj h).symm
theorem numG_stepB (name : List UInt8) (k : Nat) (hk : k < namesB.length) : numG name k = if L namesB[k] = name then k else numG name (k + 1) := by
 have h2 : k < namesF.length := hk
 rw [numG_step name k h2]
 by_cases h : L namesB[k] = name
 ·exact (if_pos ((namesB_at k hk h2).trans h)).trans (if_pos h).symm
 ·exact (if_neg (fun h3 => h ((namesB_at k hk h2).symm.trans h3))).trans (if_neg h).symm
theorem detG_stepB (s : List UInt8) (k : Nat) (hk : k < namesB.length) : detG s (k + 1) = if chkF (L namesB[k]) s = true then detG s k ++ [L namesB[k]] else detG s k := by
 have h2 : k < namesF.length := hk
 rw [detG_step s k h2]
 by_cases h : chkF (L namesB[k]) s = true
 ·exact (if_pos (by rw [namesB_at k hk h2]; exact h)).trans ((by rw [namesB_at k hk h2] : _ = detG s k ++ [L namesB[k]]).trans (if_pos h).symm)
 ·exact (if_neg (by rw [namesB_at k hk h2]; exact h)).trans (if_neg h).symm
theorem names_blk {w : World} {g : Nat} {T : TypeId} (h : w.heap[g]? = some (.cells (namesB.flatMap strV).toArray T (0, 0))) : RdT w (.slice (some ⟨g, 0, none⟩) 12 12) namesB := slx_block strV_len h (by decide)
theorem fNames_any (w : World) : Calls Tryz.prog 25 #[] w fun e w' => ∃ v, e = .returned v ∧ RdT w' v namesB ∧ Below w.heap.size w w' := by
 go_enter Tryz.func25, Tryz.ntmps25
 go_wp2_with fail
 go_ret
 generalize hW : World.alloc w _ = w1
 obtain ⟨ha, -, hz1, hb1⟩ := alloc_of hW
 exact ⟨_, rfl, names_blk ha, hb1⟩
theorem fRNames_any (w : World) : Calls Tryz.prog 26 #[] w fun e w' => ∃ v, e = .returned v ∧ RdT w' v namesB ∧ Below w.heap.size w w' := by
 go_enter Tryz.func26, Tryz.ntmps26
 go_wp2_with fail
 go_ret
 generalize hW : World.alloc w _ = w1
 obtain ⟨ha, -, hz1, hb1⟩ := alloc_of hW
 exact ⟨_, rfl, names_blk ha, hb1⟩
theorem fNumber_any (s : ByteArray) (w : World) : Calls Tryz.prog 43 #[.string s] w fun e w' => e = .returned (.int .i64 (numF (L s) : Nat)) ∧ Below w.heap.size w w' := by
 have HG := Lib.hid (num_G (L s))
 generalize numF (L s) = r at *
 go_enter Tryz.func43, Tryz.ntmps43
 go_wp2_with fail
 refine (fNames_any w).mono ?_
 rintro e w1 ⟨v, rfl, hr, hb⟩
 obtain ⟨a, cap, rfl, -⟩ := hr.form
 have HR := Lib.hid hr
 have HB := Lib.hid hb
 clear hr hb
 rw [show namesB.length = 12 from rfl]
 rw [show namesB.length = 12 from rfl] at HR
 go_wp2_with fail
 go_loopw [7] (fun kv wr => ∃ k : Nat, kv = .int .i64 (k : Int) ∧ k ≤ 12 ∧ Hid (r = numG (L s) k) ∧ w1 = wr) (fun kv _ => 12 - (intOf kv).toNat)
 case atStart => exact ⟨0, rfl, by omega, HG.out, rfl⟩
 case round =>
  clear HG
  obtain ⟨k, rfl, hk, HG, rfl⟩ := hrel
  by_cases hlt : k < 12
  case neg =>
   have hke : k = 12 := by omega
   subst hke
   have HF : Hid (r = 12) := HG.out.trans (numG_end _)
   clear hlt
   go_wp2_with fail
   go_ret
   exact ⟨by rw [HF.out]; rfl, HB.out⟩
  case pos =>
   have hlti : (k : Int) < 12 := by omega
   have hkB : k < namesB.length := hlt
   obtain ⟨g, o, rfl, hc⟩ := HR.out.at_ k hkB
   have HST := Lib.hid (HG.out.trans (numG_stepB (L s) k hkB))
   have HKL : Hid (k + 1 ≤ 12) := hlt
   generalize namesB[k] = nb at *
   by_cases he : L nb = L s
   ·have te : (nb.toList == s.toList) = true := by rw [toList_L, toList_L, he]; exact beq_self_eq_true _
    have HF : Hid (r = k) := HST.out.trans (if_pos he)
    clear hlt he hkB
    go_wp2_with fail
    go_ret
    exact ⟨by rw [HF.out]; rfl, HB.out⟩
   ·have te : (nb.toList == s.toList) = false := by rw [toList_L, toList_L]; exact beq_false_of_ne he
    have HF : Hid (r = numG (L s) (k + 1)) := HST.out.trans (if_neg he)
    clear hlt he hkB
    go_wp2_with fail
    exact ⟨⟨k + 1, by simp, HKL.out, HF.out, by first | rfl | trivial⟩, by have := HKL.out; simp [intOf]; omega⟩
theorem fKnown_any (s : ByteArray) (w : World) : Calls Tryz.prog 27 #[.string s] w fun e w' => e = .returned (.bool (decide (numF (L s) < 12))) ∧ Below w.heap.size w w' := by
 have HC := Lib.hid (fNumber_any s w)
 generalize numF (L s) = r at *
 go_enter Tryz.func27, Tryz.ntmps27
 go_wp2_with fail
 refine HC.out.mono ?_
 rintro e w1 ⟨rfl, hb⟩
 have HB := Lib.hid hb
 clear hb
 go_wp2_with fail
 go_ret
 refine ⟨?_, HB.out⟩
 show Ending.returned (.bool (decide ((r : Int) < 12))) = Ending.returned (.bool (decide (r < 12)))
 congr 2
 exact decide_eq_decide.2 (by omega)
theorem fSame_yes (a : List ByteArray) (v1 v2 : Value) (w : World) (h1 : RdT w v1 a) (h2 : RdT w v2 a) : Calls Tryz.prog 10 #[v1, v2] w fun e w' => e = .returned (.bool true) ∧ Below w.heap.size w w' := by
 obtain ⟨a1, c1, rfl, hl⟩ := h1.form
 obtain ⟨a2, c2, rfl, -⟩ := h2.form
 have hli : (a.length : Int) ≤ 9223372036854775807 := by simp only [maxLen] at hl; omega
 have H1 := Lib.hid h1
 have H2 := Lib.hid h2
 clear h1 h2 hl
 go_enter Tryz.func10, Tryz.ntmps10
 go_wp2_with fail
 go_loopw [5] (fun kv wr => ∃ k : Nat, kv = .int .i64 (k : Int) ∧ k ≤ a.length ∧ Hid (Below w.heap.size w wr)) (fun kv _ => a.length - (intOf kv).toNat)
 case atStart => exact ⟨0, rfl, Nat.zero_le _, Below.refl _ _⟩
 case round =>
  obtain ⟨k, rfl, hk, HB⟩ := hrel
  by_cases hlt : k < a.length
  case neg =>
   have hge : ¬ (k : Int) < a.length := by omega
   clear hlt
   go_wp2_with fail
   go_ret
   exact ⟨rfl, HB.out⟩
  case pos =>
   have hlti : (k : Int) < a.length := by omega
   obtain ⟨g1, o1, rfl, hc1⟩ := (H1.out.stay HB.out).at_ k hlt
   obtain ⟨g2, o2, rfl, hc2⟩ := (H2.out.stay HB.out).at_ k hlt
   have HK : Hid (k + 1 ≤ a.length) := hlt
   generalize a[k] = x at *
   have tx : (x.toList == x.toList) = true := beq_self_eq_true _
   clear hlt
   go_upto_region 6 with fail
   go_quiet (fail)
   go_wp2_with fail
   exact ⟨⟨k + 1, by simp, HK.out, below_drewN HB.out _⟩, by have := HK.out; simp [intOf]; omega⟩
end Go.Proofs.YtpkecepelcppiaaGreatDoor
