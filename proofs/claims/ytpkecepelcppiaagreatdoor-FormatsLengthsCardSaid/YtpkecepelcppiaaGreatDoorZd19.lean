/- The reference's matcher in memory: its tree of spots, its rows that are filled as it goes. Conditions: none. -/
import Derived.Test.YtpkecepelcppiaaGreatDoorZd14
import Derived.Test.YtpkecepelcppiaaGreatDoorZd2
import Derived.Deep.OwnRows
import Derived.Deep.DeepCutAuto
import Derived.Deep.CutBlock
import Derived.Deep.QuietTactic
import Derived.BigQuiet
namespace Go.Proofs.YtpkecepelcppiaaGreatDoor
open Go.RowKit
set_option maxHeartbeats 4000000
set_option maxRecDepth 100000

noncomputable def bvB (F : Nat → Prop) (j : Nat) : Value := .bool (@decide (F j) (Classical.propDecidable _))
theorem bvB_true {F : Nat → Prop} {j : Nat} (h : F j) : bvB F j = .bool true := by unfold bvB; rw [@decide_eq_true _ (Classical.propDecidable _) h]
theorem bvB_false {F : Nat → Prop} {j : Nat} (h : ¬ F j) : bvB F j = .bool false := by unfold bvB; rw [@decide_eq_false _ (Classical.propDecidable _) h]
theorem bvB_congr {F G : Nat → Prop} {j : Nat} (h : F j ↔ G j) : bvB F j = bvB G j := by
 by_cases hf : F j
 ·rw [bvB_true hf, bvB_true (h.1 hf)]
 ·rw [bvB_false hf, bvB_false (fun hg => hf (h.2 hg))]
def svB (g m : Nat) : Value := .slice (some ⟨g, 0, none⟩) m m
def BlkB (w : World) (g m : Nat) (F : Nat → Prop) : Prop := w.rowIs g 4 m (bvB F)
theorem BlkB.congr {w : World} {g m : Nat} {F G : Nat → Prop} (h : BlkB w g m F) (e : ∀ j, j < m → (F j ↔ G j)) : BlkB w g m G := World.rowIs.congr h (fun j hj => bvB_congr (e j hj))
theorem BlkB.cell {w : World} {g m : Nat} {F : Nat → Prop} (h : BlkB w g m F) {j : Nat} (hj : j < m) : w.cell? ⟨g, j, none⟩ = some (bvB F j) := World.rowIs.cell h hj
theorem BlkB.lt {w : World} {g m : Nat} {F : Nat → Prop} (h : BlkB w g m F) : g < w.heap.size := World.rowIs.lt h
theorem BlkB.keep {w w' : World} {g m : Nat} {F : Nat → Prop} (h : BlkB w g m F) (e : w'.heap[g]? = w.heap[g]?) : BlkB w' g m F := World.rowIs.of_block h e
theorem BlkB.stay {w w' : World} {g m : Nat} {F : Nat → Prop} (h : BlkB w g m F) (hb : Below w.heap.size w w') : BlkB w' g m F := h.keep (hb.block g h.lt)
theorem BlkB.set {w : World} {g m : Nat} {F : Nat → Prop} (h : BlkB w g m F) (i : Nat) (b : Bool) : BlkB (w.setCell ⟨g, i, none⟩ (.bool b)) g m (fun j => if j = i then b = true else F j) := by
 refine World.rowIs.congr (World.rowIs.set h i (.bool b)) (fun j _ => ?_)
 by_cases hj : j = i
 ·rw [if_pos hj]
  cases b
  ·rw [bvB_false (by rw [if_pos hj]; decide)]
  ·rw [bvB_true (by rw [if_pos hj])]
 ·rw [if_neg hj]
  exact bvB_congr (by rw [if_neg hj])
theorem BlkB.step {w : World} {g m k : Nat} {P : Nat → Prop} (h : BlkB w g m (fun j => j < k ∧ P j)) (b : Bool) (hb : b = true ↔ P k) : BlkB (w.setCell ⟨g, k, none⟩ (.bool b)) g m (fun j => j < k + 1 ∧ P j) :=
 (h.set k b).congr (fun j _ => by
  by_cases hj : j = k
  ·subst hj
   rw [if_pos rfl, hb]
   exact ⟨fun h => ⟨by omega, h⟩, fun h => h.2⟩
  ·rw [if_neg hj]
   exact ⟨fun h => ⟨by omega, h.2⟩, fun h => ⟨by omega, h.2⟩⟩)
end Go.Proofs.YtpkecepelcppiaaGreatDoor

namespace Go.Proofs.YtpkecepelcppiaaGreatDoor
open Go.RowKit
set_option maxHeartbeats 2000000
set_option maxRecDepth 100000

structure MemoOK (s : List UInt8) (Rb : Nat → Option RX) (w : World) : Prop where
 rows : ∀ r p, Rb r = some p → ∃ f : Nat → Value, w.rowIs r 84 (s.length + 1) f ∧ ∀ i, i < s.length + 1 → f i = .slice none 0 0 ∨ ∃ g, f i = svB g (s.length + 1) ∧ Rb g = none ∧ BlkB w g (s.length + 1) (memR s 48 p i)
theorem MemoOK.lt {s : List UInt8} {Rb : Nat → Option RX} {w : World} (h : MemoOK s Rb w) {r : Nat} {p : RX} (hr : Rb r = some p) : r < w.heap.size := by
 obtain ⟨f, hf, -⟩ := h.rows r p hr
 exact World.rowIs.lt hf
structure KeepM (Rb : Nat → Option RX) (w w' : World) : Prop where
 os : w'.os = w.os
 tape : w'.tape = w.tape
 output : w'.output = w.output
 size : w.heap.size ≤ w'.heap.size
 block : ∀ k, k < w.heap.size → Rb k = none → w'.heap[k]? = w.heap[k]?
theorem KeepM.refl (Rb : Nat → Option RX) (w : World) : KeepM Rb w w := ⟨rfl, rfl, rfl, Nat.le_refl _, fun _ _ _ => rfl⟩
theorem KeepM.trans {Rb : Nat → Option RX} {w w1 w2 : World} (h : KeepM Rb w w1) (k : KeepM Rb w1 w2) : KeepM Rb w w2 :=
 ⟨k.os.trans h.os, k.tape.trans h.tape, k.output.trans h.output, Nat.le_trans h.size k.size, fun x hx hn => (k.block x (Nat.lt_of_lt_of_le hx h.size) hn).trans (h.block x hx hn)⟩
theorem KeepM.below {Rb : Nat → Option RX} {w w' : World} (h : Below w.heap.size w w') : KeepM Rb w w' := ⟨h.os, h.tape, h.output, h.size, fun k hk _ => h.block k hk⟩
theorem MemoOK.stay {s : List UInt8} {Rb : Nat → Option RX} {w w' : World} (h : MemoOK s Rb w) (hb : Below w.heap.size w w') : MemoOK s Rb w' := by
 refine ⟨fun r p hr => ?_⟩
 obtain ⟨f, hf, hi⟩ := h.rows r p hr
 refine ⟨f, hf.of_block (hb.block r hf.lt), fun i h1 => ?_⟩
 rcases hi i h1 with h2 | ⟨g, h2, h3, h4⟩
 ·exact .inl h2
 ·exact .inr ⟨g, h2, h3, h4.stay hb⟩
theorem BlkB.keepM {Rb : Nat → Option RX} {w w' : World} {g m : Nat} {F : Nat → Prop} (h : BlkB w g m F) (hg : Rb g = none) (hk : KeepM Rb w w') : BlkB w' g m F := h.keep (hk.block g h.lt hg)
def ptrS (g : Nat) : Value := .pointer (some ⟨g, 0, none⟩)
def spotC (op lo hi mn mx : Int) (ca av rv : Value) : List Value := [.int .i64 op, .int .i64 lo, .int .i64 hi, .int .i64 mn, .int .i64 mx, ca, av, rv]
inductive SpT (m : Nat) (N : Nat → Prop) (Rb : Nat → Option RX) (w : World) : Nat → RX → Prop
 | mk (g : Nat) (op lo hi mn mx : Int) (l : List RX) (ca av rv : Value) (gs : Nat → Nat)
   (hb : w.heap[g]? = some (.cells (spotC op lo hi mn mx ca av rv).toArray 127 (0, 0))) (hN : N g)
   (ha : SlX w av l.length 1 (fun i => [ptrS (gs i)])) (hNa : ∀ x o n cap, av = .slice (some ⟨x, o, none⟩) n cap → 0 < l.length → N x)
   (hk : ∀ i (hi : i < l.length), SpT m N Rb w (gs i) l[i])
   (hr : op = 6 ∨ op = 7 → ∃ r, rv = svB r m ∧ Rb r = some (.mk op lo hi mn mx l) ∧ r < w.heap.size) : SpT m N Rb w g (.mk op lo hi mn mx l)
theorem SpT.keep {m : Nat} {N : Nat → Prop} {Rb : Nat → Option RX} {w w' : World} {g : Nat} {p : RX} (h : SpT m N Rb w g p) (hz : w.heap.size ≤ w'.heap.size) (hk : ∀ x, N x → x < w.heap.size → w'.heap[x]? = w.heap[x]?) : SpT m N Rb w' g p := by
 induction h with
 | mk g op lo hi mn mx l ca av rv gs hb hN ha hNa hkk hr ih =>
  refine .mk g op lo hi mn mx l ca av rv gs ((hk g hN (Array.getElem?_eq_some_iff.1 hb).1).trans hb) hN ?_ hNa ih (fun h => ?_)
  ·obtain ⟨a, cap, hv, h1, h2, h0, h3⟩ := ha
   refine ⟨a, cap, hv, h1, h2, h0, fun hl => ?_⟩
   obtain ⟨x, o, hx, hg, hc⟩ := h3 hl
   subst hx
   have hh := hk x (hNa x o _ _ hv hl) hg
   refine ⟨x, o, rfl, Nat.lt_of_lt_of_le hg hz, fun i hi j hj => ?_⟩
   rw [← hc i hi j hj]
   unfold World.cell?
   rw [hh]
  ·obtain ⟨r, h1, h2, h3⟩ := hr h
   exact ⟨r, h1, h2, Nat.lt_of_lt_of_le h3 hz⟩
theorem SpT.mono {m : Nat} {N M : Nat → Prop} {Rb Rb' : Nat → Option RX} {w : World} {g : Nat} {p : RX} (h : SpT m N Rb w g p) (hm : ∀ x, N x → x < w.heap.size → M x) (he : ∀ x, x < w.heap.size → Rb' x = Rb x) : SpT m M Rb' w g p := by
 induction h with
 | mk g op lo hi mn mx l ca av rv gs hb hN ha hNa hkk hr ih =>
  refine .mk g op lo hi mn mx l ca av rv gs hb (hm g hN (Array.getElem?_eq_some_iff.1 hb).1) ha (fun x o n cap hv hl => ?_) ih (fun h => ?_)
  ·refine hm x (hNa x o n cap hv hl) ?_
   obtain ⟨a, cap2, he, _, _, _, h3⟩ := ha
   obtain ⟨g2, o2, rfl, hg2, _⟩ := h3 hl
   rw [hv] at he
   cases he
   exact hg2
  ·obtain ⟨r, h1, h2, h3⟩ := hr h
   exact ⟨r, h1, (he r h3).trans h2, h3⟩
theorem SpT.stay {m : Nat} {N : Nat → Prop} {Rb : Nat → Option RX} {w w' : World} {g : Nat} {p : RX} (h : SpT m N Rb w g p) (hb : Below w.heap.size w w') : SpT m N Rb w' g p := h.keep hb.size (fun x _ hx => hb.block x hx)
abbrev SpR (m : Nat) (Rb : Nat → Option RX) (w : World) (g : Nat) (p : RX) : Prop := SpT m (fun x => Rb x = none) Rb w g p
theorem SpR.keepM {m : Nat} {Rb : Nat → Option RX} {w w' : World} {g : Nat} {p : RX} (h : SpR m Rb w g p) (hk : KeepM Rb w w') : SpR m Rb w' g p := SpT.keep h hk.size (fun x hx hl => hk.block x hl hx)
theorem MemoOK.ext {s : List UInt8} {Rb Rb' : Nat → Option RX} {w : World} (h : MemoOK s Rb w) (he : ∀ x, x < w.heap.size → Rb' x = Rb x) (hn : ∀ x, w.heap.size ≤ x → Rb' x = none) : MemoOK s Rb' w := by
 refine ⟨fun r p hr => ?_⟩
 have hlt : r < w.heap.size := by
  rcases Nat.lt_or_ge r w.heap.size with h1 | h1
  ·exact h1
  ·rw [hn r h1] at hr; cases hr
 obtain ⟨f, hf, hi⟩ := h.rows r p ((he r hlt).symm.trans hr)
 refine ⟨f, hf, fun i h1 => ?_⟩
 rcases hi i h1 with h2 | ⟨g, h2, h3, h4⟩
 ·exact .inl h2
 ·exact .inr ⟨g, h2, (he g h4.lt).trans h3, h4⟩
theorem row_type {w : World} {r n1 n2 : Nat} {t1 t2 : TypeId} {f1 f2 : Nat → Value} (h1 : w.rowIs r t1 n1 f1) (h2 : w.rowIs r t2 n2 f2) : t1 = t2 := by
 obtain ⟨c1, a1, -⟩ := h1
 obtain ⟨c2, a2, -⟩ := h2
 rw [a1] at a2
 cases a2
 rfl
theorem MemoOK.add {s : List UInt8} {Rb : Nat → Option RX} {w : World} (h : MemoOK s Rb w) {r : Nat} (hr : w.rowIs r 84 (s.length + 1) (fun _ => .slice none 0 0)) (p : RX) : MemoOK s (fun x => if x = r then some p else Rb x) w := by
 refine ⟨fun r2 p2 hr2 => ?_⟩
 by_cases he : r2 = r
 ·subst he
  exact ⟨_, hr, fun i _ => .inl rfl⟩
 ·simp only [if_neg he] at hr2
  obtain ⟨f, hf, hi⟩ := h.rows r2 p2 hr2
  refine ⟨f, hf, fun i h1 => ?_⟩
  rcases hi i h1 with h2 | ⟨g, h2, h3, h4⟩
  ·exact .inl h2
  ·refine .inr ⟨g, h2, ?_, h4⟩
   have : g ≠ r := fun hg => by
    subst hg
    have := row_type hr h4
    revert this
    decide
   simp only [if_neg this]
   exact h3
end Go.Proofs.YtpkecepelcppiaaGreatDoor
