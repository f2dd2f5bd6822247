/- What the reference's matcher reaches, operator by operator; rows that are being written. Conditions: sound patterns. -/
import Derived.Test.YtpkecepelcppiaaDoorZc31
import Derived.Test.YtpkecepelcppiaaDoorZc16
import Derived.Test.YtpkecepelcppiaaDoorZc34
import Derived.Test.YtpkecepelcppiaaDoorZc37
import Derived.Test.YtpkecepelcppiaaDoorZc2
import Derived.Test.YtpkecepelcppiaaDoorZc19
namespace Go.Proofs.YtpkecepelcppiaaDoor
open Go.RowKit Go.Shelf
set_option maxHeartbeats 4000000
set_option maxRecDepth 100000

structure SmS (c1 c2 : PC) (w wr : World) : Prop where
 b1 : BoxP w.heap.size c1 wr
 b2 : BoxP (w.heap.size + 1) c2 wr
 bel : Below w.heap.size w wr
theorem SmS.stay {c1 c2 : PC} {w wr wx : World} (h : SmS c1 c2 w wr) (hb : Below wr.heap.size wr wx) : SmS c1 c2 w wx := ⟨h.b1.below hb, h.b2.below hb, h.bel.trans (hb.mono h.bel.size)⟩
theorem SmS.start {c1 c2 : PC} {w w1 w2 : World} {X Y : Obj} (hW : w.alloc X = w1) (hW2 : w1.alloc Y = w2) (hX : X = .cells c1.cells.toArray 52 (0, 0)) (hY : Y = .cells c2.cells.toArray 52 (0, 0)) : SmS c1 c2 w w2 := by
 obtain ⟨ha, -, hz1, hb1⟩ := alloc_of hW
 obtain ⟨ha2, -, hz2, hb2⟩ := alloc_of hW2
 rw [hz1] at ha2
 exact ⟨(hb2.block _ (by omega)).trans (ha.trans (by rw [hX])), ha2.trans (by rw [hY]), hb1.trans (hb2.mono hb1.size)⟩
end Go.Proofs.YtpkecepelcppiaaDoor

namespace Go.Proofs.YtpkecepelcppiaaDoor
open Go.RowKit Go.Shelf
set_option maxHeartbeats 4000000
set_option maxRecDepth 100000

def LwS (b : Nat) (c : PC) (p : RX) (w0 w : World) : Prop := BoxP b c w ∧ Hid (RdP w c p ∧ Env w ∧ Below w0.heap.size w0 w)
theorem LwS.stay {b : Nat} {c : PC} {p : RX} {w0 w w' : World} (h : LwS b c p w0 w) (hb : Below w.heap.size w w') : LwS b c p w0 w' := ⟨h.1.below hb, h.2.out.1.stays hb, h.2.out.2.1.below hb, h.2.out.2.2.trans (hb.mono h.2.out.2.2.size)⟩
end Go.Proofs.YtpkecepelcppiaaDoor

namespace Go.Proofs.YtpkecepelcppiaaDoor
open Go.RowKit Go.Shelf
set_option maxHeartbeats 4000000
set_option maxRecDepth 100000

end Go.Proofs.YtpkecepelcppiaaDoor

namespace Go.Proofs.YtpkecepelcppiaaDoor
open Go.RowKit Go.Shelf
set_option maxHeartbeats 4000000
set_option maxRecDepth 100000

def gotP (O : Option RX) : RX := O.getD (.mk 0 0 0 0 0 [])
def gotE (O : Option RX) : Int := match O with
 | some _ => 0
 | none => 3
end Go.Proofs.YtpkecepelcppiaaDoor

namespace Go.Proofs.YtpkecepelcppiaaDoor
open Go.RowKit Go.Shelf
set_option maxHeartbeats 4000000
set_option maxRecDepth 100000

theorem MemoOK.keepBut {s : List UInt8} {Rb : Nat → Option RX} {w w' : World} (h : MemoOK s Rb w) (y : Nat) (hk : ∀ x, x < w.heap.size → x ≠ y → w'.heap[x]? = w.heap[x]?) (hy : ∀ c t, w.heap[y]? = some (.cells c t (0, 0)) → t ≠ 84 ∧ t ≠ 4) : MemoOK s Rb w' := by
 have hne : ∀ {r n : Nat} {t : TypeId} {f : Nat → Value}, w.rowIs r t n f → t = 84 ∨ t = 4 → r ≠ y := by
  intro r n t f hr ht he
  subst he
  obtain ⟨c, hc, -⟩ := hr
  have := hy c t hc
  rcases ht with h | h
  ·exact this.1 h
  ·exact this.2 h
 refine ⟨fun r p hr => ?_⟩
 obtain ⟨f, hf, hi⟩ := h.rows r p hr
 refine ⟨f, hf.of_block (hk r hf.lt (hne hf (.inl rfl))), fun i h1 => ?_⟩
 rcases hi i h1 with h2 | ⟨g, h2, h3, h4⟩
 ·exact .inl h2
 ·exact .inr ⟨g, h2, h3, h4.keep (hk g h4.lt (hne h4 (.inr rfl)))⟩
theorem MemoOK.other {s : List UInt8} {Rb : Nat → Option RX} {w : World} (h : MemoOK s Rb w) {y : Nat} {c : Array Value} {t : TypeId} (hy : w.heap[y]? = some (.cells c t (0, 0))) (ht : t ≠ 84) : Rb y = none := by
 cases hb : Rb y with
 | none => rfl
 | some p =>
  obtain ⟨f, ⟨c2, hc, -⟩, -⟩ := h.rows y p hb
  rw [hy] at hc
  cases hc
  exact absurd rfl ht
end Go.Proofs.YtpkecepelcppiaaDoor

namespace Go.Proofs.YtpkecepelcppiaaDoor
open Go.RowKit
set_option maxHeartbeats 2000000
set_option maxRecDepth 100000

theorem BlkB.put {w : World} {g m : Nat} {P : Nat → Prop} (h : BlkB w g m P) (i : Nat) (b : Bool) (Q : Nat → Prop) (hq : ∀ j, j < m → j ≠ i → (Q j ↔ P j)) (hb : b = true ↔ Q i) : BlkB (w.setCell ⟨g, i, none⟩ (.bool b)) g m Q :=
 (h.set i b).congr (fun j hj => by
  by_cases he : j = i
  ·subst he
   rw [if_pos rfl, hb]
  ·rw [if_neg he]
   exact (hq j hj he).symm)
structure MemoZ (s : List UInt8) (Rb : Nat → Option RX) (Z : Nat → Prop) (w : World) : Prop where
 ok : MemoOK s Rb w
 no : ∀ r p, Rb r = some p → ∀ i g, w.cell? ⟨r, i, none⟩ = some (svB g (s.length + 1)) → ¬ Z g
theorem memo_cell {s : List UInt8} {Rb : Nat → Option RX} {w : World} (h : MemoOK s Rb w) {r : Nat} {p : RX} (hr : Rb r = some p) {i : Nat} (hi : i < s.length + 1) :
  w.cell? ⟨r, i, none⟩ = some (.slice none 0 0) ∨ ∃ g, w.cell? ⟨r, i, none⟩ = some (svB g (s.length + 1)) ∧ Rb g = none ∧ BlkB w g (s.length + 1) (memR s 48 p i) := by
 obtain ⟨f, hf, hfi⟩ := h.rows r p hr
 have hc := hf.cell hi
 rcases hfi i hi with h2 | ⟨g, h2, h3, h4⟩
 ·rw [h2] at hc
  exact .inl hc
 ·rw [h2] at hc
  exact .inr ⟨g, hc, h3, h4⟩
theorem cell_in {w : World} {r n i : Nat} {t : TypeId} {f : Nat → Value} {v : Value} (h : w.rowIs r t n f) (hc : w.cell? ⟨r, i, none⟩ = some v) : i < n := by
 obtain ⟨c, hb, hs, -⟩ := h
 simp only [World.cell?, hb] at hc
 rcases Nat.lt_or_ge i n with h | h
 ·exact h
 ·simp [Array.getElem?_eq_none (show c.size ≤ i by omega)] at hc
theorem MemoZ.late {s : List UInt8} {Rb : Nat → Option RX} {Z : Nat → Prop} {w w' : World} (h : MemoZ s Rb Z w) (hb : Below w.heap.size w w') : MemoZ s Rb (fun x => Z x ∨ w.heap.size ≤ x) w' := by
 refine ⟨h.ok.stay hb, fun r p hr i g hc hz => ?_⟩
 have hl := h.ok.lt hr
 rw [hb.cell (p := ⟨r, i, none⟩) hl] at hc
 rcases hz with hz | hz
 ·exact h.no r p hr i g hc hz
 ·obtain ⟨f, hf, -⟩ := h.ok.rows r p hr
  rcases memo_cell h.ok hr (cell_in hf hc) with h2 | ⟨g2, h2, h3, h4⟩
  ·rw [hc] at h2; cases h2
  ·rw [hc] at h2
   have : g = g2 := by unfold svB at h2; cases h2; rfl
   subst this
   have := h4.lt
   omega
theorem MemoZ.mono {s : List UInt8} {Rb : Nat → Option RX} {Z Y : Nat → Prop} {w : World} (h : MemoZ s Rb Z w) (hy : ∀ x, Y x → Z x) : MemoZ s Rb Y w := ⟨h.ok, fun r p hr i g hc hz => h.no r p hr i g hc (hy g hz)⟩
theorem MemoZ.stay {s : List UInt8} {Rb : Nat → Option RX} {Z : Nat → Prop} {w w' : World} (h : MemoZ s Rb Z w) (hb : Below w.heap.size w w') : MemoZ s Rb Z w' := (h.late hb).mono (fun _ hx => .inl hx)
theorem MemoZ.set {s : List UInt8} {Rb : Nat → Option RX} {Z : Nat → Prop} {w : World} (h : MemoZ s Rb Z w) {b : Nat} (hz : Z b) (hb : Rb b = none) (i : Nat) (v : Value) : MemoZ s Rb Z (w.setCell ⟨b, i, none⟩ v) := by
 have hot : ∀ y, y ≠ b → (w.setCell ⟨b, i, none⟩ v).heap[y]? = w.heap[y]? := fun y hy => Below.heap_setCell w ⟨b, i, none⟩ _ y hy
 have hne : ∀ r p, Rb r = some p → r ≠ b := fun r p hr he => by rw [he, hb] at hr; cases hr
 refine ⟨⟨fun r p hr => ?_⟩, fun r p hr j g hc => ?_⟩
 ·obtain ⟨f, hf, hfi⟩ := h.ok.rows r p hr
  refine ⟨f, hf.of_block (hot r (hne r p hr)), fun j hj => ?_⟩
  rcases hfi j hj with h2 | ⟨g, h2, h3, h4⟩
  ·exact .inl h2
  ·refine .inr ⟨g, h2, h3, h4.keep (hot g (fun he => ?_))⟩
   have hc := hf.cell hj
   rw [h2] at hc
   exact h.no r p hr j g hc (he ▸ hz)
 ·refine h.no r p hr j g ?_
  rw [← hc]
  unfold World.cell?
  rw [hot r (hne r p hr)]
theorem KeepM.set {Rb : Nat → Option RX} {w0 w : World} (h : KeepM Rb w0 w) {b : Nat} (hb : w0.heap.size ≤ b) (i : Nat) (v : Value) : KeepM Rb w0 (w.setCell ⟨b, i, none⟩ v) :=
 ⟨h.os, h.tape, h.output, by simpa using h.size, fun k hk hn => (Below.heap_setCell w ⟨b, i, none⟩ v k (by show k ≠ b; omega)).trans (h.block k hk hn)⟩
def RetM (s : List UInt8) (Rb : Nat → Option RX) (Z : Nat → Prop) (G : Nat → Prop) (w : World) (e : Ending) (w' : World) : Prop :=
 ∃ a, e = .returned (svB a (s.length + 1)) ∧ Rb a = none ∧ ¬ Z a ∧ BlkB w' a (s.length + 1) G ∧ MemoZ s Rb Z w' ∧ KeepM Rb w w'
end Go.Proofs.YtpkecepelcppiaaDoor
