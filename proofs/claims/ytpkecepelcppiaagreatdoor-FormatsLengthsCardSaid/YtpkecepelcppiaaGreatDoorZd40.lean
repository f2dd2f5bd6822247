/- What the reference's matcher reaches, operator by operator; rows that are being written. Conditions: sound patterns. -/
import Derived.Test.YtpkecepelcppiaaGreatDoorZd33
import Derived.Test.YtpkecepelcppiaaGreatDoorZd16
import Derived.Test.YtpkecepelcppiaaGreatDoorZd36
import Derived.Test.YtpkecepelcppiaaGreatDoorZd39
import Derived.Test.YtpkecepelcppiaaGreatDoorZd3
import Derived.Test.YtpkecepelcppiaaGreatDoorZd19
namespace Go.Proofs.YtpkecepelcppiaaGreatDoor
open Go.RowKit Go.Shelf
set_option maxHeartbeats 4000000
set_option maxRecDepth 100000

structure SmS (c1 c2 : PC) (w wr : World) : Prop where
 b1 : BoxP w.heap.size c1 wr
 b2 : BoxP (w.heap.size + 1) c2 wr
 bel : Below w.heap.size w wr
theorem SmS.stay {c1 c2 : PC} {w wr wx : World} (h : SmS c1 c2 w wr) (hb : Below wr.heap.size wr wx) : SmS c1 c2 w wx := ⟨h.b1.below hb, h.b2.below hb, h.bel.trans (hb.mono h.bel.size)⟩
theorem SmS.start {c1 c2 : PC} {w w1 w2 : World} {X Y : Obj} (hW : w.alloc X = w1) (hW2 : w1.alloc Y = w2) (hX : X = .cells c1.cells.toArray 45 (0, 0)) (hY : Y = .cells c2.cells.toArray 45 (0, 0)) : SmS c1 c2 w w2 := by
 obtain ⟨ha, -, hz1, hb1⟩ := alloc_of hW
 obtain ⟨ha2, -, hz2, hb2⟩ := alloc_of hW2
 rw [hz1] at ha2
 exact ⟨(hb2.block _ (by omega)).trans (ha.trans (by rw [hX])), ha2.trans (by rw [hY]), hb1.trans (hb2.mono hb1.size)⟩
end Go.Proofs.YtpkecepelcppiaaGreatDoor

namespace Go.Proofs.YtpkecepelcppiaaGreatDoor
open Go.RowKit Go.Shelf
set_option maxHeartbeats 4000000
set_option maxRecDepth 100000

def LwS (b : Nat) (c : PC) (p : RX) (w0 w : World) : Prop := BoxP b c w ∧ Hid (RdP w c p ∧ Env w ∧ Below w0.heap.size w0 w)
theorem LwS.stay {b : Nat} {c : PC} {p : RX} {w0 w w' : World} (h : LwS b c p w0 w) (hb : Below w.heap.size w w') : LwS b c p w0 w' := ⟨h.1.below hb, h.2.out.1.stays hb, h.2.out.2.1.below hb, h.2.out.2.2.trans (hb.mono h.2.out.2.2.size)⟩
end Go.Proofs.YtpkecepelcppiaaGreatDoor

namespace Go.Proofs.YtpkecepelcppiaaGreatDoor
open Go.RowKit Go.Shelf
set_option maxHeartbeats 4000000
set_option maxRecDepth 100000

end Go.Proofs.YtpkecepelcppiaaGreatDoor

namespace Go.Proofs.YtpkecepelcppiaaGreatDoor
open Go.RowKit Go.Shelf
set_option maxHeartbeats 4000000
set_option maxRecDepth 100000

def gotP (O : Option RX) : RX := O.getD (.mk 0 0 0 0 0 [])
def gotE (O : Option RX) : Int := match O with
 | some _ => 0
 | none => 3
end Go.Proofs.YtpkecepelcppiaaGreatDoor

namespace Go.Proofs.YtpkecepelcppiaaGreatDoor
open Go.RowKit Go.Shelf
set_option maxHeartbeats 4000000
set_option maxRecDepth 100000

theorem MemoOK.keepBut {s : List UInt8} {Rb : Nat → Option RX} {w w' : World} (h : MemoOK s Rb w) (y : Nat) (hk : ∀ x, x < w.heap.size → x ≠ y → w'.heap[x]? = w.heap[x]?) (hy : ∀ c t, w.heap[y]? = some (.cells c t (0, 0)) → t ≠ 84 ∧ t ≠ 4) : MemoOK s Rb w' := by
 have hne : ∀ {r n : Nat} {t : TypeId} {f : Nat → Value}, w.rowIs r t n f → t = 84 ∨ t = 4 → r ≠ y := by
  intro r n t f hr ht he
  subst he
  obtain ⟨c, hc, -⟩ := hr
  have := hy c t hc
  rcases ht with h | h
  ·exact this.1 h
  ·exact this.2 h
 refine ⟨fun r p hr => ?_⟩
 obtain ⟨f, hf, hi⟩ := h.rows r p hr
 refine ⟨f, hf.of_block (hk r hf.lt (hne hf (.inl rfl))), fun i h1 => ?_⟩
 rcases hi i h1 with h2 | ⟨g, h2, h3, h4⟩
 ·exact .inl h2
 ·exact .inr ⟨g, h2, h3, h4.keep (hk g h4.lt (hne h4 (.inr rfl)))⟩
theorem MemoOK.other {s : List UInt8} {Rb : Nat → Option RX} {w : World} (h : MemoOK s Rb w) {y : Nat} {c : Array Value} {t : TypeId} (hy : w.heap[y]? = some (.cells c t (0, 0))) (ht : t ≠ 84) : Rb y = none := by
 cases hb : Rb y with
 | none => rfl
 | some p =>
  obtain ⟨f, ⟨c2, hc, -⟩, -⟩ := h.rows y p hb
  rw [hy] at hc
  cases hc
  exact absurd rfl ht
theorem own_slx {w : World} {B : Nat} {v : Value} {gs : List Nat} (h : w.ownsRow B 85 1 v gs.length (gs.map ptrS)) : SlX w v gs.length 1 (fun i => [ptrS (gs.getD i 0)]) := by
 rcases h.2 with ⟨rfl, h0⟩ | ⟨g, cap, cur, rfl, hb, hg, h1, h2, h3, h4⟩
 ·obtain rfl := List.eq_nil_of_length_eq_zero h0
  exact SlX.nil
 ·refine ⟨some ⟨g, 0, none⟩, cap, rfl, h1, h2, (fun h => by cases h), fun _ => ⟨g, 0, rfl, (Array.getElem?_eq_some_iff.1 hg).1, fun i hi j hj => ?_⟩⟩
  obtain rfl : j = 0 := by omega
  have := h.cells (g := g) rfl i (ptrS gs[i]) (by rw [List.getElem?_map, List.getElem?_eq_getElem hi]; rfl)
  have hadd : (⟨g, 0, none⟩ : Addr).add i = ⟨g, 0 + i, none⟩ := by unfold Addr.add; split <;> simp_all
  rw [hadd] at this
  rw [Nat.mul_one, Nat.add_zero, this]
  dsimp only
  rw [List.getD_eq_getElem?_getD, List.getElem?_eq_getElem hi]
  rfl
def BoxS (b : Nat) (c : PC) (av rv : Value) (w : World) : Prop := w.heap[b]? = some (.cells (spotC c.op c.lo c.hi c.mn c.mx c.a av rv).toArray 127 (0, 0))
theorem BoxS.cells {b : Nat} {c : PC} {av rv : Value} {w : World} (h : BoxS b c av rv w) : w.cell? ⟨b, 0, none⟩ = some (.int .i64 c.op) ∧ w.cell? ⟨b, 1, none⟩ = some (.int .i64 c.lo) ∧ w.cell? ⟨b, 2, none⟩ = some (.int .i64 c.hi) ∧ w.cell? ⟨b, 3, none⟩ = some (.int .i64 c.mn) ∧ w.cell? ⟨b, 4, none⟩ = some (.int .i64 c.mx) ∧ w.cell? ⟨b, 6, none⟩ = some av ∧ w.cell? ⟨b, 7, none⟩ = some rv :=
 ⟨(cell_of_row w b _ _ _ (0, 0) h).trans rfl, (cell_of_row w b _ _ _ (0, 0) h).trans rfl, (cell_of_row w b _ _ _ (0, 0) h).trans rfl, (cell_of_row w b _ _ _ (0, 0) h).trans rfl, (cell_of_row w b _ _ _ (0, 0) h).trans rfl, (cell_of_row w b _ _ _ (0, 0) h).trans rfl, (cell_of_row w b _ _ _ (0, 0) h).trans rfl⟩
theorem BoxS.lt {b : Nat} {c : PC} {av rv : Value} {w : World} (h : BoxS b c av rv w) : b < w.heap.size := (Array.getElem?_eq_some_iff.1 h).1
theorem BoxS.below {b : Nat} {c : PC} {av rv : Value} {w w' : World} (h : BoxS b c av rv w) (hb : Below w.heap.size w w') : BoxS b c av rv w' := (hb.block b h.lt).trans h
structure SpS (s : List UInt8) (c : PC) (l : List RX) (w wr : World) (Rb Rb' : Nat → Option RX) (av : Value) (gs : List Nat) : Prop where
 arg : BoxP w.heap.size c wr
 box : BoxS (w.heap.size + 1) c av (.slice none 0 0) wr
 own : wr.ownsRow (w.heap.size + 2) 85 1 av gs.length (gs.map ptrS)
 kids : ∀ i (h1 : i < gs.length) (h2 : i < l.length), SpT (s.length + 1) (fun x => (w.heap.size + 2 ≤ x ∧ some x ≠ av.ownBlock) ∧ Rb' x = none) Rb' wr gs[i] l[i]
 memo : MemoOK s Rb' wr
 ext : ∀ x, x < w.heap.size → Rb' x = Rb x
 bel : Below w.heap.size w wr
theorem SpS.own_ge {s : List UInt8} {c : PC} {l : List RX} {w wr : World} {Rb Rb' : Nat → Option RX} {av : Value} {gs : List Nat} (h : SpS s c l w wr Rb Rb' av gs) (x : Nat) (hx : av.ownBlock = some x) : w.heap.size + 2 ≤ x ∧ x < wr.heap.size := h.own.lt x hx
theorem own_keep {w w' : World} {B : Nat} {v : Value} {n : Nat} {xs : List Value} (h : w.ownsRow B 85 1 v n xs) (hk : ∀ x, v.ownBlock = some x → x < w.heap.size → w'.heap[x]? = w.heap[x]?) : w'.ownsRow B 85 1 v n xs := by
 refine ⟨h.1, ?_⟩
 rcases h.2 with h1 | ⟨g, cap, cur, rfl, hb, hg, rest⟩
 ·exact .inl h1
 ·exact .inr ⟨g, cap, cur, rfl, hb, (hk g rfl (Array.getElem?_eq_some_iff.1 hg).1).trans hg, rest⟩
theorem SpS.stay {s : List UInt8} {c : PC} {l : List RX} {w wr wx : World} {Rb Rb' : Nat → Option RX} {av : Value} {gs : List Nat} (h : SpS s c l w wr Rb Rb' av gs) (hb : Below wr.heap.size wr wx) : SpS s c l w wx Rb Rb' av gs :=
 ⟨h.arg.below hb, h.box.below hb, own_keep h.own (fun x _ hx => hb.block x hx), fun i h1 h2 => (h.kids i h1 h2).stay hb, h.memo.stay hb, h.ext, h.bel.trans (hb.mono h.bel.size)⟩
theorem SpS.call {s : List UInt8} {c : PC} {l : List RX} {w wr w6 : World} {Rb Rb' Rb2 : Nat → Option RX} {av : Value} {gs : List Nat} (h : SpS s c l w wr Rb Rb' av gs) (he : ∀ x, x < wr.heap.size → Rb2 x = Rb' x) (hm : MemoOK s Rb2 w6) (hb : Below wr.heap.size wr w6) : SpS s c l w w6 Rb Rb2 av gs := by
 refine ⟨h.arg.below hb, h.box.below hb, own_keep h.own (fun x _ hx => hb.block x hx), fun i h1 h2 => ?_, hm, fun x hx => ?_, h.bel.trans (hb.mono h.bel.size)⟩
 ·exact ((h.kids i h1 h2).mono (fun x hx hl => ⟨hx.1, (he x hl).trans hx.2⟩) he).stay hb
 ·have := h.bel.size
  rw [he x (by omega), h.ext x hx]
theorem SpS.push {s : List UInt8} {c : PC} {l : List RX} {w w6 w7 : World} {Rb Rb2 : Nat → Option RX} {av av' : Value} {gs : List Nat} {g : Nat} (h : SpS s c l w w6 Rb Rb2 av gs) (hl : gs.length < l.length)
  (hg : SpT (s.length + 1) (fun x => (w.heap.size + 2 ≤ x ∧ some x ≠ av.ownBlock) ∧ Rb2 x = none) Rb2 w6 g l[gs.length])
  (hown : w7.ownsRow (w.heap.size + 2) 85 1 av' (gs ++ [g]).length ((gs ++ [g]).map ptrS)) (hgr : w6.grownBy w7 av.ownBlock) (hat : av'.ownBlock = av.ownBlock ∨ ∃ k, w6.heap.size ≤ k ∧ av'.ownBlock = some k) :
  BoxP w.heap.size c w7 ∧ BoxS (w.heap.size + 1) c av (.slice none 0 0) w7 ∧ SpS s c l w (w7.setCell ⟨w.heap.size + 1, 6, none⟩ av') Rb Rb2 av' (gs ++ [g]) := by
 have hold : ∀ x, x < w6.heap.size → some x ≠ av.ownBlock → w7.heap[x]? = w6.heap[x]? := fun x h1 h2 => hgr.block x h1 h2
 have hlow : ∀ x, x < w.heap.size + 2 → x < w6.heap.size → w7.heap[x]? = w6.heap[x]? := fun x h1 h2 => hold x h2 (fun he => by have := (h.own_ge x he.symm).1; omega)
 have h0 : BoxP w.heap.size c w7 := (hlow _ (by omega) h.arg.lt).trans h.arg
 have h1 : BoxS (w.heap.size + 1) c av (.slice none 0 0) w7 := (hlow _ (by omega) h.box.lt).trans h.box
 have hot : ∀ y, y ≠ w.heap.size + 1 → (w7.setCell ⟨w.heap.size + 1, 6, none⟩ av').heap[y]? = w7.heap[y]? := fun y hy => Below.heap_setCell w7 ⟨w.heap.size + 1, 6, none⟩ av' y hy
 have hb7 : Below (w.heap.size + 1) w6 (w7.setCell ⟨w.heap.size + 1, 6, none⟩ av') :=
  (show Below (w.heap.size + 1) w6 w7 from ⟨hgr.os, hgr.tape, hgr.output, hgr.size, fun x hx => hlow x (by omega) (by have := h.box.lt; omega)⟩).setCell (p := ⟨w.heap.size + 1, 6, none⟩) (Nat.le_refl _) _
 have hkeep : ∀ x, ((w.heap.size + 2 ≤ x ∧ some x ≠ av.ownBlock) ∧ Rb2 x = none) → x < w6.heap.size → (w7.setCell ⟨w.heap.size + 1, 6, none⟩ av').heap[x]? = w6.heap[x]? := fun x hx hl => (hot x (by omega)).trans (hold x hl hx.1.2)
 have hkid : ∀ {y : Nat} {q : RX}, SpT (s.length + 1) (fun x => (w.heap.size + 2 ≤ x ∧ some x ≠ av.ownBlock) ∧ Rb2 x = none) Rb2 w6 y q → SpT (s.length + 1) (fun x => (w.heap.size + 2 ≤ x ∧ some x ≠ av'.ownBlock) ∧ Rb2 x = none) Rb2 (w7.setCell ⟨w.heap.size + 1, 6, none⟩ av') y q := by
  intro y q hq
  refine ((hq.mono (M := fun x => ((w.heap.size + 2 ≤ x ∧ some x ≠ av.ownBlock) ∧ Rb2 x = none) ∧ x < w6.heap.size) (fun x hx hl => ⟨hx, hl⟩) (fun _ _ => rfl)).keep hb7.size (fun x hx hl => hkeep x hx.1 hl)).mono (fun x hx _ => ⟨⟨hx.1.1.1, ?_⟩, hx.1.2⟩) (fun _ _ => rfl)
  rcases hat with he | ⟨k, hk, he⟩
  ·rw [he]; exact hx.1.1.2
  ·rw [he]
   intro h4
   cases h4
   have := hx.2
   omega
 refine ⟨h0, h1, (hot _ (by omega)).trans h0, heap_setCell_same w7 (w.heap.size + 1) 6 _ _ av' h1, own_keep hown (fun x hx _ => hot x (fun he => ?_)), fun i i1 i2 => ?_, ?_, h.ext, h.bel.trans (hb7.mono (by omega))⟩
 ·have := (hown.lt x hx).1
  omega
 ·by_cases hi : i < gs.length
  ·rw [List.getElem_append_left hi]
   exact hkid (h.kids i hi i2)
  ·have h3 : i = gs.length := by
    rw [List.length_append] at i1
    simp only [List.length_cons, List.length_nil] at i1
    omega
   subst h3
   rw [List.getElem_append_right (Nat.le_refl _)]
   simp only [Nat.sub_self, List.getElem_cons_zero]
   exact hkid hg
 ·have hm7 : MemoOK s Rb2 w7 := by
   rcases h.own.2 with ⟨he, _⟩ | ⟨y, cap, cur, he, hb, hy, _⟩
   ·exact h.memo.keepBut w6.heap.size (fun x hx _ => hold x hx (by rw [he]; intro h; cases h)) (fun c t hc => by rw [Array.getElem?_eq_none (Nat.le_refl _)] at hc; cases hc)
   ·exact h.memo.keepBut y (fun x hx hne => hold x hx (by rw [he]; intro h; cases h; exact hne rfl)) (fun c t hc => by rw [hy] at hc; cases hc; decide)
  exact hm7.keepBut (w.heap.size + 1) (fun x _ hne => hot x hne) (fun c t hc => by
   have h2 : w7.heap[w.heap.size + 1]? = _ := h1
   rw [h2] at hc
   cases hc
   decide)
theorem SpS.fin {s : List UInt8} {c : PC} {l : List RX} {w wr w9 : World} {Rb Rb2 Rb3 : Nat → Option RX} {av rv : Value} {gs : List Nat} (h : SpS s c l w wr Rb Rb2 av gs) (hlen : gs.length = l.length) (hz : wr.heap.size ≤ w9.heap.size)
  (hk : ∀ x, x < wr.heap.size → x ≠ w.heap.size + 1 → w9.heap[x]? = wr.heap[x]?) (hbox : BoxS (w.heap.size + 1) c av rv w9) (he : ∀ x, x < wr.heap.size → Rb3 x = Rb2 x)
  (hr : c.op = 6 ∨ c.op = 7 → ∃ r, rv = svB r (s.length + 1) ∧ Rb3 r = some (.mk c.op c.lo c.hi c.mn c.mx l) ∧ r < w9.heap.size) :
  SpT (s.length + 1) (fun x => w.heap.size ≤ x ∧ Rb3 x = none) Rb3 w9 (w.heap.size + 1) (.mk c.op c.lo c.hi c.mn c.mx l) := by
 have hob : ∀ x, av.ownBlock = some x → Rb2 x = none := by
  intro x hx
  rcases h.own.2 with ⟨h1, _⟩ | ⟨y, cap2, cur, h1, hb, hy, _⟩
  ·rw [h1] at hx; cases hx
  ·rw [h1] at hx
   cases hx
   exact h.memo.other hy (by decide)
 refine .mk (w.heap.size + 1) c.op c.lo c.hi c.mn c.mx l c.a av rv (fun i => gs.getD i 0) hbox ⟨by omega, ?_⟩ ?_ (fun x o n cap hv hl => ?_) (fun i hi => ?_) hr
 ·rw [he _ h.box.lt]
  exact h.memo.other (h.box : wr.heap[w.heap.size + 1]? = _) (by decide)
 ·have hs := own_slx h.own
  rw [hlen] at hs
  obtain ⟨a, cap, hv, h1, h2, h0, h3⟩ := hs
  refine ⟨a, cap, hv, h1, h2, h0, fun hl => ?_⟩
  obtain ⟨x, o, hx, hg, hc⟩ := h3 hl
  have hox : av.ownBlock = some x := by rw [hv, hx]; rfl
  have hge := (h.own_ge x hox).1
  refine ⟨x, o, hx, Nat.lt_of_lt_of_le hg hz, fun i hi j hj => ?_⟩
  rw [← hc i hi j hj]
  unfold World.cell?
  rw [hk x hg (by omega)]
 ·have hox : av.ownBlock = some x := by rw [hv]; rfl
  have hge := h.own_ge x hox
  exact ⟨by omega, by rw [he x hge.2]; exact hob x hox⟩
 ·have h2 : i < gs.length := by omega
  have hq := h.kids i h2 hi
  rw [show gs.getD i 0 = gs[i] by rw [List.getD_eq_getElem?_getD, List.getElem?_eq_getElem h2]; rfl]
  have h3 := hq.mono (M := fun x => w.heap.size + 2 ≤ x ∧ x < wr.heap.size ∧ Rb3 x = none) (Rb' := Rb3) (fun x hx hl => ⟨hx.1.1, hl, (he x hl).trans hx.2⟩) he
  exact (h3.keep hz (fun x hx hl => hk x hl (by omega))).mono (fun x hx _ => ⟨by omega, hx.2.2⟩) (fun _ _ => rfl)
end Go.Proofs.YtpkecepelcppiaaGreatDoor

namespace Go.Proofs.YtpkecepelcppiaaGreatDoor
open Go.RowKit
set_option maxHeartbeats 2000000
set_option maxRecDepth 100000

theorem BlkB.put {w : World} {g m : Nat} {P : Nat → Prop} (h : BlkB w g m P) (i : Nat) (b : Bool) (Q : Nat → Prop) (hq : ∀ j, j < m → j ≠ i → (Q j ↔ P j)) (hb : b = true ↔ Q i) : BlkB (w.setCell ⟨g, i, none⟩ (.bool b)) g m Q :=
 (h.set i b).congr (fun j hj => by
  by_cases he : j = i
  ·subst he
   rw [if_pos rfl, hb]
  ·rw [if_neg he]
   exact (hq j hj he).symm)
structure MemoZ (s : List UInt8) (Rb : Nat → Option RX) (Z : Nat → Prop) (w : World) : Prop where
 ok : MemoOK s Rb w
 no : ∀ r p, Rb r = some p → ∀ i g, w.cell? ⟨r, i, none⟩ = some (svB g (s.length + 1)) → ¬ Z g
theorem memo_cell {s : List UInt8} {Rb : Nat → Option RX} {w : World} (h : MemoOK s Rb w) {r : Nat} {p : RX} (hr : Rb r = some p) {i : Nat} (hi : i < s.length + 1) :
  w.cell? ⟨r, i, none⟩ = some (.slice none 0 0) ∨ ∃ g, w.cell? ⟨r, i, none⟩ = some (svB g (s.length + 1)) ∧ Rb g = none ∧ BlkB w g (s.length + 1) (memR s 48 p i) := by
 obtain ⟨f, hf, hfi⟩ := h.rows r p hr
 have hc := hf.cell hi
 rcases hfi i hi with h2 | ⟨g, h2, h3, h4⟩
 ·rw [h2] at hc
  exact .inl hc
 ·rw [h2] at hc
  exact .inr ⟨g, hc, h3, h4⟩
theorem cell_in {w : World} {r n i : Nat} {t : TypeId} {f : Nat → Value} {v : Value} (h : w.rowIs r t n f) (hc : w.cell? ⟨r, i, none⟩ = some v) : i < n := by
 obtain ⟨c, hb, hs, -⟩ := h
 simp only [World.cell?, hb] at hc
 rcases Nat.lt_or_ge i n with h | h
 ·exact h
 ·simp [Array.getElem?_eq_none (show c.size ≤ i by omega)] at hc
theorem MemoZ.late {s : List UInt8} {Rb : Nat → Option RX} {Z : Nat → Prop} {w w' : World} (h : MemoZ s Rb Z w) (hb : Below w.heap.size w w') : MemoZ s Rb (fun x => Z x ∨ w.heap.size ≤ x) w' := by
 refine ⟨h.ok.stay hb, fun r p hr i g hc hz => ?_⟩
 have hl := h.ok.lt hr
 rw [hb.cell (p := ⟨r, i, none⟩) hl] at hc
 rcases hz with hz | hz
 ·exact h.no r p hr i g hc hz
 ·obtain ⟨f, hf, -⟩ := h.ok.rows r p hr
  rcases memo_cell h.ok hr (cell_in hf hc) with h2 | ⟨g2, h2, h3, h4⟩
  ·rw [hc] at h2; cases h2
  ·rw [hc] at h2
   have : g = g2 := by unfold svB at h2; cases h2; rfl
   subst this
   have := h4.lt
   omega
theorem MemoZ.mono {s : List UInt8} {Rb : Nat → Option RX} {Z Y : Nat → Prop} {w : World} (h : MemoZ s Rb Z w) (hy : ∀ x, Y x → Z x) : MemoZ s Rb Y w := ⟨h.ok, fun r p hr i g hc hz => h.no r p hr i g hc (hy g hz)⟩
theorem MemoZ.stay {s : List UInt8} {Rb : Nat → Option RX} {Z : Nat → Prop} {w w' : World} (h : MemoZ s Rb Z w) (hb : Below w.heap.size w w') : MemoZ s Rb Z w' := (h.late hb).mono (fun _ hx => .inl hx)
theorem MemoZ.set {s : List UInt8} {Rb : Nat → Option RX} {Z : Nat → Prop} {w : World} (h : MemoZ s Rb Z w) {b : Nat} (hz : Z b) (hb : Rb b = none) (i : Nat) (v : Value) : MemoZ s Rb Z (w.setCell ⟨b, i, none⟩ v) := by
 have hot : ∀ y, y ≠ b → (w.setCell ⟨b, i, none⟩ v).heap[y]? = w.heap[y]? := fun y hy => Below.heap_setCell w ⟨b, i, none⟩ _ y hy
 have hne : ∀ r p, Rb r = some p → r ≠ b := fun r p hr he => by rw [he, hb] at hr; cases hr
 refine ⟨⟨fun r p hr => ?_⟩, fun r p hr j g hc => ?_⟩
 ·obtain ⟨f, hf, hfi⟩ := h.ok.rows r p hr
  refine ⟨f, hf.of_block (hot r (hne r p hr)), fun j hj => ?_⟩
  rcases hfi j hj with h2 | ⟨g, h2, h3, h4⟩
  ·exact .inl h2
  ·refine .inr ⟨g, h2, h3, h4.keep (hot g (fun he => ?_))⟩
   have hc := hf.cell hj
   rw [h2] at hc
   exact h.no r p hr j g hc (he ▸ hz)
 ·refine h.no r p hr j g ?_
  rw [← hc]
  unfold World.cell?
  rw [hot r (hne r p hr)]
theorem KeepM.set {Rb : Nat → Option RX} {w0 w : World} (h : KeepM Rb w0 w) {b : Nat} (hb : w0.heap.size ≤ b) (i : Nat) (v : Value) : KeepM Rb w0 (w.setCell ⟨b, i, none⟩ v) :=
 ⟨h.os, h.tape, h.output, by simpa using h.size, fun k hk hn => (Below.heap_setCell w ⟨b, i, none⟩ v k (by show k ≠ b; omega)).trans (h.block k hk hn)⟩
def RetM (s : List UInt8) (Rb : Nat → Option RX) (Z : Nat → Prop) (G : Nat → Prop) (w : World) (e : Ending) (w' : World) : Prop :=
 ∃ a, e = .returned (svB a (s.length + 1)) ∧ Rb a = none ∧ ¬ Z a ∧ BlkB w' a (s.length + 1) G ∧ MemoZ s Rb Z w' ∧ KeepM Rb w w'
end Go.Proofs.YtpkecepelcppiaaGreatDoor
