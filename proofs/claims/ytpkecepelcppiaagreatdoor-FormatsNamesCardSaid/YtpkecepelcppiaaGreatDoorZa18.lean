/- The reference's matcher in memory: its tree of spots, its rows that are filled as it goes. Conditions: none. -/
import Derived.Test.YtpkecepelcppiaaGreatDoorZa13
import Derived.Test.YtpkecepelcppiaaGreatDoorZa2
import Derived.Deep.OwnRows
import Derived.Deep.DeepCutAuto
import Derived.Deep.CutBlock
import Derived.Deep.QuietTactic
import Derived.BigQuiet
namespace Go.Proofs.YtpkecepelcppiaaGreatDoor
open Go.RowKit
set_option maxHeartbeats 4000000
set_option maxRecDepth 100000

noncomputable def bvB (F : Nat → Prop) (j : Nat) : Value := .bool (@decide (F j) (Classical.propDecidable _))
theorem bvB_true {F : Nat → Prop} {j : Nat} (h : F j) : bvB F j = .bool true := by unfold bvB; rw [@decide_eq_true _ (Classical.propDecidable _) h]
theorem bvB_false {F : Nat → Prop} {j : Nat} (h : ¬ F j) : bvB F j = .bool false := by unfold bvB; rw [@decide_eq_false _ (Classical.propDecidable _) h]
theorem bvB_congr {F G : Nat → Prop} {j : Nat} (h : F j ↔ G j) : bvB F j = bvB G j := by
 by_cases hf : F j
 ·rw [bvB_true hf, bvB_true (h.1 hf)]
 ·rw [bvB_false hf, bvB_false (fun hg => hf (h.2 hg))]
def svB (g m : Nat) : Value := .slice (some ⟨g, 0, none⟩) m m
def BlkB (w : World) (g m : Nat) (F : Nat → Prop) : Prop := w.rowIs g 4 m (bvB F)
theorem BlkB.congr {w : World} {g m : Nat} {F G : Nat → Prop} (h : BlkB w g m F) (e : ∀ j, j < m → (F j ↔ G j)) : BlkB w g m G := World.rowIs.congr h (fun j hj => bvB_congr (e j hj))
theorem BlkB.cell {w : World} {g m : Nat} {F : Nat → Prop} (h : BlkB w g m F) {j : Nat} (hj : j < m) : w.cell? ⟨g, j, none⟩ = some (bvB F j) := World.rowIs.cell h hj
theorem BlkB.lt {w : World} {g m : Nat} {F : Nat → Prop} (h : BlkB w g m F) : g < w.heap.size := World.rowIs.lt h
theorem BlkB.keep {w w' : World} {g m : Nat} {F : Nat → Prop} (h : BlkB w g m F) (e : w'.heap[g]? = w.heap[g]?) : BlkB w' g m F := World.rowIs.of_block h e
theorem BlkB.stay {w w' : World} {g m : Nat} {F : Nat → Prop} (h : BlkB w g m F) (hb : Below w.heap.size w w') : BlkB w' g m F := h.keep (hb.block g h.lt)
theorem BlkB.set {w : World} {g m : Nat} {F : Nat → Prop} (h : BlkB w g m F) (i : Nat) (b : Bool) : BlkB (w.setCell ⟨g, i, none⟩ (.bool b)) g m (fun j => if j = i then b = true else F j) := by
 refine World.rowIs.congr (World.rowIs.set h i (.bool b)) (fun j _ => ?_)
 by_cases hj : j = i
 ·rw [if_pos hj]
  cases b
  ·rw [bvB_false (by rw [if_pos hj]; decide)]
  ·rw [bvB_true (by rw [if_pos hj])]
 ·rw [if_neg hj]
  exact bvB_congr (by rw [if_neg hj])
theorem blk_made (w : World) (m : Nat) : BlkB (w.alloc (.cells (madeCells #[.bool false] m) 4)) w.heap.size m (fun _ => False) :=
 World.rowIs.congr (World.rowIs_made w (.bool false) m 4) (fun _ _ => (bvB_false (fun h => h)).symm)
theorem bool_infoZ : (Tryz.prog.info? 4).map (fun i => (i.zero, i.size, i.bytes)) = some (some (.bool false), 1, 1) := by kernel_rfl
theorem BlkB.step {w : World} {g m k : Nat} {P : Nat → Prop} (h : BlkB w g m (fun j => j < k ∧ P j)) (b : Bool) (hb : b = true ↔ P k) : BlkB (w.setCell ⟨g, k, none⟩ (.bool b)) g m (fun j => j < k + 1 ∧ P j) :=
 (h.set k b).congr (fun j _ => by
  by_cases hj : j = k
  ·subst hj
   rw [if_pos rfl, hb]
   exact ⟨fun h => ⟨by omega, h⟩, fun h => h.2⟩
  ·rw [if_neg hj]
   exact ⟨fun h => ⟨by omega, h.2⟩, fun h => ⟨by omega, h.2⟩⟩)
theorem either_any (m a b : Nat) (F G : Nat → Prop) (w : World) (hm : m ≤ 100000000) (ha : BlkB w a m F) (hb : BlkB w b m G) :
  Calls Tryz.prog 89 #[svB a m, svB b m] w fun e w' => ∃ g, e = .returned (svB g m) ∧ w.heap.size ≤ g ∧ BlkB w' g m (fun j => F j ∨ G j) ∧ Below w.heap.size w w' := by
 have hmk := run_make_row' (P := Tryz.prog) 84 4 (.bool false) 1 Tryz.underlying84 bool_infoZ rfl .i64 .i64 m (by omega) (by omega)
 have HA := Lib.hid ha
 have HB := Lib.hid hb
 have hmi : (m : Int) ≤ 100000000 := by omega
 clear ha hb
 unfold svB
 go_enter Tryz.func89, Tryz.ntmps89
 go_upto_region 2 with fail
 generalize hW : World.alloc w _ = w1
 have HN := Lib.hid (show BlkB w1 w.heap.size m (fun j => j < 0 ∧ (F j ∨ G j)) from hW ▸ (blk_made w m).congr (fun j _ => ⟨fun h => h.elim, fun h => absurd h.1 (Nat.not_lt_zero _)⟩))
 have HBW : Hid (Below w.heap.size w w1) := hW ▸ (Below.refl _ _).alloc (Nat.le_refl _) _
 clear hW hmk
 go_wp2_with fail
 go_loopw [6] (fun iv wr => ∃ k : Nat, k ≤ m ∧ iv = .int .i64 (k : Int) ∧ Hid (BlkB wr w.heap.size m (fun j => j < k ∧ (F j ∨ G j))) ∧ Hid (Below w.heap.size w wr)) (fun iv _ => m - (intOf iv).toNat)
 case atStart => exact ⟨0, Nat.zero_le _, rfl, HN.out, HBW.out⟩
 case round =>
  obtain ⟨k, hk, rfl, HR, HBR⟩ := hrel
  clear HN HBW
  by_cases hlt : k < m
  case neg =>
   have hge : ¬ (k : Int) < m := by omega
   have HF : Hid (BlkB wr w.heap.size m (fun j => F j ∨ G j)) := HR.out.congr (fun j hj => ⟨fun h => h.2, fun h => ⟨by omega, h⟩⟩)
   clear hlt
   go_wp2_with fail
   go_ret
   exact ⟨w.heap.size, rfl, Nat.le_refl _, HF.out, HBR.out⟩
  case pos =>
   have hlti : (k : Int) < m := by omega
   have hca := (HA.out.stay HBR.out).cell hlt
   have hcb := (HB.out.stay HBR.out).cell hlt
   have hfz := HR.out.frozen k
   obtain ⟨x0, hcx⟩ : ∃ x, wr.cell? ⟨w.heap.size, k, none⟩ = some x := ⟨_, HR.out.cell hlt⟩
   by_cases hF : F k
   ·rw [bvB_true hF] at hca
    have HN2 := Lib.hid (HR.out.step true ⟨fun _ => .inl hF, fun _ => rfl⟩)
    have HB2 := Lib.hid (HBR.out.setCell (p := ⟨w.heap.size, k, none⟩) (Nat.le_refl _) (.bool true))
    clear hF hcb
    go_wp2_with fail
    exact ⟨⟨k + 1, by omega, by simp, HN2.out, HB2.out⟩, by simp [intOf]; omega⟩
   ·rw [bvB_false hF] at hca
    by_cases hG : G k
    ·rw [bvB_true hG] at hcb
     have HN2 := Lib.hid (HR.out.step true ⟨fun _ => .inr hG, fun _ => rfl⟩)
     have HB2 := Lib.hid (HBR.out.setCell (p := ⟨w.heap.size, k, none⟩) (Nat.le_refl _) (.bool true))
     clear hF hG
     go_wp2_with fail
     exact ⟨⟨k + 1, by omega, by simp, HN2.out, HB2.out⟩, by simp [intOf]; omega⟩
    ·rw [bvB_false hG] at hcb
     have HN2 := Lib.hid (HR.out.step false ⟨fun h => (by cases h), fun h => (Or.elim h hF hG).elim⟩)
     have HB2 := Lib.hid (HBR.out.setCell (p := ⟨w.heap.size, k, none⟩) (Nat.le_refl _) (.bool false))
     clear hF hG
     go_wp2_with fail
     exact ⟨⟨k + 1, by omega, by simp, HN2.out, HB2.out⟩, by simp [intOf]; omega⟩
noncomputable def eqB (m : Nat) (F G : Nat → Prop) : Bool := @decide (∀ j, j < m → (F j ↔ G j)) (Classical.propDecidable _)
theorem eqB_true {m : Nat} {F G : Nat → Prop} : eqB m F G = true ↔ ∀ j, j < m → (F j ↔ G j) := by
 unfold eqB
 exact @decide_eq_true_iff _ (Classical.propDecidable _)
theorem eqB_false {m : Nat} {F G : Nat → Prop} (h : ¬ ∀ j, j < m → (F j ↔ G j)) : eqB m F G = false := by
 cases hb : eqB m F G with
 | false => rfl
 | true => exact absurd (eqB_true.1 hb) h
theorem equal_any (m a b : Nat) (F G : Nat → Prop) (w : World) (hm : m ≤ 100000000) (ha : BlkB w a m F) (hb : BlkB w b m G) :
  Calls Tryz.prog 91 #[svB a m, svB b m] w fun e w' => e = .returned (.bool (eqB m F G)) ∧ Below w.heap.size w w' := by
 have HA := Lib.hid ha
 have HB := Lib.hid hb
 have hmi : (m : Int) ≤ 100000000 := by omega
 have HET := Lib.hid (@eqB_true m F G)
 have HEF := Lib.hid (@eqB_false m F G)
 generalize eqB m F G = r at *
 clear ha hb
 unfold svB
 go_enter Tryz.func91, Tryz.ntmps91
 go_wp2_with fail
 go_loopw [4, 5] (fun _ iv wr => ∃ k : Nat, k ≤ m ∧ iv = .int .i64 (k : Int) ∧ Hid (∀ j, j < k → (F j ↔ G j)) ∧ Hid (Below w.heap.size w wr)) (fun _ iv _ => m - (intOf iv).toNat)
 case atStart => exact ⟨0, Nat.zero_le _, rfl, fun j hj => absurd hj (Nat.not_lt_zero _), Below.refl _ _⟩
 case round =>
  obtain ⟨k, hk, rfl, HR, HBR⟩ := hrel
  by_cases hlt : k < m
  case neg =>
   have hge : ¬ (k : Int) < m := by omega
   have HF : Hid (r = true) := HET.out.2 (fun j hj => HR.out j (by omega))
   clear hlt
   go_wp2_with fail
   go_ret
   exact ⟨by (rw [HF.out]; rfl), HBR.out⟩
  case pos =>
   have hlti : (k : Int) < m := by omega
   have hca := (HA.out.stay HBR.out).cell hlt
   have hcb := (HB.out.stay HBR.out).cell hlt
   have HB2 := Lib.hid (fun n => HBR.out.trans ((below_drewN (Below.refl wr.heap.size wr) n).mono HBR.out.size))
   by_cases hc : F k ↔ G k
   ·have he : bvB F k = bvB G k := bvB_congr hc
    have HR2 : Hid (∀ j, j < k + 1 → (F j ↔ G j)) := by
     intro j hj
     by_cases h : j = k
     ·rw [h]; exact hc
     ·exact HR.out j (by omega)
    rw [← he] at hcb
    by_cases hF : F k
    ·rw [bvB_true hF] at hca hcb
     clear hc he hF
     go_upto_region 4 with fail
     go_quiet (fail)
     go_wp2_with fail
     exact ⟨⟨k + 1, by omega, by simp, HR2.out, HB2.out _⟩, by simp [intOf]; omega⟩
    ·rw [bvB_false hF] at hca hcb
     clear hc he hF
     go_upto_region 4 with fail
     go_quiet (fail)
     go_wp2_with fail
     exact ⟨⟨k + 1, by omega, by simp, HR2.out, HB2.out _⟩, by simp [intOf]; omega⟩
   ·have HF : Hid (r = false) := HEF.out (fun h => hc (h k hlt))
    by_cases hF : F k
    ·have hG : ¬ G k := fun hg => hc ⟨fun _ => hg, fun _ => hF⟩
     rw [bvB_true hF] at hca
     rw [bvB_false hG] at hcb
     clear hc hF hG
     go_upto_region 4 with fail
     go_quiet (fail)
     go_wp2_with fail
     go_ret
     exact ⟨by (rw [HF.out]; rfl), HB2.out _⟩
    ·have hG : G k := Classical.byContradiction fun hg => hc ⟨fun h => absurd h hF, fun h => absurd h hg⟩
     rw [bvB_false hF] at hca
     rw [bvB_true hG] at hcb
     clear hc hF hG
     go_upto_region 4 with fail
     go_quiet (fail)
     go_wp2_with fail
     go_ret
     exact ⟨by (rw [HF.out]; rfl), HB2.out _⟩
end Go.Proofs.YtpkecepelcppiaaGreatDoor

namespace Go.Proofs.YtpkecepelcppiaaGreatDoor
open Go.RowKit
set_option maxHeartbeats 2000000
set_option maxRecDepth 100000

structure MemoOK (s : List UInt8) (Rb : Nat → Option RX) (w : World) : Prop where
 rows : ∀ r p, Rb r = some p → ∃ f : Nat → Value, w.rowIs r 84 (s.length + 1) f ∧ ∀ i, i < s.length + 1 → f i = .slice none 0 0 ∨ ∃ g, f i = svB g (s.length + 1) ∧ Rb g = none ∧ BlkB w g (s.length + 1) (memR s 48 p i)
theorem MemoOK.lt {s : List UInt8} {Rb : Nat → Option RX} {w : World} (h : MemoOK s Rb w) {r : Nat} {p : RX} (hr : Rb r = some p) : r < w.heap.size := by
 obtain ⟨f, hf, -⟩ := h.rows r p hr
 exact World.rowIs.lt hf
theorem MemoOK.new {s : List UInt8} {Rb : Nat → Option RX} {w : World} (h : MemoOK s Rb w) {g : Nat} (hg : w.heap.size ≤ g) : Rb g = none := by
 cases hb : Rb g with
 | none => rfl
 | some p => have := h.lt hb; omega
structure KeepM (Rb : Nat → Option RX) (w w' : World) : Prop where
 os : w'.os = w.os
 tape : w'.tape = w.tape
 output : w'.output = w.output
 size : w.heap.size ≤ w'.heap.size
 block : ∀ k, k < w.heap.size → Rb k = none → w'.heap[k]? = w.heap[k]?
theorem KeepM.refl (Rb : Nat → Option RX) (w : World) : KeepM Rb w w := ⟨rfl, rfl, rfl, Nat.le_refl _, fun _ _ _ => rfl⟩
theorem KeepM.trans {Rb : Nat → Option RX} {w w1 w2 : World} (h : KeepM Rb w w1) (k : KeepM Rb w1 w2) : KeepM Rb w w2 :=
 ⟨k.os.trans h.os, k.tape.trans h.tape, k.output.trans h.output, Nat.le_trans h.size k.size, fun x hx hn => (k.block x (Nat.lt_of_lt_of_le hx h.size) hn).trans (h.block x hx hn)⟩
theorem KeepM.below {Rb : Nat → Option RX} {w w' : World} (h : Below w.heap.size w w') : KeepM Rb w w' := ⟨h.os, h.tape, h.output, h.size, fun k hk _ => h.block k hk⟩
theorem MemoOK.stay {s : List UInt8} {Rb : Nat → Option RX} {w w' : World} (h : MemoOK s Rb w) (hb : Below w.heap.size w w') : MemoOK s Rb w' := by
 refine ⟨fun r p hr => ?_⟩
 obtain ⟨f, hf, hi⟩ := h.rows r p hr
 refine ⟨f, hf.of_block (hb.block r hf.lt), fun i h1 => ?_⟩
 rcases hi i h1 with h2 | ⟨g, h2, h3, h4⟩
 ·exact .inl h2
 ·exact .inr ⟨g, h2, h3, h4.stay hb⟩
theorem BlkB.keepM {Rb : Nat → Option RX} {w w' : World} {g m : Nat} {F : Nat → Prop} (h : BlkB w g m F) (hg : Rb g = none) (hk : KeepM Rb w w') : BlkB w' g m F := h.keep (hk.block g h.lt hg)
theorem MemoOK.fill {s : List UInt8} {Rb : Nat → Option RX} {w : World} (h : MemoOK s Rb w) {r : Nat} {p : RX} (hr : Rb r = some p) {i g : Nat} (hi : i < s.length + 1) (hg : Rb g = none) (hb : BlkB w g (s.length + 1) (memR s 48 p i)) :
  MemoOK s Rb (w.setCell ⟨r, i, none⟩ (svB g (s.length + 1))) ∧ KeepM Rb w (w.setCell ⟨r, i, none⟩ (svB g (s.length + 1))) := by
 have hot : ∀ y, y ≠ r → (w.setCell ⟨r, i, none⟩ (svB g (s.length + 1))).heap[y]? = w.heap[y]? := fun y hy => Below.heap_setCell w ⟨r, i, none⟩ _ y hy
 have hne : ∀ y, Rb y = none → y ≠ r := fun y hy he => by rw [he, hr] at hy; cases hy
 refine ⟨⟨fun r2 p2 hr2 => ?_⟩, rfl, rfl, rfl, by simp, fun k _ hk => hot k (hne k hk)⟩
 obtain ⟨f, hf, hfi⟩ := h.rows r2 p2 hr2
 by_cases he : r2 = r
 ·subst he
  have hp : p2 = p := by rw [hr] at hr2; cases hr2; rfl
  subst hp
  refine ⟨_, hf.set i _, fun j hj => ?_⟩
  by_cases hji : j = i
  ·subst hji
   rw [if_pos rfl]
   exact .inr ⟨g, rfl, hg, hb.keep (hot g (hne g hg))⟩
  ·rw [if_neg hji]
   rcases hfi j hj with h2 | ⟨g2, h2, h3, h4⟩
   ·exact .inl h2
   ·exact .inr ⟨g2, h2, h3, h4.keep (hot g2 (hne g2 h3))⟩
 ·refine ⟨f, hf.of_block (hot r2 he), fun j hj => ?_⟩
  rcases hfi j hj with h2 | ⟨g2, h2, h3, h4⟩
  ·exact .inl h2
  ·exact .inr ⟨g2, h2, h3, h4.keep (hot g2 (hne g2 h3))⟩
def ptrS (g : Nat) : Value := .pointer (some ⟨g, 0, none⟩)
def spotC (op lo hi mn mx : Int) (ca av rv : Value) : List Value := [.int .i64 op, .int .i64 lo, .int .i64 hi, .int .i64 mn, .int .i64 mx, ca, av, rv]
inductive SpT (m : Nat) (N : Nat → Prop) (Rb : Nat → Option RX) (w : World) : Nat → RX → Prop
 | mk (g : Nat) (op lo hi mn mx : Int) (l : List RX) (ca av rv : Value) (gs : Nat → Nat)
   (hb : w.heap[g]? = some (.cells (spotC op lo hi mn mx ca av rv).toArray 127 (0, 0))) (hN : N g)
   (ha : SlX w av l.length 1 (fun i => [ptrS (gs i)])) (hNa : ∀ x o n cap, av = .slice (some ⟨x, o, none⟩) n cap → 0 < l.length → N x)
   (hk : ∀ i (hi : i < l.length), SpT m N Rb w (gs i) l[i])
   (hr : op = 6 ∨ op = 7 → ∃ r, rv = svB r m ∧ Rb r = some (.mk op lo hi mn mx l) ∧ r < w.heap.size) : SpT m N Rb w g (.mk op lo hi mn mx l)
theorem SpT.keep {m : Nat} {N : Nat → Prop} {Rb : Nat → Option RX} {w w' : World} {g : Nat} {p : RX} (h : SpT m N Rb w g p) (hz : w.heap.size ≤ w'.heap.size) (hk : ∀ x, N x → x < w.heap.size → w'.heap[x]? = w.heap[x]?) : SpT m N Rb w' g p := by
 induction h with
 | mk g op lo hi mn mx l ca av rv gs hb hN ha hNa hkk hr ih =>
  refine .mk g op lo hi mn mx l ca av rv gs ((hk g hN (Array.getElem?_eq_some_iff.1 hb).1).trans hb) hN ?_ hNa ih (fun h => ?_)
  ·obtain ⟨a, cap, hv, h1, h2, h0, h3⟩ := ha
   refine ⟨a, cap, hv, h1, h2, h0, fun hl => ?_⟩
   obtain ⟨x, o, hx, hg, hc⟩ := h3 hl
   subst hx
   have hh := hk x (hNa x o _ _ hv hl) hg
   refine ⟨x, o, rfl, Nat.lt_of_lt_of_le hg hz, fun i hi j hj => ?_⟩
   rw [← hc i hi j hj]
   unfold World.cell?
   rw [hh]
  ·obtain ⟨r, h1, h2, h3⟩ := hr h
   exact ⟨r, h1, h2, Nat.lt_of_lt_of_le h3 hz⟩
theorem SpT.mono {m : Nat} {N M : Nat → Prop} {Rb Rb' : Nat → Option RX} {w : World} {g : Nat} {p : RX} (h : SpT m N Rb w g p) (hm : ∀ x, N x → x < w.heap.size → M x) (he : ∀ x, x < w.heap.size → Rb' x = Rb x) : SpT m M Rb' w g p := by
 induction h with
 | mk g op lo hi mn mx l ca av rv gs hb hN ha hNa hkk hr ih =>
  refine .mk g op lo hi mn mx l ca av rv gs hb (hm g hN (Array.getElem?_eq_some_iff.1 hb).1) ha (fun x o n cap hv hl => ?_) ih (fun h => ?_)
  ·refine hm x (hNa x o n cap hv hl) ?_
   obtain ⟨a, cap2, he, _, _, _, h3⟩ := ha
   obtain ⟨g2, o2, rfl, hg2, _⟩ := h3 hl
   rw [hv] at he
   cases he
   exact hg2
  ·obtain ⟨r, h1, h2, h3⟩ := hr h
   exact ⟨r, h1, (he r h3).trans h2, h3⟩
theorem SpT.stay {m : Nat} {N : Nat → Prop} {Rb : Nat → Option RX} {w w' : World} {g : Nat} {p : RX} (h : SpT m N Rb w g p) (hb : Below w.heap.size w w') : SpT m N Rb w' g p := h.keep hb.size (fun x _ hx => hb.block x hx)
abbrev SpR (m : Nat) (Rb : Nat → Option RX) (w : World) (g : Nat) (p : RX) : Prop := SpT m (fun x => Rb x = none) Rb w g p
theorem SpR.keepM {m : Nat} {Rb : Nat → Option RX} {w w' : World} {g : Nat} {p : RX} (h : SpR m Rb w g p) (hk : KeepM Rb w w') : SpR m Rb w' g p := SpT.keep h hk.size (fun x hx hl => hk.block x hl hx)
theorem MemoOK.ext {s : List UInt8} {Rb Rb' : Nat → Option RX} {w : World} (h : MemoOK s Rb w) (he : ∀ x, x < w.heap.size → Rb' x = Rb x) (hn : ∀ x, w.heap.size ≤ x → Rb' x = none) : MemoOK s Rb' w := by
 refine ⟨fun r p hr => ?_⟩
 have hlt : r < w.heap.size := by
  rcases Nat.lt_or_ge r w.heap.size with h1 | h1
  ·exact h1
  ·rw [hn r h1] at hr; cases hr
 obtain ⟨f, hf, hi⟩ := h.rows r p ((he r hlt).symm.trans hr)
 refine ⟨f, hf, fun i h1 => ?_⟩
 rcases hi i h1 with h2 | ⟨g, h2, h3, h4⟩
 ·exact .inl h2
 ·exact .inr ⟨g, h2, (he g h4.lt).trans h3, h4⟩
theorem row_type {w : World} {r n1 n2 : Nat} {t1 t2 : TypeId} {f1 f2 : Nat → Value} (h1 : w.rowIs r t1 n1 f1) (h2 : w.rowIs r t2 n2 f2) : t1 = t2 := by
 obtain ⟨c1, a1, -⟩ := h1
 obtain ⟨c2, a2, -⟩ := h2
 rw [a1] at a2
 cases a2
 rfl
theorem MemoOK.add {s : List UInt8} {Rb : Nat → Option RX} {w : World} (h : MemoOK s Rb w) {r : Nat} (hr : w.rowIs r 84 (s.length + 1) (fun _ => .slice none 0 0)) (p : RX) : MemoOK s (fun x => if x = r then some p else Rb x) w := by
 refine ⟨fun r2 p2 hr2 => ?_⟩
 by_cases he : r2 = r
 ·subst he
  exact ⟨_, hr, fun i _ => .inl rfl⟩
 ·simp only [if_neg he] at hr2
  obtain ⟨f, hf, hi⟩ := h.rows r2 p2 hr2
  refine ⟨f, hf, fun i h1 => ?_⟩
  rcases hi i h1 with h2 | ⟨g, h2, h3, h4⟩
  ·exact .inl h2
  ·refine .inr ⟨g, h2, ?_, h4⟩
   have : g ≠ r := fun hg => by
    subst hg
    have := row_type hr h4
    revert this
    decide
   simp only [if_neg this]
   exact h3
end Go.Proofs.YtpkecepelcppiaaGreatDoor
