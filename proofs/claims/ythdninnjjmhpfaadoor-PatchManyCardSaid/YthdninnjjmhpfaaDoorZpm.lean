/- PatchMany returns true for every number; its tied card. Conditions: none. -/
import Derived.Test.YthdninnjjmhpfaaDoorTd
import Derived.Test.YthdninnjjmhpfaaDoorTe
import Derived.Deep.RegionWith
import Derived.Test.YthdninnjjmhpfaaDoorCc
import Derived.Deep.DeepCutAuto
import Derived.Deep.CutBlock
import Derived.Laws.EntriesVeiled
import Derived.Deep.QuietTactic
import Derived.BigQuiet
import Derived.Test.YthdninnjjmhpfaaDoorKz
import Derived.Test.YthdninnjjmhpfaaDoorPv2
import Derived.Test.YthdninnjjmhpfaaDoorKc
import Derived.Laws.MakeOwn
import Derived.Test.YthdninnjjmhpfaaDoorQ2
import Derived.Test.YthdninnjjmhpfaaDoorCards
import Derived.Test.YthdninnjjmhpfaaDoorTie
import Derived.OpenShut
import Derived.Deep.DeepHandedRow
import Derived.Lay
namespace Go.Proofs.YthdninnjjmhpfaaDoor
open Go.RowKit
set_option maxHeartbeats 4000000
set_option maxRecDepth 100000

theorem eqB_zero (a b : Option Addr) (m k : Nat) (w : World) :
    Calls Tryd.prog 48 #[.slice a 0 m, .slice b 0 k] w fun e w' => e = .returned (.bool true) ∧ w = w' := by
  go_enter Tryd.func48, Tryd.ntmps48
  go_wp2_with fail
  refine wp_loop_rounds 1 ?_
  rw [rounds_succ]
  go_wp2_with fail
  go_ret
  exact ⟨rfl, rfl⟩
theorem eqV_zero (a b : Option Addr) (m k : Nat) (fn : Value) (w : World) :
    Calls Tryd.prog 51 #[.slice a 0 m, .slice b 0 k, fn] w fun e w' => e = .returned (.bool true) ∧ w = w' := by
  go_enter Tryd.func51, Tryd.ntmps51
  go_wp2_with fail
  refine wp_loop_rounds 1 ?_
  rw [rounds_succ]
  go_wp2_with fail
  go_ret
  exact ⟨rfl, rfl⟩
theorem eqF_zero (a b : Option Addr) (m k : Nat) (fn : Value) (w : World) :
    Calls Tryd.prog 52 #[.slice a 0 m, .slice b 0 k, fn] w fun e w' => e = .returned (.bool true) ∧ w = w' := by
  go_enter Tryd.func52, Tryd.ntmps52
  go_wp2_with fail
  refine wp_loop_rounds 1 ?_
  rw [rounds_succ]
  go_wp2_with fail
  go_ret
  exact ⟨rfl, rfl⟩
/-- A call without results that leaves the world alone. -/
def Nil0 (w : World) (e : Ending) (w' : World) : Prop := (∃ v, e = .returned v) ∧ w = w'
theorem ins_zero (a : Option Addr) (m : Nat) (fn : Value) (w : World) :
    Calls Tryd.prog 88 #[.slice a 0 m, .int .i64 0, .int .i64 0, fn] w (Nil0 w) := by
  go_enter Tryd.func88, Tryd.ntmps88
  go_wp2_with fail
  refine wp_loop_rounds 1 ?_
  rw [rounds_succ]
  go_wp2_with fail
  go_end0
  exact ⟨⟨_, rfl⟩, rfl⟩
theorem stable_zero (a : Option Addr) (m : Nat) (fn : Value) (w : World) :
    Calls Tryd.prog 77 #[.slice a 0 m, .int .i64 0, fn] w (Nil0 w) := by
  go_enter Tryd.func77, Tryd.ntmps77
  go_wp2_with fail
  refine wp_loop_rounds 1 ?_
  rw [rounds_succ]
  go_wp2_with fail
  refine (ins_zero _ _ _ _).mono ?_
  rintro e w' ⟨⟨v, rfl⟩, rfl⟩
  go_wp2_with fail
  refine wp_loop_rounds 1 ?_
  rw [rounds_succ]
  go_wp2_with fail
  go_end0
  exact ⟨⟨_, rfl⟩, rfl⟩
theorem sort_zero (a : Option Addr) (m : Nat) (fn : Value) (w : World) :
    Calls Tryd.prog 64 #[.slice a 0 m, fn] w (Nil0 w) := by
  go_enter Tryd.func64, Tryd.ntmps64
  go_wp2_with fail
  refine (stable_zero _ _ _ _).mono ?_
  rintro e w' ⟨⟨v, rfl⟩, rfl⟩
  go_wp2_with fail
  go_end0
  exact ⟨⟨_, rfl⟩, rfl⟩
/-- A slice of no element, and new blocks. -/
def Sl0 (w : World) (e : Ending) (w' : World) : Prop := ∃ a m, e = .returned (.slice a 0 m) ∧ Below w.heap.size w w'
theorem cloneF_zero (a : Option Addr) (m : Nat) (h0 : a = none → m = 0) (w : World) :
    Calls Tryd.prog 63 #[.slice a 0 m] w (Sl0 w) := by
  have hq := fun (w : World) (a : Option Addr) (n c : Nat) => Lib.run_eql_slice_nil (P := Tryd.prog) w 35 52 a n c 0 0 Tryd.underlying35
  rcases a with _ | ad
  · obtain rfl := h0 rfl
    clear h0
    go_enter Tryd.func63, Tryd.ntmps63
    go_wp2_with fail
    go_ret
    exact ⟨_, _, rfl, Below.refl _ _⟩
  · have HC : Hid (∀ j u, ([] : List Value)[j]? = some u → (w.alloc (.cells #[] 52)).cell? (ad.add j) = some u) := fun j u hu => by simp at hu
    have hown : (w.alloc (.cells #[] 52)).ownsRow w.heap.size 52 14 (.slice (some ⟨w.heap.size, 0, none⟩) 0 0) 0 [] := World.ownsRow_made w #[] 0 (Nat.le_refl _) (Nat.zero_le _) rfl
    clear h0
    go_enter Tryd.func63, Tryd.ntmps63
    go_wp2_with (at_builtin; refine wp_rowS elemF rfl _ _ rfl hown ad 0 m [] rfl HC.out (fun u hu => by cases hu) rfl rfl (fun i hi => by simp) (by simp only [maxLen]; omega) (by simp) ?_; intro v' w2 hown2 hg2 hb2 hf2)
    obtain ⟨a', m', rfl⟩ : ∃ a m, v' = .slice a 0 m := by
      rcases hown2.2 with ⟨h, _⟩ | ⟨g, cap, cur, h, _⟩
      · exact ⟨none, 0, h⟩
      · exact ⟨_, _, h⟩
    clear hown2 hg2 hf2
    go_wp2_with fail
    go_ret
    exact ⟨_, _, rfl, ((Below.refl _ w).alloc (Nat.le_refl _) _).trans hb2⟩
theorem sorted_zero (c : VC) (a : Option Addr) (m : Nat) (h0 : a = none → m = 0) (hf : c.f = .slice a 0 m) (w : World) :
    Calls Tryd.prog 49 #[aggV c] w (Sl0 w) := by
  have hbw : ∀ x, Below w.heap.size w (w.alloc x) := fun x => (Below.refl _ _).alloc (Nat.le_refl _) _
  have HB := Lib.hid hbw; clear hbw
  obtain ⟨h, b, l, f⟩ := c
  simp only at hf
  subst hf
  have HCL := Lib.hid (fun w => cloneF_zero a m h0 w)
  clear h0
  go_enter Tryd.func49, Tryd.ntmps49
  go_wp2_with fail
  refine (HCL.out _).mono ?_
  rintro e w1 ⟨a', m', rfl, hb1⟩
  have HB1 := Lib.hid ((HB.out _).trans (hb1.mono (HB.out _).size))
  clear hb1
  go_wp2_with fail
  refine (sort_zero _ _ _ _).mono ?_
  rintro e w' ⟨⟨v, rfl⟩, rfl⟩
  go_wp2_with fail
  go_ret
  exact ⟨_, _, rfl, HB1.out⟩
end Go.Proofs.YthdninnjjmhpfaaDoor

namespace Go.Proofs.YthdninnjjmhpfaaDoor
open Go.RowKit
set_option maxHeartbeats 4000000
set_option maxRecDepth 100000

/-- The cells of a value that reads as null. -/
abbrev cells0 (b l f : Value) : Array Value := #[.int .i64 0, .bool false, .bool false, .string ⟨#[]⟩, .int .i64 0, .int .i64 0, .int .i64 0, .int .i64 0, .int .i64 0, .string ⟨#[]⟩, b, l, f]
theorem alloc4_of {w w0 : World} {X Y Z U : Obj} (h : (((w.alloc X).alloc Y).alloc Z).alloc U = w0) : Below w.heap.size w w0 ∧ w0.heap[w.heap.size]? = some X ∧ w0.heap[w.heap.size + 1]? = some Y ∧ w0.heap[w.heap.size + 2]? = some Z ∧ w0.heap[w.heap.size + 3]? = some U ∧ w0.heap.size = w.heap.size + 4 := by
  obtain ⟨w2, h2⟩ : ∃ w2, w2 = (w.alloc X).alloc Y := ⟨_, rfl⟩
  rw [← h2] at h
  obtain ⟨b1, x1, y1, z1⟩ := alloc2_of h2.symm
  obtain ⟨b2, x2, y2, z2⟩ := alloc2_of h
  rw [z1] at x2 y2 z2
  refine ⟨b1.trans (b2.mono (by omega)), (b2.block _ (by omega)).trans x1, (b2.block _ (by omega)).trans y1, x2, ?_, by omega⟩
  exact y2
/-- Since the call began only new blocks were made; the first four hold what was laid. -/
structure SmW (w wr : World) (A B : Array Value) : Prop where
  b : Below w.heap.size w wr
  x : wr.heap[w.heap.size]? = some (.cells A 37 (0, 0))
  y : wr.heap[w.heap.size + 1]? = some (.cells B 37 (0, 0))
  z : wr.heap[w.heap.size + 1 + 1]? = some (.cells #[.bool false] 4 (0, 0))
  u : wr.heap[w.heap.size + 1 + 1 + 1]? = some (.cells #[.int .i64 65536] 3 (0, 0))
  s : w.heap.size + 4 ≤ wr.heap.size
theorem SmW.below {w wr w2 : World} {A B : Array Value} (h : SmW w wr A B) (hb : Below wr.heap.size wr w2) : SmW w w2 A B :=
  ⟨h.b.trans (hb.mono h.b.size), (hb.block _ (by have := h.s; omega)).trans h.x, (hb.block _ (by have := h.s; omega)).trans h.y, (hb.block _ (by have := h.s; omega)).trans h.z, (hb.block _ (by have := h.s; omega)).trans h.u, Nat.le_trans h.s hb.size⟩
theorem SmW.drewN {w wr : World} {A B : Array Value} (n : Nat) (h : SmW w wr A B) : SmW w (wr.drewN n) A B := h.below (Below.drewN' (Below.refl _ _))
theorem SmW.drew {w wr : World} {A B : Array Value} (h : SmW w wr A B) : SmW w wr.drew A B := h.below ((Below.refl _ _).drew)
theorem SmW.zu {w wr : World} {A B : Array Value} (h : SmW w wr A B) : wr.cell? ⟨w.heap.size + 1 + 1, 0, none⟩ = some (.bool false) ∧ wr.cell? ⟨w.heap.size + 1 + 1 + 1, 0, none⟩ = some (.int .i64 65536) :=
  ⟨(cell_of_row wr _ 0 _ _ (0, 0) h.z).trans rfl, (cell_of_row wr _ 0 _ _ (0, 0) h.u).trans rfl⟩
def TwoSl (v u : Value) : Prop := (∃ a m, v = .slice a 0 m) ∧ ∃ a m, u = .slice a 0 m
theorem same_null (a1 a2 a3 b1 b2 b3 : Option Addr) (m1 m2 m3 k1 k2 k3 : Nat) (ha : a3 = none → m3 = 0) (hb : b3 = none → k3 = 0) (w : World) :
    Calls Tryd.prog 37 #[.agg (cells0 (.slice a1 0 m1) (.slice a2 0 m2) (.slice a3 0 m3)), .agg (cells0 (.slice b1 0 k1) (.slice b2 0 k2) (.slice b3 0 k3)), .bool false, .int .i64 65536] w fun e w' => e = .returned (.bool true) ∧ Below w.heap.size w w' := by
  have HSA : Hid (∀ w', Calls Tryd.prog 49 #[.agg (cells0 (.slice a1 0 m1) (.slice a2 0 m2) (.slice a3 0 m3))] w' (Sl0 w')) := fun w' => sorted_zero ⟨⟨0, false, false, ⟨#[]⟩, 0, 0, 0, 0, 0, ⟨#[]⟩, []⟩, .slice a1 0 m1, .slice a2 0 m2, .slice a3 0 m3⟩ a3 m3 ha rfl w'
  have HSB : Hid (∀ w', Calls Tryd.prog 49 #[.agg (cells0 (.slice b1 0 k1) (.slice b2 0 k2) (.slice b3 0 k3))] w' (Sl0 w')) := fun w' => sorted_zero ⟨⟨0, false, false, ⟨#[]⟩, 0, 0, 0, 0, 0, ⟨#[]⟩, []⟩, .slice b1 0 k1, .slice b2 0 k2, .slice b3 0 k3⟩ b3 k3 hb rfl w'
  clear ha hb
  go_enter Tryd.func37, Tryd.ntmps37
  go_upto_region 1 with fail
  generalize hW : World.alloc (World.alloc (World.alloc (World.alloc w _) _) _) _ = w0
  obtain ⟨hbw, hx, hy, hz, hu, hs⟩ := alloc4_of hW
  have CUR : Hid (SmW w w0 (cells0 (.slice a1 0 m1) (.slice a2 0 m2) (.slice a3 0 m3)) (cells0 (.slice b1 0 k1) (.slice b2 0 k2) (.slice b3 0 k3))) := ⟨hbw, hx, hy, hz, hu, by omega⟩
  clear hbw hx hy hz hu hs hW
  obtain ⟨⟨x0, x1, x2, x3, x4, x5, x6, x7, x8, x9, x10, x11, x12⟩, -⟩ := box13 CUR.out.x
  obtain ⟨⟨y0, y1, y2, y3, y4, y5, y6, y7, y8, y9, y10, y11, y12⟩, -⟩ := box13 CUR.out.y
  obtain ⟨z0, u0⟩ := CUR.out.zu
  go_wp2_with (go_at_call 48; refine (eqB_zero _ _ _ _ _).mono ?_; rintro e w' ⟨rfl, rfl⟩)
  go_quiet (fail)
  generalize hW : World.drewN w0 _ = w1
  have CUR1 : Hid (SmW w w1 (cells0 (.slice a1 0 m1) (.slice a2 0 m2) (.slice a3 0 m3)) (cells0 (.slice b1 0 k1) (.slice b2 0 k2) (.slice b3 0 k3))) := by rw [← hW]; exact CUR.out.drewN _
  clear hW CUR x0 x1 x2 x3 x4 x5 x6 x7 x8 x9 x10 x11 x12 y0 y1 y2 y3 y4 y5 y6 y7 y8 y9 y10 y11 y12 z0 u0
  have CUR := CUR1
  clear CUR1
  obtain ⟨⟨x0, x1, x2, x3, x4, x5, x6, x7, x8, x9, x10, x11, x12⟩, -⟩ := box13 CUR.out.x
  obtain ⟨⟨y0, y1, y2, y3, y4, y5, y6, y7, y8, y9, y10, y11, y12⟩, -⟩ := box13 CUR.out.y
  obtain ⟨z0, u0⟩ := CUR.out.zu
  go_upto_region 5 with fail
  go_cut [9, 10] (fun v u wx => TwoSl v u ∧ SmW w wx (cells0 (.slice a1 0 m1) (.slice a2 0 m2) (.slice a3 0 m3)) (cells0 (.slice b1 0 k1) (.slice b2 0 k2) (.slice b3 0 k3)))
  case first =>
    go_region_with (first
      | (go_at_call 49
         with_reducible refine (HSA.out _).mono ?_
         rintro e w2 ⟨sa, sm, rfl, hb2⟩
         have CUR1 := Lib.hid (SmW.below (by first | exact CUR.out.drew | exact CUR.out) hb2)
         clear hb2 CUR
         clear x0 x1 x2 x3 x4 x5 x6 x7 x8 x9 x10 x11 x12 y0 y1 y2 y3 y4 y5 y6 y7 y8 y9 y10 y11 y12 z0 u0
         have CUR := CUR1
         clear CUR1
         obtain ⟨⟨x0, x1, x2, x3, x4, x5, x6, x7, x8, x9, x10, x11, x12⟩, -⟩ := box13 CUR.out.x
         obtain ⟨⟨y0, y1, y2, y3, y4, y5, y6, y7, y8, y9, y10, y11, y12⟩, -⟩ := box13 CUR.out.y
         obtain ⟨z0, u0⟩ := CUR.out.zu)
      | (go_at_call 49
         with_reducible refine (HSB.out _).mono ?_
         rintro e w3 ⟨sb, sk, rfl, hb3⟩
         have CUR1 := Lib.hid (SmW.below (by first | exact CUR.out.drew | exact CUR.out) hb3)
         clear hb3 CUR
         clear x0 x1 x2 x3 x4 x5 x6 x7 x8 x9 x10 x11 x12 y0 y1 y2 y3 y4 y5 y6 y7 y8 y9 y10 y11 y12 z0 u0
         have CUR := CUR1
         clear CUR1
         obtain ⟨⟨x0, x1, x2, x3, x4, x5, x6, x7, x8, x9, x10, x11, x12⟩, -⟩ := box13 CUR.out.x
         obtain ⟨⟨y0, y1, y2, y3, y4, y5, y6, y7, y8, y9, y10, y11, y12⟩, -⟩ := box13 CUR.out.y
         obtain ⟨z0, u0⟩ := CUR.out.zu))
    all_goals
      go_wp2_with fail
      go_meet
      exact ⟨⟨⟨_, _, rfl⟩, ⟨_, _, rfl⟩⟩, by first | exact CUR.out | exact CUR.out.drew⟩
  case rest =>
    clear x0 x1 x2 x3 x4 x5 x6 x7 x8 x9 x10 x11 x12 y0 y1 y2 y3 y4 y5 y6 y7 y8 y9 y10 y11 y12 z0 u0 CUR
    obtain ⟨⟨⟨sa, sm, rfl⟩, ⟨sb, sk, rfl⟩⟩, CUR⟩ := hcut
    replace CUR := Lib.hid CUR
    have hs1 : w.heap.size < wc.heap.size := by have := CUR.out.s; omega
    have hs2 : w.heap.size + 1 < wc.heap.size := by have := CUR.out.s; omega
    have hs3 : w.heap.size + 1 + 1 < wc.heap.size := by have := CUR.out.s; omega
    have hs4 : w.heap.size + 1 + 1 + 1 < wc.heap.size := by have := CUR.out.s; omega
    obtain ⟨⟨x0, x1, x2, x3, x4, x5, x6, x7, x8, x9, x10, x11, x12⟩, -⟩ := box13 CUR.out.x
    obtain ⟨⟨y0, y1, y2, y3, y4, y5, y6, y7, y8, y9, y10, y11, y12⟩, -⟩ := box13 CUR.out.y
    obtain ⟨z0, u0⟩ := CUR.out.zu
    go_wp2_with (first
      | (go_at_call 51; refine (eqV_zero _ _ _ _ _ _).mono ?_; rintro e w' ⟨rfl, rfl⟩)
      | (go_at_call 52; refine (eqF_zero _ _ _ _ _ _).mono ?_; rintro e w' ⟨rfl, rfl⟩))
    go_ret
    exact ⟨rfl, CUR.out.b.alloc CUR.out.b.size _⟩
end Go.Proofs.YthdninnjjmhpfaaDoor

namespace Go.Proofs.YthdninnjjmhpfaaDoor
open Go.RowKit
set_option maxHeartbeats 4000000
set_option maxRecDepth 100000

abbrev hd0 : Hd := ⟨0, false, false, ⟨#[]⟩, 0, 0, 0, 0, 0, ⟨#[]⟩, []⟩
abbrev null : V := .mk hd0 [] []
/-- The forms of what reads as null. -/
theorem null_forms {w : World} {S : Nat → Prop} {c : VC} (h : RdI w S c null) : ∃ a1 a2 a3 m1 m2 m3, c = ⟨hd0, .slice a1 0 m1, .slice a2 0 m2, .slice a3 0 m3⟩ ∧ (a1 = none → m1 = 0) ∧ (a2 = none → m2 = 0) ∧ (a3 = none → m3 = 0) ∧ m1 ≤ maxLen ∧ m2 ≤ maxLen ∧ m3 ≤ maxLen := by
  cases h with
  | mk h l f bv lv fv lc fc ok hB hl hL hf hK hF sb sl sf =>
  obtain ⟨a1, m1, rfl, _, ⟨_, h1⟩, h2, _⟩ := hB
  obtain ⟨a2, m2, rfl, _, ⟨_, h3⟩, h4, _⟩ := hl
  obtain ⟨a3, m3, rfl, _, ⟨_, h5⟩, h6, _⟩ := hf
  exact ⟨a1, a2, a3, m1, m2, m3, rfl, h2, h4, h6, h1, h3, h5⟩
theorem Equal_null (ca cb : VC) (w : World) (ha : RdV w ca null) (hb : RdV w cb null) :
    Calls Tryd.prog 24 #[aggV ca, aggV cb] w fun e w' => e = .returned (.bool true) ∧ Below w.heap.size w w' := by
  obtain ⟨a1, a2, a3, m1, m2, m3, rfl, -, -, h3, -⟩ := null_forms ha
  obtain ⟨b1, b2, b3, k1, k2, k3, rfl, -, -, i3, -⟩ := null_forms hb
  have HS := Lib.hid (fun w => same_null a1 a2 a3 b1 b2 b3 m1 m2 m3 k1 k2 k3 h3 i3 w)
  clear ha hb h3 i3
  simp only [aggV]
  go_enter Tryd.func24, Tryd.ntmps24
  go_wp2_with fail
  refine (HS.out _).mono ?_
  rintro e w2 ⟨rfl, hb2⟩
  have hbw : Below w.heap.size w w2 := (((Below.refl _ w).alloc (Nat.le_refl _) _).alloc (by simp) _).trans (hb2.mono (by simp; omega))
  go_wp2_with fail
  go_ret
  exact ⟨rfl, hbw⟩
/-- access.at of the path without steps. -/
def AtPost (w : World) (v : V) (q : Int) (e : Ending) (w' : World) : Prop := ∃ c, e = .returned (.tuple #[aggV c, .int .i64 q]) ∧ RdV w' c v ∧ Below w.heap.size w w'
theorem at_nil (v : V) (c : VC) (w : World) (hv : RdV w c v) :
    Calls Tryd.prog 36 #[aggV c, .slice none 0 0] w (AtPost w v 0) := by
  obtain ⟨h, a1, a2, a3, n1, n2, n3, m1, m2, m3, rfl⟩ := hv.forms
  have HV := Lib.hid hv
  clear hv
  simp only [aggV]
  go_enter Tryd.func36, Tryd.ntmps36
  go_wp2_with fail
  refine wp_loop_rounds 1 ?_
  rw [rounds_succ]
  go_wp2_with fail
  have hbw : ∀ X Y, Below w.heap.size w ((w.alloc X).alloc Y) := fun X Y => ((Below.refl _ w).alloc (Nat.le_refl _) _).alloc (by simp) _
  exact bodyPost_ret (v := .tuple #[aggV ⟨h, .slice a1 n1 m1, .slice a2 n2 m2, .slice a3 n3 m3⟩, .int .i64 0]) (by simp [results, Tryd.results36, go_sem]) rfl ⟨_, rfl, HV.out.stays (hbw _ _), hbw _ _⟩
theorem Get_nil (v : V) (c : VC) (w : World) (hn : nodV v ≤ 1000000) (hd : depV v ≤ 65536) (hv : RdV w c v) :
    Calls Tryd.prog 23 #[aggV c, .slice none 0 0] w (AtPost w v 0) := by
  obtain ⟨h, a1, a2, a3, n1, n2, n3, m1, m2, m3, rfl⟩ := hv.forms
  have HV := Lib.hid hv
  have HPV := Lib.hid (fun w' => PValid_any (.slice none 0 0) [] w' Rd.nil)
  have hvp : validP [] = true := rfl
  rw [hvp] at HPV
  clear hv hvp
  have HBW : Hid (∀ X Y, Below w.heap.size w ((w.alloc X).alloc Y)) := fun X Y => ((Below.refl _ w).alloc (Nat.le_refl _) _).alloc (by simp) _
  simp only [aggV]
  go_enter Tryd.func23, Tryd.ntmps23
  go_upto_region 1 with fail
  generalize hW : World.alloc (World.alloc _ _) _ = w1
  obtain ⟨hb, hx, hy, hz⟩ := alloc2_of hW
  have HB1 := Lib.hid hb
  have HX1 := Lib.hid hx
  have HY1 := Lib.hid hy
  have HZ1 := Lib.hid hz
  clear hb hx hy hz hW
  go_wp2_with fail
  refine (HPV.out _).mono ?_
  rintro e w2 ⟨rfl, hb⟩
  have HB2 := Lib.hid (HB1.out.trans (hb.mono HB1.out.size))
  have HX2 := Lib.hid ((hb.block w.heap.size (by have := HZ1.out; omega)).trans HX1.out)
  have HY2 := Lib.hid ((hb.block (w.heap.size + 1) (by have := HZ1.out; omega)).trans HY1.out)
  have HZ2 : Hid (w.heap.size + 2 ≤ w2.heap.size) := by unfold Hid; have := HZ1.out; have := hb.size; omega
  obtain ⟨⟨x0, x1, x2, x3, x4, x5, x6, x7, x8, x9, x10, x11, x12⟩, -⟩ := box13 HX2.out
  clear hb HB1 HX1 HY1 HZ1 HPV
  have HA := Lib.hid (at_nil v ⟨h, .slice a1 n1 m1, .slice a2 n2 m2, .slice a3 n3 m3⟩ w2 (HV.out.stays HB2.out))
  go_wp2_with fail
  refine HA.out.mono ?_
  rintro e w3 ⟨c3, rfl, hr3, hb3⟩
  have HB3 := Lib.hid (HB2.out.trans (hb3.mono HB2.out.size))
  have HY3 := Lib.hid ((hb3.block (w.heap.size + 1) (by have := HZ2.out; omega)).trans HY2.out)
  have HZ3 : Hid (w.heap.size + 2 ≤ w3.heap.size) := by unfold Hid; have := HZ2.out; have := hb3.size; omega
  obtain ⟨g, b1, b2, b3, o1, o2, o3, p1, p2, p3, rfl⟩ := hr3.forms
  have HR3 := Lib.hid hr3
  clear hb3 HB2 HX2 HY2 HZ2 hr3 HA x0 x1 x2 x3 x4 x5 x6 x7 x8 x9 x10 x11 x12
  have HCP := Lib.hid (fun w' (hb : Below w3.heap.size w3 w') => Copy_any v ⟨g, .slice b1 o1 p1, .slice b2 o2 p2, .slice b3 o3 p3⟩ w' hn hd (HR3.out.stays hb))
  go_wp2_with fail
  refine (HCP.out _ ((Below.refl _ _).alloc (Nat.le_refl _) _)).mono ?_
  rintro e w4 ⟨c4, rfl, hr4, hb4⟩
  obtain ⟨k, d1, d2, d3, q1, q2, q3, s1, s2, s3, rfl⟩ := hr4.forms
  have hb4' : Below w3.heap.size w3 w4 := ((Below.refl _ w3).alloc (Nat.le_refl _) _).trans (hb4.mono (by simp))
  have HB4 := Lib.hid (HB3.out.trans (hb4'.mono HB3.out.size))
  have HY4 := Lib.hid ((hb4'.block (w.heap.size + 1) (by have := HZ3.out; omega)).trans HY3.out)
  have HZ4 : Hid (w.heap.size + 2 ≤ w4.heap.size) := by unfold Hid; have := HZ3.out; have := hb4'.size; omega
  obtain ⟨⟨y0, y1, y2, y3, y4, y5, y6, y7, y8, y9, y10, y11, y12⟩, yf⟩ := box13 HY4.out
  have HR4 : Hid (∀ w9 : World, (∀ b, w.heap.size + 2 ≤ b → w9.heap[b]? = w4.heap[b]?) → w9.heap.size = w4.heap.size → RdV w9 ⟨k, .slice d1 q1 s1, .slice d2 q2 s2, .slice d3 q3 s3⟩ v) :=
    fun w9 hk hz9 => (hr4.kept (fun b hb _ => hk b (by have := HZ3.out; simp at hb; omega)) (by omega)).mono (fun _ _ => trivial)
  clear hb4 hb4' HB3 HY3 HCP hr4
  go_wp2_with fail
  refine bodyPost_ret (v := .tuple #[aggV ⟨k, .slice d1 q1 s1, .slice d2 q2 s2, .slice d3 q3 s3⟩, .int .i64 0]) (by simp [results, Tryd.results23, go_sem, y0, y1, y2, y3, y4, y5, y6, y7, y8, y9, y10, y11, y12]) rfl ⟨_, rfl, HR4.out _ (fun b hb => ?_) ?_, ?_⟩
  · repeat rw [heap_setCell_other _ _ b _ (by dsimp only; omega)]
  · simp
  · repeat refine Below.setCell ?_ (by dsimp only; omega) _
    exact HB4.out
end Go.Proofs.YthdninnjjmhpfaaDoor

namespace Go.Proofs.YthdninnjjmhpfaaDoor
open Go.RowKit
set_option maxHeartbeats 4000000
set_option maxRecDepth 100000

abbrev vc0 : VC := ⟨hd0, .slice none 0 0, .slice none 0 0, .slice none 0 0⟩
abbrev tst : CC := ⟨4, .slice none 0 0, 0, vc0, vc0⟩
theorem rd_zero (w : World) : RdV w vc0 null :=
  RdI.mk hd0 [] [] _ _ _ (fun _ => vc0) (fun _ => vc0) ⟨⟨by decide, by decide⟩, ⟨by decide, by decide⟩, ⟨by decide, by decide⟩, ⟨by decide, by decide⟩, ⟨by decide, by decide⟩, ⟨by decide, by decide⟩, by decide, by decide, by decide⟩
    Sl.nil Sl.nil (fun i hi => absurd hi (Nat.not_lt_zero _)) Sl.nil (fun i hi => absurd hi (Nat.not_lt_zero _)) (fun i hi => absurd hi (Nat.not_lt_zero _)) (fun _ _ _ _ _ _ _ => trivial) (fun _ _ _ _ _ _ _ => trivial) (fun _ _ _ _ _ _ _ => trivial)
theorem alloc3_of {w w0 : World} {X Y Z : Obj} (h : ((w.alloc X).alloc Y).alloc Z = w0) : Below w.heap.size w w0 ∧ w0.heap[w.heap.size]? = some X ∧ w0.heap[w.heap.size + 1]? = some Y ∧ w0.heap[w.heap.size + 1 + 1]? = some Z ∧ w0.heap.size = w.heap.size + 3 := by
  obtain ⟨w2, h2⟩ : ∃ w2, w2 = (w.alloc X).alloc Y := ⟨_, rfl⟩
  rw [← h2] at h
  obtain ⟨b1, x1, y1, z1⟩ := alloc2_of h2.symm
  obtain ⟨x2, y2, z2, b2⟩ := alloc_of h
  rw [z1] at x2
  exact ⟨b1.trans (b2.mono (by omega)), (b2.block _ (by omega)).trans x1, (b2.block _ (by omega)).trans y1, x2, by omega⟩
/-- Since the call began only new blocks were made; the first three hold what was laid. -/
structure ApW (w wr : World) (A B C : Array Value) : Prop where
  b : Below w.heap.size w wr
  x : wr.heap[w.heap.size]? = some (.cells A 37 (0, 0))
  y : wr.heap[w.heap.size + 1]? = some (.cells B 39 (0, 0))
  z : wr.heap[w.heap.size + 1 + 1]? = some (.cells C 37 (0, 0))
  s : w.heap.size + 3 ≤ wr.heap.size
theorem ApW.below {w wr w2 : World} {A B C : Array Value} (h : ApW w wr A B C) (hb : Below wr.heap.size wr w2) : ApW w w2 A B C :=
  ⟨h.b.trans (hb.mono h.b.size), (hb.block _ (by have := h.s; omega)).trans h.x, (hb.block _ (by have := h.s; omega)).trans h.y, (hb.block _ (by have := h.s; omega)).trans h.z, Nat.le_trans h.s hb.size⟩
theorem apply_test (c : VC) (w : World) (hv : RdV w c null) :
    Calls Tryd.prog 13 #[aggV c, aggC tst] w (AtPost w null 0) := by
  obtain ⟨a1, a2, a3, m1, m2, m3, rfl, -⟩ := null_forms hv
  have HV := Lib.hid hv
  clear hv
  have ho : oldB 4 = true := rfl
  simp only [aggV]
  go_enter Tryd.func13, Tryd.ntmps13
  go_upto_region 1 with fail
  generalize hW : World.alloc (World.alloc (World.alloc w _) _) _ = w1
  obtain ⟨hbw, hx, hy, hz, hs⟩ := alloc3_of hW
  have CUR : Hid (ApW w w1 (cells0 (.slice a1 0 m1) (.slice a2 0 m2) (.slice a3 0 m3)) (CC.cells tst).toArray (cells0 (.slice none 0 0) (.slice none 0 0) (.slice none 0 0))) := ⟨hbw, hx, hy, hz, by omega⟩
  clear hbw hx hy hz hs hW
  obtain ⟨⟨x0, x1, x2, x3, x4, x5, x6, x7, x8, x9, x10, x11, x12⟩, -⟩ := box13 CUR.out.x
  obtain ⟨⟨⟨y0, y1, y2⟩, -⟩, -⟩ := box29 CUR.out.y
  have HG := Lib.hid (Get_nil null ⟨hd0, .slice a1 0 m1, .slice a2 0 m2, .slice a3 0 m3⟩ w1 (by decide) (by decide) (HV.out.stays CUR.out.b))
  go_wp2_with (go_at_call 16; refine (hasOld_any _ _).mono ?_; rintro e w' ⟨rfl, rfl⟩; rw [ho])
  refine HG.out.mono ?_
  rintro e w2 ⟨c2, rfl, hr2, hb2⟩
  have CUR2 := Lib.hid (CUR.out.below hb2)
  obtain ⟨b1, b2, b3, k1, k2, k3, rfl, -⟩ := null_forms hr2
  have HR2 := Lib.hid hr2
  clear hb2 hr2 CUR HG x0 x1 x2 x3 x4 x5 x6 x7 x8 x9 x10 x11 x12 y0 y1 y2 ho
  obtain ⟨⟨⟨y0, y1, y2⟩, ⟨y3, y4, y5, y6, y7, y8, y9, y10, y11, y12, y13, y14, y15⟩, -⟩, -⟩ := box29 CUR2.out.y
  have hs1 : w.heap.size < w2.heap.size := by have := CUR2.out.s; omega
  have hs2 : w.heap.size + 1 < w2.heap.size := by have := CUR2.out.s; omega
  have hs3 : w.heap.size + 1 + 1 < w2.heap.size := by have := CUR2.out.s; omega
  have HE : Hid (∀ w', Below w2.heap.size w2 w' → Calls Tryd.prog 24 #[.agg (cells0 (.slice b1 0 k1) (.slice b2 0 k2) (.slice b3 0 k3)), .agg (cells0 (.slice none 0 0) (.slice none 0 0) (.slice none 0 0))] w' fun e w2 => e = .returned (.bool true) ∧ Below w'.heap.size w' w2) := fun w' hb => Equal_null ⟨hd0, .slice b1 0 k1, .slice b2 0 k2, .slice b3 0 k3⟩ vc0 w' (HR2.out.stays hb) (rd_zero _)
  go_wp2_with fail
  refine (HE.out _ ((Below.refl _ _).alloc (Nat.le_refl _) _)).mono ?_
  rintro e w3 ⟨rfl, hb3⟩
  have hb3' : Below w2.heap.size w2 w3 := ((Below.refl _ w2).alloc (Nat.le_refl _) _).trans (hb3.mono (by simp))
  have CUR3 := Lib.hid (CUR2.out.below hb3')
  clear hb3 hb3' CUR2 HE HR2 y0 y1 y2 y3 y4 y5 y6 y7 y8 y9 y10 y11 y12 y13 y14 y15 hs1 hs2 hs3
  obtain ⟨⟨x0, x1, x2, x3, x4, x5, x6, x7, x8, x9, x10, x11, x12⟩, -⟩ := box13 CUR3.out.x
  obtain ⟨⟨⟨y0, y1, y2⟩, -⟩, -⟩ := box29 CUR3.out.y
  obtain ⟨⟨z0, z1, z2, z3, z4, z5, z6, z7, z8, z9, z10, z11, z12⟩, zf⟩ := box13 CUR3.out.z
  have HR : Hid (∀ w9 : World, (∀ b, b < w.heap.size → w9.heap[b]? = w3.heap[b]?) → w3.heap.size ≤ w9.heap.size → RdV w9 ⟨hd0, .slice a1 0 m1, .slice a2 0 m2, .slice a3 0 m3⟩ null) := fun w9 hk hz9 =>
    HV.out.kept (fun b _ hb => (hk b hb).trans (CUR3.out.b.block b hb)) (Nat.le_trans CUR3.out.b.size hz9)
  go_wp2_with fail
  refine bodyPost_ret (v := .tuple #[aggV ⟨hd0, .slice a1 0 m1, .slice a2 0 m2, .slice a3 0 m3⟩, .int .i64 0]) (by simp [results, Tryd.results13, go_sem, z0, z1, z2, z3, z4, z5, z6, z7, z8, z9, z10, z11, z12]) rfl ⟨_, rfl, HR.out _ (fun b hb => ?_) ?_, ?_⟩
  · repeat rw [heap_setCell_other _ _ b _ (by dsimp only; omega)]
  · simp
  · repeat refine Below.setCell ?_ (by dsimp only; omega) _
    exact CUR3.out.b
end Go.Proofs.YthdninnjjmhpfaaDoor

namespace Go.Proofs.YthdninnjjmhpfaaDoor
open Go.RowKit
set_option maxHeartbeats 8000000
set_option maxRecDepth 100000

/-- What reads as null in every world. -/
def NulC (c : VC) : Prop := ∃ a1 a2 a3 m1 m2 m3, c = ⟨hd0, .slice a1 0 m1, .slice a2 0 m2, .slice a3 0 m3⟩ ∧ (a1 = none → m1 = 0) ∧ (a2 = none → m2 = 0) ∧ (a3 = none → m3 = 0) ∧ m1 ≤ maxLen ∧ m2 ≤ maxLen ∧ m3 ≤ maxLen
theorem blk_zero {S : Nat → Prop} {a : Option Addr} {m : Nat} : BlkIn S (.slice a 0 m) := by
  intro g o p n cap hv hn
  simp only [Value.slice.injEq] at hv
  omega
theorem sl_zero {w : World} {a : Option Addr} {m size : Nat} {c : Nat → List Value} (h : a = none → m = 0) (hm : m ≤ maxLen) : Sl w (.slice a 0 m) 0 size c :=
  ⟨a, m, rfl, Nat.zero_le _, ⟨Nat.zero_le _, hm⟩, h, fun h => absurd h (Nat.lt_irrefl _)⟩
theorem NulC.rd {c : VC} (h : NulC c) (w : World) : RdV w c null := by
  obtain ⟨a1, a2, a3, m1, m2, m3, rfl, h1, h2, h3, k1, k2, k3⟩ := h
  exact RdI.mk hd0 [] [] _ _ _ (fun _ => vc0) (fun _ => vc0) ⟨⟨by decide, by decide⟩, ⟨by decide, by decide⟩, ⟨by decide, by decide⟩, ⟨by decide, by decide⟩, ⟨by decide, by decide⟩, ⟨by decide, by decide⟩, by decide, by decide, by decide⟩
    (sl_zero h1 k1) (sl_zero h2 k2) (fun i hi => absurd hi (Nat.not_lt_zero _)) (sl_zero h3 k3) (fun i hi => absurd hi (Nat.not_lt_zero _)) (fun i hi => absurd hi (Nat.not_lt_zero _)) blk_zero blk_zero blk_zero
theorem NulC.of {w : World} {S : Nat → Prop} {c : VC} (h : RdI w S c null) : NulC c := null_forms h
theorem nul0 : NulC vc0 := ⟨none, none, none, 0, 0, 0, rfl, fun _ => rfl, fun _ => rfl, fun _ => rfl, Nat.zero_le _, Nat.zero_le _, Nat.zero_le _⟩
abbrev tstC : Ch := ⟨4, [], 0, null, null⟩
theorem rd_tst (w : World) : RdC w (fun _ => True) tst tstC := ⟨rfl, rfl, ⟨by decide, by decide⟩, ⟨by decide, by decide⟩, Rd.nil, fun _ _ _ _ _ _ _ => trivial, rd_zero w, rd_zero w⟩
theorem one_tst : oneC tstC = 0 := by kernel_rfl
/-- n tests of null. -/
def Tsts (w : World) (v : Value) (n : Nat) : Prop := Sl w v n 29 (fun _ => CC.cells tst)
theorem Tsts.rd {w : World} {v : Value} {n : Nat} (h : Tsts w v n) : RdL w v (List.replicate n tstC) := by
  refine ⟨fun _ => tst, by rw [List.length_replicate]; exact h, fun i hi => ?_⟩
  rw [List.getElem_replicate]
  exact rd_tst w
structure ArW (w wr : World) (c : VC) : Prop where
  b : Below w.heap.size w wr
  x : wr.heap[w.heap.size]? = some (.cells (VC.cells c).toArray 37 (0, 0))
  z : wr.heap[w.heap.size + 1]? = some (.cells (VC.cells vc0).toArray 37 (0, 0))
  s : w.heap.size + 2 ≤ wr.heap.size
theorem ArW.below {w wr w2 : World} {c : VC} (h : ArW w wr c) (hb : Below wr.heap.size wr w2) : ArW w w2 c :=
  ⟨h.b.trans (hb.mono h.b.size), (hb.block _ (by have := h.s; omega)).trans h.x, (hb.block _ (by have := h.s; omega)).trans h.z, Nat.le_trans h.s hb.size⟩
/-- What applying hands back. -/
def ArPost (w : World) (n : Nat) (e : Ending) (w' : World) : Prop := ∃ c, NulC c ∧ e = .returned (.tuple #[aggV c, .int .i64 0, .int .i64 (if 4096 < n then 10 else 0)]) ∧ Below w.heap.size w w'
theorem Apply_tsts (c : VC) (v : Value) (n : Nat) (w : World) (hn : n ≤ 1000000) (hc : NulC c) (hv : Tsts w v n) :
    Calls Tryd.prog 8 #[aggV c, v] w (ArPost w n) := by
  obtain ⟨a1, a2, a3, m1, m2, m3, hcf, -⟩ := id hc
  have HC := Lib.hid hc
  obtain ⟨a, cap, rfl, h1, ⟨h2, -⟩, h3, h4⟩ := hv
  have HA := Lib.hid h4
  have HIN : Hid (∀ w1 : World, (w.alloc (.cells (VC.cells c).toArray 37)).alloc (.cells (VC.cells vc0).toArray 37) = w1 → ArW w w1 c) := fun w1 hW => by
    obtain ⟨hb, hx, hy, hz⟩ := alloc2_of hW
    exact ⟨hb, hx, hy, by omega⟩
  clear hc h3 h4 hcf
  have hPOST : ∀ (q : Int) (w9 : World), q = (if 4096 < n then 10 else 0) → Below w.heap.size w w9 → ∀ c9, NulC c9 → ArPost w n (.returned (.tuple #[aggV c9, .int .i64 0, .int .i64 q])) w9 := fun q w9 hq hb c9 h9 => ⟨c9, h9, by rw [hq], hb⟩
  have HP := Lib.hid hPOST
  clear hPOST
  go_enter Tryd.func8, Tryd.ntmps8
  go_upto_region 1 with fail
  generalize hW : World.alloc (World.alloc w _) _ = w1
  have CUR := Lib.hid (HIN.out w1 hW)
  clear HIN hW
  by_cases hbig : 4096 < n
  · have hb : (4096 : Int) < n := by omega
    replace HP := Lib.hid (HP.out 10 · (by rw [if_pos hbig]))
    obtain ⟨⟨z0, z1, z2, z3, z4, z5, z6, z7, z8, z9, z10, z11, z12⟩, zf⟩ := box13 CUR.out.z
    clear hbig
    go_wp2_with fail
    refine bodyPost_ret (v := .tuple #[aggV vc0, .int .i64 0, .int .i64 10]) (by simp [results, Tryd.results8, go_sem, z0, z1, z2, z3, z4, z5, z6, z7, z8, z9, z10, z11, z12]) rfl (HP.out _ ?_ vc0 nul0)
    repeat refine Below.setCell ?_ (by dsimp only; omega) _
    exact CUR.out.b
  have hb : ¬ (4096 : Int) < n := by omega
  replace HP : Hid (∀ (w9 : World), Below w.heap.size w w9 → ∀ c9, NulC c9 → ArPost w n (.returned (.tuple #[aggV c9, .int .i64 0, .int .i64 0])) w9) := fun w9 => HP.out 0 w9 (by rw [if_neg hbig])
  clear hbig
  go_wp2_with fail
  go_loopw [20] (fun iv wr => ∃ k : Nat, k ≤ n ∧ iv = .int .i64 k ∧ Hid (ArW w wr c)) (fun iv _ => n - (intOf iv).toNat)
  case atStart => exact ⟨0, Nat.zero_le _, rfl, CUR.out⟩
  case round =>
    clear CUR
    obtain ⟨k, hk, rfl, CUR⟩ := hrel
    by_cases hlt : k < n
    case pos =>
      obtain ⟨g, o, rfl, hg, hat⟩ := HA.out (by omega)
      have hc29 : Hid (∀ j, j < 29 → wr.cell? ⟨g, o + k * 29 + j, none⟩ = (CC.cells tst)[j]?) := fun j hj => (CUR.out.b.cell hg).trans (hat k hlt j hj)
      have HONEc := Lib.hid (ccells_one (rd_tst w))
      have HO := Lib.hid (fun w' => one_any tstC tst w' (by decide) (by decide) (rd_tst w'))
      rw [one_tst] at HO
      clear hat
      generalize tst = t9 at *
      go_wp2_with (first
        | refine wpl_load rfl rfl stC rfl (ccells_len _) hc29.out ?_
        | (refine wpl_new rfl rfl stC rfl (cs := t9.cells) rfl (ccells_len _) HONEc.out rfl rfl rfl ?_; generalize hW1 : World.alloc wr _ = w1; obtain ⟨ha1, -, hz1, hb1⟩ := alloc_of' hW1; have HA1 := Lib.hid ha1; have HB1 := Lib.hid (CUR.out.below hb1); clear hW1 ha1 hb1)
        | refine wpl_load rfl rfl stC rfl (ccells_len _) (fun j _ => by rw [Nat.zero_add, cell_of_row _ _ _ _ _ _ HA1.out, List.getElem?_toArray]) ?_)
      refine (HO.out _).mono ?_
      rintro e w2 ⟨rfl, hb2⟩
      have HB2 := Lib.hid (HB1.out.below hb2)
      clear hb2 hc29 HO HB1 CUR
      go_wp2_with fail
      exact ⟨⟨k + 1, by omega, rfl, HB2⟩, by simp [intOf]; omega⟩
    case neg =>
      have hkn : k = n := by omega
      subst hkn
      clear hlt hk
      go_wp2_with fail
      go_loopw [35] (fun iv wq => ∃ (j : Nat) (c' : VC), j ≤ k ∧ iv = .int .i64 j ∧ Hid (NulC c') ∧ Hid (ArW w wq c')) (fun iv _ => k - (intOf iv).toNat)
      case atStart => exact ⟨0, c, Nat.zero_le _, rfl, HC.out, CUR.out⟩
      case round =>
        clear CUR HC
        obtain ⟨j, c', hj, rfl, HC, CUR⟩ := hrel
        by_cases hlt : j < k
        case pos =>
          obtain ⟨g, o, rfl, hg, hat⟩ := HA.out (by omega)
          have hc29 : Hid (∀ i, i < 29 → wr.cell? ⟨g, o + j * 29 + i, none⟩ = (CC.cells tst)[i]?) := fun i hi => (CUR.out.b.cell hg).trans (hat j hlt i hi)
          have HONEc := Lib.hid (ccells_one (rd_tst w))
          have HO : Hid (∀ w', Calls Tryd.prog 13 #[.agg c'.cells.toArray, .agg (CC.cells tst).toArray] w' (AtPost w' null 0)) := fun w' => apply_test c' w' (HC.out.rd w')
          clear hat
          generalize tst = t9 at *
          go_wp2_with (first
            | refine wpl_load rfl rfl stC rfl (ccells_len _) hc29.out ?_
            | (refine wpl_new rfl rfl stC rfl (cs := t9.cells) rfl (ccells_len _) HONEc.out rfl rfl rfl ?_; generalize hW1 : World.alloc wr _ = w1; obtain ⟨ha1, -, hz1, hb1⟩ := alloc_of' hW1; have HA1 := Lib.hid ha1; have HB1 := Lib.hid (CUR.out.below hb1); clear hW1 ha1 hb1)
            | refine wpl_load rfl rfl stVk rfl (cells_len c') (rowV HB1.out.x) ?_
            | refine wpl_load rfl rfl stC rfl (ccells_len _) (fun j _ => by rw [Nat.zero_add, cell_of_row _ _ _ _ _ _ HA1.out, List.getElem?_toArray]) ?_)
          refine (HO.out _).mono ?_
          rintro e w2 ⟨c2, rfl, hr2, hb2⟩
          have HB2 := Lib.hid (HB1.out.below hb2)
          have HC2 := Lib.hid (NulC.of hr2)
          have HONE2 := Lib.hid (vc_one hr2)
          clear hb2 hr2 hc29 HO HB1 CUR HC HA1 HONEc
          obtain ⟨b1, b2, b3, k1, k2, k3, hcf, -⟩ := HC2.out
          subst hcf
          have hz2 : w.heap.size < w2.heap.size := by have := HB2.out.s; omega
          go_upto_region 16 with fail
          generalize hW : World.alloc w2 _ = w3
          have hin : w3.heap[w2.heap.size]? = some (.cells (VC.cells ⟨hd0, .slice b1 0 k1, .slice b2 0 k2, .slice b3 0 k3⟩).toArray 37 (0, 0)) ∧ ArW w w3 c' := by
            obtain ⟨h1, _, h3, h4⟩ := alloc_of hW
            exact ⟨h1, HB2.out.below h4⟩
          have HX3 := Lib.hid hin.1
          have HB3 := Lib.hid hin.2
          clear hin hW HB2 hz2
          go_wp2_with (first
            | refine wpl_load rfl rfl stVk rfl (cells_len ⟨hd0, .slice b1 0 k1, .slice b2 0 k2, .slice b3 0 k3⟩) (rowV HX3.out) ?_
            | (refine wpl_store rfl rfl stVk.2 rfl rfl (cs := VC.cells ⟨hd0, .slice b1 0 k1, .slice b2 0 k2, .slice b3 0 k3⟩) rfl (cells_len _) HONE2.out HB3.out.x (by rw [cells_len]; decide) (row := VC.cells ⟨hd0, .slice b1 0 k1, .slice b2 0 k2, .slice b3 0 k3⟩) rfl ?_; generalize hW4 : World.setRow _ _ _ = w4; obtain ⟨hd, hk, hz, hb⟩ := setRow_of hW4 HB3.out.x; have HD4 := Lib.hid hd; have HK4 := Lib.hid hk; have HZ4 := Lib.hid hz; have HB4 := Lib.hid (hb w.heap.size (Nat.le_refl _)); clear hW4 hd hk hz hb))
          have HB5 : Hid (ArW w w4 ⟨hd0, .slice b1 0 k1, .slice b2 0 k2, .slice b3 0 k3⟩) := ⟨HB3.out.b.trans HB4.out, HD4.out, (HK4.out _ (by omega)).trans HB3.out.z, by have := HB3.out.s; have := HZ4.out; omega⟩
          exact ⟨⟨j + 1, _, by omega, rfl, HC2, HB5⟩, by simp [intOf]; omega⟩
        case neg =>
          have hjk : j = k := by omega
          subst hjk
          have HCP : Hid (∀ w', Calls Tryd.prog 14 #[.agg c'.cells.toArray] w' (CpPost w' null)) := fun w' => Copy_any null c' w' (by decide) (by decide) (HC.out.rd w')
          clear hlt hj
          go_wp2_with (refine wpl_load rfl rfl stVk rfl (cells_len c') (rowV CUR.out.x) ?_)
          refine (HCP.out _).mono ?_
          rintro e w2 ⟨c2, rfl, hr2, hb2⟩
          have HB2 := Lib.hid (CUR.out.below hb2)
          have HC2 := Lib.hid (NulC.of hr2)
          obtain ⟨b1, b2, b3, k1, k2, k3, hcf, -⟩ := HC2.out
          subst hcf
          clear hb2 hr2 CUR HC HCP
          obtain ⟨⟨z0, z1, z2, z3, z4, z5, z6, z7, z8, z9, z10, z11, z12⟩, zf⟩ := box13 HB2.out.z
          go_wp2_with fail
          refine bodyPost_ret (v := .tuple #[aggV ⟨hd0, .slice b1 0 k1, .slice b2 0 k2, .slice b3 0 k3⟩, .int .i64 0, .int .i64 0]) (by simp [results, Tryd.results8, go_sem, z0, z1, z2, z3, z4, z5, z6, z7, z8, z9, z10, z11, z12]) rfl (HP.out _ ?_ _ HC2.out)
          repeat refine Below.setCell ?_ (by dsimp only; omega) _
          exact HB2.out.b
end Go.Proofs.YthdninnjjmhpfaaDoor

namespace Go.Proofs.YthdninnjjmhpfaaDoor
open Go.RowKit
set_option maxHeartbeats 8000000
set_option maxRecDepth 100000

abbrev zer : CC := ⟨0, .slice none 0 0, 0, vc0, vc0⟩
/-- The row of n changes of which the first k are tests. -/
structure MkW (w wr : World) (n k : Nat) (arr : Array Value) : Prop where
  b : Below w.heap.size w wr
  s : w.heap.size < wr.heap.size
  x : wr.heap[w.heap.size]? = some (.cells arr 39 (0, 0))
  c : ∀ i, i < n → ∀ j, j < 29 → arr[i * 29 + j]? = (if i < k then CC.cells tst else CC.cells zer)[j]?
theorem MkW.cell {w wr : World} {n k : Nat} {arr : Array Value} (h : MkW w wr n k arr) (i : Nat) (hi : i < n) (j : Nat) (hj : j < 29) : wr.cell? ⟨w.heap.size, i * 29 + j, none⟩ = (if i < k then CC.cells tst else CC.cells zer)[j]? :=
  (cell_of_row wr _ _ _ _ (0, 0) h.x).trans (h.c i hi j hj)
theorem MkW.tsts {w wr : World} {n : Nat} {arr : Array Value} (h : MkW w wr n n arr) (hn : n ≤ 1000000) : Tsts wr (.slice (some ⟨w.heap.size, 0, none⟩) n n) n := by
  refine ⟨_, n, rfl, Nat.le_refl _, ⟨by omega, by unfold maxLen; omega⟩, (fun h => by cases h), fun h0 => ⟨w.heap.size, 0, rfl, h.s, fun i hi j hj => ?_⟩⟩
  rw [Nat.zero_add, h.cell i hi j hj, if_pos hi]
theorem MkW.step {w wr : World} {n k : Nat} {arr : Array Value} (h : MkW w wr n k arr) (hk : k < n) : ∃ arr', MkW w (wr.setCell ⟨w.heap.size, k * 29, none⟩ (.int .i64 4)) n (k + 1) arr' := by
  refine ⟨_, h.b.setCell (p := ⟨w.heap.size, k * 29, none⟩) (Nat.le_refl _) _, by simpa using h.s, heap_setCell_same wr w.heap.size (k * 29) _ _ _ h.x, fun i hi j hj => ?_⟩
  have hin : k * 29 < arr.size := by
    have := h.c k hk 0 (by decide)
    rw [if_neg (Nat.lt_irrefl k)] at this
    exact (Array.getElem?_eq_some_iff.1 (this.trans rfl)).1
  rw [Array.getElem?_setIfInBounds]
  by_cases he : k * 29 = i * 29 + j
  · obtain ⟨rfl, rfl⟩ : k = i ∧ j = 0 := by omega
    rw [if_pos he, if_pos hin, if_pos (Nat.lt_succ_self k)]
    rfl
  · rw [if_neg he, h.c i hi j hj]
    by_cases hik : i < k
    · rw [if_pos hik, if_pos (by omega)]
    · rw [if_neg hik]
      by_cases h2 : i < k + 1
      · obtain rfl : i = k := by omega
        rw [if_pos h2]
        rcases j with _ | j
        · exact absurd rfl he
        · rfl
      · rw [if_neg h2]
theorem zer_info : (Tryd.prog.info? 39).map (fun i => (i.zero, i.size, i.bytes)) = some (some (.agg (CC.cells zer).toArray), 29, 376) := by kernel_rfl
theorem zer_cells : (Value.agg (CC.cells zer).toArray).cells = (CC.cells zer).toArray := by kernel_rfl
theorem make_zer (n : Nat) (hn : n ≤ 1000000) (w : World) : (Instr.makeSlice 22 (.int .i64 (n : Int)) (.int .i64 (n : Int))).run Tryd.prog w = .ok (.slice (some ⟨w.heap.size, 0, none⟩) n n) (w.alloc (.cells (madeCells (CC.cells zer).toArray (n * 29)) 39)) := by
  obtain ⟨i, hi, hz, hs, hb⟩ := info_parts zer_info
  have hr := run_make (P := Tryd.prog) w 22 39 i _ Tryd.underlying22 hi hz .i64 .i64 n n (by omega) (Int.le_refl _) (by rw [hb]; omega) (by omega)
  rw [hr, Int.toNat_natCast, hs, zer_cells]
theorem MkW.start {w w1 : World} (n : Nat) (hW : w.alloc (.cells (madeCells (CC.cells zer).toArray (n * 29)) 39) = w1) : MkW w w1 n 0 (madeCells (CC.cells zer).toArray (n * 29)) := by
  obtain ⟨h1, _, h3, h4⟩ := alloc_of hW
  refine ⟨h4, by omega, h1, fun i hi j hj => ?_⟩
  rw [if_neg (Nat.not_lt_zero _)]
  have hij : i * 29 + j < n * 29 := by omega
  have hmod : (i * 29 + j) % 29 = j := by omega
  have hlen : (CC.cells zer).length = 29 := rfl
  unfold madeCells
  rw [Array.getElem?_map, Array.getElem?_range, if_pos hij]
  simp only [Option.map_some, List.size_toArray, hlen, hmod]
  rw [List.getElem?_eq_getElem (by rw [hlen]; exact hj), getElem!_pos _ _ (by rw [List.size_toArray, hlen]; exact hj)]
  rfl
theorem ManyL_any (m : Nat) (w : World) (hm : m < 65536) :
    Calls Tryd.prog 4 #[.int .u16 m] w fun e w' => e = .returned (.bool true) ∧ Below w.heap.size w w' := by
  obtain ⟨n, hn⟩ : ∃ n, n = m % 5000 := ⟨_, rfl⟩
  have he : (m : Int) % 5000 = (n : Int) := by omega
  have hnb : n ≤ 4999 := by omega
  have hmk := make_zer n (by omega)
  clear hn
  go_enter Tryd.func4, Tryd.ntmps4
  go_wp2_with fail
  rw [he]
  generalize hW : World.alloc w _ = w1
  have CUR0 := Lib.hid (MkW.start n hW)
  clear hW he hmk
  go_loopw [5] (fun iv wr => ∃ (k : Nat) (arr : Array Value), k ≤ n ∧ iv = .int .i64 k ∧ Hid (MkW w wr n k arr)) (fun iv _ => n - (intOf iv).toNat)
  case atStart => exact ⟨0, _, Nat.zero_le _, rfl, CUR0.out⟩
  case round =>
    clear CUR0
    obtain ⟨k, arr, hk, rfl, CUR⟩ := hrel
    by_cases hlt : k < n
    case pos =>
      have hc : wr.cell? ⟨w.heap.size, k * 29, none⟩ = some (.int .i64 0) := by
        have := CUR.out.cell k hlt 0 (by decide)
        rw [if_neg (Nat.lt_irrefl k)] at this
        exact this
      have hf : wr.frozen? ⟨w.heap.size, k * 29, none⟩ = false := by simp [World.frozen?, CUR.out.x]
      obtain ⟨arr', hst⟩ := CUR.out.step hlt
      have HST := Lib.hid hst
      clear hst CUR
      go_wp2_with fail
      exact ⟨⟨k + 1, arr', by omega, rfl, HST.out⟩, by simp [intOf]; omega⟩
    case neg =>
      have hkn : k = n := by omega
      subst hkn
      have HT := Lib.hid (CUR.out.tsts (by omega))
      have HB := Lib.hid CUR.out.b
      have HOK : Hid (okC (List.replicate k tstC)) := ⟨by rw [List.length_replicate]; omega, fun i hi => by rw [List.getElem_replicate]; exact ⟨by decide, by decide⟩⟩
      have HF : Hid ((firstL (List.replicate k tstC)).2 = if 4096 < k then 10 else 0) := by
        unfold Hid firstL
        rw [List.length_replicate]
        by_cases hb : 4096 < k
        · rw [if_pos hb, if_pos hb]
        · rw [if_neg hb, if_neg hb]
          have : ∀ (j i : Nat), firstC (List.replicate j tstC) i = (0, 0) := by
            intro j
            induction j with
            | zero => intro i; rfl
            | succ j ih => intro i; rw [List.replicate_succ, firstC, if_neg (by rw [one_tst]; exact fun h => h rfl), ih]
          rw [this]
      have HAP : Hid (∀ w', Below wr.heap.size wr w' → Calls Tryd.prog 8 #[.agg vc0.cells.toArray, .slice (some ⟨w.heap.size, 0, none⟩) k k] w' (ArPost w' k)) := fun w' hb => Apply_tsts vc0 _ k w' (by omega) nul0 (Sl.below HT.out hb)
      have HCK : Hid (∀ w', Below wr.heap.size wr w' → Calls Tryd.prog 6 #[.slice (some ⟨w.heap.size, 0, none⟩) k k] w' fun e w2 => e = .returned (.int .i64 (if 4096 < k then 10 else 0)) ∧ Below w'.heap.size w' w2) := fun w' hb => by
        refine (PChk_any _ _ w' HOK.out (HT.out.rd.below hb)).mono fun e w2 ⟨he, hb2⟩ => ⟨?_, hb2⟩
        rw [he, HF.out]
        split <;> rfl
      have HSM : Hid (∀ w' c, NulC c → Calls Tryd.prog 9 #[aggV c, .agg vc0.cells.toArray] w' fun e w2 => e = .returned (.bool true) ∧ Below w'.heap.size w' w2) := fun w' c hc => by
        refine (RSame_any _ null null c vc0 w' (Nat.le_refl _) (hc.rd w') (rd_zero w')).mono fun e w2 h => ?_
        exact h
      clear HT CUR HOK HF
      by_cases hbig : 4096 < k
      · have hbi : (4096 : Int) < k := by omega
        replace HCK : Hid (∀ w', Below wr.heap.size wr w' → Calls Tryd.prog 6 #[.slice (some ⟨w.heap.size, 0, none⟩) k k] w' fun e w2 => e = .returned (.int .i64 10) ∧ Below w'.heap.size w' w2) := fun w' hb => (HCK.out w' hb).mono fun e w2 ⟨he, h2⟩ => ⟨by rw [he, if_pos hbig], h2⟩
        replace HAP : Hid (∀ w', Below wr.heap.size wr w' → Calls Tryd.prog 8 #[.agg vc0.cells.toArray, .slice (some ⟨w.heap.size, 0, none⟩) k k] w' fun e w2 => ∃ c, NulC c ∧ e = .returned (.tuple #[aggV c, .int .i64 0, .int .i64 10]) ∧ Below w'.heap.size w' w2) := fun w' hb => (HAP.out w' hb).mono fun e w2 ⟨c, h1, he, h2⟩ => ⟨c, h1, by rw [he, if_pos hbig], h2⟩
        clear hbig
        go_wp2_with fail
        refine (HAP.out _ (Below.refl _ _)).mono ?_
        rintro e w2 ⟨c, hc, rfl, hb2⟩
        have HC := Lib.hid hc
        obtain ⟨b1, b2, b3, k1, k2, k3, rfl, -⟩ := hc
        have HB2 := Lib.hid hb2
        clear hb2
        go_wp2_with fail
        refine (HCK.out _ (HB2.out.trans (((Below.refl _ w2).alloc (Nat.le_refl _) _).mono HB2.out.size))).mono ?_
        rintro e w3 ⟨rfl, hb3⟩
        have HB3 := Lib.hid ((HB.out.trans (HB2.out.mono HB.out.size)).trans ((((Below.refl _ w2).alloc (Nat.le_refl _) _).trans (hb3.mono (by simp))).mono (Nat.le_trans HB.out.size HB2.out.size)))
        have HX3 := Lib.hid ((hb3.block w2.heap.size (by simp)).trans (heap_alloc_new w2 _))
        clear hb3
        obtain ⟨⟨x0, x1, x2, x3, x4, x5, x6, x7, x8, x9, x10, x11, x12⟩, -⟩ := box13 HX3.out
        go_wp2_with fail
        refine (HSM.out _ _ HC.out).mono ?_
        rintro e w4 ⟨rfl, hb4⟩
        have HB4 := Lib.hid (HB3.out.trans (hb4.mono HB3.out.size))
        clear hb4 x0 x1 x2 x3 x4 x5 x6 x7 x8 x9 x10 x11 x12
        go_wp2_with fail
        go_ret
        exact ⟨rfl, HB4.out⟩
      · have hbi : ¬ (4096 : Int) < k := by omega
        replace HCK : Hid (∀ w', Below wr.heap.size wr w' → Calls Tryd.prog 6 #[.slice (some ⟨w.heap.size, 0, none⟩) k k] w' fun e w2 => e = .returned (.int .i64 0) ∧ Below w'.heap.size w' w2) := fun w' hb => (HCK.out w' hb).mono fun e w2 ⟨he, h2⟩ => ⟨by rw [he, if_neg hbig], h2⟩
        replace HAP : Hid (∀ w', Below wr.heap.size wr w' → Calls Tryd.prog 8 #[.agg vc0.cells.toArray, .slice (some ⟨w.heap.size, 0, none⟩) k k] w' fun e w2 => ∃ c, NulC c ∧ e = .returned (.tuple #[aggV c, .int .i64 0, .int .i64 0]) ∧ Below w'.heap.size w' w2) := fun w' hb => (HAP.out w' hb).mono fun e w2 ⟨c, h1, he, h2⟩ => ⟨c, h1, by rw [he, if_neg hbig], h2⟩
        clear hbig
        go_wp2_with fail
        refine (HAP.out _ (Below.refl _ _)).mono ?_
        rintro e w2 ⟨c, hc, rfl, hb2⟩
        have HC := Lib.hid hc
        obtain ⟨b1, b2, b3, k1, k2, k3, rfl, -⟩ := hc
        have HB2 := Lib.hid hb2
        clear hb2
        go_wp2_with fail
        refine (HCK.out _ (HB2.out.trans (((Below.refl _ w2).alloc (Nat.le_refl _) _).mono HB2.out.size))).mono ?_
        rintro e w3 ⟨rfl, hb3⟩
        have HB3 := Lib.hid ((HB.out.trans (HB2.out.mono HB.out.size)).trans ((((Below.refl _ w2).alloc (Nat.le_refl _) _).trans (hb3.mono (by simp))).mono (Nat.le_trans HB.out.size HB2.out.size)))
        have HX3 := Lib.hid ((hb3.block w2.heap.size (by simp)).trans (heap_alloc_new w2 _))
        clear hb3
        obtain ⟨⟨x0, x1, x2, x3, x4, x5, x6, x7, x8, x9, x10, x11, x12⟩, -⟩ := box13 HX3.out
        go_wp2_with fail
        refine (HSM.out _ _ HC.out).mono ?_
        rintro e w4 ⟨rfl, hb4⟩
        have HB4 := Lib.hid (HB3.out.trans (hb4.mono HB3.out.size))
        clear hb4 x0 x1 x2 x3 x4 x5 x6 x7 x8 x9 x10 x11 x12
        go_wp2_with fail
        go_ret
        exact ⟨rfl, HB4.out⟩
end Go.Proofs.YthdninnjjmhpfaaDoor

namespace Go.Proofs.YthdninnjjmhpfaaDoor
open Go.ChangeShapes Go.WideShapes Go.ChangeAt Go.RowKit
set_option maxRecDepth 100000

theorem patchMany_contract (H : Type) (enc : TypeId × Value → H) (W : World) (base : Nat) (args : Array Value) (ds gs : List (DataW H)) (before : List MemPlace)
    (hval0 : ∀ (j : Nat) t v, Tryd.f4.params[j]? = some t → args[j]? = some v → Value.okWide Tryd.prog W .any base t v)
    (hW : DataW.Whole enc Tryd.prog Tryd.f4.params.toList Rows.patchManySpec.vars false W args.toList ds gs before) :
    Calls Tryd.prog 4 args W fun e W' => ∃ v, e = .returned v ∧ Rows.patchManySpec.post enc Tryd.prog Tryd.f4 false true false false W args v W' := by
  have hval := hval0
  have hW' := hW
  obtain ⟨p, q, hA0, hV, hps, hfz, hnd⟩ := hW
  have hA : DataW.TrodAll enc Tryd.prog W 0 (fun _ => true) true Tryd.f4.params.toList args.toList ds p := hA0
  rw [Tryd.params4] at hA hval
  obtain ⟨v0, d0, rfl, rfl, h0⟩ := trodAll_one hA
  obtain ⟨rfl, rfl⟩ := trodVars_none hV
  obtain ⟨s0, rfl, rfl, rfl, w0⟩ := open_int Tryd.underlying27 (hval 0 27 v0 rfl rfl) h0
  have hb : 0 ≤ s0 ∧ s0 ≤ 65535 := by
    have h := w0
    unfold Lit.wf at h
    rw [Bool.and_eq_true] at h
    exact ⟨of_decide_eq_true h.1, of_decide_eq_true h.2⟩
  obtain ⟨m, rfl⟩ : ∃ m : Nat, s0 = m := ⟨s0.toNat, by omega⟩
  refine (ManyL_any m W (by omega)).mono fun e W' ⟨he, hb⟩ => ?_
  subst he
  exact ⟨_, rfl, post_law hW' rfl (by kernel_rfl) (by kernel_rfl) rfl hb⟩
theorem patchMany_met (os : Os) : laidMet Tryd.prog Rows.patchManyRow.laid ((World.laidAll Tryd.prog os Rows.patchManyRow.laid).forCall (fun _ _ => 0) ⟨#[], #[.int .u16 0], []⟩).memory :=
  laidMet_laidAll _ (by kernel_rfl) (by kernel_rfl)
theorem patchMany_reads (os : Os) {H : Type} (enc : TypeId × Value → H) : ∃ places, DataW.whole enc Tryd.prog ((World.laidAll Tryd.prog os Rows.patchManyRow.laid).forCall (fun _ _ => 0) ⟨#[], #[.int .u16 0], []⟩).memory Tryd.f4.params.toList Rows.patchManySpec.vars false #[Value.int .u16 0].toList 8 = some ([.lit (.int .u16 0)], [], places) :=
  ⟨[], by kernel_rfl⟩
theorem patchMany_lifted (os : Os) (started : os.Started) (H : Type) (enc : TypeId × Value → H) (F : Stop.Interp) :
    ReturnsInHanded {} Tryd.checked os 4 .any ((OpenSpec.ofChange Rows.patchManySpec).preRow enc Tryd.prog Tryd.f4 Rows.patchManyRow.domain false Rows.patchManyRow.laid) (((OpenSpec.ofChange Rows.patchManySpec).at F).post enc Tryd.prog Tryd.f4 false true false false) := by
  obtain ⟨places, hx⟩ := patchMany_reads os enc
  refine returnsInHanded_of_row (C := Tryd.checked) (s := OpenSpec.ofChange Rows.patchManySpec) Tryd.own started (by kernel_rfl) Tryd.func4
    (witness_row_at (enc := enc) (C := Tryd.checked) false (World.laidAll Tryd.prog os Rows.patchManyRow.laid) #[.int .u16 0] (World.laidAll_os _ _ _) (by kernel_rfl) (by kernel_rfl) (by kernel_rfl)
      (OpenSpec.preRow_of_cond 8 hx (by kernel_rfl) (fun k hk => by cases hk) (by kernel_rfl) (patchMany_met os))) ?_
  intro W base args ds gs before hval hW _ _ _ _ _ _
  exact patchMany_contract H enc W base args ds gs before hval hW
theorem patchMany_holds : Rows.PatchManySaid :=
  OpenClaim.holds_of_cond 4 Tryd.f4 rfl rfl rfl rfl rfl rfl rfl ⟨rfl, rfl, rfl, rfl, rfl⟩ rfl rfl rfl rfl rfl (by kernel_rfl) Tryd.func4 (by kernel_rfl)
    (of_decide_eq_true (by kernel_rfl)) (by unfold Func.isWrapper; first | (rw [if_pos (by decide +kernel)]; kernel_rfl) | (rw [if_neg (by decide +kernel)]; exact ⟨rfl, rfl⟩))
    (fun os started H enc _ F => by rw [OpenClaim.pre_eq_preRow]; exact patchMany_lifted os started H enc F)
theorem patchMany_plain (f : FuncId) (fn : Func) (hf : Tryd.pinned.checked.prog.funcNamed "datakit/datakitlaw56.PatchMany" = some f) (hfn : Tryd.pinned.checked.prog.funcs[f]? = some fn) :
    false = Tryd.pinned.checked.prog.looks [] ∧ ∀ (j : Nat) t, fn.params[j]? = some t → Tryd.pinned.checked.prog.wantsStandIn t = false := by
  obtain rfl : f = 4 := Option.some.inj ((show Tryd.prog.funcNamed "datakit/datakitlaw56.PatchMany" = some 4 by kernel_rfl).symm.trans hf) |>.symm
  obtain rfl : fn = Tryd.f4 := (Option.some.inj (Tryd.func4.symm.trans hfn)).symm
  refine ⟨by kernel_rfl, fun j t ht => ?_⟩
  rw [Tryd.params4] at ht
  obtain rfl : t = 27 := by simpa using Array.mem_of_getElem? ht
  exact (show Tryd.prog.wantsStandIn 27 = false by kernel_rfl)
theorem patchMany_card : Rows.PatchManyCardSaid :=
  Claim7.holds_tied_plain_at .later [] _ _ _ _ patchMany_holds (fun _ h => by cases h) (by kernel_rfl) (fun _ h => by cases h) patchMany_row_tie rfl ⟨rfl, rfl⟩ (by kernel_rfl) rfl patchMany_plain (by kernel_rfl)
end Go.Proofs.YthdninnjjmhpfaaDoor
