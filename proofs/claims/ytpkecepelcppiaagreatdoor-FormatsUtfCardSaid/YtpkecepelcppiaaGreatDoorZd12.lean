/- An argument that is a value (or a list of values) is read. Conditions: none. -/
import Derived.Test.YtpkecepelcppiaaGreatDoorZd1
import Derived.Test.YtpkecepelcppiaaGreatDoorZd6
namespace Go.Proofs.YtpkecepelcppiaaGreatDoor
open Go.RowKit
set_option maxHeartbeats 4000000
set_option maxRecDepth 100000

def Ret (v : Value) (w : World) (e : Ending) (w' : World) : Prop := e = .returned v ∧ Below w.heap.size w w'
theorem form_iff (op lo hi mn mx : Int) (n : Nat) : formR op lo hi mn mx n = true ↔
  ((op = 0 ∨ op = 1) ∧ n = 0 ∧ lo = 0 ∧ hi = 0 ∧ mn = 0 ∧ mx = 0) ∨ (op = 2 ∧ n = 0 ∧ 0 ≤ lo ∧ lo ≤ hi ∧ hi ≤ 255 ∧ mn = 0 ∧ mx = 0) ∨
  ((op = 3 ∨ op = 4 ∨ op = 6) ∧ 2 ≤ n ∧ lo = 0 ∧ hi = 0 ∧ mn = 0 ∧ mx = 0) ∨ (op = 5 ∧ n = 1 ∧ lo = 0 ∧ hi = 0 ∧ 0 ≤ mn ∧ mn ≤ 64 ∧ (mx = -1 ∨ (mn ≤ mx ∧ mx ≤ 64))) ∨
  (op = 7 ∧ n = 1 ∧ lo = 0 ∧ hi = 0 ∧ mn = 0 ∧ mx = 0) := by
 unfold formR
 by_cases h0 : op = 0 ∨ op = 1
 ·rw [if_pos h0, decide_eq_true_eq]
  omega
 rw [if_neg h0]
 by_cases h2 : op = 2
 ·rw [if_pos h2, decide_eq_true_eq]
  omega
 rw [if_neg h2]
 by_cases h3 : op = 3 ∨ op = 4 ∨ op = 6
 ·rw [if_pos h3, decide_eq_true_eq]
  omega
 rw [if_neg h3]
 by_cases h5 : op = 5
 ·rw [if_pos h5, decide_eq_true_eq]
  omega
 rw [if_neg h5]
 by_cases h7 : op = 7
 ·rw [if_pos h7, decide_eq_true_eq]
  omega
 rw [if_neg h7]
 simp
 omega
theorem form_any (op lo hi mn mx : Int) (a : Option Addr) (n cap : Nat) (w : World) :
  Calls Tryz.prog 117 #[.agg #[.int .i64 op, .int .i64 lo, .int .i64 hi, .int .i64 mn, .int .i64 mx, .slice a n cap]] w (Ret (.bool (formR op lo hi mn mx n)) w) := by
 have hb : ∀ x, Below w.heap.size w (w.alloc x) := fun x => (Below.refl _ _).alloc (Nat.le_refl _) _
 have HB := Lib.hid hb
 clear hb
 obtain ⟨r, hr⟩ : ∃ r, r = formR op lo hi mn mx n := ⟨_, rfl⟩
 rw [← hr]
 have HF := Lib.hid (form_iff op lo hi mn mx n)
 rw [← hr] at HF
 clear hr
 have hfin : ∀ b : Bool, (b = true ↔ (((op = 0 ∨ op = 1) ∧ n = 0 ∧ lo = 0 ∧ hi = 0 ∧ mn = 0 ∧ mx = 0) ∨ (op = 2 ∧ n = 0 ∧ 0 ≤ lo ∧ lo ≤ hi ∧ hi ≤ 255 ∧ mn = 0 ∧ mx = 0) ∨
  ((op = 3 ∨ op = 4 ∨ op = 6) ∧ 2 ≤ n ∧ lo = 0 ∧ hi = 0 ∧ mn = 0 ∧ mx = 0) ∨ (op = 5 ∧ n = 1 ∧ lo = 0 ∧ hi = 0 ∧ 0 ≤ mn ∧ mn ≤ 64 ∧ (mx = -1 ∨ (mn ≤ mx ∧ mx ≤ 64))) ∨
  (op = 7 ∧ n = 1 ∧ lo = 0 ∧ hi = 0 ∧ mn = 0 ∧ mx = 0))) → Ending.returned (.bool b) = Ending.returned (.bool r) := by
  intro b hb
  rw [Bool.eq_iff_iff.2 (hb.trans HF.out.symm)]
 have HFIN := Lib.hid hfin
 clear hfin HF
 go_enter Tryz.func117, Tryz.ntmps117
 go_wp2_with fail
 all_goals
  go_ret
  refine ⟨HFIN.out _ ?_, HB.out _⟩
  clear HFIN HB
  repeat (rename (∀ (a : Act) (w : World), _ → _) => hK; clear hK)
  try simp only [bne_iff_ne, ne_eq, bne_eq_false_iff_eq, Bool.false_eq_true, false_iff, true_iff, decide_eq_true_eq, beq_iff_eq, beq_eq_false_iff_ne, Bool.or_eq_true] at *
  omega
end Go.Proofs.YtpkecepelcppiaaGreatDoor

namespace Go.Proofs.YtpkecepelcppiaaGreatDoor
open Go.RowKit
set_option maxRecDepth 100000
set_option maxHeartbeats 1000000

structure Hd where
 kind : Int
 bool : Bool
 neg : Bool
 ds : ByteArray
 exp : Int
 tk : Int
 day : Int
 nano : Int
 off : Int
 text : ByteArray
 bytes : List UInt8
inductive V where
 | mk (h : Hd) (l : List V) (f : List (ByteArray × V))
def I64 (n : Int) : Prop := -9223372036854775808 ≤ n ∧ n ≤ 9223372036854775807
structure HdOk (h : Hd) : Prop where
 kind : I64 h.kind
 exp : I64 h.exp
 tk : I64 h.tk
 day : I64 h.day
 nano : I64 h.nano
 off : I64 h.off
 ds : h.ds.size ≤ 1000000000
 text : h.text.size ≤ 1000000000
 bytes : h.bytes.length ≤ 1000000000

def Sl (w : World) (v : Value) (n size : Nat) (c : Nat → List Value) : Prop :=
 ∃ (a : Option Addr) (cap : Nat), v = .slice a n cap ∧ n ≤ cap ∧ (n ≤ 140737488351232 ∧ cap ≤ maxLen) ∧ (a = none → cap = 0) ∧
  (0 < n → ∃ g o, a = some ⟨g, o, none⟩ ∧ g < w.heap.size ∧ ∀ i, i < n → ∀ j, j < size → w.cell? ⟨g, o + i * size + j, none⟩ = (c i)[j]?)
theorem Sl.below {w w' : World} {v : Value} {n size : Nat} {c : Nat → List Value} (h : Sl w v n size c) (hb : Below w.heap.size w w') : Sl w' v n size c := by
 obtain ⟨a, cap, hv, h1, h2, h0, h3⟩ := h
 refine ⟨a, cap, hv, h1, h2, h0, fun hl => ?_⟩
 obtain ⟨g, o, ha, hg, hc⟩ := h3 hl
 exact ⟨g, o, ha, Nat.lt_of_lt_of_le hg hb.size, fun i hi j hj => (hb.cell hg).trans (hc i hi j hj)⟩
theorem Sl.nil {w : World} {size : Nat} {c : Nat → List Value} : Sl w (.slice none 0 0) 0 size c :=
 ⟨none, 0, rfl, Nat.le_refl _, ⟨Nat.zero_le _, Nat.zero_le _⟩, fun _ => rfl, fun h => absurd h (Nat.lt_irrefl _)⟩
def RdB (w : World) (v : Value) (l : List UInt8) : Prop := Sl w v l.length 1 (fun i => [bv (l.getD i 0)])
theorem RdB.below {w w' : World} {v : Value} {l : List UInt8} (h : RdB w v l) (hb : Below w.heap.size w w') : RdB w' v l := Sl.below h hb

structure VC where
 h : Hd
 b : Value
 l : Value
 f : Value
def VC.cells (c : VC) : List Value := [.int .i64 c.h.kind, .bool c.h.bool, .bool c.h.neg, .string c.h.ds, .int .i64 c.h.exp, .int .i64 c.h.tk, .int .i64 c.h.day, .int .i64 c.h.nano, .int .i64 c.h.off, .string c.h.text, c.b, c.l, c.f]
def BlkIn (S : Nat → Prop) (v : Value) : Prop := ∀ g o p n cap, v = .slice (some ⟨g, o, p⟩) n cap → 0 < n → S g
inductive RdI (w : World) (S : Nat → Prop) : VC → V → Prop
 | mk (h : Hd) (l : List V) (f : List (ByteArray × V)) (bv lv fv : Value) (lc fc : Nat → VC) (ok : HdOk h) (hb : RdB w bv h.bytes)
   (hl : Sl w lv l.length 13 (fun i => (lc i).cells)) (hL : ∀ i (hi : i < l.length), RdI w S (lc i) l[i])
   (hf : Sl w fv f.length 14 (fun i => .string (f.getD i (⟨#[]⟩, .mk h l f)).1 :: (fc i).cells)) (hK : ∀ i (hi : i < f.length), f[i].1.size ≤ 1000000000) (hF : ∀ i (hi : i < f.length), RdI w S (fc i) f[i].2)
   (sb : BlkIn S bv) (sl : BlkIn S lv) (sf : BlkIn S fv) : RdI w S ⟨h, bv, lv, fv⟩ (.mk h l f)
abbrev RdV (w : World) (c : VC) (v : V) : Prop := RdI w (fun _ => True) c v
theorem BlkIn.mono {S T : Nat → Prop} {v : Value} (h : BlkIn S v) (hs : ∀ b, S b → T b) : BlkIn T v := fun g o p n cap hv hn => hs _ (h g o p n cap hv hn)
theorem Sl.kept {w w' : World} {v : Value} {n size : Nat} {c : Nat → List Value} {S : Nat → Prop} (h : Sl w v n size c) (hs : BlkIn S v) (hk : ∀ b, S b → b < w.heap.size → w'.heap[b]? = w.heap[b]?) (hz : w.heap.size ≤ w'.heap.size) : Sl w' v n size c := by
 obtain ⟨a, cap, hv, h1, h2, h0, h3⟩ := h
 refine ⟨a, cap, hv, h1, h2, h0, fun hl => ?_⟩
 obtain ⟨g, o, ha, hg, hc⟩ := h3 hl
 refine ⟨g, o, ha, Nat.lt_of_lt_of_le hg hz, fun i hi j hj => ?_⟩
 have hb := hk g (hs g o none n cap (by rw [hv, ha]) hl) hg
 rw [World.cell?_of_block (w := w) (w' := w') (a := ⟨g, o + i * size + j, none⟩) hb]
 exact hc i hi j hj
theorem Sl.blk {w : World} {v : Value} {n size : Nat} {c : Nat → List Value} (h : Sl w v n size c) {S : Nat → Prop} (hs : BlkIn S v) : BlkIn (fun b => S b ∧ b < w.heap.size) v := by
 obtain ⟨a, cap, rfl, h1, h2, h0, h3⟩ := h
 intro g o p m cap' hv hm
 refine ⟨hs g o p m cap' hv hm, ?_⟩
 simp only [Value.slice.injEq] at hv
 obtain ⟨rfl, rfl, rfl⟩ := hv
 obtain ⟨g', o', ha, hg, _⟩ := h3 hm
 simp only [Option.some.injEq, Addr.mk.injEq] at ha
 rw [ha.1]
 exact hg
theorem RdI.kept {w w' : World} {S : Nat → Prop} {c : VC} {v : V} (h : RdI w S c v) (hk : ∀ b, S b → b < w.heap.size → w'.heap[b]? = w.heap[b]?) (hz : w.heap.size ≤ w'.heap.size) : RdI w' S c v := by
 induction h with
 | mk h l f bv lv fv lc fc ok hB hl hL hf hK hF sb sl sf ihL ihF =>
  exact .mk h l f bv lv fv lc fc ok (Sl.kept hB sb hk hz) (Sl.kept hl sl hk hz) (fun i hi => ihL i hi) (Sl.kept hf sf hk hz) hK (fun i hi => ihF i hi) sb sl sf
theorem RdI.mono {w : World} {S T : Nat → Prop} {c : VC} {v : V} (h : RdI w S c v) (hs : ∀ b, S b → T b) : RdI w T c v := by
 induction h with
 | mk h l f bv lv fv lc fc ok hB hl hL hf hK hF sb sl sf ihL ihF =>
  exact .mk h l f bv lv fv lc fc ok hB hl (fun i hi => ihL i hi) hf hK (fun i hi => ihF i hi) (sb.mono hs) (sl.mono hs) (sf.mono hs)
theorem RdI.lt {w : World} {S : Nat → Prop} {c : VC} {v : V} (h : RdI w S c v) : RdI w (fun b => S b ∧ b < w.heap.size) c v := by
 induction h with
 | mk h l f bv lv fv lc fc ok hB hl hL hf hK hF sb sl sf ihL ihF =>
  exact .mk h l f bv lv fv lc fc ok hB hl (fun i hi => ihL i hi) hf hK (fun i hi => ihF i hi) (hB.blk sb) (hl.blk sl) (hf.blk sf)
theorem RdI.stays {w w' : World} {S : Nat → Prop} {c : VC} {v : V} (h : RdI w S c v) (hb : Below w.heap.size w w') : RdI w' S c v := h.kept (fun b _ hb' => hb.block b hb') hb.size
theorem RdI.any {w : World} {S : Nat → Prop} {c : VC} {v : V} (h : RdI w S c v) : RdV w c v := h.mono fun _ _ => trivial
theorem RdI.push {w w' : World} {base : Nat} {v v' : Value} {c : VC} {x : V} (h : RdI w (fun b => base ≤ b ∧ some b ≠ v.ownBlock) c x) (hg : w.grownBy w' v.ownBlock) (hf : v'.ownBlock = v.ownBlock ∨ ∀ g, v'.ownBlock = some g → w.heap.size ≤ g) :
  RdI w' (fun b => base ≤ b ∧ some b ≠ v'.ownBlock) c x := by
 refine (h.lt.kept (fun b hb _ => hg.block b hb.2 hb.1.2) hg.size).mono fun b hb => ⟨hb.1.1, ?_⟩
 rcases hf with hf | hf
 ·rw [hf]; exact hb.1.2
 ·intro h'
  have := hf b h'.symm
  omega
end Go.Proofs.YtpkecepelcppiaaGreatDoor

namespace Go.Proofs.YtpkecepelcppiaaGreatDoor
open Go.RowKit Go.ChangeShapes Go.Deep
set_option maxRecDepth 100000
set_option maxHeartbeats 1000000

section
variable {H : Type} {enc : TypeId × Value → H} {W : World}
end
end Go.Proofs.YtpkecepelcppiaaGreatDoor
