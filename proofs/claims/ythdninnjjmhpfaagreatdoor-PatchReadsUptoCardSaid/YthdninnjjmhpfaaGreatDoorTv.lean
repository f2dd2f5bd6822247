/- Values of the data model in memory: what they read as. Conditions: none. -/
import Derived.Test.YthdninnjjmhpfaaGreatDoorWt
import Derived.Test.YthdninnjjmhpfaaGreatDoorMem
namespace Go.Proofs.YthdninnjjmhpfaaGreatDoor
open Go.RowKit
set_option maxRecDepth 100000
set_option maxHeartbeats 1000000

/-- A value's own part. -/
structure Hd where
  kind : Int
  bool : Bool
  neg : Bool
  ds : ByteArray
  exp : Int
  tk : Int
  day : Int
  nano : Int
  off : Int
  text : ByteArray
  bytes : List UInt8
/-- A value: its own part, its list, its fields. -/
inductive V where
  | mk (h : Hd) (l : List V) (f : List (ByteArray × V))
theorem sz_l (h : Hd) (l : List V) (f : List (ByteArray × V)) (i : Nat) (hi : i < l.length) : SizeOf.sizeOf l[i] < SizeOf.sizeOf (V.mk h l f) := by
  have := List.sizeOf_lt_of_mem (List.getElem_mem hi)
  rw [V.mk.sizeOf_spec]
  omega
theorem sz_f (h : Hd) (l : List V) (f : List (ByteArray × V)) (i : Nat) (hi : i < f.length) : SizeOf.sizeOf f[i].2 < SizeOf.sizeOf (V.mk h l f) := by
  have := List.sizeOf_lt_of_mem (List.getElem_mem hi)
  rw [V.mk.sizeOf_spec]
  have h2 : SizeOf.sizeOf f[i] = 1 + SizeOf.sizeOf f[i].1 + SizeOf.sizeOf f[i].2 := rfl
  omega
def I64 (n : Int) : Prop := -9223372036854775808 ≤ n ∧ n ≤ 9223372036854775807
structure HdOk (h : Hd) : Prop where
  kind : I64 h.kind
  exp : I64 h.exp
  tk : I64 h.tk
  day : I64 h.day
  nano : I64 h.nano
  off : I64 h.off
  ds : h.ds.size ≤ 1000000000
  text : h.text.size ≤ 1000000000
  bytes : h.bytes.length ≤ 1000000000

/-- v is a slice of n elements, size cells each, that reads element i as c i. -/
def Sl (w : World) (v : Value) (n size : Nat) (c : Nat → List Value) : Prop :=
  ∃ (a : Option Addr) (cap : Nat), v = .slice a n cap ∧ n ≤ cap ∧ (n ≤ 140737488351232 ∧ cap ≤ maxLen) ∧ (a = none → cap = 0) ∧
    (0 < n → ∃ g o, a = some ⟨g, o, none⟩ ∧ g < w.heap.size ∧ ∀ i, i < n → ∀ j, j < size → w.cell? ⟨g, o + i * size + j, none⟩ = (c i)[j]?)
theorem Sl.below {w w' : World} {v : Value} {n size : Nat} {c : Nat → List Value} (h : Sl w v n size c) (hb : Below w.heap.size w w') : Sl w' v n size c := by
  obtain ⟨a, cap, hv, h1, h2, h0, h3⟩ := h
  refine ⟨a, cap, hv, h1, h2, h0, fun hl => ?_⟩
  obtain ⟨g, o, ha, hg, hc⟩ := h3 hl
  exact ⟨g, o, ha, Nat.lt_of_lt_of_le hg hb.size, fun i hi j hj => (hb.cell hg).trans (hc i hi j hj)⟩
theorem Sl.nil {w : World} {size : Nat} {c : Nat → List Value} : Sl w (.slice none 0 0) 0 size c :=
  ⟨none, 0, rfl, Nat.le_refl _, ⟨Nat.zero_le _, Nat.zero_le _⟩, fun _ => rfl, fun h => absurd h (Nat.lt_irrefl _)⟩
theorem flat_get {α : Type} (f : α → List Value) (c : Nat) (hf : ∀ x, (f x).length = c) : ∀ (T : List α) (i : Nat) (hi : i < T.length) (j : Nat), j < c → (T.flatMap f)[i * c + j]? = (f T[i])[j]?
  | x :: T, 0, _, j, hj => by
    rw [List.flatMap_cons, List.getElem?_append_left (by rw [hf]; omega)]
    simp
  | x :: T, i + 1, hi, j, hj => by
    rw [List.flatMap_cons, List.getElem?_append_right (by rw [hf, Nat.succ_mul]; omega), hf]
    have := flat_get f c hf T i (by simpa using hi) j hj
    rw [show (i + 1) * c + j - c = i * c + j by rw [Nat.succ_mul]; omega]
    simpa using this
/-- A row of one's own is a slice that reads so. -/
theorem Sl.of_own {α : Type} {w : World} {base size : Nat} {e : TypeId} {v : Value} (f : α → List Value) (hf : ∀ x, (f x).length = size) (T : List α) (h : w.ownsRow base e size v T.length (T.flatMap f)) (hn : T.length ≤ 140737488351232) (c : Nat → List Value) (hc : ∀ i (hi : i < T.length), c i = f T[i]) : Sl w v T.length size c := by
  rcases h.2 with ⟨rfl, h0⟩ | ⟨g, cap, cur, rfl, hb, hh, hnc, hcm, _⟩
  · rw [h0]; exact Sl.nil
  · refine ⟨some ⟨g, 0, none⟩, cap, rfl, hnc, ⟨hn, hcm⟩, (fun h => by cases h), fun _ => ⟨g, 0, rfl, (h.lt g rfl).2, fun i hi j hj => ?_⟩⟩
    have hij : i * size + j < T.length * size := by
      have : (i + 1) * size ≤ T.length * size := Nat.mul_le_mul_right _ hi
      rw [Nat.succ_mul] at this
      omega
    rw [Nat.zero_add, World.ownsRow.cellAt h (i * size + j) hij, flat_get f size hf T i hi j hj, hc i hi]
/-- Bytes. -/
def RdB (w : World) (v : Value) (l : List UInt8) : Prop := Sl w v l.length 1 (fun i => [bv (l.getD i 0)])
theorem RdB.below {w w' : World} {v : Value} {l : List UInt8} (h : RdB w v l) (hb : Below w.heap.size w w') : RdB w' v l := Sl.below h hb

/-- The cells of a value. -/
structure VC where
  h : Hd
  b : Value
  l : Value
  f : Value
def VC.cells (c : VC) : List Value := [.int .i64 c.h.kind, .bool c.h.bool, .bool c.h.neg, .string c.h.ds, .int .i64 c.h.exp, .int .i64 c.h.tk, .int .i64 c.h.day, .int .i64 c.h.nano, .int .i64 c.h.off, .string c.h.text, c.b, c.l, c.f]
/-- The block that a slice's elements lie in is one of S. -/
def BlkIn (S : Nat → Prop) (v : Value) : Prop := ∀ g o p n cap, v = .slice (some ⟨g, o, p⟩) n cap → 0 < n → S g
/-- The cells c read as the value; the blocks that this takes are of S. -/
inductive RdI (w : World) (S : Nat → Prop) : VC → V → Prop
  | mk (h : Hd) (l : List V) (f : List (ByteArray × V)) (bv lv fv : Value) (lc fc : Nat → VC) (ok : HdOk h) (hb : RdB w bv h.bytes)
      (hl : Sl w lv l.length 13 (fun i => (lc i).cells)) (hL : ∀ i (hi : i < l.length), RdI w S (lc i) l[i])
      (hf : Sl w fv f.length 14 (fun i => .string (f.getD i (⟨#[]⟩, .mk h l f)).1 :: (fc i).cells)) (hK : ∀ i (hi : i < f.length), f[i].1.size ≤ 1000000000) (hF : ∀ i (hi : i < f.length), RdI w S (fc i) f[i].2)
      (sb : BlkIn S bv) (sl : BlkIn S lv) (sf : BlkIn S fv) : RdI w S ⟨h, bv, lv, fv⟩ (.mk h l f)
abbrev RdV (w : World) (c : VC) (v : V) : Prop := RdI w (fun _ => True) c v
theorem BlkIn.of_own {w : World} {base size n : Nat} {e : TypeId} {v : Value} {xs : List Value} (h : w.ownsRow base e size v n xs) : BlkIn (fun b => base ≤ b) v := by
  intro g o p m cap hv _
  exact (h.lt g (by rw [hv]; rfl)).1
theorem flat_one : ∀ l : List UInt8, (l.flatMap fun b => [bv b]) = l.map bv
  | [] => rfl
  | b :: t => by rw [List.flatMap_cons, flat_one t]; rfl
theorem RdB.of_own {w : World} {base n : Nat} {e : TypeId} {v : Value} {l : List UInt8} (h : w.ownsRow base e 1 v n (l.map bv)) (hn : n = l.length) (hl : l.length ≤ 140737488351232) : RdB w v l := by
  subst hn
  refine Sl.of_own (fun b => [bv b]) (fun _ => rfl) l (by rw [flat_one]; exact h) hl _ (fun i hi => ?_)
  rw [List.getD_eq_getElem?_getD, List.getElem?_eq_getElem hi]
  rfl
theorem BlkIn.mono {S T : Nat → Prop} {v : Value} (h : BlkIn S v) (hs : ∀ b, S b → T b) : BlkIn T v := fun g o p n cap hv hn => hs _ (h g o p n cap hv hn)
theorem Sl.kept {w w' : World} {v : Value} {n size : Nat} {c : Nat → List Value} {S : Nat → Prop} (h : Sl w v n size c) (hs : BlkIn S v) (hk : ∀ b, S b → b < w.heap.size → w'.heap[b]? = w.heap[b]?) (hz : w.heap.size ≤ w'.heap.size) : Sl w' v n size c := by
  obtain ⟨a, cap, hv, h1, h2, h0, h3⟩ := h
  refine ⟨a, cap, hv, h1, h2, h0, fun hl => ?_⟩
  obtain ⟨g, o, ha, hg, hc⟩ := h3 hl
  refine ⟨g, o, ha, Nat.lt_of_lt_of_le hg hz, fun i hi j hj => ?_⟩
  have hb := hk g (hs g o none n cap (by rw [hv, ha]) hl) hg
  rw [World.cell?_of_block (w := w) (w' := w') (a := ⟨g, o + i * size + j, none⟩) hb]
  exact hc i hi j hj
theorem Sl.blk {w : World} {v : Value} {n size : Nat} {c : Nat → List Value} (h : Sl w v n size c) {S : Nat → Prop} (hs : BlkIn S v) : BlkIn (fun b => S b ∧ b < w.heap.size) v := by
  obtain ⟨a, cap, rfl, h1, h2, h0, h3⟩ := h
  intro g o p m cap' hv hm
  refine ⟨hs g o p m cap' hv hm, ?_⟩
  simp only [Value.slice.injEq] at hv
  obtain ⟨rfl, rfl, rfl⟩ := hv
  obtain ⟨g', o', ha, hg, _⟩ := h3 hm
  simp only [Option.some.injEq, Addr.mk.injEq] at ha
  rw [ha.1]
  exact hg
theorem RdI.kept {w w' : World} {S : Nat → Prop} {c : VC} {v : V} (h : RdI w S c v) (hk : ∀ b, S b → b < w.heap.size → w'.heap[b]? = w.heap[b]?) (hz : w.heap.size ≤ w'.heap.size) : RdI w' S c v := by
  induction h with
  | mk h l f bv lv fv lc fc ok hB hl hL hf hK hF sb sl sf ihL ihF =>
    exact .mk h l f bv lv fv lc fc ok (Sl.kept hB sb hk hz) (Sl.kept hl sl hk hz) (fun i hi => ihL i hi) (Sl.kept hf sf hk hz) hK (fun i hi => ihF i hi) sb sl sf
theorem RdI.mono {w : World} {S T : Nat → Prop} {c : VC} {v : V} (h : RdI w S c v) (hs : ∀ b, S b → T b) : RdI w T c v := by
  induction h with
  | mk h l f bv lv fv lc fc ok hB hl hL hf hK hF sb sl sf ihL ihF =>
    exact .mk h l f bv lv fv lc fc ok hB hl (fun i hi => ihL i hi) hf hK (fun i hi => ihF i hi) (sb.mono hs) (sl.mono hs) (sf.mono hs)
theorem RdI.lt {w : World} {S : Nat → Prop} {c : VC} {v : V} (h : RdI w S c v) : RdI w (fun b => S b ∧ b < w.heap.size) c v := by
  induction h with
  | mk h l f bv lv fv lc fc ok hB hl hL hf hK hF sb sl sf ihL ihF =>
    exact .mk h l f bv lv fv lc fc ok hB hl (fun i hi => ihL i hi) hf hK (fun i hi => ihF i hi) (hB.blk sb) (hl.blk sl) (hf.blk sf)
theorem RdI.stays {w w' : World} {S : Nat → Prop} {c : VC} {v : V} (h : RdI w S c v) (hb : Below w.heap.size w w') : RdI w' S c v := h.kept (fun b _ hb' => hb.block b hb') hb.size
theorem RdI.any {w : World} {S : Nat → Prop} {c : VC} {v : V} (h : RdI w S c v) : RdV w c v := h.mono fun _ _ => trivial
/-- A row's append leaves what lies in other blocks. -/
theorem RdI.push {w w' : World} {base : Nat} {v v' : Value} {c : VC} {x : V} (h : RdI w (fun b => base ≤ b ∧ some b ≠ v.ownBlock) c x) (hg : w.grownBy w' v.ownBlock) (hf : v'.ownBlock = v.ownBlock ∨ ∀ g, v'.ownBlock = some g → w.heap.size ≤ g) :
    RdI w' (fun b => base ≤ b ∧ some b ≠ v'.ownBlock) c x := by
  refine (h.lt.kept (fun b hb _ => hg.block b hb.2 hb.1.2) hg.size).mono fun b hb => ⟨hb.1.1, ?_⟩
  rcases hf with hf | hf
  · rw [hf]; exact hb.1.2
  · intro h'
    have := hf b h'.symm
    omega
end Go.Proofs.YthdninnjjmhpfaaGreatDoor
