/- Rows of one's own whose elements are themselves trees in memory. Conditions: none. -/
import Derived.Test.YtlnpfpjncnkekaaGreatDoorZt1
import Derived.Test.YtlnpfpjncnkekaaGreatDoorZt4
import Derived.Deep.Slices
namespace Go.Proofs.YtlnpfpjncnkekaaGreatDoor
open Go.RowKit
set_option maxRecDepth 100000
set_option maxHeartbeats 1000000

/-- A value's own part. -/
structure Hd where
  kind : Int
  bool : Bool
  neg : Bool
  ds : ByteArray
  exp : Int
  tk : Int
  day : Int
  nano : Int
  off : Int
  text : ByteArray
  bytes : List UInt8
/-- A value: its own part, its list, its fields. -/
inductive V where
  | mk (h : Hd) (l : List V) (f : List (ByteArray × V))
theorem sz_l (h : Hd) (l : List V) (f : List (ByteArray × V)) (i : Nat) (hi : i < l.length) : SizeOf.sizeOf l[i] < SizeOf.sizeOf (V.mk h l f) := by
  have := List.sizeOf_lt_of_mem (List.getElem_mem hi)
  rw [V.mk.sizeOf_spec]
  omega
theorem sz_f (h : Hd) (l : List V) (f : List (ByteArray × V)) (i : Nat) (hi : i < f.length) : SizeOf.sizeOf f[i].2 < SizeOf.sizeOf (V.mk h l f) := by
  have := List.sizeOf_lt_of_mem (List.getElem_mem hi)
  rw [V.mk.sizeOf_spec]
  have h2 : SizeOf.sizeOf f[i] = 1 + SizeOf.sizeOf f[i].1 + SizeOf.sizeOf f[i].2 := rfl
  omega
def I64 (n : Int) : Prop := -9223372036854775808 ≤ n ∧ n ≤ 9223372036854775807
structure HdOk (h : Hd) : Prop where
  kind : I64 h.kind
  exp : I64 h.exp
  tk : I64 h.tk
  day : I64 h.day
  nano : I64 h.nano
  off : I64 h.off
  ds : h.ds.size ≤ 1000000000
  text : h.text.size ≤ 1000000000
  bytes : h.bytes.length ≤ 1000000000

/-- v is a slice of n elements, size cells each, that reads element i as c i. -/
def Sl (w : World) (v : Value) (n size : Nat) (c : Nat → List Value) : Prop :=
  ∃ (a : Option Addr) (cap : Nat), v = .slice a n cap ∧ n ≤ cap ∧ (n ≤ 140737488351232 ∧ cap ≤ maxLen) ∧ (a = none → cap = 0) ∧
    (0 < n → ∃ g o, a = some ⟨g, o, none⟩ ∧ g < w.heap.size ∧ ∀ i, i < n → ∀ j, j < size → w.cell? ⟨g, o + i * size + j, none⟩ = (c i)[j]?)
theorem Sl.below {w w' : World} {v : Value} {n size : Nat} {c : Nat → List Value} (h : Sl w v n size c) (hb : Below w.heap.size w w') : Sl w' v n size c := by
  obtain ⟨a, cap, hv, h1, h2, h0, h3⟩ := h
  refine ⟨a, cap, hv, h1, h2, h0, fun hl => ?_⟩
  obtain ⟨g, o, ha, hg, hc⟩ := h3 hl
  exact ⟨g, o, ha, Nat.lt_of_lt_of_le hg hb.size, fun i hi j hj => (hb.cell hg).trans (hc i hi j hj)⟩
theorem Sl.nil {w : World} {size : Nat} {c : Nat → List Value} : Sl w (.slice none 0 0) 0 size c :=
  ⟨none, 0, rfl, Nat.le_refl _, ⟨Nat.zero_le _, Nat.zero_le _⟩, fun _ => rfl, fun h => absurd h (Nat.lt_irrefl _)⟩
theorem flat_getV {α : Type} (f : α → List Value) (c : Nat) (hf : ∀ x, (f x).length = c) : ∀ (T : List α) (i : Nat) (hi : i < T.length) (j : Nat), j < c → (T.flatMap f)[i * c + j]? = (f T[i])[j]?
  | x :: T, 0, _, j, hj => by
    rw [List.flatMap_cons, List.getElem?_append_left (by rw [hf]; omega)]
    simp
  | x :: T, i + 1, hi, j, hj => by
    rw [List.flatMap_cons, List.getElem?_append_right (by rw [hf, Nat.succ_mul]; omega), hf]
    have := flat_getV f c hf T i (by simpa using hi) j hj
    rw [show (i + 1) * c + j - c = i * c + j by rw [Nat.succ_mul]; omega]
    simpa using this
/-- A row of one's own is a slice that reads so. -/
theorem Sl.of_own {α : Type} {w : World} {base size : Nat} {e : TypeId} {v : Value} (f : α → List Value) (hf : ∀ x, (f x).length = size) (T : List α) (h : w.ownsRow base e size v T.length (T.flatMap f)) (hn : T.length ≤ 140737488351232) (c : Nat → List Value) (hc : ∀ i (hi : i < T.length), c i = f T[i]) : Sl w v T.length size c := by
  rcases h.2 with ⟨rfl, h0⟩ | ⟨g, cap, cur, rfl, hb, hh, hnc, hcm, _⟩
  · rw [h0]; exact Sl.nil
  · refine ⟨some ⟨g, 0, none⟩, cap, rfl, hnc, ⟨hn, hcm⟩, (fun h => by cases h), fun _ => ⟨g, 0, rfl, (h.lt g rfl).2, fun i hi j hj => ?_⟩⟩
    have hij : i * size + j < T.length * size := by
      have : (i + 1) * size ≤ T.length * size := Nat.mul_le_mul_right _ hi
      rw [Nat.succ_mul] at this
      omega
    rw [Nat.zero_add, World.ownsRow.cellAt h (i * size + j) hij, flat_getV f size hf T i hi j hj, hc i hi]
/-- Bytes. -/
def RdB (w : World) (v : Value) (l : List UInt8) : Prop := Sl w v l.length 1 (fun i => [bv (l.getD i 0)])
theorem RdB.below {w w' : World} {v : Value} {l : List UInt8} (h : RdB w v l) (hb : Below w.heap.size w w') : RdB w' v l := Sl.below h hb

/-- The cells of a value. -/
structure VC where
  h : Hd
  b : Value
  l : Value
  f : Value
def VC.cells (c : VC) : List Value := [.int .i64 c.h.kind, .bool c.h.bool, .bool c.h.neg, .string c.h.ds, .int .i64 c.h.exp, .int .i64 c.h.tk, .int .i64 c.h.day, .int .i64 c.h.nano, .int .i64 c.h.off, .string c.h.text, c.b, c.l, c.f]
/-- The block that a slice's elements lie in is one of S. -/
def BlkIn (S : Nat → Prop) (v : Value) : Prop := ∀ g o p n cap, v = .slice (some ⟨g, o, p⟩) n cap → 0 < n → S g
/-- The cells c read as the value; the blocks that this takes are of S. -/
inductive RdI (w : World) (S : Nat → Prop) : VC → V → Prop
  | mk (h : Hd) (l : List V) (f : List (ByteArray × V)) (bv lv fv : Value) (lc fc : Nat → VC) (ok : HdOk h) (hb : RdB w bv h.bytes)
      (hl : Sl w lv l.length 13 (fun i => (lc i).cells)) (hL : ∀ i (hi : i < l.length), RdI w S (lc i) l[i])
      (hf : Sl w fv f.length 14 (fun i => .string (f.getD i (⟨#[]⟩, .mk h l f)).1 :: (fc i).cells)) (hK : ∀ i (hi : i < f.length), f[i].1.size ≤ 1000000000) (hF : ∀ i (hi : i < f.length), RdI w S (fc i) f[i].2)
      (sb : BlkIn S bv) (sl : BlkIn S lv) (sf : BlkIn S fv) : RdI w S ⟨h, bv, lv, fv⟩ (.mk h l f)
abbrev RdV (w : World) (c : VC) (v : V) : Prop := RdI w (fun _ => True) c v
theorem BlkIn.of_own {w : World} {base size n : Nat} {e : TypeId} {v : Value} {xs : List Value} (h : w.ownsRow base e size v n xs) : BlkIn (fun b => base ≤ b) v := by
  intro g o p m cap hv _
  exact (h.lt g (by rw [hv]; rfl)).1
theorem flat_one : ∀ l : List UInt8, (l.flatMap fun b => [bv b]) = l.map bv
  | [] => rfl
  | b :: t => by rw [List.flatMap_cons, flat_one t]; rfl
theorem RdB.of_own {w : World} {base n : Nat} {e : TypeId} {v : Value} {l : List UInt8} (h : w.ownsRow base e 1 v n (l.map bv)) (hn : n = l.length) (hl : l.length ≤ 140737488351232) : RdB w v l := by
  subst hn
  refine Sl.of_own (fun b => [bv b]) (fun _ => rfl) l (by rw [flat_one]; exact h) hl _ (fun i hi => ?_)
  rw [List.getD_eq_getElem?_getD, List.getElem?_eq_getElem hi]
  rfl
theorem BlkIn.mono {S T : Nat → Prop} {v : Value} (h : BlkIn S v) (hs : ∀ b, S b → T b) : BlkIn T v := fun g o p n cap hv hn => hs _ (h g o p n cap hv hn)
theorem Sl.kept {w w' : World} {v : Value} {n size : Nat} {c : Nat → List Value} {S : Nat → Prop} (h : Sl w v n size c) (hs : BlkIn S v) (hk : ∀ b, S b → b < w.heap.size → w'.heap[b]? = w.heap[b]?) (hz : w.heap.size ≤ w'.heap.size) : Sl w' v n size c := by
  obtain ⟨a, cap, hv, h1, h2, h0, h3⟩ := h
  refine ⟨a, cap, hv, h1, h2, h0, fun hl => ?_⟩
  obtain ⟨g, o, ha, hg, hc⟩ := h3 hl
  refine ⟨g, o, ha, Nat.lt_of_lt_of_le hg hz, fun i hi j hj => ?_⟩
  have hb := hk g (hs g o none n cap (by rw [hv, ha]) hl) hg
  rw [World.cell?_of_block (w := w) (w' := w') (a := ⟨g, o + i * size + j, none⟩) hb]
  exact hc i hi j hj
theorem Sl.blk {w : World} {v : Value} {n size : Nat} {c : Nat → List Value} (h : Sl w v n size c) {S : Nat → Prop} (hs : BlkIn S v) : BlkIn (fun b => S b ∧ b < w.heap.size) v := by
  obtain ⟨a, cap, rfl, h1, h2, h0, h3⟩ := h
  intro g o p m cap' hv hm
  refine ⟨hs g o p m cap' hv hm, ?_⟩
  simp only [Value.slice.injEq] at hv
  obtain ⟨rfl, rfl, rfl⟩ := hv
  obtain ⟨g', o', ha, hg, _⟩ := h3 hm
  simp only [Option.some.injEq, Addr.mk.injEq] at ha
  rw [ha.1]
  exact hg
theorem RdI.kept {w w' : World} {S : Nat → Prop} {c : VC} {v : V} (h : RdI w S c v) (hk : ∀ b, S b → b < w.heap.size → w'.heap[b]? = w.heap[b]?) (hz : w.heap.size ≤ w'.heap.size) : RdI w' S c v := by
  induction h with
  | mk h l f bv lv fv lc fc ok hB hl hL hf hK hF sb sl sf ihL ihF =>
    exact .mk h l f bv lv fv lc fc ok (Sl.kept hB sb hk hz) (Sl.kept hl sl hk hz) (fun i hi => ihL i hi) (Sl.kept hf sf hk hz) hK (fun i hi => ihF i hi) sb sl sf
theorem RdI.mono {w : World} {S T : Nat → Prop} {c : VC} {v : V} (h : RdI w S c v) (hs : ∀ b, S b → T b) : RdI w T c v := by
  induction h with
  | mk h l f bv lv fv lc fc ok hB hl hL hf hK hF sb sl sf ihL ihF =>
    exact .mk h l f bv lv fv lc fc ok hB hl (fun i hi => ihL i hi) hf hK (fun i hi => ihF i hi) (sb.mono hs) (sl.mono hs) (sf.mono hs)
theorem RdI.lt {w : World} {S : Nat → Prop} {c : VC} {v : V} (h : RdI w S c v) : RdI w (fun b => S b ∧ b < w.heap.size) c v := by
  induction h with
  | mk h l f bv lv fv lc fc ok hB hl hL hf hK hF sb sl sf ihL ihF =>
    exact .mk h l f bv lv fv lc fc ok hB hl (fun i hi => ihL i hi) hf hK (fun i hi => ihF i hi) (hB.blk sb) (hl.blk sl) (hf.blk sf)
theorem RdI.stays {w w' : World} {S : Nat → Prop} {c : VC} {v : V} (h : RdI w S c v) (hb : Below w.heap.size w w') : RdI w' S c v := h.kept (fun b _ hb' => hb.block b hb') hb.size
theorem RdI.any {w : World} {S : Nat → Prop} {c : VC} {v : V} (h : RdI w S c v) : RdV w c v := h.mono fun _ _ => trivial
/-- A row's append leaves what lies in other blocks. -/
theorem RdI.push {w w' : World} {base : Nat} {v v' : Value} {c : VC} {x : V} (h : RdI w (fun b => base ≤ b ∧ some b ≠ v.ownBlock) c x) (hg : w.grownBy w' v.ownBlock) (hf : v'.ownBlock = v.ownBlock ∨ ∀ g, v'.ownBlock = some g → w.heap.size ≤ g) :
    RdI w' (fun b => base ≤ b ∧ some b ≠ v'.ownBlock) c x := by
  refine (h.lt.kept (fun b hb _ => hg.block b hb.2 hb.1.2) hg.size).mono fun b hb => ⟨hb.1.1, ?_⟩
  rcases hf with hf | hf
  · rw [hf]; exact hb.1.2
  · intro h'
    have := hf b h'.symm
    omega
end Go.Proofs.YtlnpfpjncnkekaaGreatDoor

namespace Go.Proofs.YtlnpfpjncnkekaaGreatDoor
open Go.RowKit
set_option maxRecDepth 100000

/-! How many values, and how deep. -/
mutual
def nodV : V → Nat
  | .mk _ l f => 1 + nodL l + nodF f
def nodL : List V → Nat
  | [] => 0
  | x :: t => nodV x + nodL t
def nodF : List (ByteArray × V) → Nat
  | [] => 0
  | (_, x) :: t => nodV x + nodF t
end
theorem nodV_mk (h : Hd) (l : List V) (f : List (ByteArray × V)) : nodV (.mk h l f) = 1 + nodL l + nodF f := by rw [nodV]
theorem nodV_pos (v : V) : 1 ≤ nodV v := by cases v; rw [nodV]; omega
theorem nodL_at : ∀ (l : List V) (i : Nat) (hi : i < l.length), nodV l[i] ≤ nodL l
  | x :: t, 0, _ => by rw [nodL]; simp
  | x :: t, i + 1, hi => by rw [nodL]; have := nodL_at t i (by simpa using hi); simp only [List.getElem_cons_succ]; omega
theorem nodF_at : ∀ (l : List (ByteArray × V)) (i : Nat) (hi : i < l.length), nodV l[i].2 ≤ nodF l
  | (_, x) :: t, 0, _ => by rw [nodF]; simp
  | (_, x) :: t, i + 1, hi => by rw [nodF]; have := nodF_at t i (by simpa using hi); simp only [List.getElem_cons_succ]; omega
theorem nodF_len : ∀ l : List (ByteArray × V), l.length ≤ nodF l
  | [] => by simp
  | (_, x) :: t => by rw [nodF]; have := nodF_len t; have := nodV_pos x; simp only [List.length_cons]; omega

/-! Is there room? -/

/-! Are they identical? -/
def eqH (h h' : Hd) : Bool := decide (h.kind = h'.kind) && (decide (h.bool = h'.bool) && (decide (h.neg = h'.neg ∧ h.ds = h'.ds ∧ h.exp = h'.exp) && (decide (h.tk = h'.tk ∧ h.day = h'.day ∧ h.nano = h'.nano ∧ h.off = h'.off) && (decide (h.text = h'.text) && decide (h.bytes = h'.bytes)))))
theorem eqH_iff (h h' : Hd) : eqH h h' = true ↔ h = h' := by
  obtain ⟨a0, a1, a2, a3, a4, a5, a6, a7, a8, a9, a10⟩ := h
  obtain ⟨b0, b1, b2, b3, b4, b5, b6, b7, b8, b9, b10⟩ := h'
  unfold eqH
  simp only [Bool.and_eq_true, decide_eq_true_iff, Hd.mk.injEq]
  exact ⟨fun ⟨h0, h1, ⟨h2, h3, h4⟩, ⟨h5, h6, h7, h8⟩, h9, h10⟩ => ⟨h0, h1, h2, h3, h4, h5, h6, h7, h8, h9, h10⟩, fun ⟨h0, h1, h2, h3, h4, h5, h6, h7, h8, h9, h10⟩ => ⟨h0, h1, ⟨h2, h3, h4⟩, ⟨h5, h6, h7, h8⟩, h9, h10⟩⟩
mutual
def eqV : V → V → Bool
  | .mk h l f, .mk h' l' f' => eqH h h' && (eqL l l' && eqF f f')
def eqL : List V → List V → Bool
  | [], [] => true
  | x :: t, y :: u => eqV x y && eqL t u
  | _, _ => false
def eqF : List (ByteArray × V) → List (ByteArray × V) → Bool
  | [], [] => true
  | (k, x) :: t, (k', y) :: u => decide (k = k') && (eqV x y && eqF t u)
  | _, _ => false
end
mutual
theorem eqV_iff : ∀ a b : V, eqV a b = true ↔ a = b
  | .mk h l f, .mk h' l' f' => by
    rw [eqV, Bool.and_eq_true, Bool.and_eq_true, eqH_iff, eqL_iff l l', eqF_iff f f', V.mk.injEq]
theorem eqL_iff : ∀ a b : List V, eqL a b = true ↔ a = b
  | [], [] => by simp [eqL]
  | [], _ :: _ => by simp [eqL]
  | _ :: _, [] => by simp [eqL]
  | x :: t, y :: u => by rw [eqL, Bool.and_eq_true, eqV_iff x y, eqL_iff t u, List.cons.injEq]
theorem eqF_iff : ∀ a b : List (ByteArray × V), eqF a b = true ↔ a = b
  | [], [] => by simp [eqF]
  | [], _ :: _ => by simp [eqF]
  | _ :: _, [] => by simp [eqF]
  | (k, x) :: t, (k', y) :: u => by rw [eqF, Bool.and_eq_true, Bool.and_eq_true, decide_eq_true_iff, eqV_iff x y, eqF_iff t u, List.cons.injEq, Prod.mk.injEq, and_assoc]
end
theorem eqV_mk (h h' : Hd) (l l' : List V) (f f' : List (ByteArray × V)) : eqV (.mk h l f) (.mk h' l' f') = (eqH h h' && (eqL l l' && eqF f f')) := by rw [eqV]
theorem eqL_drop (a b : List V) (k : Nat) (h : k < a.length) (h' : k < b.length) : eqL (a.drop k) (b.drop k) = (eqV a[k] b[k] && eqL (a.drop (k + 1)) (b.drop (k + 1))) := by
  rw [List.drop_eq_getElem_cons h, List.drop_eq_getElem_cons h', eqL]
theorem eqF_drop (a b : List (ByteArray × V)) (k : Nat) (h : k < a.length) (h' : k < b.length) : eqF (a.drop k) (b.drop k) = (decide (a[k].1 = b[k].1) && (eqV a[k].2 b[k].2 && eqF (a.drop (k + 1)) (b.drop (k + 1)))) := by
  rw [List.drop_eq_getElem_cons h, List.drop_eq_getElem_cons h']
  obtain ⟨x, y⟩ := a[k]
  obtain ⟨x', y'⟩ := b[k]
  rw [eqF]
end Go.Proofs.YtlnpfpjncnkekaaGreatDoor

namespace Go.Proofs.YtlnpfpjncnkekaaGreatDoor
open Go.RowKit Go.ChangeShapes Go.Deep
set_option maxRecDepth 100000
set_option maxHeartbeats 1000000

theorem cell_lt {w : World} {g i : Nat} {v : Value} (h : w.cell? ⟨g, i, none⟩ = some v) : g < w.heap.size := by
  rcases Nat.lt_or_ge g w.heap.size with h' | h'
  · exact h'
  · simp [World.cell?, Array.getElem?_eq_none h'] at h
theorem pick {α : Type} (d : α) {n : Nat} {p : Nat → α → Prop} (h : ∀ i, i < n → ∃ x, p i x) : ∃ f : Nat → α, ∀ i, i < n → p i (f i) :=
  ⟨fun i => if hi : i < n then (h i hi).choose else d, fun i hi => by simp only [dif_pos hi]; exact (h i hi).choose_spec⟩
section
variable {H : Type} {enc : TypeId × Value → H} {W : World}
theorem u8_val {n : Int} (h : (Lit.int .u8 n).wf = true) : Value.int .u8 n = bv (UInt8.ofNat n.toNat) := by
  unfold Lit.wf at h
  rw [Bool.and_eq_true] at h
  have h1 : (0 : Int) ≤ n := of_decide_eq_true h.1
  have h2 : n ≤ 255 := of_decide_eq_true h.2
  unfold bv
  congr 1
  simp
  omega
theorem cells_len (c : VC) : c.cells.length = 13 := rfl
end
end Go.Proofs.YtlnpfpjncnkekaaGreatDoor

namespace Go.Proofs.YtlnpfpjncnkekaaGreatDoor
open Go.RowKit Go.ChangeShapes Go.Deep
set_option maxRecDepth 100000
set_option maxHeartbeats 1000000

/-- A value's cells as an argument's reading gives them: the head, the bytes, and how long the lists are. -/
structure Flt (w : World) (h : Hd) (bv : Value) (a2 a3 : Option Addr) (n2 m2 n3 m3 : Nat) : Prop where
  kind : I64 h.kind
  exp : I64 h.exp
  tk : I64 h.tk
  day : I64 h.day
  nano : I64 h.nano
  off : I64 h.off
  bts : ∃ a n cap, bv = .slice a n cap ∧ h.bytes.length = n ∧ (n ≤ 2000 → RdB w bv h.bytes)
  l : n2 ≤ m2 ∧ m2 ≤ maxLen ∧ (a2 = none → m2 = 0)
  f : n3 ≤ m3 ∧ m3 ≤ maxLen ∧ (a3 = none → m3 = 0)
section
variable {H : Type} {enc : TypeId × Value → H} {W : World}
theorem flat_slice {fuel : Nat} {t e : TypeId} {v : Value} {x : DataW H × List MemPlace} (ht : Tryz.prog.underlying t = some (.slice e)) (h : DataW.trod enc Tryz.prog W 0 (fun _ => true) true fuel t [v] = some x) :
    ∃ a n m, v = .slice a n m ∧ n ≤ m ∧ m ≤ maxLen ∧ (a = none → m = 0) := by
  rcases DataW.trod_slice ht h with ⟨h0, _⟩ | ⟨a, len, cap, elems, rest, n, hn, h0, rfl, _, hl, hm, _⟩
  · refine ⟨none, 0, 0, by simpa using h0, Nat.le_refl _, Nat.zero_le _, fun _ => rfl⟩
  · exact ⟨some a, len, cap, by simpa using h0, hl, hm, (fun h => by cases h)⟩
theorem flat_bytes {fuel : Nat} {v : Value} {x : DataW H × List MemPlace} (h : DataW.trod enc Tryz.prog W 0 (fun _ => true) true fuel 26 [v] = some x) :
    ∃ (l : List UInt8) (a : Option Addr) (n cap : Nat), v = .slice a n cap ∧ l.length = n ∧ (n ≤ 2000 → RdB W v l) := by
  rcases open_slice1 Tryz.underlying26 (by kernel_rfl) h with ⟨h0, _⟩ | ⟨a, len, cap, m, n, Vf, D, Pl, h0, hb, hl, hm, hmm, _, hx⟩
  · obtain rfl : v = .slice none 0 0 := by simpa using h0
    exact ⟨[], none, 0, 0, rfl, rfl, fun _ => Sl.nil⟩
  · obtain rfl : v = .slice (some a) len cap := by simpa using h0
    rw [if_pos rfl] at hmm
    subst hmm
    have hat : ∀ i, i < m → ∃ b : UInt8, W.cell? (a.add i) = some (bv b) := by
      intro i hi
      obtain ⟨h1, h2⟩ := hx i hi
      obtain ⟨z, e1, _, wf⟩ := DataW.trod_int Tryz.underlying5 h2
      have e2 : Vf i = .int .u8 z := by simpa using e1
      exact ⟨_, by rw [h1, e2, u8_val wf]⟩
    obtain ⟨f, hf⟩ := pick (0 : UInt8) hat
    refine ⟨(List.range len).map f, some a, len, m, rfl, by simp, fun hn => ?_⟩
    refine ⟨some a, m, by simp, by simpa using hl, ⟨by simp; omega, hm⟩, (fun h => by cases h), fun h0 => ?_⟩
    simp only [List.length_map, List.length_range] at h0 ⊢
    obtain ⟨g, o, sp⟩ := a
    have hsp : sp = none := by
      have h2 := hf 0 (by omega)
      cases sp with
      | none => rfl
      | some q =>
        simp [Addr.add, World.cell?] at h2
        split at h2 <;> simp [bv] at h2
    subst hsp
    have hadd : ∀ k, (⟨g, o, none⟩ : Addr).add k = ⟨g, o + k, none⟩ := fun k => by unfold Addr.add; split <;> simp_all
    refine ⟨g, o, rfl, ?_, fun i hi j hj => ?_⟩
    · have h2 := hf 0 (by omega)
      rw [hadd] at h2
      exact cell_lt h2
    · obtain rfl : j = 0 := by omega
      have h2 := hf i (by omega)
      rw [hadd] at h2
      rw [Nat.mul_one, Nat.add_zero, h2, List.getD_eq_getElem?_getD, List.getElem?_map, List.getElem?_range hi]
      rfl
theorem flat_of {fuel : Nat} {cs : List Value} {x : DataW H × List MemPlace} (h : DataW.trod enc Tryz.prog W 0 (fun _ => true) true fuel 30 cs = some x) :
    ∃ h bv a2 a3 n2 m2 n3 m3, cs = VC.cells ⟨h, bv, .slice a2 n2 m2, .slice a3 n3 m3⟩ ∧ Flt W h bv a2 a3 n2 m2 n3 m3 := by
  have hC : Tryz.prog.cellsOf 30 = 13 := by kernel_rfl
  have c1 : Tryz.prog.cellsOf 4 = 1 := by kernel_rfl
  have c2 : Tryz.prog.cellsOf 9 = 1 := by kernel_rfl
  have c3 : Tryz.prog.cellsOf 3 = 1 := by kernel_rfl
  have c4 : Tryz.prog.cellsOf 23 = 3 := by kernel_rfl
  have c5 : Tryz.prog.cellsOf 25 = 4 := by kernel_rfl
  have c6 : Tryz.prog.cellsOf 26 = 1 := by kernel_rfl
  have c7 : Tryz.prog.cellsOf 27 = 1 := by kernel_rfl
  have c8 : Tryz.prog.cellsOf 28 = 1 := by kernel_rfl
  obtain ⟨xs, n, _, _, hlen, hxl, hf⟩ := DataW.trod_struct Tryz.underlying30 h
  have hxl8 : xs.length = 8 := hxl
  rw [hC] at hlen
  match cs, hlen with
  | [a0, a1, a2, a3, a4, a5, a6, a7, a8, a9, a10, a11, a12], _ =>
    have h0 : DataW.trod enc Tryz.prog W 0 (fun _ => true) true n 3 (([a0, a1, a2, a3, a4, a5, a6, a7, a8, a9, a10, a11, a12].drop 0).take (Tryz.prog.cellsOf 3)) = some (xs[0]'(by omega)) := by rw [← List.getElem?_eq_getElem]; exact hf 0 _ rfl
    have h1 : DataW.trod enc Tryz.prog W 0 (fun _ => true) true n 4 (([a0, a1, a2, a3, a4, a5, a6, a7, a8, a9, a10, a11, a12].drop 1).take (Tryz.prog.cellsOf 4)) = some (xs[1]'(by omega)) := by rw [← List.getElem?_eq_getElem]; exact hf 1 _ rfl
    have h2 : DataW.trod enc Tryz.prog W 0 (fun _ => true) true n 23 (([a0, a1, a2, a3, a4, a5, a6, a7, a8, a9, a10, a11, a12].drop 2).take (Tryz.prog.cellsOf 23)) = some (xs[2]'(by omega)) := by rw [← List.getElem?_eq_getElem]; exact hf 2 _ rfl
    have h3 : DataW.trod enc Tryz.prog W 0 (fun _ => true) true n 25 (([a0, a1, a2, a3, a4, a5, a6, a7, a8, a9, a10, a11, a12].drop 5).take (Tryz.prog.cellsOf 25)) = some (xs[3]'(by omega)) := by rw [← List.getElem?_eq_getElem]; exact hf 3 _ rfl
    have h4 : DataW.trod enc Tryz.prog W 0 (fun _ => true) true n 9 (([a0, a1, a2, a3, a4, a5, a6, a7, a8, a9, a10, a11, a12].drop 9).take (Tryz.prog.cellsOf 9)) = some (xs[4]'(by omega)) := by rw [← List.getElem?_eq_getElem]; exact hf 4 _ rfl
    have h5 : DataW.trod enc Tryz.prog W 0 (fun _ => true) true n 26 (([a0, a1, a2, a3, a4, a5, a6, a7, a8, a9, a10, a11, a12].drop 10).take (Tryz.prog.cellsOf 26)) = some (xs[5]'(by omega)) := by rw [← List.getElem?_eq_getElem]; exact hf 5 _ rfl
    have h6 : DataW.trod enc Tryz.prog W 0 (fun _ => true) true n 27 (([a0, a1, a2, a3, a4, a5, a6, a7, a8, a9, a10, a11, a12].drop 11).take (Tryz.prog.cellsOf 27)) = some (xs[6]'(by omega)) := by rw [← List.getElem?_eq_getElem]; exact hf 6 _ rfl
    have h7 : DataW.trod enc Tryz.prog W 0 (fun _ => true) true n 28 (([a0, a1, a2, a3, a4, a5, a6, a7, a8, a9, a10, a11, a12].drop 12).take (Tryz.prog.cellsOf 28)) = some (xs[7]'(by omega)) := by rw [← List.getElem?_eq_getElem]; exact hf 7 _ rfl
    rw [c3] at h0
    rw [c1] at h1
    rw [c4] at h2
    rw [c5] at h3
    rw [c2] at h4
    rw [c6] at h5
    rw [c7] at h6
    rw [c8] at h7
    obtain ⟨b0, e0, _, wf0⟩ := DataW.trod_int Tryz.underlying3 h0
    obtain ⟨b1, e1, _⟩ := DataW.trod_bool Tryz.underlying4 h1
    obtain ⟨s4, e4, _⟩ := DataW.trod_string Tryz.underlying9 h4
    obtain ⟨bs, ba, bn, bc, e5, hbl, hbr⟩ := flat_bytes (v := a10) (by simpa using h5)
    obtain ⟨la, n2, m2, e6, l1, l2, l3⟩ := flat_slice (v := a11) Tryz.underlying27 (by simpa using h6)
    obtain ⟨fa, n3, m3, e7, f1, f2, f3⟩ := flat_slice (v := a12) Tryz.underlying28 (by simpa using h7)
    obtain ⟨zs, k, _, _, _, hzl, hg⟩ := DataW.trod_struct Tryz.underlying23 h2
    have hzl3 : zs.length = 3 := hzl
    have g0 : DataW.trod enc Tryz.prog W 0 (fun _ => true) true k 4 (([a2, a3, a4].drop 0).take (Tryz.prog.cellsOf 4)) = some (zs[0]'(by omega)) := by rw [← List.getElem?_eq_getElem]; exact hg 0 _ rfl
    have g1 : DataW.trod enc Tryz.prog W 0 (fun _ => true) true k 9 (([a2, a3, a4].drop 1).take (Tryz.prog.cellsOf 9)) = some (zs[1]'(by omega)) := by rw [← List.getElem?_eq_getElem]; exact hg 1 _ rfl
    have g2 : DataW.trod enc Tryz.prog W 0 (fun _ => true) true k 3 (([a2, a3, a4].drop 2).take (Tryz.prog.cellsOf 3)) = some (zs[2]'(by omega)) := by rw [← List.getElem?_eq_getElem]; exact hg 2 _ rfl
    rw [c1] at g0
    rw [c2] at g1
    rw [c3] at g2
    obtain ⟨ng, e8, _⟩ := DataW.trod_bool Tryz.underlying4 g0
    obtain ⟨ds, e9, _⟩ := DataW.trod_string Tryz.underlying9 g1
    obtain ⟨ex, e10, _, wfe⟩ := DataW.trod_int Tryz.underlying3 g2
    obtain ⟨us, k2, _, _, _, hul, hu⟩ := DataW.trod_struct Tryz.underlying25 h3
    have hul4 : us.length = 4 := hul
    have u0 : DataW.trod enc Tryz.prog W 0 (fun _ => true) true k2 3 (([a5, a6, a7, a8].drop 0).take (Tryz.prog.cellsOf 3)) = some (us[0]'(by omega)) := by rw [← List.getElem?_eq_getElem]; exact hu 0 _ rfl
    have u1 : DataW.trod enc Tryz.prog W 0 (fun _ => true) true k2 3 (([a5, a6, a7, a8].drop 1).take (Tryz.prog.cellsOf 3)) = some (us[1]'(by omega)) := by rw [← List.getElem?_eq_getElem]; exact hu 1 _ rfl
    have u2 : DataW.trod enc Tryz.prog W 0 (fun _ => true) true k2 3 (([a5, a6, a7, a8].drop 2).take (Tryz.prog.cellsOf 3)) = some (us[2]'(by omega)) := by rw [← List.getElem?_eq_getElem]; exact hu 2 _ rfl
    have u3 : DataW.trod enc Tryz.prog W 0 (fun _ => true) true k2 3 (([a5, a6, a7, a8].drop 3).take (Tryz.prog.cellsOf 3)) = some (us[3]'(by omega)) := by rw [← List.getElem?_eq_getElem]; exact hu 3 _ rfl
    rw [c3] at u0 u1 u2 u3
    obtain ⟨t0, d0, _, wt0⟩ := DataW.trod_int Tryz.underlying3 u0
    obtain ⟨t1, d1, _, wt1⟩ := DataW.trod_int Tryz.underlying3 u1
    obtain ⟨t2, d2, _, wt2⟩ := DataW.trod_int Tryz.underlying3 u2
    obtain ⟨t3, d3, _, wt3⟩ := DataW.trod_int Tryz.underlying3 u3
    simp only [List.drop_zero, List.drop_succ_cons, List.take_succ_cons, List.take_zero, List.cons.injEq, and_true] at e0 e1 e4 e8 e9 e10 d0 d1 d2 d3
    subst e0 e1 e4 e8 e9 e10 d0 d1 d2 d3 e6 e7
    exact ⟨⟨b0, b1, ng, ds, ex, t0, t1, t2, t3, s4, bs⟩, a10, la, fa, n2, m2, n3, m3, rfl, i64_of_wf wf0, i64_of_wf wfe, i64_of_wf wt0, i64_of_wf wt1, i64_of_wf wt2, i64_of_wf wt3, ⟨ba, bn, bc, e5, hbl, hbr⟩, ⟨l1, l2, l3⟩, ⟨f1, f2, f3⟩⟩
end
/-- Without elements it is a value that is read. -/
theorem Flt.rd {w : World} {h : Hd} {bv : Value} {a2 a3 : Option Addr} {m2 m3 : Nat} (hf : Flt w h bv a2 a3 0 m2 0 m3) (hd : h.ds.size ≤ 1000000000) (ht : h.text.size ≤ 2000) (hb : h.bytes.length ≤ 2000) :
    RdV w ⟨h, bv, .slice a2 0 m2, .slice a3 0 m3⟩ (.mk h [] []) := by
  obtain ⟨b1, b2, b3, b4, b5, b6, ⟨a, n, cap, _, hn, hr⟩, ⟨_, l2, l3⟩, ⟨_, f2, f3⟩⟩ := hf
  exact .mk h [] [] bv _ _ (fun _ => ⟨h, bv, bv, bv⟩) (fun _ => ⟨h, bv, bv, bv⟩) ⟨b1, b2, b3, b4, b5, b6, hd, by omega, by omega⟩ (hr (by omega))
    ⟨a2, m2, rfl, Nat.zero_le _, ⟨Nat.zero_le _, l2⟩, l3, fun h => absurd h (Nat.lt_irrefl _)⟩ (fun _ hi => absurd hi (Nat.not_lt_zero _))
    ⟨a3, m3, rfl, Nat.zero_le _, ⟨Nat.zero_le _, f2⟩, f3, fun h => absurd h (Nat.lt_irrefl _)⟩ (fun _ hi => absurd hi (Nat.not_lt_zero _)) (fun _ hi => absurd hi (Nat.not_lt_zero _)) (fun _ _ _ _ _ _ _ => trivial) (fun _ _ _ _ _ _ _ => trivial) (fun _ _ _ _ _ _ _ => trivial)
end Go.Proofs.YtlnpfpjncnkekaaGreatDoor

namespace Go.Proofs.YtlnpfpjncnkekaaGreatDoor
open Go.RowKit
set_option maxRecDepth 100000
set_option maxHeartbeats 1000000

/-- A reading that is not touched by what becomes of other blocks. -/
structure Stb {α β : Type} (rd : World → (Nat → Prop) → β → α → Prop) : Prop where
  kept : ∀ {w w' : World} {S : Nat → Prop} {c : β} {x : α}, rd w S c x → (∀ b, S b → b < w.heap.size → w'.heap[b]? = w.heap[b]?) → w.heap.size ≤ w'.heap.size → rd w' (fun b => S b ∧ b < w.heap.size) c x
  mono : ∀ {w : World} {S T : Nat → Prop} {c : β} {x : α}, rd w S c x → (∀ b, S b → T b) → rd w T c x
/-- The row o of one's own reads as the list l. -/
def OwnT {α β : Type} (e : TypeId) (size : Nat) (cells : β → List Value) (rd : World → (Nat → Prop) → β → α → Prop) (w : World) (base : Nat) (o : Value) (l : List α) : Prop :=
  ∃ cs : List β, cs.length = l.length ∧ w.ownsRow base e size o l.length (cs.flatMap cells) ∧ ∀ i (h : i < l.length) (h' : i < cs.length), rd w (fun b => base ≤ b ∧ some b ≠ o.ownBlock) cs[i] l[i]
section
variable {α β : Type} {e : TypeId} {size : Nat} {cells : β → List Value} {rd : World → (Nat → Prop) → β → α → Prop}
theorem OwnT.nil {w : World} {base : Nat} : OwnT e size cells rd w base (.slice none 0 0) ([] : List α) :=
  ⟨[], rfl, World.ownsRow_nil _ _ _ _, fun _ h => absurd h (Nat.not_lt_zero _)⟩
theorem OwnT.blk {w : World} {base : Nat} {o : Value} {l : List α} (h : OwnT e size cells rd w base o l) : ∀ b, o.ownBlock = some b → b < w.heap.size := by
  obtain ⟨_, _, ho, _⟩ := h
  exact fun b hb => (ho.lt b hb).2
theorem OwnT.below (hs : Stb rd) {w w' : World} {base : Nat} {o : Value} {l : List α} (h : OwnT e size cells rd w base o l) (hb : Below w.heap.size w w') : OwnT e size cells rd w' base o l := by
  obtain ⟨cs, hc, hown, hrd⟩ := h
  exact ⟨cs, hc, own_below hown hb, fun i hi hi' => hs.mono (hs.kept (hrd i hi hi') (fun b _ hb' => hb.block b hb') hb.size) (fun b h => h.1)⟩
/-- One element more. -/
theorem OwnT.push (hs : Stb rd) {w w' : World} {base : Nat} {o o' : Value} {l : List α} {cs : List β} (hc : cs.length = l.length) (hrd : ∀ i (h : i < l.length) (h' : i < cs.length), rd w (fun b => base ≤ b ∧ some b ≠ o.ownBlock) cs[i] l[i])
    {c : β} {x : α} (hx : rd w (fun b => base ≤ b ∧ some b ≠ o.ownBlock) c x) (hown : w'.ownsRow base e size o' (l.length + 1) (cs.flatMap cells ++ cells c)) (hg : w.grownBy w' o.ownBlock) (hf : FreshRow w o o') : OwnT e size cells rd w' base o' (l ++ [x]) := by
  have key : ∀ {c x}, rd w (fun b => base ≤ b ∧ some b ≠ o.ownBlock) c x → rd w' (fun b => base ≤ b ∧ some b ≠ o'.ownBlock) c x := by
    intro c x h
    refine hs.mono (hs.kept h (fun b hb hb' => hg.block b hb' hb.2) hg.size) (fun b hb => ⟨hb.1.1, ?_⟩)
    rcases hf with hf | hf
    · rw [hf]; exact hb.1.2
    · intro h'
      have := hf b h'.symm
      have := hb.2
      omega
  refine ⟨cs ++ [c], by simp [hc], ?_, fun i hi hi' => ?_⟩
  · rw [List.length_append, List.flatMap_append]
    simpa using hown
  · rw [List.length_append] at hi hi'
    simp only [List.length_cons, List.length_nil] at hi hi'
    by_cases h : i < l.length
    · rw [List.getElem_append_left h, List.getElem_append_left (by omega)]
      exact key (hrd i h (by omega))
    · have : i = l.length := by omega
      subst this
      rw [List.getElem_append_right (by omega), List.getElem_append_right (by omega)]
      simp only [Nat.sub_self, hc, List.getElem_cons_zero]
      exact key hx
/-- The row as a slice that reads so. -/
theorem OwnT.sl (hs : Stb rd) (hz : ∀ c, (cells c).length = size) (d : β) {w : World} {base : Nat} {o : Value} {l : List α} (h : OwnT e size cells rd w base o l) (hl : l.length ≤ 140737488351232) :
    ∃ lc : Nat → β, Sl w o l.length size (fun i => cells (lc i)) ∧ (∀ i (h : i < l.length), rd w (fun b => base ≤ b) (lc i) l[i]) ∧ BlkIn (fun b => base ≤ b) o := by
  obtain ⟨cs, hc, hown, hrd⟩ := h
  refine ⟨fun i => cs.getD i d, ?_, fun i hi => ?_, BlkIn.of_own hown⟩
  · rw [← hc]
    rw [← hc] at hown
    exact Sl.of_own cells hz cs hown (by omega) _ (fun i hi => by dsimp only; rw [List.getD_eq_getElem?_getD, List.getElem?_eq_getElem hi]; rfl)
  · have h1 : cs.getD i d = cs[i] := by rw [List.getD_eq_getElem?_getD, List.getElem?_eq_getElem (by omega)]; rfl
    dsimp only
    rw [h1]
    exact hs.mono (hrd i hi (by omega)) (fun b h => h.1)
end
/-! Values. -/
/-! Fields. -/
end Go.Proofs.YtlnpfpjncnkekaaGreatDoor
