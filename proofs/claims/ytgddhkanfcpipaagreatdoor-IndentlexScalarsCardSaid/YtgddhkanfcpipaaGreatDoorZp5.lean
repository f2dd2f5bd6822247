/- Values of the data model: plain words, no program in sight. Conditions: none. -/
import Derived.Test.YtgddhkanfcpipaaGreatDoorZp1
import Derived.Test.YtgddhkanfcpipaaGreatDoorZk3
namespace Go.Proofs.YtgddhkanfcpipaaGreatDoor
open Go.RowKit
set_option maxRecDepth 100000
set_option maxHeartbeats 1000000

/-- A value's own part. -/
structure Hd where
  kind : Int
  bool : Bool
  neg : Bool
  ds : ByteArray
  exp : Int
  tk : Int
  day : Int
  nano : Int
  off : Int
  text : ByteArray
  bytes : List UInt8
/-- A value: its own part, its list, its fields. -/
inductive V where
  | mk (h : Hd) (l : List V) (f : List (ByteArray × V))
theorem sz_l (h : Hd) (l : List V) (f : List (ByteArray × V)) (i : Nat) (hi : i < l.length) : SizeOf.sizeOf l[i] < SizeOf.sizeOf (V.mk h l f) := by
  have := List.sizeOf_lt_of_mem (List.getElem_mem hi)
  rw [V.mk.sizeOf_spec]
  omega
theorem sz_f (h : Hd) (l : List V) (f : List (ByteArray × V)) (i : Nat) (hi : i < f.length) : SizeOf.sizeOf f[i].2 < SizeOf.sizeOf (V.mk h l f) := by
  have := List.sizeOf_lt_of_mem (List.getElem_mem hi)
  rw [V.mk.sizeOf_spec]
  have h2 : SizeOf.sizeOf f[i] = 1 + SizeOf.sizeOf f[i].1 + SizeOf.sizeOf f[i].2 := rfl
  omega
def I64 (n : Int) : Prop := -9223372036854775808 ≤ n ∧ n ≤ 9223372036854775807
structure HdOk (h : Hd) : Prop where
  kind : I64 h.kind
  exp : I64 h.exp
  tk : I64 h.tk
  day : I64 h.day
  nano : I64 h.nano
  off : I64 h.off
  ds : h.ds.size ≤ 1000000000
  text : h.text.size ≤ 1000000000
  bytes : h.bytes.length ≤ 1000000000

/-- v is a slice of n elements, size cells each, that reads element i as c i. -/
def Sl (w : World) (v : Value) (n size : Nat) (c : Nat → List Value) : Prop :=
  ∃ (a : Option Addr) (cap : Nat), v = .slice a n cap ∧ n ≤ cap ∧ (n ≤ 140737488351232 ∧ cap ≤ maxLen) ∧ (a = none → cap = 0) ∧
    (0 < n → ∃ g o, a = some ⟨g, o, none⟩ ∧ g < w.heap.size ∧ ∀ i, i < n → ∀ j, j < size → w.cell? ⟨g, o + i * size + j, none⟩ = (c i)[j]?)
theorem Sl.below {w w' : World} {v : Value} {n size : Nat} {c : Nat → List Value} (h : Sl w v n size c) (hb : Below w.heap.size w w') : Sl w' v n size c := by
  obtain ⟨a, cap, hv, h1, h2, h0, h3⟩ := h
  refine ⟨a, cap, hv, h1, h2, h0, fun hl => ?_⟩
  obtain ⟨g, o, ha, hg, hc⟩ := h3 hl
  exact ⟨g, o, ha, Nat.lt_of_lt_of_le hg hb.size, fun i hi j hj => (hb.cell hg).trans (hc i hi j hj)⟩
theorem Sl.nil {w : World} {size : Nat} {c : Nat → List Value} : Sl w (.slice none 0 0) 0 size c :=
  ⟨none, 0, rfl, Nat.le_refl _, ⟨Nat.zero_le _, Nat.zero_le _⟩, fun _ => rfl, fun h => absurd h (Nat.lt_irrefl _)⟩
theorem flat_getV {α : Type} (f : α → List Value) (c : Nat) (hf : ∀ x, (f x).length = c) : ∀ (T : List α) (i : Nat) (hi : i < T.length) (j : Nat), j < c → (T.flatMap f)[i * c + j]? = (f T[i])[j]?
  | x :: T, 0, _, j, hj => by
    rw [List.flatMap_cons, List.getElem?_append_left (by rw [hf]; omega)]
    simp
  | x :: T, i + 1, hi, j, hj => by
    rw [List.flatMap_cons, List.getElem?_append_right (by rw [hf, Nat.succ_mul]; omega), hf]
    have := flat_getV f c hf T i (by simpa using hi) j hj
    rw [show (i + 1) * c + j - c = i * c + j by rw [Nat.succ_mul]; omega]
    simpa using this
/-- A row of one's own is a slice that reads so. -/
theorem Sl.of_own {α : Type} {w : World} {base size : Nat} {e : TypeId} {v : Value} (f : α → List Value) (hf : ∀ x, (f x).length = size) (T : List α) (h : w.ownsRow base e size v T.length (T.flatMap f)) (hn : T.length ≤ 140737488351232) (c : Nat → List Value) (hc : ∀ i (hi : i < T.length), c i = f T[i]) : Sl w v T.length size c := by
  rcases h.2 with ⟨rfl, h0⟩ | ⟨g, cap, cur, rfl, hb, hh, hnc, hcm, _⟩
  · rw [h0]; exact Sl.nil
  · refine ⟨some ⟨g, 0, none⟩, cap, rfl, hnc, ⟨hn, hcm⟩, (fun h => by cases h), fun _ => ⟨g, 0, rfl, (h.lt g rfl).2, fun i hi j hj => ?_⟩⟩
    have hij : i * size + j < T.length * size := by
      have : (i + 1) * size ≤ T.length * size := Nat.mul_le_mul_right _ hi
      rw [Nat.succ_mul] at this
      omega
    rw [Nat.zero_add, World.ownsRow.cellAt h (i * size + j) hij, flat_getV f size hf T i hi j hj, hc i hi]
/-- Bytes. -/
def RdB (w : World) (v : Value) (l : List UInt8) : Prop := Sl w v l.length 1 (fun i => [bv (l.getD i 0)])
theorem RdB.below {w w' : World} {v : Value} {l : List UInt8} (h : RdB w v l) (hb : Below w.heap.size w w') : RdB w' v l := Sl.below h hb

/-- The cells of a value. -/
structure VC where
  h : Hd
  b : Value
  l : Value
  f : Value
def VC.cells (c : VC) : List Value := [.int .i64 c.h.kind, .bool c.h.bool, .bool c.h.neg, .string c.h.ds, .int .i64 c.h.exp, .int .i64 c.h.tk, .int .i64 c.h.day, .int .i64 c.h.nano, .int .i64 c.h.off, .string c.h.text, c.b, c.l, c.f]
/-- The block that a slice's elements lie in is one of S. -/
def BlkIn (S : Nat → Prop) (v : Value) : Prop := ∀ g o p n cap, v = .slice (some ⟨g, o, p⟩) n cap → 0 < n → S g
/-- The cells c read as the value; the blocks that this takes are of S. -/
inductive RdI (w : World) (S : Nat → Prop) : VC → V → Prop
  | mk (h : Hd) (l : List V) (f : List (ByteArray × V)) (bv lv fv : Value) (lc fc : Nat → VC) (ok : HdOk h) (hb : RdB w bv h.bytes)
      (hl : Sl w lv l.length 13 (fun i => (lc i).cells)) (hL : ∀ i (hi : i < l.length), RdI w S (lc i) l[i])
      (hf : Sl w fv f.length 14 (fun i => .string (f.getD i (⟨#[]⟩, .mk h l f)).1 :: (fc i).cells)) (hK : ∀ i (hi : i < f.length), f[i].1.size ≤ 1000000000) (hF : ∀ i (hi : i < f.length), RdI w S (fc i) f[i].2)
      (sb : BlkIn S bv) (sl : BlkIn S lv) (sf : BlkIn S fv) : RdI w S ⟨h, bv, lv, fv⟩ (.mk h l f)
abbrev RdV (w : World) (c : VC) (v : V) : Prop := RdI w (fun _ => True) c v
theorem BlkIn.of_own {w : World} {base size n : Nat} {e : TypeId} {v : Value} {xs : List Value} (h : w.ownsRow base e size v n xs) : BlkIn (fun b => base ≤ b) v := by
  intro g o p m cap hv _
  exact (h.lt g (by rw [hv]; rfl)).1
theorem flat_one : ∀ l : List UInt8, (l.flatMap fun b => [bv b]) = l.map bv
  | [] => rfl
  | b :: t => by rw [List.flatMap_cons, flat_one t]; rfl
theorem RdB.of_own {w : World} {base n : Nat} {e : TypeId} {v : Value} {l : List UInt8} (h : w.ownsRow base e 1 v n (l.map bv)) (hn : n = l.length) (hl : l.length ≤ 140737488351232) : RdB w v l := by
  subst hn
  refine Sl.of_own (fun b => [bv b]) (fun _ => rfl) l (by rw [flat_one]; exact h) hl _ (fun i hi => ?_)
  rw [List.getD_eq_getElem?_getD, List.getElem?_eq_getElem hi]
  rfl
theorem BlkIn.mono {S T : Nat → Prop} {v : Value} (h : BlkIn S v) (hs : ∀ b, S b → T b) : BlkIn T v := fun g o p n cap hv hn => hs _ (h g o p n cap hv hn)
theorem Sl.kept {w w' : World} {v : Value} {n size : Nat} {c : Nat → List Value} {S : Nat → Prop} (h : Sl w v n size c) (hs : BlkIn S v) (hk : ∀ b, S b → b < w.heap.size → w'.heap[b]? = w.heap[b]?) (hz : w.heap.size ≤ w'.heap.size) : Sl w' v n size c := by
  obtain ⟨a, cap, hv, h1, h2, h0, h3⟩ := h
  refine ⟨a, cap, hv, h1, h2, h0, fun hl => ?_⟩
  obtain ⟨g, o, ha, hg, hc⟩ := h3 hl
  refine ⟨g, o, ha, Nat.lt_of_lt_of_le hg hz, fun i hi j hj => ?_⟩
  have hb := hk g (hs g o none n cap (by rw [hv, ha]) hl) hg
  rw [World.cell?_of_block (w := w) (w' := w') (a := ⟨g, o + i * size + j, none⟩) hb]
  exact hc i hi j hj
theorem Sl.blk {w : World} {v : Value} {n size : Nat} {c : Nat → List Value} (h : Sl w v n size c) {S : Nat → Prop} (hs : BlkIn S v) : BlkIn (fun b => S b ∧ b < w.heap.size) v := by
  obtain ⟨a, cap, rfl, h1, h2, h0, h3⟩ := h
  intro g o p m cap' hv hm
  refine ⟨hs g o p m cap' hv hm, ?_⟩
  simp only [Value.slice.injEq] at hv
  obtain ⟨rfl, rfl, rfl⟩ := hv
  obtain ⟨g', o', ha, hg, _⟩ := h3 hm
  simp only [Option.some.injEq, Addr.mk.injEq] at ha
  rw [ha.1]
  exact hg
theorem RdI.kept {w w' : World} {S : Nat → Prop} {c : VC} {v : V} (h : RdI w S c v) (hk : ∀ b, S b → b < w.heap.size → w'.heap[b]? = w.heap[b]?) (hz : w.heap.size ≤ w'.heap.size) : RdI w' S c v := by
  induction h with
  | mk h l f bv lv fv lc fc ok hB hl hL hf hK hF sb sl sf ihL ihF =>
    exact .mk h l f bv lv fv lc fc ok (Sl.kept hB sb hk hz) (Sl.kept hl sl hk hz) (fun i hi => ihL i hi) (Sl.kept hf sf hk hz) hK (fun i hi => ihF i hi) sb sl sf
theorem RdI.mono {w : World} {S T : Nat → Prop} {c : VC} {v : V} (h : RdI w S c v) (hs : ∀ b, S b → T b) : RdI w T c v := by
  induction h with
  | mk h l f bv lv fv lc fc ok hB hl hL hf hK hF sb sl sf ihL ihF =>
    exact .mk h l f bv lv fv lc fc ok hB hl (fun i hi => ihL i hi) hf hK (fun i hi => ihF i hi) (sb.mono hs) (sl.mono hs) (sf.mono hs)
theorem RdI.lt {w : World} {S : Nat → Prop} {c : VC} {v : V} (h : RdI w S c v) : RdI w (fun b => S b ∧ b < w.heap.size) c v := by
  induction h with
  | mk h l f bv lv fv lc fc ok hB hl hL hf hK hF sb sl sf ihL ihF =>
    exact .mk h l f bv lv fv lc fc ok hB hl (fun i hi => ihL i hi) hf hK (fun i hi => ihF i hi) (hB.blk sb) (hl.blk sl) (hf.blk sf)
theorem RdI.stays {w w' : World} {S : Nat → Prop} {c : VC} {v : V} (h : RdI w S c v) (hb : Below w.heap.size w w') : RdI w' S c v := h.kept (fun b _ hb' => hb.block b hb') hb.size
theorem RdI.any {w : World} {S : Nat → Prop} {c : VC} {v : V} (h : RdI w S c v) : RdV w c v := h.mono fun _ _ => trivial
/-- A row's append leaves what lies in other blocks. -/
theorem RdI.push {w w' : World} {base : Nat} {v v' : Value} {c : VC} {x : V} (h : RdI w (fun b => base ≤ b ∧ some b ≠ v.ownBlock) c x) (hg : w.grownBy w' v.ownBlock) (hf : v'.ownBlock = v.ownBlock ∨ ∀ g, v'.ownBlock = some g → w.heap.size ≤ g) :
    RdI w' (fun b => base ≤ b ∧ some b ≠ v'.ownBlock) c x := by
  refine (h.lt.kept (fun b hb _ => hg.block b hb.2 hb.1.2) hg.size).mono fun b hb => ⟨hb.1.1, ?_⟩
  rcases hf with hf | hf
  · rw [hf]; exact hb.1.2
  · intro h'
    have := hf b h'.symm
    omega
end Go.Proofs.YtgddhkanfcpipaaGreatDoor

namespace Go.Proofs.YtgddhkanfcpipaaGreatDoor
open Go.RowKit
set_option maxRecDepth 100000

/-! How many values, and how deep. -/
mutual
def nodV : V → Nat
  | .mk _ l f => 1 + nodL l + nodF f
def nodL : List V → Nat
  | [] => 0
  | x :: t => nodV x + nodL t
def nodF : List (ByteArray × V) → Nat
  | [] => 0
  | (_, x) :: t => nodV x + nodF t
end
mutual
def depV : V → Nat
  | .mk _ l f => 1 + max (depL l) (depF f)
def depL : List V → Nat
  | [] => 0
  | x :: t => max (depV x) (depL t)
def depF : List (ByteArray × V) → Nat
  | [] => 0
  | (_, x) :: t => max (depV x) (depF t)
end
theorem nodV_mk (h : Hd) (l : List V) (f : List (ByteArray × V)) : nodV (.mk h l f) = 1 + nodL l + nodF f := by rw [nodV]
theorem depV_mk (h : Hd) (l : List V) (f : List (ByteArray × V)) : depV (.mk h l f) = 1 + max (depL l) (depF f) := by rw [depV]
theorem nodV_pos (v : V) : 1 ≤ nodV v := by cases v; rw [nodV]; omega
theorem nodL_at : ∀ (l : List V) (i : Nat) (hi : i < l.length), nodV l[i] ≤ nodL l
  | x :: t, 0, _ => by rw [nodL]; simp
  | x :: t, i + 1, hi => by rw [nodL]; have := nodL_at t i (by simpa using hi); simp only [List.getElem_cons_succ]; omega
theorem nodF_at : ∀ (l : List (ByteArray × V)) (i : Nat) (hi : i < l.length), nodV l[i].2 ≤ nodF l
  | (_, x) :: t, 0, _ => by rw [nodF]; simp
  | (_, x) :: t, i + 1, hi => by rw [nodF]; have := nodF_at t i (by simpa using hi); simp only [List.getElem_cons_succ]; omega
theorem depL_at : ∀ (l : List V) (i : Nat) (hi : i < l.length), depV l[i] ≤ depL l
  | x :: t, 0, _ => by rw [depL]; simp; omega
  | x :: t, i + 1, hi => by rw [depL]; have := depL_at t i (by simpa using hi); simp only [List.getElem_cons_succ]; omega
theorem depF_at : ∀ (l : List (ByteArray × V)) (i : Nat) (hi : i < l.length), depV l[i].2 ≤ depF l
  | (_, x) :: t, 0, _ => by rw [depF]; simp; omega
  | (_, x) :: t, i + 1, hi => by rw [depF]; have := depF_at t i (by simpa using hi); simp only [List.getElem_cons_succ]; omega
theorem nodL_len : ∀ l : List V, l.length ≤ nodL l
  | [] => by simp
  | x :: t => by rw [nodL]; have := nodL_len t; have := nodV_pos x; simp only [List.length_cons]; omega
theorem nodF_len : ∀ l : List (ByteArray × V), l.length ≤ nodF l
  | [] => by simp
  | (_, x) :: t => by rw [nodF]; have := nodF_len t; have := nodV_pos x; simp only [List.length_cons]; omega

/-! Is there room? -/
mutual
def roomV : V → Int → Int → Int
  | .mk _ l f, left, depth => if depth ≤ 0 ∨ left - 1 < (l.length : Int) ∨ left - 1 < (f.length : Int) then -1 else roomF f (roomL l (left - 1) (depth - 1)) (depth - 1)
def roomL : List V → Int → Int → Int
  | [], left, _ => left
  | x :: t, left, d => if left < 0 then left else roomL t (roomV x left d) d
def roomF : List (ByteArray × V) → Int → Int → Int
  | [], left, _ => left
  | (_, x) :: t, left, d => if left < 0 then left else roomF t (roomV x left d) d
end
theorem roomV_mk (h : Hd) (l : List V) (f : List (ByteArray × V)) (left depth : Int) : roomV (.mk h l f) left depth = if depth ≤ 0 ∨ left - 1 < (l.length : Int) ∨ left - 1 < (f.length : Int) then -1 else roomF f (roomL l (left - 1) (depth - 1)) (depth - 1) := by rw [roomV]
theorem roomL_neg (l : List V) (left d : Int) (h : left < 0) : roomL l left d = left := by
  cases l with
  | nil => rw [roomL]
  | cons x t => rw [roomL, if_pos h]
theorem roomF_neg (l : List (ByteArray × V)) (left d : Int) (h : left < 0) : roomF l left d = left := by
  cases l with
  | nil => rw [roomF]
  | cons x t => obtain ⟨k, x⟩ := x; rw [roomF, if_pos h]
mutual
theorem roomV_is : ∀ (v : V) (left d : Int), 0 ≤ roomV v left d → roomV v left d = left - nodV v ∧ (depV v : Int) ≤ d
  | .mk h l f, left, d, hr => by
    rw [roomV_mk] at hr ⊢
    split at hr
    · omega
    rename_i hn
    rw [if_neg hn, nodV_mk, depV_mk]
    by_cases h1 : roomL l (left - 1) (d - 1) < 0
    · rw [roomF_neg _ _ _ h1] at hr; omega
    obtain ⟨e1, d1⟩ := roomL_is l (left - 1) (d - 1) (by omega)
    obtain ⟨e2, d2⟩ := roomF_is f _ (d - 1) hr
    rw [e1] at e2
    rw [e1, e2]
    have a1 : (depL l : Int) ≤ d - 1 := by
      rcases d1 with h | rfl
      · exact h
      · rw [depL]; omega
    have a2 : (depF f : Int) ≤ d - 1 := by
      rcases d2 with h | rfl
      · exact h
      · rw [depF]; omega
    exact ⟨by omega, by omega⟩
theorem roomL_is : ∀ (l : List V) (left d : Int), 0 ≤ roomL l left d → roomL l left d = left - nodL l ∧ ((depL l : Int) ≤ d ∨ l = [])
  | [], left, d, hr => by rw [roomL, nodL]; exact ⟨by omega, .inr rfl⟩
  | x :: t, left, d, hr => by
    rw [roomL] at hr ⊢
    split at hr
    · omega
    rename_i hn
    rw [if_neg hn, nodL, depL]
    by_cases h1 : roomV x left d < 0
    · rw [roomL_neg _ _ _ h1] at hr; omega
    obtain ⟨e1, d1⟩ := roomV_is x left d (by omega)
    obtain ⟨e2, d2⟩ := roomL_is t _ d hr
    rw [e1] at e2
    rw [e1, e2]
    refine ⟨by omega, .inl ?_⟩
    rcases d2 with d2 | rfl
    · omega
    · rw [depL]; omega
theorem roomF_is : ∀ (l : List (ByteArray × V)) (left d : Int), 0 ≤ roomF l left d → roomF l left d = left - nodF l ∧ ((depF l : Int) ≤ d ∨ l = [])
  | [], left, d, hr => by rw [roomF, nodF]; exact ⟨by omega, .inr rfl⟩
  | (k, x) :: t, left, d, hr => by
    rw [roomF] at hr ⊢
    split at hr
    · omega
    rename_i hn
    rw [if_neg hn, nodF, depF]
    by_cases h1 : roomV x left d < 0
    · rw [roomF_neg _ _ _ h1] at hr; omega
    obtain ⟨e1, d1⟩ := roomV_is x left d (by omega)
    obtain ⟨e2, d2⟩ := roomF_is t _ d hr
    rw [e1] at e2
    rw [e1, e2]
    refine ⟨by omega, .inl ?_⟩
    rcases d2 with d2 | rfl
    · omega
    · rw [depF]; omega
end

/-! Are they identical? -/
def eqH (h h' : Hd) : Bool := decide (h.kind = h'.kind) && (decide (h.bool = h'.bool) && (decide (h.neg = h'.neg ∧ h.ds = h'.ds ∧ h.exp = h'.exp) && (decide (h.tk = h'.tk ∧ h.day = h'.day ∧ h.nano = h'.nano ∧ h.off = h'.off) && (decide (h.text = h'.text) && decide (h.bytes = h'.bytes)))))
theorem eqH_iff (h h' : Hd) : eqH h h' = true ↔ h = h' := by
  obtain ⟨a0, a1, a2, a3, a4, a5, a6, a7, a8, a9, a10⟩ := h
  obtain ⟨b0, b1, b2, b3, b4, b5, b6, b7, b8, b9, b10⟩ := h'
  unfold eqH
  simp only [Bool.and_eq_true, decide_eq_true_iff, Hd.mk.injEq]
  exact ⟨fun ⟨h0, h1, ⟨h2, h3, h4⟩, ⟨h5, h6, h7, h8⟩, h9, h10⟩ => ⟨h0, h1, h2, h3, h4, h5, h6, h7, h8, h9, h10⟩, fun ⟨h0, h1, h2, h3, h4, h5, h6, h7, h8, h9, h10⟩ => ⟨h0, h1, ⟨h2, h3, h4⟩, ⟨h5, h6, h7, h8⟩, h9, h10⟩⟩
mutual
def eqV : V → V → Bool
  | .mk h l f, .mk h' l' f' => eqH h h' && (eqL l l' && eqF f f')
def eqL : List V → List V → Bool
  | [], [] => true
  | x :: t, y :: u => eqV x y && eqL t u
  | _, _ => false
def eqF : List (ByteArray × V) → List (ByteArray × V) → Bool
  | [], [] => true
  | (k, x) :: t, (k', y) :: u => decide (k = k') && (eqV x y && eqF t u)
  | _, _ => false
end
mutual
theorem eqV_iff : ∀ a b : V, eqV a b = true ↔ a = b
  | .mk h l f, .mk h' l' f' => by
    rw [eqV, Bool.and_eq_true, Bool.and_eq_true, eqH_iff, eqL_iff l l', eqF_iff f f', V.mk.injEq]
theorem eqL_iff : ∀ a b : List V, eqL a b = true ↔ a = b
  | [], [] => by simp [eqL]
  | [], _ :: _ => by simp [eqL]
  | _ :: _, [] => by simp [eqL]
  | x :: t, y :: u => by rw [eqL, Bool.and_eq_true, eqV_iff x y, eqL_iff t u, List.cons.injEq]
theorem eqF_iff : ∀ a b : List (ByteArray × V), eqF a b = true ↔ a = b
  | [], [] => by simp [eqF]
  | [], _ :: _ => by simp [eqF]
  | _ :: _, [] => by simp [eqF]
  | (k, x) :: t, (k', y) :: u => by rw [eqF, Bool.and_eq_true, Bool.and_eq_true, decide_eq_true_iff, eqV_iff x y, eqF_iff t u, List.cons.injEq, Prod.mk.injEq, and_assoc]
end
theorem eqV_self (v : V) : eqV v v = true := (eqV_iff v v).2 rfl
theorem eqV_mk (h h' : Hd) (l l' : List V) (f f' : List (ByteArray × V)) : eqV (.mk h l f) (.mk h' l' f') = (eqH h h' && (eqL l l' && eqF f f')) := by rw [eqV]
theorem eqL_len : ∀ a b : List V, eqL a b = true → a.length = b.length := fun a b h => by rw [(eqL_iff a b).1 h]
theorem eqF_len : ∀ a b : List (ByteArray × V), eqF a b = true → a.length = b.length := fun a b h => by rw [(eqF_iff a b).1 h]
theorem eqL_drop (a b : List V) (k : Nat) (h : k < a.length) (h' : k < b.length) : eqL (a.drop k) (b.drop k) = (eqV a[k] b[k] && eqL (a.drop (k + 1)) (b.drop (k + 1))) := by
  rw [List.drop_eq_getElem_cons h, List.drop_eq_getElem_cons h', eqL]
theorem eqF_drop (a b : List (ByteArray × V)) (k : Nat) (h : k < a.length) (h' : k < b.length) : eqF (a.drop k) (b.drop k) = (decide (a[k].1 = b[k].1) && (eqV a[k].2 b[k].2 && eqF (a.drop (k + 1)) (b.drop (k + 1)))) := by
  rw [List.drop_eq_getElem_cons h, List.drop_eq_getElem_cons h']
  obtain ⟨x, y⟩ := a[k]
  obtain ⟨x', y'⟩ := b[k]
  rw [eqF]
theorem roomL_drop (l : List V) (k : Nat) (h : k < l.length) (left d : Int) (h0 : 0 ≤ left) : roomL (l.drop k) left d = roomL (l.drop (k + 1)) (roomV l[k] left d) d := by
  rw [List.drop_eq_getElem_cons h, roomL, if_neg (by omega)]
theorem roomF_drop (l : List (ByteArray × V)) (k : Nat) (h : k < l.length) (left d : Int) (h0 : 0 ≤ left) : roomF (l.drop k) left d = roomF (l.drop (k + 1)) (roomV l[k].2 left d) d := by
  rw [List.drop_eq_getElem_cons h]
  obtain ⟨x, y⟩ := l[k]
  rw [roomF, if_neg (by omega)]
end Go.Proofs.YtgddhkanfcpipaaGreatDoor
