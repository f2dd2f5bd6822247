/- What is wrong with a value: plain words, no program in sight. Conditions: none. -/
import Derived.Test.YtemiihkmpojpgaaGreatDoorZq1
import Derived.Test.YtemiihkmpojpgaaGreatDoorZq5
import Derived.Test.YtemiihkmpojpgaaGreatDoorZq3
namespace Go.Proofs.YtemiihkmpojpgaaGreatDoor
open Go.RowKit
set_option maxRecDepth 100000
set_option maxHeartbeats 1000000

/-- A value's own part. -/
structure Hd where
  kind : Int
  bool : Bool
  neg : Bool
  ds : ByteArray
  exp : Int
  tk : Int
  day : Int
  nano : Int
  off : Int
  text : ByteArray
  bytes : List UInt8
/-- A value: its own part, its list, its fields. -/
inductive V where
  | mk (h : Hd) (l : List V) (f : List (ByteArray × V))
theorem sz_l (h : Hd) (l : List V) (f : List (ByteArray × V)) (i : Nat) (hi : i < l.length) : SizeOf.sizeOf l[i] < SizeOf.sizeOf (V.mk h l f) := by
  have := List.sizeOf_lt_of_mem (List.getElem_mem hi)
  rw [V.mk.sizeOf_spec]
  omega
theorem sz_f (h : Hd) (l : List V) (f : List (ByteArray × V)) (i : Nat) (hi : i < f.length) : SizeOf.sizeOf f[i].2 < SizeOf.sizeOf (V.mk h l f) := by
  have := List.sizeOf_lt_of_mem (List.getElem_mem hi)
  rw [V.mk.sizeOf_spec]
  have h2 : SizeOf.sizeOf f[i] = 1 + SizeOf.sizeOf f[i].1 + SizeOf.sizeOf f[i].2 := rfl
  omega
def I64 (n : Int) : Prop := -9223372036854775808 ≤ n ∧ n ≤ 9223372036854775807
structure HdOk (h : Hd) : Prop where
  kind : I64 h.kind
  exp : I64 h.exp
  tk : I64 h.tk
  day : I64 h.day
  nano : I64 h.nano
  off : I64 h.off
  ds : h.ds.size ≤ 1000000000
  text : h.text.size ≤ 1000000000
  bytes : h.bytes.length ≤ 1000000000

/-- v is a slice of n elements, size cells each, that reads element i as c i. -/
def Sl (w : World) (v : Value) (n size : Nat) (c : Nat → List Value) : Prop :=
  ∃ (a : Option Addr) (cap : Nat), v = .slice a n cap ∧ n ≤ cap ∧ (n ≤ 140737488351232 ∧ cap ≤ maxLen) ∧ (a = none → cap = 0) ∧
    (0 < n → ∃ g o, a = some ⟨g, o, none⟩ ∧ g < w.heap.size ∧ ∀ i, i < n → ∀ j, j < size → w.cell? ⟨g, o + i * size + j, none⟩ = (c i)[j]?)
theorem Sl.below {w w' : World} {v : Value} {n size : Nat} {c : Nat → List Value} (h : Sl w v n size c) (hb : Below w.heap.size w w') : Sl w' v n size c := by
  obtain ⟨a, cap, hv, h1, h2, h0, h3⟩ := h
  refine ⟨a, cap, hv, h1, h2, h0, fun hl => ?_⟩
  obtain ⟨g, o, ha, hg, hc⟩ := h3 hl
  exact ⟨g, o, ha, Nat.lt_of_lt_of_le hg hb.size, fun i hi j hj => (hb.cell hg).trans (hc i hi j hj)⟩
theorem Sl.nil {w : World} {size : Nat} {c : Nat → List Value} : Sl w (.slice none 0 0) 0 size c :=
  ⟨none, 0, rfl, Nat.le_refl _, ⟨Nat.zero_le _, Nat.zero_le _⟩, fun _ => rfl, fun h => absurd h (Nat.lt_irrefl _)⟩
theorem flat_get {α : Type} (f : α → List Value) (c : Nat) (hf : ∀ x, (f x).length = c) : ∀ (T : List α) (i : Nat) (hi : i < T.length) (j : Nat), j < c → (T.flatMap f)[i * c + j]? = (f T[i])[j]?
  | x :: T, 0, _, j, hj => by
    rw [List.flatMap_cons, List.getElem?_append_left (by rw [hf]; omega)]
    simp
  | x :: T, i + 1, hi, j, hj => by
    rw [List.flatMap_cons, List.getElem?_append_right (by rw [hf, Nat.succ_mul]; omega), hf]
    have := flat_get f c hf T i (by simpa using hi) j hj
    rw [show (i + 1) * c + j - c = i * c + j by rw [Nat.succ_mul]; omega]
    simpa using this
/-- A row of one's own is a slice that reads so. -/
theorem Sl.of_own {α : Type} {w : World} {base size : Nat} {e : TypeId} {v : Value} (f : α → List Value) (hf : ∀ x, (f x).length = size) (T : List α) (h : w.ownsRow base e size v T.length (T.flatMap f)) (hn : T.length ≤ 140737488351232) (c : Nat → List Value) (hc : ∀ i (hi : i < T.length), c i = f T[i]) : Sl w v T.length size c := by
  rcases h.2 with ⟨rfl, h0⟩ | ⟨g, cap, cur, rfl, hb, hh, hnc, hcm, _⟩
  · rw [h0]; exact Sl.nil
  · refine ⟨some ⟨g, 0, none⟩, cap, rfl, hnc, ⟨hn, hcm⟩, (fun h => by cases h), fun _ => ⟨g, 0, rfl, (h.lt g rfl).2, fun i hi j hj => ?_⟩⟩
    have hij : i * size + j < T.length * size := by
      have : (i + 1) * size ≤ T.length * size := Nat.mul_le_mul_right _ hi
      rw [Nat.succ_mul] at this
      omega
    rw [Nat.zero_add, World.ownsRow.cellAt h (i * size + j) hij, flat_get f size hf T i hi j hj, hc i hi]
/-- Bytes. -/
def RdB (w : World) (v : Value) (l : List UInt8) : Prop := Sl w v l.length 1 (fun i => [bv (l.getD i 0)])
theorem RdB.below {w w' : World} {v : Value} {l : List UInt8} (h : RdB w v l) (hb : Below w.heap.size w w') : RdB w' v l := Sl.below h hb

/-- The cells of a value. -/
structure VC where
  h : Hd
  b : Value
  l : Value
  f : Value
def VC.cells (c : VC) : List Value := [.int .i64 c.h.kind, .bool c.h.bool, .bool c.h.neg, .string c.h.ds, .int .i64 c.h.exp, .int .i64 c.h.tk, .int .i64 c.h.day, .int .i64 c.h.nano, .int .i64 c.h.off, .string c.h.text, c.b, c.l, c.f]
/-- The block that a slice's elements lie in is one of S. -/
def BlkIn (S : Nat → Prop) (v : Value) : Prop := ∀ g o p n cap, v = .slice (some ⟨g, o, p⟩) n cap → 0 < n → S g
/-- The cells c read as the value; the blocks that this takes are of S. -/
inductive RdI (w : World) (S : Nat → Prop) : VC → V → Prop
  | mk (h : Hd) (l : List V) (f : List (ByteArray × V)) (bv lv fv : Value) (lc fc : Nat → VC) (ok : HdOk h) (hb : RdB w bv h.bytes)
      (hl : Sl w lv l.length 13 (fun i => (lc i).cells)) (hL : ∀ i (hi : i < l.length), RdI w S (lc i) l[i])
      (hf : Sl w fv f.length 14 (fun i => .string (f.getD i (⟨#[]⟩, .mk h l f)).1 :: (fc i).cells)) (hK : ∀ i (hi : i < f.length), f[i].1.size ≤ 1000000000) (hF : ∀ i (hi : i < f.length), RdI w S (fc i) f[i].2)
      (sb : BlkIn S bv) (sl : BlkIn S lv) (sf : BlkIn S fv) : RdI w S ⟨h, bv, lv, fv⟩ (.mk h l f)
abbrev RdV (w : World) (c : VC) (v : V) : Prop := RdI w (fun _ => True) c v
theorem BlkIn.of_own {w : World} {base size n : Nat} {e : TypeId} {v : Value} {xs : List Value} (h : w.ownsRow base e size v n xs) : BlkIn (fun b => base ≤ b) v := by
  intro g o p m cap hv _
  exact (h.lt g (by rw [hv]; rfl)).1
theorem flat_one : ∀ l : List UInt8, (l.flatMap fun b => [bv b]) = l.map bv
  | [] => rfl
  | b :: t => by rw [List.flatMap_cons, flat_one t]; rfl
theorem RdB.of_own {w : World} {base n : Nat} {e : TypeId} {v : Value} {l : List UInt8} (h : w.ownsRow base e 1 v n (l.map bv)) (hn : n = l.length) (hl : l.length ≤ 140737488351232) : RdB w v l := by
  subst hn
  refine Sl.of_own (fun b => [bv b]) (fun _ => rfl) l (by rw [flat_one]; exact h) hl _ (fun i hi => ?_)
  rw [List.getD_eq_getElem?_getD, List.getElem?_eq_getElem hi]
  rfl
theorem BlkIn.mono {S T : Nat → Prop} {v : Value} (h : BlkIn S v) (hs : ∀ b, S b → T b) : BlkIn T v := fun g o p n cap hv hn => hs _ (h g o p n cap hv hn)
theorem Sl.kept {w w' : World} {v : Value} {n size : Nat} {c : Nat → List Value} {S : Nat → Prop} (h : Sl w v n size c) (hs : BlkIn S v) (hk : ∀ b, S b → b < w.heap.size → w'.heap[b]? = w.heap[b]?) (hz : w.heap.size ≤ w'.heap.size) : Sl w' v n size c := by
  obtain ⟨a, cap, hv, h1, h2, h0, h3⟩ := h
  refine ⟨a, cap, hv, h1, h2, h0, fun hl => ?_⟩
  obtain ⟨g, o, ha, hg, hc⟩ := h3 hl
  refine ⟨g, o, ha, Nat.lt_of_lt_of_le hg hz, fun i hi j hj => ?_⟩
  have hb := hk g (hs g o none n cap (by rw [hv, ha]) hl) hg
  rw [World.cell?_of_block (w := w) (w' := w') (a := ⟨g, o + i * size + j, none⟩) hb]
  exact hc i hi j hj
theorem Sl.blk {w : World} {v : Value} {n size : Nat} {c : Nat → List Value} (h : Sl w v n size c) {S : Nat → Prop} (hs : BlkIn S v) : BlkIn (fun b => S b ∧ b < w.heap.size) v := by
  obtain ⟨a, cap, rfl, h1, h2, h0, h3⟩ := h
  intro g o p m cap' hv hm
  refine ⟨hs g o p m cap' hv hm, ?_⟩
  simp only [Value.slice.injEq] at hv
  obtain ⟨rfl, rfl, rfl⟩ := hv
  obtain ⟨g', o', ha, hg, _⟩ := h3 hm
  simp only [Option.some.injEq, Addr.mk.injEq] at ha
  rw [ha.1]
  exact hg
theorem RdI.kept {w w' : World} {S : Nat → Prop} {c : VC} {v : V} (h : RdI w S c v) (hk : ∀ b, S b → b < w.heap.size → w'.heap[b]? = w.heap[b]?) (hz : w.heap.size ≤ w'.heap.size) : RdI w' S c v := by
  induction h with
  | mk h l f bv lv fv lc fc ok hB hl hL hf hK hF sb sl sf ihL ihF =>
    exact .mk h l f bv lv fv lc fc ok (Sl.kept hB sb hk hz) (Sl.kept hl sl hk hz) (fun i hi => ihL i hi) (Sl.kept hf sf hk hz) hK (fun i hi => ihF i hi) sb sl sf
theorem RdI.mono {w : World} {S T : Nat → Prop} {c : VC} {v : V} (h : RdI w S c v) (hs : ∀ b, S b → T b) : RdI w T c v := by
  induction h with
  | mk h l f bv lv fv lc fc ok hB hl hL hf hK hF sb sl sf ihL ihF =>
    exact .mk h l f bv lv fv lc fc ok hB hl (fun i hi => ihL i hi) hf hK (fun i hi => ihF i hi) (sb.mono hs) (sl.mono hs) (sf.mono hs)
theorem RdI.lt {w : World} {S : Nat → Prop} {c : VC} {v : V} (h : RdI w S c v) : RdI w (fun b => S b ∧ b < w.heap.size) c v := by
  induction h with
  | mk h l f bv lv fv lc fc ok hB hl hL hf hK hF sb sl sf ihL ihF =>
    exact .mk h l f bv lv fv lc fc ok hB hl (fun i hi => ihL i hi) hf hK (fun i hi => ihF i hi) (hB.blk sb) (hl.blk sl) (hf.blk sf)
theorem RdI.stays {w w' : World} {S : Nat → Prop} {c : VC} {v : V} (h : RdI w S c v) (hb : Below w.heap.size w w') : RdI w' S c v := h.kept (fun b _ hb' => hb.block b hb') hb.size
theorem RdI.any {w : World} {S : Nat → Prop} {c : VC} {v : V} (h : RdI w S c v) : RdV w c v := h.mono fun _ _ => trivial
/-- A row's append leaves what lies in other blocks. -/
theorem RdI.push {w w' : World} {base : Nat} {v v' : Value} {c : VC} {x : V} (h : RdI w (fun b => base ≤ b ∧ some b ≠ v.ownBlock) c x) (hg : w.grownBy w' v.ownBlock) (hf : v'.ownBlock = v.ownBlock ∨ ∀ g, v'.ownBlock = some g → w.heap.size ≤ g) :
    RdI w' (fun b => base ≤ b ∧ some b ≠ v'.ownBlock) c x := by
  refine (h.lt.kept (fun b hb _ => hg.block b hb.2 hb.1.2) hg.size).mono fun b hb => ⟨hb.1.1, ?_⟩
  rcases hf with hf | hf
  · rw [hf]; exact hb.1.2
  · intro h'
    have := hf b h'.symm
    omega
end Go.Proofs.YtemiihkmpojpgaaGreatDoor

namespace Go.Proofs.YtemiihkmpojpgaaGreatDoor
open Go.RowKit
set_option maxRecDepth 100000

/-! How many values, and how deep. -/
mutual
def nodV : V → Nat
  | .mk _ l f => 1 + nodL l + nodF f
def nodL : List V → Nat
  | [] => 0
  | x :: t => nodV x + nodL t
def nodF : List (ByteArray × V) → Nat
  | [] => 0
  | (_, x) :: t => nodV x + nodF t
end
mutual
def depV : V → Nat
  | .mk _ l f => 1 + max (depL l) (depF f)
def depL : List V → Nat
  | [] => 0
  | x :: t => max (depV x) (depL t)
def depF : List (ByteArray × V) → Nat
  | [] => 0
  | (_, x) :: t => max (depV x) (depF t)
end
theorem nodV_mk (h : Hd) (l : List V) (f : List (ByteArray × V)) : nodV (.mk h l f) = 1 + nodL l + nodF f := by rw [nodV]
theorem depV_mk (h : Hd) (l : List V) (f : List (ByteArray × V)) : depV (.mk h l f) = 1 + max (depL l) (depF f) := by rw [depV]
theorem nodV_pos (v : V) : 1 ≤ nodV v := by cases v; rw [nodV]; omega
theorem nodL_at : ∀ (l : List V) (i : Nat) (hi : i < l.length), nodV l[i] ≤ nodL l
  | x :: t, 0, _ => by rw [nodL]; simp
  | x :: t, i + 1, hi => by rw [nodL]; have := nodL_at t i (by simpa using hi); simp only [List.getElem_cons_succ]; omega
theorem nodF_at : ∀ (l : List (ByteArray × V)) (i : Nat) (hi : i < l.length), nodV l[i].2 ≤ nodF l
  | (_, x) :: t, 0, _ => by rw [nodF]; simp
  | (_, x) :: t, i + 1, hi => by rw [nodF]; have := nodF_at t i (by simpa using hi); simp only [List.getElem_cons_succ]; omega
theorem depL_at : ∀ (l : List V) (i : Nat) (hi : i < l.length), depV l[i] ≤ depL l
  | x :: t, 0, _ => by rw [depL]; simp; omega
  | x :: t, i + 1, hi => by rw [depL]; have := depL_at t i (by simpa using hi); simp only [List.getElem_cons_succ]; omega
theorem depF_at : ∀ (l : List (ByteArray × V)) (i : Nat) (hi : i < l.length), depV l[i].2 ≤ depF l
  | (_, x) :: t, 0, _ => by rw [depF]; simp; omega
  | (_, x) :: t, i + 1, hi => by rw [depF]; have := depF_at t i (by simpa using hi); simp only [List.getElem_cons_succ]; omega
theorem nodL_len : ∀ l : List V, l.length ≤ nodL l
  | [] => by simp
  | x :: t => by rw [nodL]; have := nodL_len t; have := nodV_pos x; simp only [List.length_cons]; omega
theorem nodF_len : ∀ l : List (ByteArray × V), l.length ≤ nodF l
  | [] => by simp
  | (_, x) :: t => by rw [nodF]; have := nodF_len t; have := nodV_pos x; simp only [List.length_cons]; omega

/-! Is there room? -/
mutual
def roomV : V → Int → Int → Int
  | .mk _ l f, left, depth => if depth ≤ 0 ∨ left - 1 < (l.length : Int) ∨ left - 1 < (f.length : Int) then -1 else roomF f (roomL l (left - 1) (depth - 1)) (depth - 1)
def roomL : List V → Int → Int → Int
  | [], left, _ => left
  | x :: t, left, d => if left < 0 then left else roomL t (roomV x left d) d
def roomF : List (ByteArray × V) → Int → Int → Int
  | [], left, _ => left
  | (_, x) :: t, left, d => if left < 0 then left else roomF t (roomV x left d) d
end
theorem roomV_mk (h : Hd) (l : List V) (f : List (ByteArray × V)) (left depth : Int) : roomV (.mk h l f) left depth = if depth ≤ 0 ∨ left - 1 < (l.length : Int) ∨ left - 1 < (f.length : Int) then -1 else roomF f (roomL l (left - 1) (depth - 1)) (depth - 1) := by rw [roomV]
theorem roomL_neg (l : List V) (left d : Int) (h : left < 0) : roomL l left d = left := by
  cases l with
  | nil => rw [roomL]
  | cons x t => rw [roomL, if_pos h]
theorem roomF_neg (l : List (ByteArray × V)) (left d : Int) (h : left < 0) : roomF l left d = left := by
  cases l with
  | nil => rw [roomF]
  | cons x t => obtain ⟨k, x⟩ := x; rw [roomF, if_pos h]
mutual
theorem roomV_is : ∀ (v : V) (left d : Int), 0 ≤ roomV v left d → roomV v left d = left - nodV v ∧ (depV v : Int) ≤ d
  | .mk h l f, left, d, hr => by
    rw [roomV_mk] at hr ⊢
    split at hr
    · omega
    rename_i hn
    rw [if_neg hn, nodV_mk, depV_mk]
    by_cases h1 : roomL l (left - 1) (d - 1) < 0
    · rw [roomF_neg _ _ _ h1] at hr; omega
    obtain ⟨e1, d1⟩ := roomL_is l (left - 1) (d - 1) (by omega)
    obtain ⟨e2, d2⟩ := roomF_is f _ (d - 1) hr
    rw [e1] at e2
    rw [e1, e2]
    have a1 : (depL l : Int) ≤ d - 1 := by
      rcases d1 with h | rfl
      · exact h
      · rw [depL]; omega
    have a2 : (depF f : Int) ≤ d - 1 := by
      rcases d2 with h | rfl
      · exact h
      · rw [depF]; omega
    exact ⟨by omega, by omega⟩
theorem roomL_is : ∀ (l : List V) (left d : Int), 0 ≤ roomL l left d → roomL l left d = left - nodL l ∧ ((depL l : Int) ≤ d ∨ l = [])
  | [], left, d, hr => by rw [roomL, nodL]; exact ⟨by omega, .inr rfl⟩
  | x :: t, left, d, hr => by
    rw [roomL] at hr ⊢
    split at hr
    · omega
    rename_i hn
    rw [if_neg hn, nodL, depL]
    by_cases h1 : roomV x left d < 0
    · rw [roomL_neg _ _ _ h1] at hr; omega
    obtain ⟨e1, d1⟩ := roomV_is x left d (by omega)
    obtain ⟨e2, d2⟩ := roomL_is t _ d hr
    rw [e1] at e2
    rw [e1, e2]
    refine ⟨by omega, .inl ?_⟩
    rcases d2 with d2 | rfl
    · omega
    · rw [depL]; omega
theorem roomF_is : ∀ (l : List (ByteArray × V)) (left d : Int), 0 ≤ roomF l left d → roomF l left d = left - nodF l ∧ ((depF l : Int) ≤ d ∨ l = [])
  | [], left, d, hr => by rw [roomF, nodF]; exact ⟨by omega, .inr rfl⟩
  | (k, x) :: t, left, d, hr => by
    rw [roomF] at hr ⊢
    split at hr
    · omega
    rename_i hn
    rw [if_neg hn, nodF, depF]
    by_cases h1 : roomV x left d < 0
    · rw [roomF_neg _ _ _ h1] at hr; omega
    obtain ⟨e1, d1⟩ := roomV_is x left d (by omega)
    obtain ⟨e2, d2⟩ := roomF_is t _ d hr
    rw [e1] at e2
    rw [e1, e2]
    refine ⟨by omega, .inl ?_⟩
    rcases d2 with d2 | rfl
    · omega
    · rw [depF]; omega
end

/-! Are they identical? -/
def eqH (h h' : Hd) : Bool := decide (h.kind = h'.kind) && (decide (h.bool = h'.bool) && (decide (h.neg = h'.neg ∧ h.ds = h'.ds ∧ h.exp = h'.exp) && (decide (h.tk = h'.tk ∧ h.day = h'.day ∧ h.nano = h'.nano ∧ h.off = h'.off) && (decide (h.text = h'.text) && decide (h.bytes = h'.bytes)))))
theorem eqH_iff (h h' : Hd) : eqH h h' = true ↔ h = h' := by
  obtain ⟨a0, a1, a2, a3, a4, a5, a6, a7, a8, a9, a10⟩ := h
  obtain ⟨b0, b1, b2, b3, b4, b5, b6, b7, b8, b9, b10⟩ := h'
  unfold eqH
  simp only [Bool.and_eq_true, decide_eq_true_iff, Hd.mk.injEq]
  exact ⟨fun ⟨h0, h1, ⟨h2, h3, h4⟩, ⟨h5, h6, h7, h8⟩, h9, h10⟩ => ⟨h0, h1, h2, h3, h4, h5, h6, h7, h8, h9, h10⟩, fun ⟨h0, h1, h2, h3, h4, h5, h6, h7, h8, h9, h10⟩ => ⟨h0, h1, ⟨h2, h3, h4⟩, ⟨h5, h6, h7, h8⟩, h9, h10⟩⟩
mutual
def eqV : V → V → Bool
  | .mk h l f, .mk h' l' f' => eqH h h' && (eqL l l' && eqF f f')
def eqL : List V → List V → Bool
  | [], [] => true
  | x :: t, y :: u => eqV x y && eqL t u
  | _, _ => false
def eqF : List (ByteArray × V) → List (ByteArray × V) → Bool
  | [], [] => true
  | (k, x) :: t, (k', y) :: u => decide (k = k') && (eqV x y && eqF t u)
  | _, _ => false
end
mutual
theorem eqV_iff : ∀ a b : V, eqV a b = true ↔ a = b
  | .mk h l f, .mk h' l' f' => by
    rw [eqV, Bool.and_eq_true, Bool.and_eq_true, eqH_iff, eqL_iff l l', eqF_iff f f', V.mk.injEq]
theorem eqL_iff : ∀ a b : List V, eqL a b = true ↔ a = b
  | [], [] => by simp [eqL]
  | [], _ :: _ => by simp [eqL]
  | _ :: _, [] => by simp [eqL]
  | x :: t, y :: u => by rw [eqL, Bool.and_eq_true, eqV_iff x y, eqL_iff t u, List.cons.injEq]
theorem eqF_iff : ∀ a b : List (ByteArray × V), eqF a b = true ↔ a = b
  | [], [] => by simp [eqF]
  | [], _ :: _ => by simp [eqF]
  | _ :: _, [] => by simp [eqF]
  | (k, x) :: t, (k', y) :: u => by rw [eqF, Bool.and_eq_true, Bool.and_eq_true, decide_eq_true_iff, eqV_iff x y, eqF_iff t u, List.cons.injEq, Prod.mk.injEq, and_assoc]
end
theorem eqV_self (v : V) : eqV v v = true := (eqV_iff v v).2 rfl
theorem eqV_mk (h h' : Hd) (l l' : List V) (f f' : List (ByteArray × V)) : eqV (.mk h l f) (.mk h' l' f') = (eqH h h' && (eqL l l' && eqF f f')) := by rw [eqV]
theorem eqL_len : ∀ a b : List V, eqL a b = true → a.length = b.length := fun a b h => by rw [(eqL_iff a b).1 h]
theorem eqF_len : ∀ a b : List (ByteArray × V), eqF a b = true → a.length = b.length := fun a b h => by rw [(eqF_iff a b).1 h]
theorem eqL_drop (a b : List V) (k : Nat) (h : k < a.length) (h' : k < b.length) : eqL (a.drop k) (b.drop k) = (eqV a[k] b[k] && eqL (a.drop (k + 1)) (b.drop (k + 1))) := by
  rw [List.drop_eq_getElem_cons h, List.drop_eq_getElem_cons h', eqL]
theorem eqF_drop (a b : List (ByteArray × V)) (k : Nat) (h : k < a.length) (h' : k < b.length) : eqF (a.drop k) (b.drop k) = (decide (a[k].1 = b[k].1) && (eqV a[k].2 b[k].2 && eqF (a.drop (k + 1)) (b.drop (k + 1)))) := by
  rw [List.drop_eq_getElem_cons h, List.drop_eq_getElem_cons h']
  obtain ⟨x, y⟩ := a[k]
  obtain ⟨x', y'⟩ := b[k]
  rw [eqF]
theorem roomL_drop (l : List V) (k : Nat) (h : k < l.length) (left d : Int) (h0 : 0 ≤ left) : roomL (l.drop k) left d = roomL (l.drop (k + 1)) (roomV l[k] left d) d := by
  rw [List.drop_eq_getElem_cons h, roomL, if_neg (by omega)]
theorem roomF_drop (l : List (ByteArray × V)) (k : Nat) (h : k < l.length) (left d : Int) (h0 : 0 ≤ left) : roomF (l.drop k) left d = roomF (l.drop (k + 1)) (roomV l[k].2 left d) d := by
  rw [List.drop_eq_getElem_cons h]
  obtain ⟨x, y⟩ := l[k]
  rw [roomF, if_neg (by omega)]
end Go.Proofs.YtemiihkmpojpgaaGreatDoor

namespace Go.Proofs.YtemiihkmpojpgaaGreatDoor
open Go.RowKit Go.ChangeShapes Go.Deep
set_option maxRecDepth 100000
set_option maxHeartbeats 1000000

theorem cell_lt {w : World} {g i : Nat} {v : Value} (h : w.cell? ⟨g, i, none⟩ = some v) : g < w.heap.size := by
  rcases Nat.lt_or_ge g w.heap.size with h' | h'
  · exact h'
  · simp [World.cell?, Array.getElem?_eq_none h'] at h
theorem pick {α : Type} (d : α) {n : Nat} {p : Nat → α → Prop} (h : ∀ i, i < n → ∃ x, p i x) : ∃ f : Nat → α, ∀ i, i < n → p i (f i) :=
  ⟨fun i => if hi : i < n then (h i hi).choose else d, fun i hi => by simp only [dif_pos hi]; exact (h i hi).choose_spec⟩
/-- A slice's elements are read each: what that says of its cells. -/
theorem sl_of {H : Type} {enc : TypeId × Value → H} {P : Program} {w : World} {fuel : Nat} {t e : TypeId} {v : Value} {x : DataW H × List MemPlace} {size : Nat} (hC : P.cellsOf e = size) (h0 : 0 < size) 
    {p : List Value → Prop} (ht : P.underlying t = some (.slice e)) (h : DataW.trod enc P w 0 (fun _ => true) true fuel t [v] = some x) (hw : WOk P t x.1)
    (hp : ∀ n cs y, n < fuel → DataW.trod enc P w 0 (fun _ => true) true n e cs = some y → WOk P e y.1 → p cs) (hlen : ∀ cs, p cs → cs.length = size) :
    ∃ (n : Nat) (c : Nat → List Value), Sl w v n size c ∧ n ≤ 1048576 ∧ ∀ i, i < n → p (c i) := by
  rcases open_sliceN ht h hw with h1 | ⟨a, len, cap, n, hn, h1, hl, hm, hr, hi⟩
  · simp only [List.cons.injEq, and_true] at h1
    subst h1
    exact ⟨0, fun _ => [], Sl.nil, by omega, fun i hi => absurd hi (Nat.not_lt_zero _)⟩
  simp only [List.cons.injEq, and_true] at h1
  subst h1
  obtain ⟨c, hc⟩ := pick (α := List Value) [] hi
  refine ⟨len, c, ⟨some a, cap, rfl, hl, ⟨by omega, hm⟩, (fun h => by cases h), fun hlen0 => ?_⟩, by omega, fun i him => ?_⟩
  · obtain ⟨g, o, sp⟩ := a
    have at' : ∀ i, i < len → ∀ j, j < size → w.cell? ((⟨g, o, sp⟩ : Addr).add (i * size + j)) = (c i)[j]? := by
      intro i him j hj
      obtain ⟨y, h2, _, _⟩ := hc i him
      rw [hC] at h2
      obtain ⟨_, _, hat⟩ := World.cells?_some h2
      have := hat j hj
      rw [Go.Deep.add_add] at this
      exact this
    have hsp : sp = none := by
      have h2 := at' 0 hlen0 0 h0
      obtain ⟨y, h3, h4, h5⟩ := hc 0 hlen0
      have h6 : (c 0).length = size := hlen _ (hp n _ y (by omega) h4 h5)
      rw [List.getElem?_eq_getElem (by omega)] at h2
      cases sp with
      | none => rfl
      | some q =>
        simp [Addr.add, World.cell?] at h2
        split at h2 <;> simp at h2
    subst hsp
    have hadd : ∀ k, (⟨g, o, none⟩ : Addr).add k = ⟨g, o + k, none⟩ := fun k => by unfold Addr.add; split <;> simp_all
    refine ⟨g, o, rfl, ?_, fun i him j hj => by rw [Nat.add_assoc, ← hadd]; exact at' i him j hj⟩
    have h2 := at' 0 hlen0 0 h0
    obtain ⟨y, h3, h4, h5⟩ := hc 0 hlen0
    have h6 : (c 0).length = size := hlen _ (hp n _ y (by omega) h4 h5)
    rw [List.getElem?_eq_getElem (by omega), hadd] at h2
    exact cell_lt h2
  · obtain ⟨y, _, h4, h5⟩ := hc i him
    exact hp n _ y (by omega) h4 h5

section
variable {H : Type} {enc : TypeId × Value → H} {W : World}
theorem one_dec {fuel : Nat} {cs : List Value} {x : DataW H × List MemPlace} (h : DataW.trod enc Tryz.prog W 0 (fun _ => true) true fuel 23 cs = some x) (hw : WOk Tryz.prog 23 x.1) :
    ∃ (neg : Bool) (ds : ByteArray) (exp : Int), cs = [.bool neg, .string ds, .int .i64 exp] ∧ ds.size ≤ 1000000000 ∧ I64 exp := by
  obtain ⟨n, _, hlen, hf⟩ := open_struct Tryz.underlying23 h hw
  have hC : Tryz.prog.cellsOf 23 = 3 := by kernel_rfl
  have c1 : Tryz.prog.cellsOf 4 = 1 := by kernel_rfl
  have c2 : Tryz.prog.cellsOf 9 = 1 := by kernel_rfl
  have c3 : Tryz.prog.cellsOf 3 = 1 := by kernel_rfl
  rw [hC] at hlen
  match cs, hlen with
  | [a, b, c], _ =>
    obtain ⟨y0, h0, _⟩ := hf 0 _ rfl
    obtain ⟨y1, h1, w1⟩ := hf 1 _ rfl
    obtain ⟨y2, h2, _⟩ := hf 2 _ rfl
    have h0 : DataW.trod enc Tryz.prog W 0 (fun _ => true) true n 4 (([a, b, c].drop 0).take (Tryz.prog.cellsOf 4)) = some y0 := h0
    have h1 : DataW.trod enc Tryz.prog W 0 (fun _ => true) true n 9 (([a, b, c].drop 1).take (Tryz.prog.cellsOf 9)) = some y1 := h1
    have h2 : DataW.trod enc Tryz.prog W 0 (fun _ => true) true n 3 (([a, b, c].drop 2).take (Tryz.prog.cellsOf 3)) = some y2 := h2
    rw [c1] at h0
    rw [c2] at h1
    rw [c3] at h2
    obtain ⟨b0, e0, _⟩ := DataW.trod_bool Tryz.underlying4 h0
    obtain ⟨b1, e1, x1, _⟩ := DataW.trod_string Tryz.underlying9 h1
    obtain ⟨b2, e2, _, wf⟩ := DataW.trod_int Tryz.underlying3 h2
    have e0' : a = .bool b0 := by simpa using e0
    have e1' : b = .string b1 := by simpa using e1
    have e2' : c = .int .i64 b2 := by simpa using e2
    rw [x1] at w1
    have hs := wok_string w1
    exact ⟨b0, b1, b2, by rw [e0', e1', e2'], by simpa using hs, i64_of_wf wf⟩
theorem one_time {fuel : Nat} {cs : List Value} {x : DataW H × List MemPlace} (h : DataW.trod enc Tryz.prog W 0 (fun _ => true) true fuel 25 cs = some x) (hw : WOk Tryz.prog 25 x.1) :
    ∃ a b c d : Int, cs = [.int .i64 a, .int .i64 b, .int .i64 c, .int .i64 d] ∧ I64 a ∧ I64 b ∧ I64 c ∧ I64 d := by
  obtain ⟨n, _, hlen, hf⟩ := open_struct Tryz.underlying25 h hw
  have hC : Tryz.prog.cellsOf 25 = 4 := by kernel_rfl
  have c3 : Tryz.prog.cellsOf 3 = 1 := by kernel_rfl
  rw [hC] at hlen
  match cs, hlen with
  | [a, b, c, d], _ =>
    obtain ⟨y0, h0, _⟩ := hf 0 _ rfl
    obtain ⟨y1, h1, _⟩ := hf 1 _ rfl
    obtain ⟨y2, h2, _⟩ := hf 2 _ rfl
    obtain ⟨y3, h3, _⟩ := hf 3 _ rfl
    have h0 : DataW.trod enc Tryz.prog W 0 (fun _ => true) true n 3 (([a, b, c, d].drop 0).take (Tryz.prog.cellsOf 3)) = some y0 := h0
    have h1 : DataW.trod enc Tryz.prog W 0 (fun _ => true) true n 3 (([a, b, c, d].drop 1).take (Tryz.prog.cellsOf 3)) = some y1 := h1
    have h2 : DataW.trod enc Tryz.prog W 0 (fun _ => true) true n 3 (([a, b, c, d].drop 2).take (Tryz.prog.cellsOf 3)) = some y2 := h2
    have h3 : DataW.trod enc Tryz.prog W 0 (fun _ => true) true n 3 (([a, b, c, d].drop 3).take (Tryz.prog.cellsOf 3)) = some y3 := h3
    rw [c3] at h0 h1 h2 h3
    obtain ⟨b0, e0, _, w0⟩ := DataW.trod_int Tryz.underlying3 h0
    obtain ⟨b1, e1, _, w1⟩ := DataW.trod_int Tryz.underlying3 h1
    obtain ⟨b2, e2, _, w2⟩ := DataW.trod_int Tryz.underlying3 h2
    obtain ⟨b3, e3, _, w3⟩ := DataW.trod_int Tryz.underlying3 h3
    have e0' : a = .int .i64 b0 := by simpa using e0
    have e1' : b = .int .i64 b1 := by simpa using e1
    have e2' : c = .int .i64 b2 := by simpa using e2
    have e3' : d = .int .i64 b3 := by simpa using e3
    exact ⟨b0, b1, b2, b3, by rw [e0', e1', e2', e3'], i64_of_wf w0, i64_of_wf w1, i64_of_wf w2, i64_of_wf w3⟩
theorem u8_val {n : Int} (h : (Lit.int .u8 n).wf = true) : Value.int .u8 n = bv (UInt8.ofNat n.toNat) := by
  unfold Lit.wf at h
  rw [Bool.and_eq_true] at h
  have h1 : (0 : Int) ≤ n := of_decide_eq_true h.1
  have h2 : n ≤ 255 := of_decide_eq_true h.2
  unfold bv
  congr 1
  simp
  omega
theorem rdb_of {fuel : Nat} {v : Value} {x : DataW H × List MemPlace} (h : DataW.trod enc Tryz.prog W 0 (fun _ => true) true fuel 26 [v] = some x) (hw : WOk Tryz.prog 26 x.1) : ∃ l : List UInt8, RdB W v l ∧ l.length ≤ 1000000000 := by
  obtain ⟨n, c, hs, hnn, hp⟩ := sl_of (size := 1) (e := 5) (by kernel_rfl) (by decide) (p := fun cs => ∃ b : UInt8, cs = [bv b]) Tryz.underlying26 h hw
    (fun n cs y _ h1 _ => by
      obtain ⟨b, e, _, wf⟩ := DataW.trod_int Tryz.underlying5 h1
      exact ⟨_, by rw [e, u8_val wf]⟩) (fun cs h => by obtain ⟨b, rfl⟩ := h; rfl)
  obtain ⟨f, hf⟩ := pick (0 : UInt8) hp
  obtain ⟨a, cap, rfl, h1, h2, h3, h4⟩ := hs
  refine ⟨(List.range n).map f, ⟨a, cap, by rw [List.length_map, List.length_range], by rw [List.length_map, List.length_range]; exact h1, by rw [List.length_map, List.length_range]; exact h2, h3, fun hn => ?_⟩, by rw [List.length_map, List.length_range]; omega⟩
  rw [List.length_map, List.length_range] at hn
  obtain ⟨g, o, ha, hg, hc⟩ := h4 hn
  refine ⟨g, o, ha, hg, fun i hi j hj => ?_⟩
  rw [List.length_map, List.length_range] at hi
  rw [hc i hi j hj, hf i hi]
  have : ((List.range n).map f).getD i 0 = f i := by
    rw [List.getD_eq_getElem?_getD, List.getElem?_eq_getElem (by simpa using hi)]
    simp
  dsimp only
  rw [this]
theorem cells_len (c : VC) : c.cells.length = 13 := rfl
/-- A value is read. -/
theorem rdv_of : ∀ (m fuel : Nat) (cs : List Value) (x : DataW H × List MemPlace), fuel ≤ m → DataW.trod enc Tryz.prog W 0 (fun _ => true) true fuel 30 cs = some x → WOk Tryz.prog 30 x.1 →
    ∃ c v, cs = c.cells ∧ RdV W c v := by
  intro m
  induction m with
  | zero =>
    intro fuel cs x hm h hw
    obtain rfl : fuel = 0 := by omega
    cases h
  | succ m ih =>
    intro fuel cs x hm h hw
    obtain ⟨n, hn, hlen, hf⟩ := open_struct Tryz.underlying30 h hw
    have hC : Tryz.prog.cellsOf 30 = 13 := by kernel_rfl
    have c1 : Tryz.prog.cellsOf 4 = 1 := by kernel_rfl
    have c2 : Tryz.prog.cellsOf 9 = 1 := by kernel_rfl
    have c3 : Tryz.prog.cellsOf 3 = 1 := by kernel_rfl
    have c4 : Tryz.prog.cellsOf 23 = 3 := by kernel_rfl
    have c5 : Tryz.prog.cellsOf 25 = 4 := by kernel_rfl
    have c6 : Tryz.prog.cellsOf 26 = 1 := by kernel_rfl
    have c7 : Tryz.prog.cellsOf 27 = 1 := by kernel_rfl
    have c8 : Tryz.prog.cellsOf 28 = 1 := by kernel_rfl
    rw [hC] at hlen
    match cs, hlen with
    | [a0, a1, a2, a3, a4, a5, a6, a7, a8, a9, a10, a11, a12], _ =>
      obtain ⟨y0, h0, _⟩ := hf 0 _ rfl
      obtain ⟨y1, h1, _⟩ := hf 1 _ rfl
      obtain ⟨y2, h2, w2⟩ := hf 2 _ rfl
      obtain ⟨y3, h3, w3⟩ := hf 3 _ rfl
      obtain ⟨y4, h4, w4⟩ := hf 4 _ rfl
      obtain ⟨y5, h5, w5⟩ := hf 5 _ rfl
      obtain ⟨y6, h6, w6⟩ := hf 6 _ rfl
      obtain ⟨y7, h7, w7⟩ := hf 7 _ rfl
      have h0 : DataW.trod enc Tryz.prog W 0 (fun _ => true) true n 3 (([a0, a1, a2, a3, a4, a5, a6, a7, a8, a9, a10, a11, a12].drop 0).take (Tryz.prog.cellsOf 3)) = some y0 := h0
      have h1 : DataW.trod enc Tryz.prog W 0 (fun _ => true) true n 4 (([a0, a1, a2, a3, a4, a5, a6, a7, a8, a9, a10, a11, a12].drop 1).take (Tryz.prog.cellsOf 4)) = some y1 := h1
      have h2 : DataW.trod enc Tryz.prog W 0 (fun _ => true) true n 23 (([a0, a1, a2, a3, a4, a5, a6, a7, a8, a9, a10, a11, a12].drop 2).take (Tryz.prog.cellsOf 23)) = some y2 := h2
      have h3 : DataW.trod enc Tryz.prog W 0 (fun _ => true) true n 25 (([a0, a1, a2, a3, a4, a5, a6, a7, a8, a9, a10, a11, a12].drop 5).take (Tryz.prog.cellsOf 25)) = some y3 := h3
      have h4 : DataW.trod enc Tryz.prog W 0 (fun _ => true) true n 9 (([a0, a1, a2, a3, a4, a5, a6, a7, a8, a9, a10, a11, a12].drop 9).take (Tryz.prog.cellsOf 9)) = some y4 := h4
      have h5 : DataW.trod enc Tryz.prog W 0 (fun _ => true) true n 26 (([a0, a1, a2, a3, a4, a5, a6, a7, a8, a9, a10, a11, a12].drop 10).take (Tryz.prog.cellsOf 26)) = some y5 := h5
      have h6 : DataW.trod enc Tryz.prog W 0 (fun _ => true) true n 27 (([a0, a1, a2, a3, a4, a5, a6, a7, a8, a9, a10, a11, a12].drop 11).take (Tryz.prog.cellsOf 27)) = some y6 := h6
      have h7 : DataW.trod enc Tryz.prog W 0 (fun _ => true) true n 28 (([a0, a1, a2, a3, a4, a5, a6, a7, a8, a9, a10, a11, a12].drop 12).take (Tryz.prog.cellsOf 28)) = some y7 := h7
      rw [c3] at h0
      rw [c1] at h1
      rw [c4] at h2
      rw [c5] at h3
      rw [c2] at h4
      rw [c6] at h5
      rw [c7] at h6
      rw [c8] at h7
      obtain ⟨b0, e0, _, wf0⟩ := DataW.trod_int Tryz.underlying3 h0
      obtain ⟨b1, e1, _⟩ := DataW.trod_bool Tryz.underlying4 h1
      obtain ⟨ng, ds, ex, e2, hds, hex⟩ := one_dec h2 w2
      obtain ⟨t0, t1, t2, t3, e3, ht0, ht1, ht2, ht3⟩ := one_time h3 w3
      obtain ⟨s4, e4, x4, _⟩ := DataW.trod_string Tryz.underlying9 h4
      rw [x4] at w4
      have hs4 := wok_string w4
      obtain ⟨bs, hbs, hbl⟩ := rdb_of (v := a10) (by simpa using h5) w5
      simp only [List.drop_zero, List.drop_succ_cons, List.take_succ_cons, List.take_zero, List.cons.injEq, and_true] at e0 e1 e2 e3 e4
      obtain ⟨rfl, rfl, rfl⟩ := e2
      obtain ⟨rfl, rfl, rfl, rfl⟩ := e3
      subst e0 e1 e4
      obtain ⟨nl, cl, hsl, _, hpl⟩ := sl_of (size := 13) (v := a11) (e := 30) hC (by decide) (p := fun cs => ∃ c v, cs = c.cells ∧ RdV W c v) Tryz.underlying27 (by simpa using h6) w6
        (fun k cs y hk h8 w8 => ih k cs y (by omega) h8 w8) (fun cs h => by obtain ⟨c, v, rfl, _⟩ := h; rfl)
      obtain ⟨nf, cf, hsf, _, hpf⟩ := sl_of (size := 14) (v := a12) (e := 53) (by kernel_rfl) (by decide) (p := fun cs => ∃ k c v, cs = .string k :: c.cells ∧ k.size ≤ 1000000000 ∧ RdV W c v) Tryz.underlying28 (by simpa using h7) w7
        (fun k cs y hk h8 w8 => by
          obtain ⟨n2, hn2, hlen2, hf2⟩ := open_struct Tryz.underlying53 h8 w8
          rw [show Tryz.prog.cellsOf 53 = 14 by kernel_rfl] at hlen2
          obtain ⟨z0, g0, v0⟩ := hf2 0 _ rfl
          obtain ⟨z1, g1, v1⟩ := hf2 1 _ rfl
          have g0 : DataW.trod enc Tryz.prog W 0 (fun _ => true) true n2 9 ((cs.drop 0).take (Tryz.prog.cellsOf 9)) = some z0 := g0
          have g1 : DataW.trod enc Tryz.prog W 0 (fun _ => true) true n2 30 ((cs.drop 1).take (Tryz.prog.cellsOf 30)) = some z1 := g1
          rw [c2] at g0
          rw [hC] at g1
          obtain ⟨s, e, xs, _⟩ := DataW.trod_string Tryz.underlying9 g0
          rw [xs] at v0
          have hss := wok_string v0
          obtain ⟨c, v, ec, hr⟩ := ih n2 _ z1 (by omega) g1 v1
          refine ⟨s, c, v, ?_, by simpa using hss, hr⟩
          match cs, hlen2 with
          | a :: r, hl =>
            simp only [List.length_cons] at hl
            simp only [List.drop_zero, List.take_succ_cons, List.take_zero, List.cons.injEq, and_true] at e
            simp only [List.drop_succ_cons, List.drop_zero] at ec
            rw [List.take_of_length_le (by omega)] at ec
            rw [e, ec]) (fun cs h => by obtain ⟨k, c, v, rfl, _⟩ := h; rfl)
      obtain ⟨lc, hlc⟩ := pick (⟨⟨b0, b1, ng, ds, ex, t0, t1, t2, t3, s4, bs⟩, a10, a11, a12⟩ : VC) hpl
      obtain ⟨lv, hlv⟩ := pick (V.mk ⟨b0, b1, ng, ds, ex, t0, t1, t2, t3, s4, bs⟩ [] []) hlc
      obtain ⟨fk, hfk⟩ := pick (⟨#[]⟩ : ByteArray) hpf
      obtain ⟨fc, hfc⟩ := pick (⟨⟨b0, b1, ng, ds, ex, t0, t1, t2, t3, s4, bs⟩, a10, a11, a12⟩ : VC) hfk
      obtain ⟨fv, hfv⟩ := pick (V.mk ⟨b0, b1, ng, ds, ex, t0, t1, t2, t3, s4, bs⟩ [] []) hfc
      refine ⟨⟨⟨b0, b1, ng, ds, ex, t0, t1, t2, t3, s4, bs⟩, a10, a11, a12⟩, .mk ⟨b0, b1, ng, ds, ex, t0, t1, t2, t3, s4, bs⟩ ((List.range nl).map lv) ((List.range nf).map fun i => (fk i, fv i)), rfl, ?_⟩
      refine .mk _ _ _ a10 a11 a12 lc fc ⟨i64_of_wf wf0, hex, ht0, ht1, ht2, ht3, hds, by simpa using hs4, hbl⟩ hbs ?_ ?_ ?_ ?_ ?_ (fun _ _ _ _ _ _ _ => trivial) (fun _ _ _ _ _ _ _ => trivial) (fun _ _ _ _ _ _ _ => trivial)
      · rw [List.length_map, List.length_range]
        obtain ⟨a, cap, e1, e2, e3, e4, e5⟩ := hsl
        refine ⟨a, cap, e1, e2, e3, e4, fun hn => ?_⟩
        obtain ⟨g, o, e6, e7, e8⟩ := e5 hn
        exact ⟨g, o, e6, e7, fun i hi j hj => by rw [e8 i hi j hj, (hlv i hi).1]⟩
      · intro i hi
        rw [List.length_map, List.length_range] at hi
        simp only [List.getElem_map, List.getElem_range]
        exact (hlv i hi).2
      · rw [List.length_map, List.length_range]
        obtain ⟨a, cap, e1, e2, e3, e4, e5⟩ := hsf
        refine ⟨a, cap, e1, e2, e3, e4, fun hn => ?_⟩
        obtain ⟨g, o, e6, e7, e8⟩ := e5 hn
        refine ⟨g, o, e6, e7, fun i hi j hj => ?_⟩
        rw [e8 i hi j hj, (hfv i hi).1]
        have hg : ((List.range nf).map fun i => (fk i, fv i)).getD i ((⟨#[]⟩ : ByteArray), V.mk ⟨b0, b1, ng, ds, ex, t0, t1, t2, t3, s4, bs⟩ ((List.range nl).map lv) ((List.range nf).map fun i => (fk i, fv i))) = (fk i, fv i) := by
          rw [List.getD_eq_getElem?_getD, List.getElem?_eq_getElem (by simpa using hi)]
          simp
        dsimp only
        rw [hg]
      · intro i hi
        rw [List.length_map, List.length_range] at hi
        simp only [List.getElem_map, List.getElem_range]
        exact (hfv i hi).2.1
      · intro i hi
        rw [List.length_map, List.length_range] at hi
        simp only [List.getElem_map, List.getElem_range]
        exact (hfv i hi).2.2
end
end Go.Proofs.YtemiihkmpojpgaaGreatDoor

namespace Go.Proofs.YtemiihkmpojpgaaGreatDoor
open Go.RowKit
set_option maxRecDepth 100000
set_option maxHeartbeats 1000000

/-- A reading that is not touched by what becomes of other blocks. -/
structure Stb {α β : Type} (rd : World → (Nat → Prop) → β → α → Prop) : Prop where
  kept : ∀ {w w' : World} {S : Nat → Prop} {c : β} {x : α}, rd w S c x → (∀ b, S b → b < w.heap.size → w'.heap[b]? = w.heap[b]?) → w.heap.size ≤ w'.heap.size → rd w' (fun b => S b ∧ b < w.heap.size) c x
  mono : ∀ {w : World} {S T : Nat → Prop} {c : β} {x : α}, rd w S c x → (∀ b, S b → T b) → rd w T c x
/-- The row o of one's own reads as the list l. -/
def OwnT {α β : Type} (e : TypeId) (size : Nat) (cells : β → List Value) (rd : World → (Nat → Prop) → β → α → Prop) (w : World) (base : Nat) (o : Value) (l : List α) : Prop :=
  ∃ cs : List β, cs.length = l.length ∧ w.ownsRow base e size o l.length (cs.flatMap cells) ∧ ∀ i (h : i < l.length) (h' : i < cs.length), rd w (fun b => base ≤ b ∧ some b ≠ o.ownBlock) cs[i] l[i]
section
variable {α β : Type} {e : TypeId} {size : Nat} {cells : β → List Value} {rd : World → (Nat → Prop) → β → α → Prop}
theorem OwnT.nil {w : World} {base : Nat} : OwnT e size cells rd w base (.slice none 0 0) ([] : List α) :=
  ⟨[], rfl, World.ownsRow_nil _ _ _ _, fun _ h => absurd h (Nat.not_lt_zero _)⟩
theorem OwnT.blk {w : World} {base : Nat} {o : Value} {l : List α} (h : OwnT e size cells rd w base o l) : ∀ b, o.ownBlock = some b → b < w.heap.size := by
  obtain ⟨_, _, ho, _⟩ := h
  exact fun b hb => (ho.lt b hb).2
theorem OwnT.below (hs : Stb rd) {w w' : World} {base : Nat} {o : Value} {l : List α} (h : OwnT e size cells rd w base o l) (hb : Below w.heap.size w w') : OwnT e size cells rd w' base o l := by
  obtain ⟨cs, hc, hown, hrd⟩ := h
  exact ⟨cs, hc, own_below hown hb, fun i hi hi' => hs.mono (hs.kept (hrd i hi hi') (fun b _ hb' => hb.block b hb') hb.size) (fun b h => h.1)⟩
/-- One element more. -/
theorem OwnT.push (hs : Stb rd) {w w' : World} {base : Nat} {o o' : Value} {l : List α} {cs : List β} (hc : cs.length = l.length) (hrd : ∀ i (h : i < l.length) (h' : i < cs.length), rd w (fun b => base ≤ b ∧ some b ≠ o.ownBlock) cs[i] l[i])
    {c : β} {x : α} (hx : rd w (fun b => base ≤ b ∧ some b ≠ o.ownBlock) c x) (hown : w'.ownsRow base e size o' (l.length + 1) (cs.flatMap cells ++ cells c)) (hg : w.grownBy w' o.ownBlock) (hf : FreshRow w o o') : OwnT e size cells rd w' base o' (l ++ [x]) := by
  have key : ∀ {c x}, rd w (fun b => base ≤ b ∧ some b ≠ o.ownBlock) c x → rd w' (fun b => base ≤ b ∧ some b ≠ o'.ownBlock) c x := by
    intro c x h
    refine hs.mono (hs.kept h (fun b hb hb' => hg.block b hb' hb.2) hg.size) (fun b hb => ⟨hb.1.1, ?_⟩)
    rcases hf with hf | hf
    · rw [hf]; exact hb.1.2
    · intro h'
      have := hf b h'.symm
      have := hb.2
      omega
  refine ⟨cs ++ [c], by simp [hc], ?_, fun i hi hi' => ?_⟩
  · rw [List.length_append, List.flatMap_append]
    simpa using hown
  · rw [List.length_append] at hi hi'
    simp only [List.length_cons, List.length_nil] at hi hi'
    by_cases h : i < l.length
    · rw [List.getElem_append_left h, List.getElem_append_left (by omega)]
      exact key (hrd i h (by omega))
    · have : i = l.length := by omega
      subst this
      rw [List.getElem_append_right (by omega), List.getElem_append_right (by omega)]
      simp only [Nat.sub_self, hc, List.getElem_cons_zero]
      exact key hx
/-- The row as a slice that reads so. -/
theorem OwnT.sl (hs : Stb rd) (hz : ∀ c, (cells c).length = size) (d : β) {w : World} {base : Nat} {o : Value} {l : List α} (h : OwnT e size cells rd w base o l) (hl : l.length ≤ 140737488351232) :
    ∃ lc : Nat → β, Sl w o l.length size (fun i => cells (lc i)) ∧ (∀ i (h : i < l.length), rd w (fun b => base ≤ b) (lc i) l[i]) ∧ BlkIn (fun b => base ≤ b) o := by
  obtain ⟨cs, hc, hown, hrd⟩ := h
  refine ⟨fun i => cs.getD i d, ?_, fun i hi => ?_, BlkIn.of_own hown⟩
  · rw [← hc]
    rw [← hc] at hown
    exact Sl.of_own cells hz cs hown (by omega) _ (fun i hi => by dsimp only; rw [List.getD_eq_getElem?_getD, List.getElem?_eq_getElem hi]; rfl)
  · have h1 : cs.getD i d = cs[i] := by rw [List.getD_eq_getElem?_getD, List.getElem?_eq_getElem (by omega)]; rfl
    dsimp only
    rw [h1]
    exact hs.mono (hrd i hi (by omega)) (fun b h => h.1)
end
/-- Such a slice over a world in which its blocks are as they were. -/
theorem rows_kept {α β : Type} {size : Nat} {cells : β → List Value} {rd : World → (Nat → Prop) → β → α → Prop} (hs : Stb rd) {w w' : World} {base base' : Nat} {o : Value} {l : List α}
    (h : ∃ lc : Nat → β, Sl w o l.length size (fun i => cells (lc i)) ∧ (∀ i (h : i < l.length), rd w (fun b => base ≤ b) (lc i) l[i]) ∧ BlkIn (fun b => base ≤ b) o)
    (hk : ∀ b, base ≤ b → b < w.heap.size → w'.heap[b]? = w.heap[b]?) (hz : w.heap.size ≤ w'.heap.size) (hle : base' ≤ base) :
    ∃ lc : Nat → β, Sl w' o l.length size (fun i => cells (lc i)) ∧ (∀ i (h : i < l.length), rd w' (fun b => base' ≤ b) (lc i) l[i]) ∧ BlkIn (fun b => base' ≤ b) o := by
  obtain ⟨lc, h1, h2, h3⟩ := h
  exact ⟨lc, h1.kept h3 hk hz, fun i hi => hs.mono (hs.kept (h2 i hi) (fun b hb hb' => hk b hb hb') hz) (fun b hb => Nat.le_trans hle hb.1), h3.mono (fun b hb => Nat.le_trans hle hb)⟩
/-! Values. -/
theorem stbV : Stb RdI := ⟨fun h hk hz => h.lt.kept (fun b hb hb' => hk b hb.1 hb') hz, fun h hs => h.mono hs⟩
/-! Fields. -/
def fcells (x : ByteArray × VC) : List Value := .string x.1 :: x.2.cells
def RdF (w : World) (S : Nat → Prop) (c : ByteArray × VC) (x : ByteArray × V) : Prop := c.1 = x.1 ∧ x.1.size ≤ 1000000000 ∧ RdI w S c.2 x.2
theorem stbF : Stb RdF := ⟨fun h hk hz => ⟨h.1, h.2.1, stbV.kept h.2.2 hk hz⟩, fun h hs => ⟨h.1, h.2.1, h.2.2.mono hs⟩⟩
theorem fcells_len (x : ByteArray × VC) : (fcells x).length = 14 := rfl
/-- A value whose lists are rows of one's own. -/
theorem RdI.of_rows {w : World} {S : Nat → Prop} {h : Hd} {l : List V} {f : List (ByteArray × V)} {b lv fv : Value} (ok : HdOk h) (hb : RdB w b h.bytes) (sb : BlkIn S b)
    (hl : ∃ lc : Nat → VC, Sl w lv l.length 13 (fun i => (lc i).cells) ∧ (∀ i (h : i < l.length), RdI w S (lc i) l[i]) ∧ BlkIn S lv)
    (hf : ∃ fc : Nat → ByteArray × VC, Sl w fv f.length 14 (fun i => fcells (fc i)) ∧ (∀ i (h : i < f.length), RdF w S (fc i) f[i]) ∧ BlkIn S fv) : RdI w S ⟨h, b, lv, fv⟩ (.mk h l f) := by
  obtain ⟨lc, hl1, hl2, hl3⟩ := hl
  obtain ⟨fc, hf1, hf2, hf3⟩ := hf
  refine .mk h l f b lv fv lc (fun i => (fc i).2) ok hb hl1 hl2 ?_ (fun i hi => (hf2 i hi).2.1) (fun i hi => (hf2 i hi).2.2) sb hl3 hf3
  obtain ⟨a, cap, e1, e2, e3, e4, e5⟩ := hf1
  refine ⟨a, cap, e1, e2, e3, e4, fun hn => ?_⟩
  obtain ⟨g, o, e6, e7, e8⟩ := e5 hn
  refine ⟨g, o, e6, e7, fun i hi j hj => ?_⟩
  rw [e8 i hi j hj]
  have h1 := (hf2 i hi).1
  have h2 : (f.getD i ((⟨#[]⟩ : ByteArray), V.mk h l f)).1 = f[i].1 := by rw [List.getD_eq_getElem?_getD, List.getElem?_eq_getElem hi]; rfl
  dsimp only
  rw [h2]
  unfold fcells
  rw [h1]
end Go.Proofs.YtemiihkmpojpgaaGreatDoor

namespace Go.Proofs.YtemiihkmpojpgaaGreatDoor
open Go.RowKit
set_option maxRecDepth 100000
set_option maxHeartbeats 1000000

/-- A natural number's digits. -/
def natB (l : List UInt8) : Bool := decide (l.length ≤ 600) && (l.all dig && decide (l.head?.map (·.toNat) ≠ some 48))
/-- A decimal in normal form. -/
def decB (neg : Bool) (l : List UInt8) (e : Int) : Bool :=
  if l = [] then !neg && decide (e = 0) else decide (l.length ≤ 120) && (natB l && (decide (tz l = 0) && decide (-400 ≤ e ∧ e ≤ 400)))
def timeB (k d n o : Int) : Bool :=
  decide (1 ≤ k ∧ k ≤ 4 ∧ 0 ≤ d ∧ d ≤ 3652058 ∧ 0 ≤ n ∧ n ≤ 86399999999999 ∧ -1439 ≤ o ∧ o ≤ 1439 ∧ (k = 1 ∨ k = 3 ∨ k = 4 ∨ d = 0) ∧ (k = 2 ∨ k = 3 ∨ k = 4 ∨ n = 0) ∧ (k = 4 ∨ o = 0))
/-- Are the parts that the kind does not have zero? -/
def ownB (h : Hd) (nl nf : Nat) : Bool :=
  decide (0 ≤ h.kind ∧ h.kind ≤ 7 ∧ (h.kind = 1 ∨ h.bool = false) ∧ (h.kind = 2 ∨ (h.neg = false ∧ h.ds.size = 0 ∧ h.exp = 0)) ∧ (h.kind = 3 ∨ (h.tk = 0 ∧ h.day = 0 ∧ h.nano = 0 ∧ h.off = 0)) ∧
    (h.kind = 4 ∨ h.text.size = 0) ∧ (h.kind = 5 ∨ h.bytes.length = 0) ∧ (h.kind = 6 ∨ nl = 0) ∧ (h.kind = 7 ∨ nf = 0))
/-- What is wrong with the keys: those before, those to come. -/
def keysE : List ByteArray → List ByteArray → Nat
  | _, [] => 0
  | seen, k :: t => if validL (L k) = false then 5 else if 1024 < k.size then 10 else if seen.any (fun x => decide (L x = L k)) = true then 8 else keysE (seen ++ [k]) t
/-- What is wrong with a value itself. -/
def oneE (h : Hd) (nl : Nat) (ks : List ByteArray) : Nat :=
  if ownB h nl ks.length = false then 6
  else if decB h.neg (L h.ds) h.exp = false ∨ (h.kind = 3 ∧ timeB h.tk h.day h.nano h.off = false) then 2
  else if validL (L h.text) = false then 5
  else if 65536 < h.text.size ∨ 65536 < h.bytes.length then 10
  else keysE [] ks
mutual
def lookV : V → Int → Int → Int × Nat
  | .mk h l f, d, s =>
    if 48 < d then (s, 9) else if 65536 ≤ s then (s, 10) else if oneE h l.length (f.map (·.1)) ≠ 0 then (s, oneE h l.length (f.map (·.1)))
    else if h.kind = 7 then lookF f (d + 1) (s + 1) else lookL l (d + 1) (s + 1)
def lookL : List V → Int → Int → Int × Nat
  | [], _, s => (s, 0)
  | x :: t, d, s => if (lookV x d s).2 ≠ 0 then lookV x d s else lookL t d (lookV x d s).1
def lookF : List (ByteArray × V) → Int → Int → Int × Nat
  | [], _, s => (s, 0)
  | (_, x) :: t, d, s => if (lookV x d s).2 ≠ 0 then lookV x d s else lookF t d (lookV x d s).1
end
theorem lookF_map : ∀ (f : List (ByteArray × V)) (d s : Int), lookF f d s = lookL (f.map (·.2)) d s
  | [], _, _ => by rw [List.map_nil, lookF, lookL]
  | (_, x) :: t, d, s => by rw [List.map_cons, lookF, lookL, lookF_map t]
/-- The values directly in a value. -/
def kidsV : V → List V
  | .mk h l f => if h.kind = 7 then f.map (·.2) else l
theorem lookV_mk (h : Hd) (l : List V) (f : List (ByteArray × V)) (d s : Int) : lookV (.mk h l f) d s =
    if 48 < d then (s, 9) else if 65536 ≤ s then (s, 10) else if oneE h l.length (f.map (·.1)) ≠ 0 then (s, oneE h l.length (f.map (·.1))) else lookL (kidsV (.mk h l f)) (d + 1) (s + 1) := by
  rw [lookV, kidsV]
  split
  · rfl
  split
  · rfl
  split
  · rfl
  split
  · exact lookF_map _ _ _
  · rfl
def checkV (v : V) : Nat := (lookV v 1 0).2
theorem lookL_drop (l : List V) (k : Nat) (h : k < l.length) (d s : Int) : lookL (l.drop k) d s = if (lookV l[k] d s).2 ≠ 0 then lookV l[k] d s else lookL (l.drop (k + 1)) d (lookV l[k] d s).1 := by
  rw [List.drop_eq_getElem_cons h, lookL]
theorem sz_kid (v : V) (i : Nat) (hi : i < (kidsV v).length) : SizeOf.sizeOf (kidsV v)[i] < SizeOf.sizeOf v := by
  obtain ⟨h, l, f⟩ := v
  have key : ∀ (x : V), x ∈ kidsV (.mk h l f) → SizeOf.sizeOf x < SizeOf.sizeOf (V.mk h l f) := by
    intro x hx
    rw [kidsV] at hx
    split at hx
    · obtain ⟨y, hy, rfl⟩ := List.mem_map.1 hx
      obtain ⟨j, hj, rfl⟩ := List.getElem_of_mem hy
      exact sz_f h l f j hj
    · obtain ⟨j, hj, rfl⟩ := List.getElem_of_mem hx
      exact sz_l h l f j hj
  exact key _ (List.getElem_mem hi)
/-- How the count grows. -/
theorem lookV_bd : ∀ (n : Nat) (v : V) (d s : Int), SizeOf.sizeOf v ≤ n → s ≤ (lookV v d s).1 ∧ ((lookV v d s).1 ≤ 65536 ∨ (lookV v d s).1 = s) := by
  intro n
  induction n with
  | zero => intro v d s hn; exfalso; cases v; rw [V.mk.sizeOf_spec] at hn; omega
  | succ n ih =>
    intro v d s hn
    have hl : ∀ (t : List V) (d s : Int), (∀ x ∈ t, SizeOf.sizeOf x ≤ n) → s ≤ (lookL t d s).1 ∧ ((lookL t d s).1 ≤ 65536 ∨ (lookL t d s).1 = s) := by
      intro t
      induction t with
      | nil => intro d s _; rw [lookL]; exact ⟨Int.le_refl _, .inr rfl⟩
      | cons x t iht =>
        intro d s hs
        have h1 := ih x d s (hs x (by simp))
        rw [lookL]
        split
        · exact h1
        · have h2 := iht d (lookV x d s).1 (fun y hy => hs y (by simp [hy]))
          omega
    have hk := hl (kidsV v)
    have hz := sz_kid v
    obtain ⟨h, l, f⟩ := v
    rw [lookV_mk]
    split
    · exact ⟨Int.le_refl _, .inr rfl⟩
    split
    · exact ⟨Int.le_refl _, .inr rfl⟩
    split
    · exact ⟨Int.le_refl _, .inr rfl⟩
    · have := hk (d + 1) (s + 1) (fun x hx => by
        obtain ⟨j, hj, rfl⟩ := List.getElem_of_mem hx
        have := hz j hj
        omega)
      omega
end Go.Proofs.YtemiihkmpojpgaaGreatDoor
