/- value.check, Check walked. Conditions: at most 10^6 values in all. -/
import Derived.Test.YtemiihkmpojpgaaGreatDoorZq17
import Derived.Test.YtemiihkmpojpgaaGreatDoorZq7
import Derived.Test.YtemiihkmpojpgaaGreatDoorZq8
import Derived.Maps.Views
import Derived.Deep.DeepCutAuto
import Derived.Deep.CutBlock
namespace Go.Proofs.YtemiihkmpojpgaaGreatDoor
open Go.RowKit Go.Maps
set_option maxHeartbeats 4000000
set_option maxRecDepth 100000

/-! Maps whose elements are bools. -/
theorem plainElem_bool_inv {H : Type} {P : Program} {e : TypeId} (he : P.underlying e = some .bool) {v : Value} {z : DataW H × List MemPlace} (h : plainElem P e v = some z) : ∃ x, v = .bool x ∧ z = (.lit (.bool x), []) := by
  unfold plainElem at h
  rw [he] at h
  cases v <;> simp at h
  exact ⟨_, rfl, h.symm⟩
theorem wpList_lookup_own_bool {H : Type} {P : Program} (w : World) {ops : Array Oper} {rest : List Oper} {o : Oper} {a : Act} {Q : Exit → Act → World → Prop}
    (hg : o.guard = none) {m x : Operand} {t : TypeId} (hop : o.op = Op.lookup t m x false)
    {k e : TypeId} (K : Keyed P k) (ht : P.underlying t = some (.map k e)) (he : P.underlying e = some .bool) (hz : (zeroValue e).run P w = .ok (.bool false) w) {b n : Nat} {D : DataW H}
    (hm : a.eval m = .map (some b)) (hown : w.ownsMap P k (plainElem P e) b n D) {key : Value} {kl : Lit} (hx : a.eval x = key) (hkey : keyOf P k key = some kl) (r : Bool) (hr : D.atKey kl (.lit (.bool false)) = .lit (.bool r))
    (hK : wpList P ops Q rest (a.put o.dst (.bool r)) w) :
    wpList P ops Q (o :: rest) a w := by
  refine wpList_plain hg fun K' hK' => ?_
  obtain ⟨v, ps, hrun, hv⟩ := hown.lookup K ht hz (plainElem_bool he false) hkey
  obtain ⟨y, rfl, hy⟩ := plainElem_bool_inv he hv
  simp only [Prod.mk.injEq] at hy
  have hyr : y = r := by
    have := hy.1.symm.trans hr
    simpa using this
  subst hyr
  have hk := hK' _ _ hK
  unfold Oper.wp
  simp [execOp, hop, hm, hx, hrun, Result.andThen]
  exact hk
theorem keyedS : Keyed Tryz.prog 9 := string_keyed Tryz.underlying9
theorem zeroBool (w : World) : (zeroValue 4).run Tryz.prog w = .ok (.bool false) w := by kernel_rfl
def keyL (s : ByteArray) : Lit := .string s.data.toList
theorem keyL_inj {s t : ByteArray} (h : keyL s = keyL t) : L s = L t := by
  unfold keyL at h
  injection h
/-- The map holds the keys seen. -/
structure Seen (D : DataW Unit) (ks : List ByteArray) : Prop where
  isMap : IsMap D
  at_ : ∀ s : ByteArray, D.atKey (keyL s) (.lit (.bool false)) = .lit (.bool (ks.any (fun x => decide (L x = L s))))
theorem Seen.nil : Seen (.map []) [] := ⟨isMap_empty, fun _ => rfl⟩
theorem Seen.push {D : DataW Unit} {ks : List ByteArray} (h : Seen D ks) (k : ByteArray) : Seen (D.put (keyL k) (.lit (.bool true))) (ks ++ [k]) := by
  refine ⟨h.isMap.put _ _, fun s => ?_⟩
  rw [List.any_append]
  by_cases he : L k = L s
  · have : keyL s = keyL k := by unfold keyL; exact congrArg Lit.string he.symm
    rw [this, atKey_put_same h.isMap (show WideAt.IsKeyLit (keyL k) from trivial)]
    simp [he]
  · rw [atKey_put_other (fun hh => he (keyL_inj hh).symm), h.at_]
    simp [he]
theorem alloc_of' {w w1 : World} {X : Obj} (hW : w.alloc X = w1) : w1.heap[w.heap.size]? = some X ∧ (∀ b, b < w.heap.size → w1.heap[b]? = w.heap[b]?) ∧ w1.heap.size = w.heap.size + 1 ∧ Below w.heap.size w w1 := by
  subst hW
  exact ⟨heap_alloc_new w _, fun b hb => heap_alloc_old w _ hb, by simp, (Below.refl _ _).alloc (Nat.le_refl _) _⟩
/-! value.key. -/
def keyE (k : ByteArray) : Nat := if validL (L k) = false then 5 else if 1024 < k.size then 10 else 0
theorem keysE_key (ks : List ByteArray) (k : Nat) (h : k < ks.length) : keysE (ks.take k) (ks.drop k) = if keyE ks[k] ≠ 0 then keyE ks[k] else if (ks.take k).any (fun x => decide (L x = L ks[k])) = true then 8 else keysE (ks.take (k + 1)) (ks.drop (k + 1)) := by
  rw [keysE_drop ks k h]
  unfold keyE
  split
  · simp
  split
  · simp
  · simp
theorem stF : StT Tryz.prog 53 14 := ⟨by kernel_rfl, by kernel_rfl⟩
end Go.Proofs.YtemiihkmpojpgaaGreatDoor

namespace Go.Proofs.YtemiihkmpojpgaaGreatDoor
open Go.RowKit
set_option maxHeartbeats 4000000
set_option maxRecDepth 100000

theorem vc_one {w : World} {S : Nat → Prop} {c : VC} {v : V} (h : RdI w S c v) : ∀ u ∈ c.cells, u.oneCell' = true := by
  intro u hu
  obtain ⟨h, b1, b2, b3, m1, m2, m3, o1, o2, o3, rfl⟩ := h.forms
  simp [VC.cells] at hu
  rcases hu with rfl | rfl | rfl | rfl | rfl | rfl | rfl | rfl | rfl | rfl | rfl | rfl | rfl <;> rfl
/-- Since the call began only new blocks were made and the count N was written, which is s now; the box of the value lies as it was laid. -/
structure CkW (w wr : World) (N : Nat) (s : Int) (X : Obj) : Prop where
  os : wr.os = w.os
  tape : wr.tape = w.tape
  output : wr.output = w.output
  size : w.heap.size < wr.heap.size
  block : ∀ k, k < w.heap.size → k ≠ N → wr.heap[k]? = w.heap[k]?
  n : wr.heap[N]? = some (.cells #[.int .i64 s] 3 (0, 0))
  b : wr.heap[w.heap.size]? = some X
  lt : N < w.heap.size
theorem CkW.below {w wr w2 : World} {N : Nat} {s : Int} {X : Obj} (h : CkW w wr N s X) (hb : Below wr.heap.size wr w2) : CkW w w2 N s X :=
  ⟨hb.os.trans h.os, hb.tape.trans h.tape, hb.output.trans h.output, Nat.lt_of_lt_of_le h.size hb.size, fun k hk hn => (hb.block k (Nat.lt_trans hk h.size)).trans (h.block k hk hn), (hb.block N (Nat.lt_trans h.lt h.size)).trans h.n, (hb.block _ h.size).trans h.b, h.lt⟩
/-- What a check hands back: the error; where there is none, the count. -/
def ChkPost (w : World) (N : Nat) (R : Int × Nat) (e : Ending) (w' : World) : Prop :=
  e = .returned (.int .i64 (R.2 : Nat)) ∧ w'.os = w.os ∧ w'.tape = w.tape ∧ w'.output = w.output ∧ w.heap.size ≤ w'.heap.size ∧ (∀ k, k < w.heap.size → k ≠ N → w'.heap[k]? = w.heap[k]?) ∧ ∃ s' : Int, w'.heap[N]? = some (.cells #[.int .i64 s'] 3 (0, 0)) ∧ (R.2 = 0 → s' = R.1)
theorem CkW.post {w wr : World} {N : Nat} {s : Int} {X : Obj} (h : CkW w wr N s X) {R : Int × Nat} {e : Int} (he : e = (R.2 : Nat)) (hs : R.2 = 0 → s = R.1) : ChkPost w N R (.returned (.int .i64 e)) wr :=
  ⟨by rw [he], h.os, h.tape, h.output, Nat.le_of_lt h.size, h.block, s, h.n, hs⟩
theorem CkW.upd {w wr w2 : World} {N : Nat} {s s2 : Int} {X : Obj} (h : CkW w wr N s X) (h1 : w2.os = wr.os) (h2 : w2.tape = wr.tape) (h3 : w2.output = wr.output) (h4 : wr.heap.size ≤ w2.heap.size) (h5 : ∀ k, k < wr.heap.size → k ≠ N → w2.heap[k]? = wr.heap[k]?) (h6 : w2.heap[N]? = some (.cells #[.int .i64 s2] 3 (0, 0))) : CkW w w2 N s2 X :=
  ⟨h1.trans h.os, h2.trans h.tape, h3.trans h.output, Nat.lt_of_lt_of_le h.size h4, fun k hk hn => (h5 k (Nat.lt_trans hk h.size) hn).trans (h.block k hk hn), h6, (h5 _ h.size (Nat.ne_of_gt h.lt)).trans h.b, h.lt⟩
theorem CkW.rd {w wr : World} {N : Nat} {s : Int} {X : Obj} (h : CkW w wr N s X) {c : VC} {v : V} (hv : RdI w (fun b => b < N) c v) : RdI wr (fun b => b < N) c v :=
  hv.kept (fun b hb hb' => h.block b hb' (Nat.ne_of_lt hb)) (Nat.le_of_lt h.size)
theorem CkW.sl {w wr : World} {N : Nat} {s : Int} {X : Obj} (h : CkW w wr N s X) {v : Value} {n size : Nat} {c : Nat → List Value} (hs : Sl w v n size c) (hb : BlkIn (fun b => b < N) v) : Sl wr v n size c :=
  hs.kept hb (fun b hb hb' => h.block b hb' (Nat.ne_of_lt hb)) (Nat.le_of_lt h.size)
theorem CkW.cell {w wr : World} {N : Nat} {s : Int} {X : Obj} (h : CkW w wr N s X) : wr.cell? ⟨N, 0, none⟩ = some (.int .i64 s) ∧ (∀ j, wr.frozen? ⟨N, j, none⟩ = false) :=
  ⟨(cell_of_row wr N 0 _ _ (0, 0) h.n).trans rfl, fun j => by simp [World.frozen?, h.n]⟩
/-- Without parts that the kind does not have, the kids are the list and the fields' values. -/
theorem kids_own {h : Hd} {l : List V} {f : List (ByteArray × V)} (ho : ownB h l.length f.length = true) : kidsV (.mk h l f) = l ++ f.map (·.2) := by
  unfold ownB at ho
  have ho := of_decide_eq_true ho
  rw [kidsV]
  split
  · rename_i h7
    have hl : l = [] := by
      rcases ho with ⟨_, _, _, _, _, _, _, h6, _⟩
      rcases h6 with h6 | h6
      · omega
      · exact List.length_eq_zero_iff.1 h6
    rw [hl, List.nil_append]
  · rename_i h7
    have hf : f = [] := by
      rcases ho with ⟨_, _, _, _, _, _, _, _, h8⟩
      rcases h8 with h8 | h8
      · exact absurd h8 h7
      · exact List.length_eq_zero_iff.1 h8
    rw [hf, List.map_nil, List.append_nil]
theorem lookL_app : ∀ (a b : List V) (d s : Int), lookL (a ++ b) d s = if (lookL a d s).2 ≠ 0 then lookL a d s else lookL b d (lookL a d s).1
  | [], b, d, s => by rw [List.nil_append, lookL]; simp
  | x :: t, b, d, s => by
    rw [List.cons_append, lookL, lookL]
    by_cases hc : (lookV x d s).2 ≠ 0
    · rw [if_pos hc, if_pos hc, if_pos hc]
    · rw [if_neg hc, if_neg hc]
      exact lookL_app t b d _
/-- What is asked of the number and the time, by kind. -/
theorem one_own (h : Hd) (nl : Nat) (ks : List ByteArray) (ho : ownB h nl ks.length = true) : oneE h nl ks =
    if (h.kind = 2 ∧ decB h.neg (L h.ds) h.exp = false) ∨ (h.kind = 3 ∧ timeB h.tk h.day h.nano h.off = false) then 2
    else if h.kind = 4 ∧ validL (L h.text) = false then 5 else if 65536 < h.text.size ∨ 65536 < h.bytes.length then 10 else keysE [] ks := by
  have hp := of_decide_eq_true (by unfold ownB at ho; exact ho)
  obtain ⟨_, _, _, h2, _, h4, _⟩ := hp
  unfold oneE
  rw [if_neg (by rw [ho]; decide)]
  have e1 : decB h.neg (L h.ds) h.exp = false ↔ (h.kind = 2 ∧ decB h.neg (L h.ds) h.exp = false) := by
    refine ⟨fun hd => ⟨?_, hd⟩, fun hd => hd.2⟩
    rcases h2 with h2 | ⟨n1, n2, n3⟩
    · exact h2
    · exfalso
      unfold decB at hd
      rw [if_pos (List.length_eq_zero_iff.1 ((L_len h.ds).trans n2)), n1, n3] at hd
      exact absurd hd (by decide)
  have e2 : validL (L h.text) = false ↔ (h.kind = 4 ∧ validL (L h.text) = false) := by
    refine ⟨fun hd => ⟨?_, hd⟩, fun hd => hd.2⟩
    rcases h4 with h4 | h4
    · exact h4
    · exfalso
      rw [List.length_eq_zero_iff.1 ((L_len h.text).trans h4)] at hd
      exact absurd hd (by decide)
  by_cases a1 : decB h.neg (L h.ds) h.exp = false ∨ (h.kind = 3 ∧ timeB h.tk h.day h.nano h.off = false)
  · have a1' : (h.kind = 2 ∧ decB h.neg (L h.ds) h.exp = false) ∨ (h.kind = 3 ∧ timeB h.tk h.day h.nano h.off = false) := a1.imp e1.1 id
    rw [if_pos a1, if_pos a1']
  · have a1' : ¬ ((h.kind = 2 ∧ decB h.neg (L h.ds) h.exp = false) ∨ (h.kind = 3 ∧ timeB h.tk h.day h.nano h.off = false)) := fun hh => a1 (hh.imp e1.2 id)
    rw [if_neg a1, if_neg a1']
    by_cases a2 : validL (L h.text) = false
    · rw [if_pos a2, if_pos (e2.1 a2)]
    · have a2' : ¬ (h.kind = 4 ∧ validL (L h.text) = false) := fun hh => a2 hh.2
      rw [if_neg a2, if_neg a2']
end Go.Proofs.YtemiihkmpojpgaaGreatDoor

namespace Go.Proofs.YtemiihkmpojpgaaGreatDoor
open Go.RowKit
set_option maxHeartbeats 8000000
set_option maxRecDepth 100000

theorem stVk : StT Tryz.prog 30 13 := ⟨by kernel_rfl, by kernel_rfl⟩
theorem stFk : StT Tryz.prog 53 14 := ⟨by kernel_rfl, by kernel_rfl⟩
theorem ck0 {w w1 : World} {N : Nat} {s1 : Int} {X : Obj} {u : Value} (hW : (w.setCell ⟨N, 0, none⟩ (.int .i64 s1)).alloc X = w1) (hN : w.heap[N]? = some (.cells #[u] 3 (0, 0))) : CkW w w1 N s1 X := by
  have hlt : N < w.heap.size := (Array.getElem?_eq_some_iff.1 hN).1
  have hz : (w.setCell ⟨N, 0, none⟩ (.int .i64 s1)).heap.size = w.heap.size := by simp
  subst hW
  refine ⟨rfl, rfl, rfl, by simp, fun k hk hn => ?_, ?_, ?_, hlt⟩
  · rw [heap_alloc_old _ X (by rw [hz]; exact hk), heap_setCell_other _ _ k _ hn]
  · rw [heap_alloc_old _ X (by rw [hz]; exact hlt), heap_setCell_same _ N 0 _ _ _ hN]
    rfl
  · have := heap_alloc_new (w.setCell ⟨N, 0, none⟩ (.int .i64 s1)) X
    rw [hz] at this
    exact this
end Go.Proofs.YtemiihkmpojpgaaGreatDoor
