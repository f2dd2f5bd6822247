/- value.check, Check walked. Conditions: at most 10^6 values in all. -/
import Derived.Test.YthdninnjjmhpfaaGreatDoorVx1
import Derived.Test.YthdninnjjmhpfaaGreatDoorVd2
import Derived.Test.YthdninnjjmhpfaaGreatDoorTq
namespace Go.Proofs.YthdninnjjmhpfaaGreatDoor
open Go.RowKit
set_option maxHeartbeats 4000000
set_option maxRecDepth 100000

theorem vc_one {w : World} {S : Nat → Prop} {c : VC} {v : V} (h : RdI w S c v) : ∀ u ∈ c.cells, u.oneCell' = true := by
  intro u hu
  obtain ⟨h, b1, b2, b3, m1, m2, m3, o1, o2, o3, rfl⟩ := h.forms
  simp [VC.cells] at hu
  rcases hu with rfl | rfl | rfl | rfl | rfl | rfl | rfl | rfl | rfl | rfl | rfl | rfl | rfl <;> rfl
/-- Since the call began only new blocks were made and the count N was written, which is s now; the box of the value lies as it was laid. -/
structure CkW (w wr : World) (N : Nat) (s : Int) (X : Obj) : Prop where
  os : wr.os = w.os
  tape : wr.tape = w.tape
  output : wr.output = w.output
  size : w.heap.size < wr.heap.size
  block : ∀ k, k < w.heap.size → k ≠ N → wr.heap[k]? = w.heap[k]?
  n : wr.heap[N]? = some (.cells #[.int .i64 s] 3 (0, 0))
  b : wr.heap[w.heap.size]? = some X
  lt : N < w.heap.size
theorem CkW.below {w wr w2 : World} {N : Nat} {s : Int} {X : Obj} (h : CkW w wr N s X) (hb : Below wr.heap.size wr w2) : CkW w w2 N s X :=
  ⟨hb.os.trans h.os, hb.tape.trans h.tape, hb.output.trans h.output, Nat.lt_of_lt_of_le h.size hb.size, fun k hk hn => (hb.block k (Nat.lt_trans hk h.size)).trans (h.block k hk hn), (hb.block N (Nat.lt_trans h.lt h.size)).trans h.n, (hb.block _ h.size).trans h.b, h.lt⟩
/-- What a check hands back: the error; where there is none, the count. -/
def ChkPost (w : World) (N : Nat) (R : Int × Nat) (e : Ending) (w' : World) : Prop :=
  e = .returned (.int .i64 (R.2 : Nat)) ∧ w'.os = w.os ∧ w'.tape = w.tape ∧ w'.output = w.output ∧ w.heap.size ≤ w'.heap.size ∧ (∀ k, k < w.heap.size → k ≠ N → w'.heap[k]? = w.heap[k]?) ∧ ∃ s' : Int, w'.heap[N]? = some (.cells #[.int .i64 s'] 3 (0, 0)) ∧ (R.2 = 0 → s' = R.1)
theorem CkW.post {w wr : World} {N : Nat} {s : Int} {X : Obj} (h : CkW w wr N s X) {R : Int × Nat} {e : Int} (he : e = (R.2 : Nat)) (hs : R.2 = 0 → s = R.1) : ChkPost w N R (.returned (.int .i64 e)) wr :=
  ⟨by rw [he], h.os, h.tape, h.output, Nat.le_of_lt h.size, h.block, s, h.n, hs⟩
theorem CkW.upd {w wr w2 : World} {N : Nat} {s s2 : Int} {X : Obj} (h : CkW w wr N s X) (h1 : w2.os = wr.os) (h2 : w2.tape = wr.tape) (h3 : w2.output = wr.output) (h4 : wr.heap.size ≤ w2.heap.size) (h5 : ∀ k, k < wr.heap.size → k ≠ N → w2.heap[k]? = wr.heap[k]?) (h6 : w2.heap[N]? = some (.cells #[.int .i64 s2] 3 (0, 0))) : CkW w w2 N s2 X :=
  ⟨h1.trans h.os, h2.trans h.tape, h3.trans h.output, Nat.lt_of_lt_of_le h.size h4, fun k hk hn => (h5 k (Nat.lt_trans hk h.size) hn).trans (h.block k hk hn), h6, (h5 _ h.size (Nat.ne_of_gt h.lt)).trans h.b, h.lt⟩
theorem CkW.rd {w wr : World} {N : Nat} {s : Int} {X : Obj} (h : CkW w wr N s X) {c : VC} {v : V} (hv : RdI w (fun b => b < N) c v) : RdI wr (fun b => b < N) c v :=
  hv.kept (fun b hb hb' => h.block b hb' (Nat.ne_of_lt hb)) (Nat.le_of_lt h.size)
theorem CkW.sl {w wr : World} {N : Nat} {s : Int} {X : Obj} (h : CkW w wr N s X) {v : Value} {n size : Nat} {c : Nat → List Value} (hs : Sl w v n size c) (hb : BlkIn (fun b => b < N) v) : Sl wr v n size c :=
  hs.kept hb (fun b hb hb' => h.block b hb' (Nat.ne_of_lt hb)) (Nat.le_of_lt h.size)
theorem CkW.cell {w wr : World} {N : Nat} {s : Int} {X : Obj} (h : CkW w wr N s X) : wr.cell? ⟨N, 0, none⟩ = some (.int .i64 s) ∧ (∀ j, wr.frozen? ⟨N, j, none⟩ = false) :=
  ⟨(cell_of_row wr N 0 _ _ (0, 0) h.n).trans rfl, fun j => by simp [World.frozen?, h.n]⟩
/-- Without parts that the kind does not have, the kids are the list and the fields' values. -/
theorem kids_own {h : Hd} {l : List V} {f : List (ByteArray × V)} (ho : ownB h l.length f.length = true) : kidsV (.mk h l f) = l ++ f.map (·.2) := by
  unfold ownB at ho
  have ho := of_decide_eq_true ho
  rw [kidsV]
  split
  · rename_i h7
    have hl : l = [] := by
      rcases ho with ⟨_, _, _, _, _, _, _, h6, _⟩
      rcases h6 with h6 | h6
      · omega
      · exact List.length_eq_zero_iff.1 h6
    rw [hl, List.nil_append]
  · rename_i h7
    have hf : f = [] := by
      rcases ho with ⟨_, _, _, _, _, _, _, _, h8⟩
      rcases h8 with h8 | h8
      · exact absurd h8 h7
      · exact List.length_eq_zero_iff.1 h8
    rw [hf, List.map_nil, List.append_nil]
theorem lookL_app : ∀ (a b : List V) (d s : Int), lookL (a ++ b) d s = if (lookL a d s).2 ≠ 0 then lookL a d s else lookL b d (lookL a d s).1
  | [], b, d, s => by rw [List.nil_append, lookL]; simp
  | x :: t, b, d, s => by
    rw [List.cons_append, lookL, lookL]
    by_cases hc : (lookV x d s).2 ≠ 0
    · rw [if_pos hc, if_pos hc, if_pos hc]
    · rw [if_neg hc, if_neg hc]
      exact lookL_app t b d _
/-- What is asked of the number and the time, by kind. -/
theorem one_own (h : Hd) (nl : Nat) (ks : List ByteArray) (ho : ownB h nl ks.length = true) : oneE h nl ks =
    if (h.kind = 2 ∧ decB h.neg (L h.ds) h.exp = false) ∨ (h.kind = 3 ∧ timeB h.tk h.day h.nano h.off = false) then 2
    else if h.kind = 4 ∧ validL (L h.text) = false then 5 else if 65536 < h.text.size ∨ 65536 < h.bytes.length then 10 else keysE [] ks := by
  have hp := of_decide_eq_true (by unfold ownB at ho; exact ho)
  obtain ⟨_, _, _, h2, _, h4, _⟩ := hp
  unfold oneE
  rw [if_neg (by rw [ho]; decide)]
  have e1 : decB h.neg (L h.ds) h.exp = false ↔ (h.kind = 2 ∧ decB h.neg (L h.ds) h.exp = false) := by
    refine ⟨fun hd => ⟨?_, hd⟩, fun hd => hd.2⟩
    rcases h2 with h2 | ⟨n1, n2, n3⟩
    · exact h2
    · exfalso
      unfold decB at hd
      rw [if_pos (List.length_eq_zero_iff.1 ((L_len h.ds).trans n2)), n1, n3] at hd
      exact absurd hd (by decide)
  have e2 : validL (L h.text) = false ↔ (h.kind = 4 ∧ validL (L h.text) = false) := by
    refine ⟨fun hd => ⟨?_, hd⟩, fun hd => hd.2⟩
    rcases h4 with h4 | h4
    · exact h4
    · exfalso
      rw [List.length_eq_zero_iff.1 ((L_len h.text).trans h4)] at hd
      exact absurd hd (by decide)
  by_cases a1 : decB h.neg (L h.ds) h.exp = false ∨ (h.kind = 3 ∧ timeB h.tk h.day h.nano h.off = false)
  · have a1' : (h.kind = 2 ∧ decB h.neg (L h.ds) h.exp = false) ∨ (h.kind = 3 ∧ timeB h.tk h.day h.nano h.off = false) := a1.imp e1.1 id
    rw [if_pos a1, if_pos a1']
  · have a1' : ¬ ((h.kind = 2 ∧ decB h.neg (L h.ds) h.exp = false) ∨ (h.kind = 3 ∧ timeB h.tk h.day h.nano h.off = false)) := fun hh => a1 (hh.imp e1.2 id)
    rw [if_neg a1, if_neg a1']
    by_cases a2 : validL (L h.text) = false
    · rw [if_pos a2, if_pos (e2.1 a2)]
    · have a2' : ¬ (h.kind = 4 ∧ validL (L h.text) = false) := fun hh => a2 hh.2
      rw [if_neg a2, if_neg a2']
end Go.Proofs.YthdninnjjmhpfaaGreatDoor
