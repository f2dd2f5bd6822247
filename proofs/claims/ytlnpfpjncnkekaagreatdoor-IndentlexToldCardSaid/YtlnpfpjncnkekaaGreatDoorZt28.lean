/- base.Decode walked. Conditions: strings of at most 10^9 bytes. -/
import Derived.Test.YtlnpfpjncnkekaaGreatDoorZt3
import Derived.Test.YtlnpfpjncnkekaaGreatDoorZt13
import Derived.Shelf.GgClosure.StringsIndexFuncTop
import Derived.Lib.IndexMore
import Derived.Test.YtlnpfpjncnkekaaGreatDoorZt4
import Derived.Test.YtlnpfpjncnkekaaGreatDoorZt15
import Derived.Test.YtlnpfpjncnkekaaGreatDoorZt8
import Derived.Test.YtlnpfpjncnkekaaGreatDoorZt9
import Derived.Deep.DeepCutAuto
import Derived.Deep.CutBlock
namespace Go.Proofs.YtlnpfpjncnkekaaGreatDoor
open Go.RowKit
set_option maxRecDepth 100000
set_option maxHeartbeats 1000000

/-- Whether a byte below 32 stands there. -/
def ctlB (l : List UInt8) : Bool := l.any fun b => decide (b.toNat < 32)
def dashB (l : List UInt8) : Bool := decide (l = [45]) || pre l [45, 32]
def firstX : List UInt8 := [91, 93, 123, 125, 44, 35, 38, 42, 33, 124, 62, 39, 34, 37, 64, 96]
/-- Whether the two bytes stand there, one behind the other. -/
def two (a b : UInt8) : List UInt8 → Bool
  | [] => false
  | x :: t => (decide (x = a) && decide (t.head? = some b)) || two a b t
/-- A plain string. -/
def plainB (l : List UInt8) : Bool :=
  decide (l ≠ []) && validL l && !ctlB l && !(firstX.contains (l.headD 0)) && !dashB l && !(decide (l.head? = some 32)) && !(decide (l.getLast? = some 32)) && !two 58 32 l && !two 32 35 l && !(decide (l.getLast? = some 58))
/-! Single quotation marks. -/
def singL (l : List UInt8) : List UInt8 × Nat × Nat :=
  match l with
  | [] => ([], 0, 4)
  | b :: t =>
    if b.toNat = 39 then (if t.head? = some 39 then quotFin [39] 2 (singL (t.drop 1)) else ([], 1, 0))
    else if b.toNat < 32 ∨ (dec (b :: t)).2 = 0 then ([], 0, 5)
    else quotFin ((b :: t).take (dec (b :: t)).2) (dec (b :: t)).2 (singL ((b :: t).drop (max 1 (dec (b :: t)).2)))
termination_by l.length
decreasing_by all_goals simp only [List.length_drop, List.length_cons]; omega
theorem singL_nil : singL [] = ([], 0, 4) := by rw [singL]
theorem singL_cons (b : UInt8) (t : List UInt8) : singL (b :: t) =
    if b.toNat = 39 then (if t.head? = some 39 then quotFin [39] 2 (singL (t.drop 1)) else ([], 1, 0))
    else if b.toNat < 32 ∨ (dec (b :: t)).2 = 0 then ([], 0, 5)
    else quotFin ((b :: t).take (dec (b :: t)).2) (dec (b :: t)).2 (singL ((b :: t).drop (dec (b :: t)).2)) := by
  rw [singL]
  by_cases h : (dec (b :: t)).2 = 0
  · simp only [h, or_true, if_true]
  · rw [show max 1 (dec (b :: t)).2 = (dec (b :: t)).2 by omega]
def singR (l : List UInt8) : List UInt8 × Nat × Nat := quotFin [] 1 (singL l)
/-- What a quoted scalar stands for. -/
def unqR : List UInt8 → List UInt8 × Nat
  | [] => ([], 4)
  | b :: t => if b.toNat = 34 then unqL (b :: t) else if b.toNat ≠ 39 then ([], 3) else if (singR t).2.2 ≠ 0 then ([], (singR t).2.2) else if (singR t).2.1 < t.length + 1 then ([], 3) else ((singR t).1, 0)
/-! Keys. -/
def endH : List UInt8 → Bool
  | [] => false
  | b :: t => decide (b.toNat = 58 ∧ (t = [] ∨ t.head? = some 32))
def keyN : List UInt8 → Nat
  | [] => 0
  | b :: t => if endH (b :: t) then 0 else 1 + keyN t
def longK (k : List UInt8) (n : Nat) : List UInt8 × Nat × Nat := if 1024 < k.length then ([], 0, 10) else (k, n, 0)
def noK : List UInt8 × Nat × Nat := ([], 0, 7)
def keyR : List UInt8 → List UInt8 × Nat × Nat
  | [] => noK
  | b :: t =>
    if b.toNat = 34 then (if (quotR t).2.2 ≠ 0 then noK else if endH ((b :: t).drop (quotR t).2.1) then longK (quotR t).1 (quotR t).2.1 else noK)
    else if b.toNat = 39 then (if (singR t).2.2 ≠ 0 then noK else if endH ((b :: t).drop (singR t).2.1) then longK (singR t).1 (singR t).2.1 else noK)
    else if plainB ((b :: t).take (keyN (b :: t))) then (if endH ((b :: t).drop (keyN (b :: t))) then longK ((b :: t).take (keyN (b :: t))) (keyN (b :: t)) else noK) else noK
theorem keyN_le : ∀ l : List UInt8, keyN l ≤ l.length
  | [] => Nat.le_refl _
  | b :: t => by
    have := keyN_le t
    rw [keyN, List.length_cons]
    split <;> omega
/-! quotFin. -/
theorem fin_ok {a : List UInt8} {k : Nat} {x : List UInt8 × Nat × Nat} (h : (quotFin a k x).2.2 = 0) : x.2.2 = 0 ∧ quotFin a k x = (a ++ x.1, k + x.2.1, 0) := by
  unfold quotFin at h ⊢
  by_cases h0 : x.2.2 = 0
  · exact ⟨h0, if_neg (fun h => h h0)⟩
  · rw [if_pos h0] at h
    exact absurd h h0
theorem fin_of {a : List UInt8} {k : Nat} {x : List UInt8 × Nat × Nat} (h : x.2.2 = 0) : quotFin a k x = (a ++ x.1, k + x.2.1, 0) := if_neg (fun h' => h' h)
theorem addP_two (a b r : Nat) (h : 0 < b) : addP a (addP b r) = addP (a + b) r := by
  unfold addP
  by_cases h0 : r = 0
  · simp [h0]
  · rw [if_neg h0, if_neg (by omega), if_neg h0]
    omega
theorem partW_other (q c : UInt8) (t : List UInt8) (h1 : c ≠ q) (h2 : ¬ (q.toNat = 34 ∧ c.toNat = 92)) : partW q (c :: t) = addP 1 (partW q t) := by
  rw [partW_cons, if_neg h2, if_neg h1]
  rfl
theorem addP_none (r : Nat) : addP 0 r = r := by
  unfold addP
  split
  · omega
  · omega
theorem partW_pass (q : UInt8) : ∀ (p u : List UInt8), (∀ c ∈ p, c ≠ q ∧ ¬ (q.toNat = 34 ∧ c.toNat = 92)) → partW q (p ++ u) = addP p.length (partW q u)
  | [], u, _ => (addP_none _).symm
  | c :: p, u, h => by
    have ih := partW_pass q p u (fun d hd => h d (List.mem_cons_of_mem _ hd))
    obtain ⟨h1, h2⟩ := h c (List.mem_cons_self ..)
    rw [List.cons_append, partW_other q c _ h1 h2, ih, List.length_cons]
    by_cases hp : p.length = 0
    · rw [hp, addP_none]
    · rw [addP_two 1 _ _ (by omega), Nat.add_comm]
/-! What was read whole is read so whatever stands behind it. -/
theorem hexN_cut : ∀ (k n x : Nat) (l : List UInt8), hexN k n l = (x, 0) → k ≤ l.length ∧ (∀ c ∈ l.take k, hexv c ≠ none) ∧ ∀ v, hexN k n (l.take k ++ v) = (x, 0)
  | 0, n, x, l, h => ⟨Nat.zero_le _, by simp, fun v => by rw [hexN] at h ⊢; exact h⟩
  | k + 1, n, x, [], h => by rw [hexN] at h; simp at h
  | k + 1, n, x, b :: t, h => by
    rw [hexN] at h
    cases hb : hexv b with
    | none => rw [hb] at h; simp at h
    | some d =>
      rw [hb] at h
      obtain ⟨h1, h2, h3⟩ := hexN_cut k _ x t h
      refine ⟨by rw [List.length_cons]; omega, ?_, fun v => ?_⟩
      · intro c hc
        rw [List.take_succ_cons] at hc
        rcases List.mem_cons.1 hc with rfl | hc
        · rw [hb]; simp
        · exact h2 c hc
      · rw [List.take_succ_cons, List.cons_append, hexN, hb]
        exact h3 v
theorem hexv_no (c : UInt8) (h : hexv c ≠ none) : c.toNat ≠ 34 ∧ c.toNat ≠ 92 := by
  refine ⟨fun h' => h ?_, fun h' => h ?_⟩
  all_goals
    unfold hexv
    rw [if_neg (by omega), if_neg (by omega), if_neg (by omega)]
theorem hexN_zero (k n : Nat) (l : List UInt8) (h : (hexN k n l).2 = 0) : hexN k n l = ((hexN k n l).1, 0) := by rw [← h]
theorem uniEsc_cut (l : List UInt8) (r k : Nat) (h : uniEsc l = (r, k, 0)) : 1 ≤ k ∧ k ≤ l.length + 1 ∧ (∀ v, uniEsc (l.take (k - 1) ++ v) = (r, k, 0)) ∧ partW 34 l = addP (k - 1) (partW 34 (l.drop (k - 1))) := by
  unfold uniEsc at h
  split at h
  · rename_i h0
    injection h with _ h; injection h with _ h
    exact absurd h h0
  rename_i h0
  have h0' := hexN_zero 4 0 l (by omega)
  obtain ⟨hl4, hx4, hv4⟩ := hexN_cut 4 0 _ l h0'
  have hps : ∀ m : List UInt8, 4 ≤ m.length → (∀ c ∈ m.take 4, hexv c ≠ none) → partW 34 m = addP 4 (partW 34 (m.drop 4)) := by
    intro m hm hc
    conv => lhs; rw [← List.take_append_drop 4 m]
    rw [partW_pass 34 (m.take 4) (m.drop 4) (fun c hc' => ?_), List.length_take, Nat.min_eq_left hm]
    have := hexv_no c (hc c hc')
    exact ⟨fun h => this.1 (by rw [h]; rfl), fun h => this.2 h.2⟩
  split at h
  · rename_i h1
    injection h with h2 h; injection h with h3 _
    subst h3
    refine ⟨by omega, by omega, fun v => ?_, hps l hl4 hx4⟩
    unfold uniEsc
    rw [hv4 v, if_neg (by simp), if_pos h1, h2]
  rename_i h1
  split at h
  · injection h with _ h; injection h with _ h
    cases h
  rename_i h2
  cases ht : l.drop 4 with
  | nil => rw [ht] at h; simp at h
  | cons c t2 =>
    rw [ht] at h
    dsimp only at h
    split at h
    · injection h with _ h; injection h with _ h
      cases h
    rename_i hc
    cases t2 with
    | nil => simp at h
    | cons d t3 =>
      dsimp only at h
      split at h
      · injection h with _ h; injection h with _ h
        cases h
      rename_i hd
      split at h
      · rename_i h3
        injection h with _ h; injection h with _ h
        exact absurd h h3
      rename_i h3
      split at h
      · injection h with _ h; injection h with _ h
        cases h
      rename_i h4
      injection h with h5 h; injection h with h6 _
      subst h6
      have h3' := hexN_zero 4 0 t3 (by omega)
      obtain ⟨hl5, hx5, hv5⟩ := hexN_cut 4 0 _ t3 h3'
      have hlen : l.length = 4 + (2 + t3.length) := by
        have := congrArg List.length ht
        rw [List.length_drop, List.length_cons, List.length_cons] at this
        omega
      refine ⟨by omega, by omega, fun v => ?_, ?_⟩
      · have e : l.take (11 - 1) ++ v = l.take 4 ++ (c :: d :: (t3.take 4 ++ v)) := by
          have e1 : l.take 10 = l.take 4 ++ (l.drop 4).take 6 := by rw [← List.take_add]
          show l.take 10 ++ v = _
          rw [e1, ht, List.take_succ_cons, List.take_succ_cons, List.append_assoc]
          rfl
        rw [e]
        unfold uniEsc
        have ed : (l.take 4 ++ c :: d :: (t3.take 4 ++ v)).drop 4 = c :: d :: (t3.take 4 ++ v) := by
          rw [List.drop_append_of_le_length (by rw [List.length_take]; omega), List.drop_of_length_le (by rw [List.length_take]; omega)]
          rfl
        rw [hv4, if_neg (by simp), if_neg h1, if_neg h2, ed]
        dsimp only
        rw [if_neg hc]
        try dsimp only
        rw [if_neg hd, hv5, if_neg (by simp), if_neg h4, h5]
      · have e10 : l.drop (11 - 1) = t3.drop 4 := by
          have : l.drop 10 = (l.drop 4).drop 6 := by rw [List.drop_drop]
          show l.drop 10 = _
          rw [this, ht]
          rfl
        rw [e10, hps l hl4 hx4, ht]
        have hc' : c.toNat = 92 := by omega
        have hd' : d.toNat = 117 := by omega
        rw [partW_cons, if_pos ⟨rfl, hc'⟩, dec_ascii d t3 (by omega)]
        show addP 4 (addP (1 + max 1 1) (partW 34 t3)) = _
        rw [hps t3 hl5 hx5, addP_two _ _ _ (by omega), addP_two _ _ _ (by omega)]
        rfl
theorem escL_cut (t : List UInt8) (r k : Nat) (h : escL t = (r, k, 0)) : 1 ≤ k ∧ k ≤ t.length ∧ (∀ v, escL (t.take k ++ v) = (r, k, 0)) ∧ partW 34 (t.drop (max 1 (dec t).2)) = addP (k - 1) (partW 34 (t.drop k)) := by
  cases t with
  | nil => rw [escL] at h; simp at h
  | cons c u =>
    rw [escL] at h
    split at h
    · rename_i hc
      obtain ⟨h1, h2, h3, h4⟩ := uniEsc_cut u r k h
      refine ⟨h1, by rw [List.length_cons]; omega, fun v => ?_, ?_⟩
      · obtain ⟨j, rfl⟩ : ∃ j, k = j + 1 := ⟨k - 1, by omega⟩
        rw [List.take_succ_cons, List.cons_append, escL, if_pos hc]
        exact h3 v
      · rw [dec_ascii c u (by omega)]
        show partW 34 u = _
        rw [h4]
        obtain ⟨j, rfl⟩ : ∃ j, k = j + 1 := ⟨k - 1, by omega⟩
        rfl
    · rename_i hc
      cases hs : simpleEsc c with
      | none => rw [hs] at h; simp at h
      | some x =>
        rw [hs] at h
        dsimp only at h
        injection h with h1 h; injection h with h2 _
        subst h2
        have ha : c.toNat < 128 := by
          unfold simpleEsc at hs
          repeat' split at hs
          all_goals first | omega | cases hs
        refine ⟨Nat.le_refl _, by rw [List.length_cons]; omega, fun v => ?_, ?_⟩
        · show escL (c :: ([] ++ v)) = _
          rw [escL, if_neg hc, hs, h1]
        · rw [dec_ascii c u ha]
          show partW 34 u = addP 0 (partW 34 u)
          rw [addP_none]
theorem take_cut (n m : Nat) (l v : List UInt8) : l.take (n + m) ++ v = l.take n ++ ((l.drop n).take m ++ v) := by
  rw [List.take_add, List.append_assoc]
theorem dec_cut (l v : List UInt8) (h : (dec l).2 ≠ 0) : dec (l.take (dec l).2 ++ v) = dec l := by
  have hle := dec_le l
  refine dec_congr l _ h ?_
  rw [List.take_append_of_le_length (by rw [List.length_take]; omega), List.take_take, Nat.min_self]
theorem take_back (l v : List UInt8) (n : Nat) (h : n ≤ l.length) : (l.take n ++ v).take n = l.take n ∧ (l.take n ++ v).drop n = v := by
  constructor
  · rw [List.take_append_of_le_length (by rw [List.length_take]; omega), List.take_take, Nat.min_self]
  · rw [List.drop_append_of_le_length (by rw [List.length_take]; omega), List.drop_of_length_le (by rw [List.length_take]; omega)]
    rfl
theorem quot_cut : ∀ (f : Nat) (l x : List UInt8) (m : Nat), l.length ≤ f → quotL l = (x, m, 0) → m ≤ l.length ∧ (∀ v, quotL (l.take m ++ v) = (x, m, 0)) ∧ partW 34 l = m ∧ 0 < m
  | 0, l, x, m, hf, h => by
    obtain rfl := List.eq_nil_of_length_eq_zero (Nat.le_zero.1 hf)
    rw [quotL_nil] at h
    simp at h
  | f + 1, [], x, m, hf, h => by
    rw [quotL_nil] at h
    simp at h
  | f + 1, b :: t, x, m, hf, h => by
    have hf' : t.length ≤ f := by simpa using hf
    rw [quotL_cons] at h
    split at h
    · rename_i hb
      injection h with h1 h; injection h with h2 _
      subst h1 h2
      have hb' : b = 34 := UInt8.toNat_inj.1 hb
      refine ⟨by simp, fun v => ?_, ?_, Nat.one_pos⟩
      · show quotL (b :: ([] ++ v)) = _
        rw [quotL_cons, if_pos hb]
      · rw [partW_cons, if_neg (by omega), if_pos hb', if_neg (by simp)]
    rename_i hb
    split at h
    · rename_i hb2
      split at h
      · rename_i h0
        injection h with _ h; injection h with _ h
        exact absurd h h0
      rename_i h0
      have he : escL t = ((escL t).1, (escL t).2.1, 0) := by rw [← (show (escL t).2.2 = 0 by omega)]
      obtain ⟨h1, h2, h3, h4⟩ := escL_cut t _ _ he
      obtain ⟨k, hk⟩ : ∃ k, k = (escL t).2.1 := ⟨_, rfl⟩
      obtain ⟨r, hr⟩ : ∃ r, r = (escL t).1 := ⟨_, rfl⟩
      rw [← hk] at h h1 h2 h3 h4
      rw [← hr] at h h3
      have hq := fin_ok (a := enc r) (k := 1 + k) (x := quotL (t.drop k)) (by rw [h])
      have hx : quotL (t.drop k) = ((quotL (t.drop k)).1, (quotL (t.drop k)).2.1, 0) := by rw [← hq.1]
      obtain ⟨i1, i2, i3, i4⟩ := quot_cut f (t.drop k) _ _ (by rw [List.length_drop]; omega) hx
      obtain ⟨y, hy⟩ : ∃ y, y = (quotL (t.drop k)).1 := ⟨_, rfl⟩
      obtain ⟨n, hn⟩ : ∃ n, n = (quotL (t.drop k)).2.1 := ⟨_, rfl⟩
      rw [← hn] at i1 i2 i3 i4
      rw [← hy] at i2
      rw [List.length_drop] at i1
      rw [hq.2, ← hy, ← hn] at h
      injection h with e1 h; injection h with e2 _
      subst e1 e2
      refine ⟨by rw [List.length_cons]; omega, fun v => ?_, ?_, by omega⟩
      · have e : (b :: t).take (1 + k + n) ++ v = b :: (t.take k ++ ((t.drop k).take n ++ v)) := by
          rw [show 1 + k + n = (k + n) + 1 by omega, List.take_succ_cons, List.cons_append, take_cut]
        rw [e, quotL_cons, if_neg hb, if_pos hb2, h3, if_neg (by simp)]
        show quotFin (enc r) (1 + k) (quotL ((t.take k ++ ((t.drop k).take n ++ v)).drop k)) = _
        rw [(take_back t _ k h2).2, i2 v]
        rfl
      · rw [partW_cons, if_pos ⟨rfl, hb2⟩]
        show addP (1 + max 1 (dec t).2) (partW 34 (t.drop (max 1 (dec t).2))) = _
        have hd : (dec t).2 = 1 := by
          cases t with
          | nil => simp at h2; omega
          | cons c u =>
            have hc : c.toNat < 128 := by
              have h5 := h3 []
              rcases Nat.lt_or_ge c.toNat 128 with h | h
              · exact h
              · obtain ⟨j, rfl⟩ : ∃ j, k = j + 1 := ⟨k - 1, by omega⟩
                rw [List.take_succ_cons, List.cons_append, escL, if_neg (by omega)] at h5
                have : simpleEsc c = none := by
                  unfold simpleEsc
                  repeat' rw [if_neg (by omega)]
                rw [this] at h5
                simp at h5
            rw [dec_ascii c u hc]
        rw [h4, hd, i3]
        by_cases hk1 : k = 1
        · subst hk1
          rw [addP_none]
          show addP 2 n = _
          unfold addP
          rw [if_neg (by omega)]
        · rw [addP_two _ _ _ (by omega)]
          unfold addP
          rw [if_neg (by omega)]
          omega
    rename_i hb2
    split at h
    · injection h with _ h; injection h with _ h
      cases h
    rename_i h0
    have hd0 : (dec (b :: t)).2 ≠ 0 := fun h' => h0 (.inr h')
    have hdl := dec_le (b :: t)
    obtain ⟨k, hk⟩ : ∃ k, k = (dec (b :: t)).2 := ⟨_, rfl⟩
    have hcut := fun v => dec_cut (b :: t) v hd0
    have hhigh := high_bytes (b :: t) hd0
    have hcc : (b :: t).take k = b :: t.take (k - 1) := by
      obtain ⟨j, rfl⟩ : ∃ j, k = j + 1 := ⟨k - 1, by omega⟩
      rfl
    rw [← hk] at h hd0 hdl hhigh
    have hq := fin_ok (a := (b :: t).take k) (k := k) (x := quotL ((b :: t).drop k)) (by rw [h])
    have hx : quotL ((b :: t).drop k) = ((quotL ((b :: t).drop k)).1, (quotL ((b :: t).drop k)).2.1, 0) := by rw [← hq.1]
    obtain ⟨i1, i2, i3, i4⟩ := quot_cut f ((b :: t).drop k) _ _ (by rw [List.length_drop, List.length_cons]; omega) hx
    obtain ⟨y, hy⟩ : ∃ y, y = (quotL ((b :: t).drop k)).1 := ⟨_, rfl⟩
    obtain ⟨n, hn⟩ : ∃ n, n = (quotL ((b :: t).drop k)).2.1 := ⟨_, rfl⟩
    rw [← hn] at i1 i2 i3 i4
    rw [← hy] at i2
    rw [List.length_drop] at i1
    rw [hq.2, ← hy, ← hn] at h
    injection h with e1 h; injection h with e2 _
    subst e1 e2
    refine ⟨by omega, fun v => ?_, ?_, by omega⟩
    · rw [take_cut]
      have h5 := hcut (((b :: t).drop k).take n ++ v)
      rw [← hk] at h5
      obtain ⟨tb1, tb2⟩ := take_back (b :: t) (((b :: t).drop k).take n ++ v) k hdl
      rw [hcc, List.cons_append] at h5 tb1 tb2 ⊢
      rw [quotL_cons, if_neg hb, if_neg hb2, h5, ← hk, if_neg (by rw [not_or] at h0 ⊢; exact ⟨h0.1, hd0⟩), tb1, tb2, i2 v]
      rfl
    · conv => lhs; rw [← List.take_append_drop k (b :: t)]
      rw [partW_pass 34 ((b :: t).take k) _ (fun c hc => ?_), i3, List.length_take, Nat.min_eq_left hdl]
      · unfold addP
        rw [if_neg (by omega)]
      · by_cases hk1 : k = 1
        · rw [hk1] at hc
          rw [List.mem_singleton.1 hc]
          exact ⟨fun h => hb (by rw [h]; rfl), fun h => hb2 h.2⟩
        · have := hhigh hk1 c hc
          exact ⟨fun h => by rw [h] at this; exact absurd this (by decide), fun h => by omega⟩
/-- What Unquote says of a quoted scalar that the partner cuts off. -/
theorem unq_cut (t x : List UInt8) (m : Nat) (h : quotL t = (x, m, 0)) : unqL ((34 : UInt8) :: t.take m) = (x, 0) := by
  obtain ⟨h1, h2, -, -⟩ := quot_cut t.length t x m (Nat.le_refl _) h
  have h3 := h2 []
  rw [List.append_nil] at h3
  rw [unqL, quotR, h3, fin_of rfl, if_neg (by decide), if_neg (by simp)]
  rw [if_neg (by rw [List.length_take, Nat.min_eq_left h1]; simp; omega)]
  rfl
end Go.Proofs.YtlnpfpjncnkekaaGreatDoor

namespace Go.Proofs.YtlnpfpjncnkekaaGreatDoor
open Go.RowKit
set_option maxRecDepth 100000
set_option maxHeartbeats 1000000

theorem sing_cut : ∀ (f : Nat) (l x : List UInt8) (m : Nat), l.length ≤ f → singL l = (x, m, 0) → m ≤ l.length ∧ (∀ v, v.head? ≠ some 39 → singL (l.take m ++ v) = (x, m, 0)) ∧ partW 39 l = m ∧ 0 < m ∧ (l.drop m).head? ≠ some 39
  | 0, l, x, m, hf, h => by
    obtain rfl := List.eq_nil_of_length_eq_zero (Nat.le_zero.1 hf)
    rw [singL_nil] at h
    simp at h
  | f + 1, [], x, m, hf, h => by
    rw [singL_nil] at h
    simp at h
  | f + 1, b :: t, x, m, hf, h => by
    have hf' : t.length ≤ f := by simpa using hf
    rw [singL_cons] at h
    split at h
    · rename_i hb
      have hb' : b = 39 := UInt8.toNat_inj.1 hb
      split at h
      · rename_i ht
        obtain ⟨u, rfl⟩ : ∃ u, t = 39 :: u := by
          cases t with
          | nil => simp at ht
          | cons c u => exact ⟨u, by rw [List.head?_cons] at ht; rw [Option.some.inj ht]⟩
        have e1 : ((39 : UInt8) :: u).drop 1 = u := rfl
        rw [e1] at h
        have hq := fin_ok (a := [39]) (k := 2) (x := singL u) (by rw [h])
        have hx : singL u = ((singL u).1, (singL u).2.1, 0) := by rw [← hq.1]
        obtain ⟨i1, i2, i3, i4, i5⟩ := sing_cut f u _ _ (by simp at hf'; omega) hx
        obtain ⟨y, hy⟩ : ∃ y, y = (singL u).1 := ⟨_, rfl⟩
        obtain ⟨n, hn⟩ : ∃ n, n = (singL u).2.1 := ⟨_, rfl⟩
        rw [← hn] at i1 i2 i3 i4 i5
        rw [← hy] at i2
        rw [hq.2, ← hy, ← hn] at h
        injection h with e1 h; injection h with e2 _
        subst e1 e2
        refine ⟨by simp; omega, fun v hv => ?_, ?_, by omega, ?_⟩
        · have e : (b :: 39 :: u).take (2 + n) ++ v = b :: 39 :: (u.take n ++ v) := by
            rw [show 2 + n = n + 2 by omega]
            rfl
          rw [e, singL_cons, if_pos hb, List.head?_cons, if_pos rfl]
          show quotFin [39] 2 (singL (u.take n ++ v)) = _
          rw [i2 v hv]
          rfl
        · rw [partW_cons, if_neg (fun h => absurd h.1 (by decide)), if_pos hb', if_pos ⟨rfl, rfl⟩]
          show addP 2 (partW 39 u) = _
          rw [i3]
          exact if_neg (by omega)
        · rw [show 2 + n = n + 2 by omega]
          exact i5
      · rename_i ht
        injection h with h1 h; injection h with h2 _
        subst h1 h2
        refine ⟨by simp, fun v hv => ?_, ?_, Nat.one_pos, ht⟩
        · show singL (b :: v) = _
          rw [singL_cons, if_pos hb, if_neg hv]
        · rw [partW_cons, if_neg (fun h => absurd h.1 (by decide)), if_pos hb', if_neg (fun h => ht h.2)]
    rename_i hb
    split at h
    · injection h with _ h; injection h with _ h
      cases h
    rename_i h0
    have hd0 : (dec (b :: t)).2 ≠ 0 := fun h' => h0 (.inr h')
    have hdl := dec_le (b :: t)
    obtain ⟨k, hk⟩ : ∃ k, k = (dec (b :: t)).2 := ⟨_, rfl⟩
    have hcut := fun v => dec_cut (b :: t) v hd0
    have hhigh := high_bytes (b :: t) hd0
    have hcc : (b :: t).take k = b :: t.take (k - 1) := by
      obtain ⟨j, rfl⟩ : ∃ j, k = j + 1 := ⟨k - 1, by omega⟩
      rfl
    rw [← hk] at h hd0 hdl hhigh
    have hq := fin_ok (a := (b :: t).take k) (k := k) (x := singL ((b :: t).drop k)) (by rw [h])
    have hx : singL ((b :: t).drop k) = ((singL ((b :: t).drop k)).1, (singL ((b :: t).drop k)).2.1, 0) := by rw [← hq.1]
    obtain ⟨i1, i2, i3, i4, i5⟩ := sing_cut f ((b :: t).drop k) _ _ (by rw [List.length_drop, List.length_cons]; omega) hx
    obtain ⟨y, hy⟩ : ∃ y, y = (singL ((b :: t).drop k)).1 := ⟨_, rfl⟩
    obtain ⟨n, hn⟩ : ∃ n, n = (singL ((b :: t).drop k)).2.1 := ⟨_, rfl⟩
    rw [← hn] at i1 i2 i3 i4 i5
    rw [← hy] at i2
    rw [List.length_drop] at i1
    rw [List.drop_drop] at i5
    rw [hq.2, ← hy, ← hn] at h
    injection h with e1 h; injection h with e2 _
    subst e1 e2
    refine ⟨by omega, fun v hv => ?_, ?_, by omega, i5⟩
    · rw [take_cut]
      have h5 := hcut (((b :: t).drop k).take n ++ v)
      rw [← hk] at h5
      obtain ⟨tb1, tb2⟩ := take_back (b :: t) (((b :: t).drop k).take n ++ v) k hdl
      rw [hcc, List.cons_append] at h5 tb1 tb2 ⊢
      rw [singL_cons, if_neg hb, h5, ← hk, if_neg (by rw [not_or] at h0 ⊢; exact ⟨h0.1, hd0⟩), tb1, tb2, i2 v hv]
      rfl
    · conv => lhs; rw [← List.take_append_drop k (b :: t)]
      rw [partW_pass 39 ((b :: t).take k) _ (fun c hc => ?_), i3, List.length_take, Nat.min_eq_left hdl]
      · unfold addP
        rw [if_neg (by omega)]
      · by_cases hk1 : k = 1
        · rw [hk1] at hc
          rw [List.mem_singleton.1 hc]
          exact ⟨fun h => hb (by rw [h]; rfl), fun h => absurd h.1 (by decide)⟩
        · have := hhigh hk1 c hc
          exact ⟨fun h => by rw [h] at this; exact absurd this (by decide), fun h => by omega⟩
/-! strings.IndexFunc at the bytes below 32; strings.Contains at two bytes. -/
theorem ctl_from (s : ByteArray) : ∀ (f pos : Nat), s.size ≤ pos + f → (decide (0 ≤ Lib.idxFuncFrom (fun r => decide (r < 32)) true s f pos)) = ctlB ((L s).drop pos)
  | 0, pos, h => by
    rw [L_drop_nil s pos (by omega)]
    rfl
  | f + 1, pos, h => by
    unfold Lib.idxFuncFrom
    by_cases hp : pos < s.size
    · rw [if_pos hp, utf8_dec s pos hp, L_drop s pos hp]
      by_cases h0 : (dec (s[pos] :: (L s).drop (pos + 1))).2 = 0
      · rw [if_pos h0]
        have hb : ¬ s[pos].toNat < 128 := fun hb => by rw [dec_ascii _ _ hb] at h0; exact Nat.one_ne_zero h0
        have ih := ctl_from s f (pos + 1) (by omega)
        show decide (0 ≤ if decide (65533 < 32) = true then (pos : Int) else Lib.idxFuncFrom (fun r => decide (r < 32)) true s f (pos + 1)) = _
        rw [if_neg (by decide), ih]
        unfold ctlB
        rw [List.any_cons, decide_eq_false (by omega), Bool.false_or]
      · rw [if_neg h0]
        have hle := dec_le (s[pos] :: (L s).drop (pos + 1))
        have hhigh := high_bytes (s[pos] :: (L s).drop (pos + 1)) h0
        by_cases hb : s[pos].toNat < 128
        · rw [dec_ascii _ _ hb]
          have ih := ctl_from s f (pos + 1) (by omega)
          show decide (0 ≤ if decide (s[pos].toNat < 32) = true then (pos : Int) else Lib.idxFuncFrom (fun r => decide (r < 32)) true s f (pos + 1)) = _
          unfold ctlB at ih ⊢
          rw [List.any_cons]
          by_cases hc : s[pos].toNat < 32
          · rw [if_pos (decide_eq_true hc), decide_eq_true hc, decide_eq_true (by omega), Bool.true_or]
          · rw [if_neg (by simpa using hc), ih, decide_eq_false hc, Bool.false_or]
        · have hn1 : (dec (s[pos] :: (L s).drop (pos + 1))).2 ≠ 1 := fun h1 => hb (dec_one _ _ h1)
          have hh := hhigh hn1
          have hr : ¬ (dec (s[pos] :: (L s).drop (pos + 1))).1 < 32 := by
            rcases dec_cases (s[pos] :: (L s).drop (pos + 1)) with h | ⟨r, n, hd, hs, hw, -, -, -, -⟩
            · rw [h] at h0; exact absurd rfl h0
            · rw [hd] at hn1 ⊢
              intro hlt
              apply hn1
              dsimp only at hlt ⊢
              rw [← hw]
              unfold wid
              rw [if_pos (by omega)]
          obtain ⟨n, hn⟩ : ∃ n, n = (dec (s[pos] :: (L s).drop (pos + 1))).2 := ⟨_, rfl⟩
          have ih := ctl_from s f (pos + n) (by omega)
          rw [← hn] at hh hle ⊢
          rw [if_neg (by simpa using hr), ih]
          have e : s[pos] :: (L s).drop (pos + 1) = (s[pos] :: (L s).drop (pos + 1)).take n ++ (L s).drop (pos + n) := by
            rw [← L_drop s pos hp, ← List.drop_drop, List.take_append_drop]
          rw [e]
          unfold ctlB
          rw [List.any_append]
          have hz : (((s[pos] :: (L s).drop (pos + 1)).take n).any fun b => decide (b.toNat < 32)) = false := by
            rw [List.any_eq_false]
            intro c hc
            have := hh c hc
            simp
            omega
          rw [hz, Bool.false_or]
    · rw [if_neg hp, L_drop_nil s pos (by omega)]
      rfl
theorem ctl_idx (s : ByteArray) : decide (0 ≤ Lib.idxFunc (fun r => decide (r < 32)) true s) = ctlB (L s) := by
  unfold Lib.idxFunc
  rw [ctl_from s s.size 0 (by omega), List.drop_zero]
theorem two_has (a b : UInt8) : ∀ l : List UInt8, Lib.contains l [a, b] = two a b l
  | [] => rfl
  | c :: t => by
    have ih := two_has a b t
    have hge := Lib.index_ge t [a, b]
    unfold Lib.contains at ih ⊢
    unfold Lib.index two
    rw [← ih]
    by_cases h : [a, b].isPrefixOf (c :: t) = true
    · rw [if_pos h]
      have : c = a ∧ t.head? = some b := by
        cases t with
        | nil => simp [List.isPrefixOf] at h
        | cons d u =>
          simp [List.isPrefixOf] at h
          exact ⟨h.1.symm, by rw [List.head?_cons, h.2]⟩
      rw [decide_eq_true this.1, decide_eq_true this.2]
      rfl
    · rw [if_neg h]
      have : ¬ (c = a ∧ t.head? = some b) := by
        rintro ⟨rfl, ht⟩
        apply h
        cases t with
        | nil => simp at ht
        | cons d u =>
          rw [List.head?_cons] at ht
          rw [Option.some.inj ht]
          simp [List.isPrefixOf]
      have e : (decide (c = a) && decide (t.head? = some b)) = false := by
        rw [Bool.and_eq_false_iff]
        by_cases h1 : c = a
        · exact .inr (decide_eq_false fun h2 => this ⟨h1, h2⟩)
        · exact .inl (decide_eq_false h1)
      rw [e, Bool.false_or]
      by_cases hi : Lib.index t [a, b] = -1
      · rw [if_pos (by rw [hi]; rfl), hi]
      · rw [if_neg (by simpa using hi)]
        rw [decide_eq_true (show 0 ≤ Lib.index t [a, b] by omega), decide_eq_true (show 0 ≤ Lib.index t [a, b] + 1 by omega)]
theorem firstX0 : ∀ n : Fin 256, decide (0 ≤ Lib.indexByte firstX (UInt8.ofNat n.val)) = firstX.contains (UInt8.ofNat n.val) := by decide +kernel
theorem firstX_idx (b : UInt8) : decide (0 ≤ Lib.indexByte firstX b) = firstX.contains b := by
  have h := firstX0 ⟨b.toNat, b.toNat_lt⟩
  simpa using h
end Go.Proofs.YtlnpfpjncnkekaaGreatDoor

namespace Go.Proofs.YtlnpfpjncnkekaaGreatDoor
open Go.RowKit
set_option maxHeartbeats 4000000
set_option maxRecDepth 100000

theorem elem_u8 : Elem Tryz.prog 26 5 1 := elem_of (z := .int .u8 0) (bytes := 1) Tryz.underlying26 (by kernel_rfl) (by decide) (by decide) rfl
theorem single_any (s : ByteArray) (w : World) (h1 : 0 < s.size) (hs : s.size ≤ 1000000000) :
    Calls Tryz.prog 40 #[.string s] w fun e w' => e = .returned (.tuple #[.string ⟨(singR ((L s).drop 1)).1.toArray⟩, .int .i64 (singR ((L s).drop 1)).2.1, .int .i64 (singR ((L s).drop 1)).2.2]) ∧ Below w.heap.size w w' := by
  have hm : s.size ≤ maxLen := by simp only [maxLen]; omega
  obtain ⟨r, hr⟩ : ∃ r, r = singR ((L s).drop 1) := ⟨_, rfl⟩
  rw [← hr]
  have HR0 : Hid (r = quotFin [] 1 (singL ((L s).drop 1))) := hr
  clear hr
  go_enter Tryz.func40, Tryz.ntmps40
  go_wp2_with fail
  go_loopw [5, 6, 7, 8] (fun v i _ _ wr => ∃ (k : Nat) (acc : List UInt8), 1 ≤ k ∧ k ≤ s.size ∧ i = .int .i64 (k : Int) ∧ acc.length ≤ k ∧ wr.ownsRow w.heap.size 5 1 v acc.length (acc.map bv) ∧ Hid (r = quotFin acc k (singL ((L s).drop k))) ∧ Hid (Below w.heap.size w wr)) (fun _ i _ _ _ => s.size - (intOf i).toNat)
  case atStart => exact ⟨1, [], Nat.le_refl _, h1, rfl, by simp, World.ownsRow_nil _ _ _ _, HR0.out, Below.refl _ _⟩
  case round =>
    clear HR0
    obtain ⟨k, acc, hk1, hk, rfl, hal, hown, HR, HBW⟩ := hrel
    have hk0 : (0 : Int) ≤ (k : Int) := by omega
    by_cases hlt : k < s.size
    case neg =>
      have HF : Hid (r = ([], 0, 4)) := by unfold Hid; rw [HR.out, L_drop_nil s k (by omega), singL_nil]; rfl
      clear HR hown
      go_wp2_with fail
      go_ret3
      exact ⟨ret3_str HF.out, HBW.out⟩
    have hQ := singL_cons s[k] ((L s).drop (k + 1))
    rw [← L_drop s k hlt] at hQ
    have HQ := Lib.hid hQ; clear hQ
    have HSZ : Hid (w.heap.size ≤ wr.heap.size) := HBW.out.size
    by_cases h39 : s[k].toNat = 39
    case pos =>
      have g := beqB s[k] 39 (by omega)
      by_cases hl : k + 1 < s.size
      case neg =>
        have HF : Hid (r = (acc, k + 1, 0)) := by unfold Hid; rw [HR.out, HQ.out, if_pos h39, L_drop_nil s (k + 1) (by omega), if_neg (by simp), fin_of rfl, List.append_nil]
        have hcv := conv_own bytesT hown
        clear h39 HR HQ hown
        go_wp2_with fail
        go_ret3
        exact ⟨ret3_str HF.out, HBW.out⟩
      have hh : ((L s).drop (k + 1)).head? = some s[k + 1] := by rw [L_drop s (k + 1) hl]; rfl
      by_cases hn : s[k + 1].toNat = 39
      case neg =>
        have g2 := bneNB s[k + 1] 39 (by omega)
        have HF : Hid (r = (acc, k + 1, 0)) := by
          unfold Hid
          rw [HR.out, HQ.out, if_pos h39, hh, if_neg (fun h => hn (by rw [Option.some.inj h]; rfl)), fin_of rfl, List.append_nil]
        have hcv := conv_own bytesT hown
        clear h39 HR HQ hown hh hn
        go_wp2_with fail
        go_ret3
        exact ⟨ret3_str HF.out, HBW.out⟩
      have g2 := bneB s[k + 1] 39 (by omega)
      have HN : Hid (r = quotFin (acc ++ [39]) (k + 2) (singL ((L s).drop (k + 2)))) := by
        unfold Hid
        rw [HR.out, HQ.out, if_pos h39, hh, if_pos (by rw [UInt8.toNat_inj.1 (show s[k + 1].toNat = (39 : UInt8).toNat from hn)]), quotFin_fin, List.drop_drop]
      have HAL : Hid (acc.length < 100000000000) := by unfold Hid; omega
      clear h39 HR HQ hh hn
      go_wp2_with (first
        | (at_builtin; refine wp_pushM bytesT rfl _ _ rfl hown [39] [.int .u8 39] rfl 1 rfl rfl wr.heap.size rfl rfl (by have := HAL.out; omega) HSZ.out ?_; intro v9 w9 hn9 hg9 hb9; have HB9 := Lib.hid (HBW.out.trans hb9); clear hg9 hb9)
        | (refine wpl_slice rfl rfl elem_u8 rfl (cs := [.int .u8 39]) rfl rfl (by decide) ?_))
      exact ⟨⟨k + 2, acc ++ [39], by omega, by omega, by go_num, by rw [List.length_append]; simp; omega, by rw [List.length_append]; exact hn9, HN.out, HB9.out⟩, by simp [intOf]; omega⟩
    case neg =>
      have g := beqNB s[k] 39 (by omega)
      have HE : Hid (r = quotFin acc k (if s[k].toNat < 32 ∨ (dec ((L s).drop k)).2 = 0 then ([], 0, 5) else quotFin (((L s).drop k).take (dec ((L s).drop k)).2) (dec ((L s).drop k)).2 (singL (((L s).drop k).drop (dec ((L s).drop k)).2)))) := by
        unfold Hid; rw [HR.out, HQ.out, if_neg h39]
      have hle := dec_le ((L s).drop k)
      rw [List.length_drop, L_len] at hle
      have hlow : (dec ((L s).drop k)).2 ≠ 0 → ((dec ((L s).drop k)).1 < 32 ↔ s[k].toNat < 32) := by
        intro h0
        rw [L_drop s k hlt] at h0 ⊢
        by_cases hb : s[k].toNat < 128
        · rw [dec_ascii _ _ hb]
        · have hn1 : (dec (s[k] :: (L s).drop (k + 1))).2 ≠ 1 := fun h1 => hb (dec_one _ _ h1)
          rcases dec_cases (s[k] :: (L s).drop (k + 1)) with h | ⟨r, n, hd, hsc, hw, -, -, -, -⟩
          · rw [h] at h0; exact absurd rfl h0
          · rw [hd] at hn1 ⊢
            constructor
            · intro hlt
              exfalso
              apply hn1
              dsimp only at hlt ⊢
              rw [← hw]
              unfold wid
              rw [if_pos (by omega)]
            · intro h; omega
      have HDE := Lib.hid (fun w' => Decode_any s k w' hm)
      clear HR HQ h39
      generalize hdd : dec ((L s).drop k) = rn at *
      have HDD := Lib.hid hdd; clear hdd
      obtain ⟨rr, n⟩ := rn
      dsimp only at HE hle hlow HDE
      by_cases h0 : n = 0
      · have HF : Hid (r = ([], 0, 5)) := by unfold Hid; rw [HE.out, if_pos (.inr h0)]; rfl
        have hz : ((n : Int) == 0) = true := by rw [beq_iff_eq]; omega
        clear HE hown hlow h0
        go_wp2_with (go_at_call 85; refine (HDE.out _).mono ?_; rintro e w' ⟨rfl, rfl⟩)
        go_ret3
        exact ⟨ret3_str HF.out, HBW.out⟩
      have hz : ((n : Int) == 0) = false := by rw [beq_eq_false_iff_ne]; omega
      have hl := hlow h0
      by_cases h32 : s[k].toNat < 32
      · have HF : Hid (r = ([], 0, 5)) := by unfold Hid; rw [HE.out, if_pos (.inl h32)]; rfl
        have g32 : (rr : Int) < 32 := by have := hl.2 h32; omega
        clear HE hown hlow h0 hl h32
        go_wp2_with (go_at_call 85; refine (HDE.out _).mono ?_; rintro e w' ⟨rfl, rfl⟩)
        go_ret3
        exact ⟨ret3_str HF.out, HBW.out⟩
      · have g32 : ¬ (rr : Int) < 32 := fun h => h32 (hl.1 (by omega))
        have hn1 : 1 ≤ n := by omega
        have HF : Hid (r = quotFin (acc ++ ((L s).drop k).take n) (k + n) (singL ((L s).drop (k + n)))) := by
          unfold Hid; rw [HE.out, if_neg (by omega), quotFin_fin, List.drop_drop]
        have hsz : (s.extract k (k + n)).size = n := by rw [ByteArray.size_extract]; omega
        have HSE := Lib.hid hsz
        have HAL : Hid (acc.length + n < 100000000000) := by unfold Hid; omega
        clear HE hlow h0 hl h32 hsz
        go_wp2_with (first
          | (go_at_call 85; refine (HDE.out _).mono ?_; rintro e w' ⟨rfl, rfl⟩)
          | (at_builtin; refine wp_pushS bytesT rfl _ _ rfl hown (s.extract k (k + n)) rfl rfl (by rw [HSE.out]; have := HAL.out; omega) HSZ.out ?_; intro v9 w9 hn9 hg9 hb9; have HB9 := Lib.hid (HBW.out.trans hb9); clear hg9 hb9))
        have he : L (s.extract k (k + n)) = ((L s).drop k).take n := by rw [L_extract, Nat.add_sub_cancel_left]
        have hln : (((L s).drop k).take n).length = n := by rw [← he, L_len]; exact HSE.out
        rw [HSE.out, he] at hn9
        exact ⟨⟨k + n, acc ++ ((L s).drop k).take n, by omega, by omega, by go_num, by rw [List.length_append, hln]; omega, by rw [List.length_append, hln]; exact hn9, HF.out, HB9.out⟩, by simp [intOf]; omega⟩
theorem unqR_at (s : ByteArray) (hp : 0 < s.size) : unqR (L s) = if s[0].toNat = 34 then unqL (L s) else if s[0].toNat ≠ 39 then ([], 3) else if (singR ((L s).drop 1)).2.2 ≠ 0 then ([], (singR ((L s).drop 1)).2.2) else if (singR ((L s).drop 1)).2.1 < s.size then ([], 3) else ((singR ((L s).drop 1)).1, 0) := by
  have hl : ((L s).drop 1).length + 1 = s.size := by rw [List.length_drop, L_len]; omega
  have h := L_drop s 0 hp
  rw [List.drop_zero, Nat.zero_add] at h
  conv => lhs; rw [h]
  rw [unqR, hl, ← h]
theorem UnquoteI_any (s : ByteArray) (w : World) (hs : s.size ≤ 1000000000) :
    Calls Tryz.prog 30 #[.string s] w fun e w' => e = .returned (.tuple #[.string ⟨(unqR (L s)).1.toArray⟩, .int .i64 (unqR (L s)).2]) ∧ Below w.heap.size w w' := by
  by_cases he : L s = []
  · have he1 : s.toList.isEmpty = true := by rw [empty_L]; simpa using he
    have HF : Hid (unqR (L s) = ([], 4)) := by unfold Hid; rw [he]; rfl
    clear he
    go_enter Tryz.func30, Tryz.ntmps30
    go_wp2_with fail
    go_ret2
    exact ⟨ret2_str HF.out, Below.refl _ _⟩
  have he1 : s.toList.isEmpty = false := by rw [empty_L]; simpa using he
  have hp := size_pos he
  have HX := Lib.hid (unqR_at s hp)
  clear he
  by_cases h34 : s[0].toNat = 34
  · have g := beqB s[0] 34 (by omega)
    have HF : Hid (unqR (L s) = unqL (L s)) := by unfold Hid; rw [HX.out, if_pos h34]
    have HU := Lib.hid (fun w' => Unquote_any s w' (by omega))
    rw [← HF.out] at HU
    clear HX h34 HF
    generalize unqR (L s) = u at *
    go_enter Tryz.func30, Tryz.ntmps30
    go_wp2_with (go_at_call 39; refine (HU.out _).mono ?_; rintro e w1 ⟨rfl, hb⟩)
    go_ret2
    exact ⟨rfl, hb⟩
  have g := beqNB s[0] 34 (by omega)
  by_cases h39 : s[0].toNat = 39
  case neg =>
    have g2 := bneNB s[0] 39 (by omega)
    have HF : Hid (unqR (L s) = ([], 3)) := by unfold Hid; rw [HX.out, if_neg h34, if_pos h39]
    clear HX h34 h39
    go_enter Tryz.func30, Tryz.ntmps30
    go_wp2_with fail
    go_ret2
    exact ⟨ret2_str HF.out, Below.refl _ _⟩
  have g2 := bneB s[0] 39 (by omega)
  have HY : Hid (unqR (L s) = if (singR ((L s).drop 1)).2.2 ≠ 0 then ([], (singR ((L s).drop 1)).2.2) else if (singR ((L s).drop 1)).2.1 < s.size then ([], 3) else ((singR ((L s).drop 1)).1, 0)) := by
    unfold Hid; rw [HX.out, if_neg h34, if_neg (by simpa using h39)]
  have HS := Lib.hid (fun w' => single_any s w' hp hs)
  clear HX h34 h39
  generalize singR ((L s).drop 1) = x at *
  obtain ⟨t, n, er⟩ := x
  dsimp only at HY HS
  by_cases h0 : er = 0
  case neg =>
    have e1 : ((er : Int) != 0) = true := by rw [bne_iff_ne]; omega
    have HF : Hid (unqR (L s) = ([], er)) := by unfold Hid; rw [HY.out, if_pos h0]
    clear HY h0
    go_enter Tryz.func30, Tryz.ntmps30
    go_wp2_with (go_at_call 40; refine (HS.out _).mono ?_; rintro e w1 ⟨rfl, hb⟩)
    go_ret2
    exact ⟨ret2_str HF.out, hb⟩
  subst h0
  by_cases hn : n < s.size
  · have hn' : (n : Int) < s.size := by omega
    have HF : Hid (unqR (L s) = ([], 3)) := by unfold Hid; rw [HY.out, if_neg (by simp), if_pos hn]
    clear HY hn
    go_enter Tryz.func30, Tryz.ntmps30
    go_wp2_with (go_at_call 40; refine (HS.out _).mono ?_; rintro e w1 ⟨rfl, hb⟩)
    go_ret2
    exact ⟨ret2_str HF.out, hb⟩
  · have hn' : ¬ (n : Int) < s.size := by omega
    have HF : Hid (unqR (L s) = (t, 0)) := by unfold Hid; rw [HY.out, if_neg (by simp), if_neg hn]
    clear HY hn
    go_enter Tryz.func30, Tryz.ntmps30
    go_wp2_with (go_at_call 40; refine (HS.out _).mono ?_; rintro e w1 ⟨rfl, hb⟩)
    go_ret2
    exact ⟨ret2_str HF.out, hb⟩
end Go.Proofs.YtlnpfpjncnkekaaGreatDoor

namespace Go.Proofs.YtlnpfpjncnkekaaGreatDoor
open Go.RowKit
set_option maxHeartbeats 4000000
set_option maxRecDepth 100000

/-- What Decode hands back: the bytes, if it is a text. -/
def DecB (base : Nat) (l : List UInt8) (e : Ending) (w' : World) : Prop :=
  ∃ (v : Value) (n : Nat), e = .returned (.tuple #[v, .int .i64 (n : Int)]) ∧ (okB l → n = 0 ∧ w'.ownsRow base 5 1 v (bytB l).length ((bytB l).map bv)) ∧ (¬ okB l → n ≠ 0 ∧ v = .slice none 0 0)
theorem decB_no {base : Nat} {l : List UInt8} {w' : World} (n : Nat) (h : ¬ okB l) (hn : n ≠ 0) : DecB base l (.returned (.tuple #[.slice none 0 0, .int .i64 (n : Int)])) w' :=
  ⟨_, n, rfl, fun h' => absurd h' h, fun _ => ⟨hn, rfl⟩⟩
def bitsK (k : Nat) : Int := if k % 4 = 0 then 0 else if k % 4 = 1 then 6 else if k % 4 = 2 then 4 else 2
theorem runB_at (s : ByteArray) (k : Nat) (h : k < s.size) : runB ((L s).drop k) = if 0 ≤ b64 s[k] then runB ((L s).drop (k + 1)) + 1 else 0 := by
  rw [L_drop s k h]
  rfl
theorem run_dgs (s : ByteArray) (k : Nat) (h : k < s.size) : k < runB (L s) → 0 ≤ b64 s[k] := by
  have : ∀ (l : List UInt8) (k : Nat), k < runB l → ∃ c, l[k]? = some c ∧ 0 ≤ b64 c := by
    intro l
    induction l with
    | nil => intro k hk; exact absurd hk (Nat.not_lt_zero _)
    | cons c t ih =>
      intro k hk
      by_cases hc : 0 ≤ b64 c
      · cases k with
        | zero => exact ⟨c, rfl, hc⟩
        | succ k =>
          have e : runB (c :: t) = runB t + 1 := if_pos hc
          rw [e] at hk
          exact ih k (by omega)
      · have e : runB (c :: t) = 0 := if_neg hc
        rw [e] at hk
        exact absurd hk (Nat.not_lt_zero _)
  intro hk
  obtain ⟨c, h1, h2⟩ := this (L s) k hk
  rw [List.getElem?_eq_getElem (by rw [L_len]; exact h)] at h1
  rw [show s[k] = c from Option.some.inj h1]
  exact h2
def allQ : List UInt8 → Bool
  | [] => true
  | b :: t => decide (b.toNat = 61) && allQ t
theorem allQ_iff : ∀ l : List UInt8, allQ l = true → l = List.replicate l.length 61
  | [], _ => rfl
  | b :: t, h => by
    rw [allQ, Bool.and_eq_true, decide_eq_true_eq] at h
    rw [List.length_cons, List.replicate_succ, ← allQ_iff t h.2, UInt8.toNat_inj.1 (show b.toNat = (61 : UInt8).toNat from h.1)]
theorem allQ_rep : ∀ (n : Nat) (l : List UInt8), l = List.replicate n 61 → allQ l = true
  | 0, l, h => by rw [h]; rfl
  | n + 1, l, h => by
    rw [h, List.replicate_succ, allQ, allQ_rep n _ rfl]
    rfl
theorem byte_one (x : Int) (n : Nat) (h : x = (n : Int)) (hn : n < 256) : [Value.int .u8 x] = [UInt8.ofNat n].map bv := by
  rw [h]
  show [Value.int .u8 (n : Int)] = [Value.int .u8 ((UInt8.ofNat n).toNat : Int)]
  rw [ofn n hn]
theorem and_15 (lf d : Nat) (h : lf * 64 + d < 2097152) : bits .and .i64 ((lf : Int) * 64 + (d : Int)) 15 = ((d % 16 : Nat) : Int) := by
  have := and15 (lf * 64 + d) h
  rw [show ((lf : Int) * 64 + (d : Int)) = ((lf * 64 + d : Nat) : Int) by omega, this]
  omega
theorem and_3 (lf d : Nat) (h : lf * 64 + d < 2097152) : bits .and .i64 ((lf : Int) * 64 + (d : Int)) 3 = ((d % 4 : Nat) : Int) := by
  have : bits .and .i64 ((lf * 64 + d : Nat) : Int) 3 = (((lf * 64 + d) % 4 : Nat) : Int) := bits_mask .i64 63 (by decide) wraps_i64' 2 (by decide) _ (by omega) (by omega)
  rw [show ((lf : Int) * 64 + (d : Int)) = ((lf * 64 + d : Nat) : Int) by omega, this]
  omega
theorem and_0 (x : Int) : bits .and .i64 x 0 = 0 := by
  unfold bits
  simp
  exact wraps_i64' 0 (by omega) (by omega)
theorem or_zero : ∀ n : Fin 64, bits .or .i64 0 (n.val : Int) = (n.val : Int) := by decide +kernel
theorem or_dig (lf d : Nat) (h1 : lf < 64) (h2 : d < 64) : bits .or .i64 (wrap64 ((lf : Int) * 64)) (d : Int) = ((lf * 64 + d : Nat) : Int) := by
  have := or64 lf d (by omega)
  rw [show ((d : Int) % 64) = (d : Int) by omega] at this
  rw [this, Nat.mod_eq_of_lt h2]
theorem BDecode_any (s : ByteArray) (w : World) (hs : s.size ≤ 1000000000) :
    Calls Tryz.prog 33 #[.string s, .bool true] w fun e w' => DecB w.heap.size (L s) e w' ∧ Below w.heap.size w w' := by
  have hm : s.size ≤ maxLen := by simp only [maxLen]; omega
  have hKs := runB_le (L s)
  rw [L_len] at hKs
  obtain ⟨K, hK⟩ : ∃ K, K = runB (L s) := ⟨_, rfl⟩
  rw [← hK] at hKs
  have HK := Lib.hid hK
  have HK0 : Hid (K = 0 + runB ((L s).drop 0)) := by unfold Hid; rw [List.drop_zero, Nat.zero_add]; exact hK
  clear hK
  go_enter Tryz.func33, Tryz.ntmps33
  go_wp2_with fail
  refine (finder_any letB w).mono ?_
  rintro e w1 ⟨rfl, hc1, hz1, hb1⟩
  have HB1 := Lib.hid hb1
  have HC1 := Lib.hid hc1
  clear hb1 hc1
  go_wp2_with fail
  go_loopw [7] (fun v wr => ∃ k : Nat, v = .int .i64 (k : Int) ∧ k ≤ s.size ∧ Hid (K = k + runB ((L s).drop k)) ∧ w1 = wr) (fun v _ => s.size - (intOf v).toNat)
  case atStart => exact ⟨0, rfl, Nat.zero_le _, HK0.out, rfl⟩
  case round =>
    clear HK0
    obtain ⟨k, rfl, hks, HR, rfl⟩ := hrel
    have hk0 : (0 : Int) ≤ (k : Int) := by omega
    go_upto_region 3 with fail
    go_cut [27] (fun v wx => v = .bool (decide (0 < runB ((L s).drop k))) ∧ w1 = wx)
    case first =>
      clear HR
      by_cases hlt : k < s.size
      case neg =>
        have HF : Hid (decide (0 < runB ((L s).drop k)) = false) := by unfold Hid; rw [L_drop_nil s k (by omega)]; rfl
        go_wp2_with fail
        go_meet
        exact ⟨by rw [HF.out], rfl⟩
      have HP := Lib.hid (fun w' h => pos_any s[k] w.heap.size w' h)
      have hst := runB_at s k hlt
      by_cases hd : 0 ≤ b64 s[k]
      · have HF : Hid (decide (0 < runB ((L s).drop k)) = true) := by unfold Hid; rw [hst, if_pos hd]; exact decide_eq_true (by omega)
        clear hst
        generalize b64 s[k] = bd at *
        go_wp2_with (go_at_call 127; refine (HP.out _ HC1.out).mono ?_; rintro e w' ⟨rfl, rfl⟩)
        go_meet
        exact ⟨by rw [HF.out], rfl⟩
      · have HF : Hid (decide (0 < runB ((L s).drop k)) = false) := by unfold Hid; rw [hst, if_neg hd]; rfl
        clear hst
        generalize b64 s[k] = bd at *
        go_wp2_with (go_at_call 127; refine (HP.out _ HC1.out).mono ?_; rintro e w' ⟨rfl, rfl⟩)
        go_meet
        exact ⟨by rw [HF.out, decide_eq_false (by omega)], rfl⟩
    case rest =>
    obtain ⟨rfl, rfl⟩ := hcut
    by_cases hp : 0 < runB ((L s).drop k)
    · have hlt : k < s.size := by
        have := runB_le ((L s).drop k)
        rw [List.length_drop, L_len] at this
        omega
      have HN : Hid (K = (k + 1) + runB ((L s).drop (k + 1))) := by
        unfold Hid
        have h2 := runB_at s k hlt
        have h3 := HR.out
        by_cases hd : 0 ≤ b64 s[k]
        · rw [if_pos hd] at h2
          omega
        · rw [if_neg hd] at h2
          omega
      clear HR
      go_wp2_with fail
      exact ⟨⟨k + 1, by go_num, by omega, HN.out, trivial⟩, by simp [intOf]; omega⟩
    · have hkK : k = K := by have := HR.out; omega
      subst hkK
      clear HR
      obtain ⟨q, hqq⟩ : ∃ q, allQ ((L s).drop k) = q := ⟨_, rfl⟩
      have HQ := Lib.hid hqq
      rw [decide_eq_false hp]
      clear hqq hp
      go_wp2_with fail
      go_loopw [9] (fun v wr => ∃ i : Nat, v = .int .i64 (i : Int) ∧ k ≤ i ∧ i ≤ s.size ∧ Hid (q = allQ ((L s).drop i)) ∧ w1 = wr) (fun v _ => s.size - (intOf v).toNat)
      case atStart => exact ⟨k, rfl, Nat.le_refl _, hks, HQ.out.symm, rfl⟩
      case round =>
        obtain ⟨i, rfl, hki, his, HR, rfl⟩ := hrel
        have hi0 : (0 : Int) ≤ (i : Int) := by omega
        by_cases hlt : i < s.size
        case pos =>
          have hst := HR.out
          rw [L_drop s i hlt] at hst
          have hst2 : q = (decide (s[i].toNat = 61) && allQ ((L s).drop (i + 1))) := hst
          clear HR hst
          by_cases h61 : s[i].toNat = 61
          · have g1 := bneB s[i] 61 (by omega)
            have HN : Hid (q = allQ ((L s).drop (i + 1))) := by unfold Hid; rw [hst2, decide_eq_true h61]; rfl
            clear hst2 h61
            go_wp2_with fail
            exact ⟨⟨i + 1, by go_num, by omega, by omega, HN.out, trivial⟩, by simp [intOf]; omega⟩
          · have g1 := bneNB s[i] 61 (by omega)
            have hq : q = false := by rw [hst2, decide_eq_false h61]; rfl
            subst hq
            have HNO : Hid (¬ okB (L s)) := by
              unfold Hid
              rintro ⟨-, -, h3⟩
              rw [← HK.out] at h3
              have := allQ_rep _ _ h3
              rw [HQ.out] at this
              cases this
            clear hst2 h61 HQ HK
            go_wp2_with fail
            go_ret2
            exact ⟨decB_no 3 HNO.out (by decide), HB1.out⟩
        case neg =>
          obtain rfl : i = s.size := by omega
          have hq : q = true := by rw [HR.out, L_drop_nil s _ (Nat.le_refl _)]; rfl
          subst hq
          clear HR hlt hi0 his hki
          go_wp2_with fail
          go_loopw [10, 11, 12, 13, 50] (fun ov wv bv' _ iv wr => ∃ (i : Nat) (acc : List UInt8), iv = .int .i64 (i : Int) ∧ i ≤ k ∧ acc.length ≤ i ∧ wr.ownsRow w1.heap.size 5 1 ov acc.length (acc.map bv) ∧ Hid (acc = dcG (((L s).take i).map dg)) ∧ wv = .int .i64 (lefG (((L s).take i).map dg) : Nat) ∧ bv' = .int .i64 (bitsK i) ∧ Hid (Below w1.heap.size w1 wr)) (fun _ _ _ _ iv _ => k - (intOf iv).toNat)
          case atStart => exact ⟨0, [], rfl, Nat.zero_le _, Nat.le_refl _, World.ownsRow_nil _ _ _ _, rfl, rfl, rfl, Below.refl _ _⟩
          case round =>
            obtain ⟨i, acc, rfl, hik, hal, hown, HA, rfl, rfl, HBW⟩ := hrel
            have hi0 : (0 : Int) ≤ (i : Int) := by omega
            by_cases hlt : i < k
            case neg =>
              obtain rfl : i = k := by omega
              have HOWN := Lib.hid (own_low hown (Nat.le_of_lt hz1))
              have hlen : (((L s).take i).map dg).length = i := by rw [List.length_map, List.length_take, L_len]; omega
              have hall : ∀ n ∈ ((L s).take i).map dg, n < 64 := by
                intro n hn
                obtain ⟨c, -, rfl⟩ := List.mem_map.1 hn
                exact dg_lt c
              have hlf := lef_lt _ hall
              rw [hlen] at hlf
              have hb : bytB (L s) = acc := by
                unfold bytB
                rw [← HK.out, HA.out]
              have hok : okB (L s) ↔ (i % 4 ≠ 1 ∧ lefG (((L s).take i).map dg) = 0 ∧ s.size - i = (4 - i % 4) % 4) := by
                unfold okB
                rw [← HK.out]
                have h1 := allQ_iff _ HQ.out
                rw [List.length_drop, L_len] at h1
                refine and_congr Iff.rfl (and_congr Iff.rfl ⟨fun h => ?_, fun h => ?_⟩)
                · have := congrArg List.length h
                  rw [List.length_drop, L_len, List.length_replicate] at this
                  exact this
                · rw [h1, h]
              have HYES : Hid (okB (L s) → ∀ w', w'.ownsRow w.heap.size 5 1 u10 acc.length (acc.map bv) → DecB w.heap.size (L s) (.returned (.tuple #[u10, .int .i64 0])) w') := fun hk w' h => ⟨_, 0, rfl, fun _ => ⟨rfl, by rw [hb]; exact h⟩, fun h => absurd hk h⟩
              have HB2 := Lib.hid (HB1.out.trans (HBW.out.mono HB1.out.size))
              generalize lefG (((L s).take i).map dg) = lf at *
              clear hlen hall hb hown HA HQ HK hlt hik HBW
              have HOK := Lib.hid hok
              have HLF := Lib.hid hlf
              clear hok hlf
              go_upto_region 24 with fail
              have hr4 : i % 4 = 0 ∨ i % 4 = 1 ∨ i % 4 = 2 ∨ i % 4 = 3 := by omega
              obtain ⟨E, hE⟩ : ∃ E, E = s.size - i := ⟨_, rfl⟩
              have hE1 : ((s.size : Int) - (i : Int)) = (E : Int) := by omega
              rw [← hE] at HOK
              rw [hE1]
              clear hE hE1
              have hl0 : lf = 0 ∨ lf ≠ 0 := Decidable.em _
              have hE4 : E = 0 ∨ E = 1 ∨ E = 2 ∨ 3 ≤ E := by omega
              rcases hr4 with h4 | h4 | h4 | h4
              all_goals
                first
                  | rw [show ((i : Int) % 4) = 0 by omega]
                  | rw [show ((i : Int) % 4) = 1 by omega]
                  | rw [show ((i : Int) % 4) = 2 by omega]
                  | rw [show ((i : Int) % 4) = 3 by omega]
                rcases hl0 with rfl | hl
                all_goals
                  rcases hE4 with rfl | rfl | rfl | hE
                  all_goals
                    first
                      | (have hk : okB (L s) := HOK.out.2 ⟨by omega, rfl, by rw [h4]⟩
                         have HF := Lib.hid (HYES.out hk)
                         clear HYES HOK HLF hk h4
                         go_wp2_with fail
                         go_ret2
                         exact ⟨HF.out _ HOWN.out, HB2.out⟩)
                      | (have hk : ¬ okB (L s) := fun h => by
                           have h1 := HOK.out.1 h
                           rw [h4] at h1
                           omega
                         have HF := Lib.hid hk
                         try have q1 : ((lf : Int) != 0) = true := by rw [bne_iff_ne]; omega
                         try have q2 : ((0 : Int) < (E : Int)) = True := eq_true (by omega)
                         try have q6 : (0 < E) = True := eq_true (by omega)
                         try have q3 : ((2 : Int) < (E : Int)) = True := eq_true (by omega)
                         try have q4 : ((1 : Int) < (E : Int)) = True := eq_true (by omega)
                         try have q5 : ((E : Int) == 0) = false := by rw [beq_eq_false_iff_ne]; omega
                         try clear hE
                         try clear hl
                         clear HYES HOK HLF hk h4
                         go_wp2_with fail
                         go_ret2
                         first
                           | exact ⟨decB_no 3 HF.out (by decide), HB2.out⟩
                           | exact ⟨decB_no 4 HF.out (by decide), HB2.out⟩)
                      | (exfalso
                         have h1 := HLF.out
                         have h2 := h1.2.1 h4
                         omega)
            case pos =>
              have hls : i < s.size := by omega
              have hd0 := run_dgs s i hls (by rw [← HK.out]; exact hlt)
              have hdl := dg_lt s[i]
              have hde : b64 s[i] = ((dg s[i] : Nat) : Int) := by unfold dg; omega
              have HP := Lib.hid (fun w' h => pos_any s[i] w.heap.size w' h)
              rw [hde] at HP
              have hlen : (((L s).take i).map dg).length = i := by rw [List.length_map, List.length_take, L_len]; omega
              have hall : ∀ n ∈ ((L s).take i).map dg, n < 64 := by
                intro n hn
                obtain ⟨c, -, rfl⟩ := List.mem_map.1 hn
                exact dg_lt c
              have hsn := dec_snoc (((L s).take i).map dg) (dg s[i])
              have hlf := lef_lt _ hall
              rw [hlen] at hsn hlf
              have htk : ((L s).take (i + 1)).map dg = ((L s).take i).map dg ++ [dg s[i]] := by rw [L_take_succ s i hls, List.map_append]; rfl
              rw [← htk] at hsn
              have hcell := HC1.out
              have HC2 : Hid (wr.cell? ⟨w.heap.size, 0, none⟩ = some (.string letB)) := (HBW.out.cell (p := ⟨w.heap.size, 0, none⟩) hz1).trans hcell
              generalize dg s[i] = d at *
              have hA := HA.out
              rw [← hA] at hsn
              generalize lefG (((L s).take i).map dg) = lf at *
              obtain ⟨acc2, hacc2⟩ : ∃ x, x = dcG (((L s).take (i + 1)).map dg) := ⟨_, rfl⟩
              obtain ⟨lf2, hlf2⟩ : ∃ x, x = lefG (((L s).take (i + 1)).map dg) := ⟨_, rfl⟩
              rw [← hacc2, ← hlf2] at hsn
              have HA2 := Lib.hid hacc2
              have HL2 := Lib.hid hlf2
              clear hacc2 hlf2
              have hor := or_dig lf d hlf.1 hdl
              have HAL : Hid (acc.length < 100000000000) := by unfold Hid; omega
              have HBS : Hid (w1.heap.size ≤ wr.heap.size) := HBW.out.size
              have hr4 : i % 4 = 0 ∨ i % 4 = 1 ∨ i % 4 = 2 ∨ i % 4 = 3 := by omega
              rcases hr4 with h4 | h4 | h4 | h4
              · obtain ⟨e1, e2, e3⟩ := hsn.1 h4
                have b0 : bitsK i = 0 := if_pos h4
                have b1 : Hid (bitsK (i + 1) = 6) := by
                  unfold Hid bitsK
                  rw [if_neg (by omega), if_pos (by omega)]
                have HE1 := Lib.hid e1
                have HE2 := Lib.hid e2
                have HOWN := Lib.hid hown
                subst e3
                rw [b0]
                have hor0 : bits .or .i64 0 (d : Int) = (d : Int) := or_zero ⟨d, hdl⟩
                clear hor e1 e2 h4 hown hdl hsn hlf HA hA htk hlen hall hde hd0 hcell b0
                go_wp2_with (go_at_call 127; refine (HP.out _ HC2.out).mono ?_; rintro e w' ⟨rfl, rfl⟩)
                go_roundw
                case rel => exact ⟨i + 1, acc, by go_num, by omega, by omega, HOWN.out, HE1.out.symm.trans HA2.out, by rw [← HL2.out, HE2.out], by rw [b1.out], HBW.out⟩
                case measure => simp [intOf]; omega
              · obtain ⟨e1, e2⟩ := hsn.2.1 h4
                have b0 : bitsK i = 6 := by
                  unfold bitsK
                  rw [if_neg (by omega), if_pos h4]
                have b1 : Hid (bitsK (i + 1) = 4) := by
                  unfold Hid bitsK
                  rw [if_neg (by omega), if_neg (by omega), if_pos (by omega)]
                have HE1 := Lib.hid e1
                have HE2 := Lib.hid e2
                have HOWN := Lib.hid hown
                have HLF := Lib.hid (hlf.1)
                have HDL := Lib.hid hdl
                rw [b0]
                clear e1 e2 h4 hown hdl hsn hlf HA hA htk hlen hall hde hd0 hcell b0
                go_wp2_with (first
                  | (go_at_call 127; refine (HP.out _ HC2.out).mono ?_; rintro e w' ⟨rfl, rfl⟩)
                  | (at_builtin; refine wp_push elem_u8 rfl _ _ rfl HOWN.out [_] rfl (fun u hu => by rw [List.mem_singleton.1 hu]; rfl) rfl rfl HAL.out HBS.out ?_; intro v9 w9 hn9 hg9 hb9; have HO9 := Lib.hid hn9; have HB9 := Lib.hid hb9; clear hn9 hg9 hb9))
                have h1 := HLF.out
                have h2 := HDL.out
                refine ⟨⟨i + 1, acc2, by go_num, by omega, by rw [HE1.out, List.length_append]; exact Nat.succ_le_succ hal, ?_, HA2.out, ?_, by rw [b1.out], HBW.out.trans HB9.out⟩, by simp [intOf]; omega⟩
                · have h9 := HO9.out
                  rw [byte_one _ (lf * 4 + d / 16) (by omega) (by omega)] at h9
                  rw [HE1.out, List.length_append, List.map_append]
                  exact h9
                · rw [← HL2.out, HE2.out, and_15 lf d (by omega)]
              · obtain ⟨e1, e2⟩ := hsn.2.2.1 h4
                have b0 : bitsK i = 4 := by
                  unfold bitsK
                  rw [if_neg (by omega), if_neg (by omega), if_pos h4]
                have b1 : Hid (bitsK (i + 1) = 2) := by
                  unfold Hid bitsK
                  rw [if_neg (by omega), if_neg (by omega), if_neg (by omega)]
                have HE1 := Lib.hid e1
                have HE2 := Lib.hid e2
                have HOWN := Lib.hid hown
                have HLF := Lib.hid (hlf.2.2.1 h4)
                have HDL := Lib.hid hdl
                rw [b0]
                clear e1 e2 h4 hown hdl hsn hlf HA hA htk hlen hall hde hd0 hcell b0
                go_wp2_with (first
                  | (go_at_call 127; refine (HP.out _ HC2.out).mono ?_; rintro e w' ⟨rfl, rfl⟩)
                  | (at_builtin; refine wp_push elem_u8 rfl _ _ rfl HOWN.out [_] rfl (fun u hu => by rw [List.mem_singleton.1 hu]; rfl) rfl rfl HAL.out HBS.out ?_; intro v9 w9 hn9 hg9 hb9; have HO9 := Lib.hid hn9; have HB9 := Lib.hid hb9; clear hn9 hg9 hb9))
                have h1 := HLF.out
                have h2 := HDL.out
                refine ⟨⟨i + 1, acc2, by go_num, by omega, by rw [HE1.out, List.length_append]; exact Nat.succ_le_succ hal, ?_, HA2.out, ?_, by rw [b1.out], HBW.out.trans HB9.out⟩, by simp [intOf]; omega⟩
                · have h9 := HO9.out
                  rw [byte_one _ (lf * 16 + d / 4) (by omega) (by omega)] at h9
                  rw [HE1.out, List.length_append, List.map_append]
                  exact h9
                · rw [← HL2.out, HE2.out, and_3 lf d (by omega)]
              · obtain ⟨e1, e2⟩ := hsn.2.2.2 h4
                have b0 : bitsK i = 2 := by
                  unfold bitsK
                  rw [if_neg (by omega), if_neg (by omega), if_neg (by omega)]
                have b1 : Hid (bitsK (i + 1) = 0) := by
                  unfold Hid bitsK
                  rw [if_pos (by omega)]
                have HE1 := Lib.hid e1
                have HE2 := Lib.hid e2
                have HOWN := Lib.hid hown
                have HLF := Lib.hid (hlf.2.2.2 h4)
                have HDL := Lib.hid hdl
                rw [b0]
                clear e1 e2 h4 hown hdl hsn hlf HA hA htk hlen hall hde hd0 hcell b0
                go_wp2_with (first
                  | (go_at_call 127; refine (HP.out _ HC2.out).mono ?_; rintro e w' ⟨rfl, rfl⟩)
                  | (at_builtin; refine wp_push elem_u8 rfl _ _ rfl HOWN.out [_] rfl (fun u hu => by rw [List.mem_singleton.1 hu]; rfl) rfl rfl HAL.out HBS.out ?_; intro v9 w9 hn9 hg9 hb9; have HO9 := Lib.hid hn9; have HB9 := Lib.hid hb9; clear hn9 hg9 hb9))
                have h1 := HLF.out
                have h2 := HDL.out
                refine ⟨⟨i + 1, acc2, by go_num, by omega, by rw [HE1.out, List.length_append]; exact Nat.succ_le_succ hal, ?_, HA2.out, ?_, by rw [b1.out], HBW.out.trans HB9.out⟩, by simp [intOf]; omega⟩
                · have h9 := HO9.out
                  rw [byte_one _ (lf * 64 + d) (by omega) (by omega)] at h9
                  rw [HE1.out, List.length_append, List.map_append]
                  exact h9
                · rw [← HL2.out, HE2.out, and_0]
                  rfl
end Go.Proofs.YtlnpfpjncnkekaaGreatDoor
