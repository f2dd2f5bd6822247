/- Paths: how the reference reads a text; that it reads as the program does: plain laws. Conditions: none. -/
import Derived.Test.YtemiihkmpojpgaaGreatDoorZq3
import Derived.Lib.Atoi
import Derived.Lib.ItoaNum
namespace Go.Proofs.YtemiihkmpojpgaaGreatDoor
open Go.RowKit
set_option maxHeartbeats 1000000
set_option maxRecDepth 100000

/-- A step: by index, its key, its index. -/
abbrev St := Bool × ByteArray × Int
def okSt (s : St) : Bool := if s.1 then decide (s.2.1.size = 0 ∧ 0 ≤ s.2.2 ∧ s.2.2 ≤ 65536) else decide (s.2.2 = 0 ∧ s.2.1.size ≤ 1024 ∧ badL (L s.2.1) = (L s.2.1).length)
def validP (l : List St) : Bool := decide (l.length ≤ 48) && l.all okSt

def nmc (b : UInt8) : Bool := alpha b || decide (b.toNat = 95)
def nmL : List UInt8 → Nat
  | [] => 0
  | b :: t => if nmc b || dig b then nmL t + 1 else 0
def folL : List UInt8 → Nat
  | [] => 0
  | b :: t => if nmc b then nmL t + 1 else 0
theorem nmL_le : ∀ l : List UInt8, nmL l ≤ l.length
  | [] => Nat.le_refl _
  | b :: t => by
    have := nmL_le t
    unfold nmL
    rw [List.length_cons]
    split <;> omega
theorem folL_le : ∀ l : List UInt8, folL l ≤ l.length
  | [] => Nat.le_refl _
  | b :: t => by
    have := nmL_le t
    simp only [folL]
    rw [List.length_cons]
    split <;> omega
def isName (k : List UInt8) : Bool := decide (k ≠ [] ∧ folL k = k.length)

def hx (n : Nat) : UInt8 := if n < 10 then UInt8.ofNat (48 + n) else UInt8.ofNat (87 + n)
def hexT (n : Nat) : List UInt8 := if n < 16 then [hx n] else [hx (n / 16), hx (n % 16)]
/-- How a byte is written in quotation marks. -/
def sgn (b : UInt8) : List UInt8 :=
  if b.toNat = 34 then [92, 34] else if b.toNat = 92 then [92, 92] else if b.toNat = 10 then [92, 110] else if b.toNat = 9 then [92, 116] else if b.toNat = 13 then [92, 114]
  else if b.toNat < 32 ∨ b.toNat = 127 then 92 :: 117 :: 123 :: (hexT b.toNat ++ [125]) else [b]
def stepT (s : St) : List UInt8 :=
  if s.1 then 91 :: (Lib.itoa s.2.2 ++ [93]) else if isName (L s.2.1) then 46 :: L s.2.1 else 46 :: 34 :: ((L s.2.1).flatMap sgn ++ [34])
def preT (p : List St) : List UInt8 := match p with
  | s :: _ => if s.1 then [46] else []
  | [] => []
def textL (p : List St) : List UInt8 := if p.isEmpty then [46] else preT p ++ p.flatMap stepT

/-! How the program reads. -/
def hexd1 (b : UInt8) : Option Nat := if 48 ≤ b.toNat ∧ b.toNat ≤ 57 then some (b.toNat - 48) else if 97 ≤ b.toNat ∧ b.toNat ≤ 102 then some (b.toNat - 87) else if 65 ≤ b.toNat ∧ b.toNat ≤ 70 then some (b.toNat - 55) else none
def hexs : List UInt8 → Option Nat
  | [a] => hexd1 a
  | [a, b] => match hexd1 a with
    | some x => match hexd1 b with
      | some y => some (16 * x + y)
      | none => none
    | none => none
  | _ => none
def ues (t : List UInt8) : Nat × Nat :=
  match (if t[0]? = some 123 ∧ t[2]? = some 125 then hexs ((t.drop 1).take 1) else none) with
  | some c => (c, 4)
  | none => match (if t[0]? = some 123 ∧ t[3]? = some 125 then hexs ((t.drop 1).take 2) else none) with
    | some c => (c, 5)
    | none => (0, 0)
def escI : List UInt8 → Nat × Nat
  | [] => (0, 0)
  | b :: t => if b.toNat = 34 ∨ b.toNat = 92 then (b.toNat, 1) else if b.toNat = 110 then (10, 1) else if b.toNat = 116 then (9, 1) else if b.toNat = 114 then (13, 1) else if b.toNat = 117 then ues t else (0, 0)
def unqF : Nat → List UInt8 → Option (List UInt8 × Nat)
  | 0, _ => none
  | _ + 1, [] => none
  | f + 1, b :: t => if b.toNat = 34 then some ([], 1) else if b.toNat = 92 then (if (escI t).2 = 0 then none else (unqF f (t.drop (escI t).2)).map fun r => (UInt8.ofNat (escI t).1 :: r.1, r.2 + 1 + (escI t).2)) else (unqF f t).map fun r => (b :: r.1, r.2 + 1)
def idx93 : List UInt8 → Nat
  | [] => 0
  | b :: t => if b.toNat = 93 then 0 else idx93 t + 1
theorem idx93_le : ∀ l : List UInt8, idx93 l ≤ l.length
  | [] => Nat.le_refl _
  | b :: t => by
    have := idx93_le t
    unfold idx93
    rw [List.length_cons]
    split <;> omega
def stepI : List UInt8 → Option (St × List UInt8)
  | [] => none
  | c :: t => if c.toNat = 91 then
      (if idx93 t = 0 ∨ 6 < idx93 t ∨ idx93 t = t.length then none else match Lib.atoi (t.take (idx93 t)) with
        | some i => some ((true, ⟨#[]⟩, i), t.drop (idx93 t + 1))
        | none => none)
    else if c.toNat = 46 ∧ t.head? = some 34 then match unqF t.length (t.drop 1) with
      | some r => some ((false, ⟨r.1.toArray⟩, 0), t.drop (r.2 + 1))
      | none => none
    else if c.toNat = 46 ∧ 0 < folL t then some ((false, ⟨(t.take (folL t)).toArray⟩, 0), t.drop (folL t)) else none
theorem stepI_cons (c : UInt8) (t : List UInt8) : stepI (c :: t) = if c.toNat = 91 then
      (if idx93 t = 0 ∨ 6 < idx93 t ∨ idx93 t = t.length then none else match Lib.atoi (t.take (idx93 t)) with
        | some i => some ((true, ⟨#[]⟩, i), t.drop (idx93 t + 1))
        | none => none)
    else if c.toNat = 46 ∧ t.head? = some 34 then match unqF t.length (t.drop 1) with
      | some r => some ((false, ⟨r.1.toArray⟩, 0), t.drop (r.2 + 1))
      | none => none
    else if c.toNat = 46 ∧ 0 < folL t then some ((false, ⟨(t.take (folL t)).toArray⟩, 0), t.drop (folL t)) else none := rfl
theorem unqF_cons (f : Nat) (b : UInt8) (t : List UInt8) : unqF (f + 1) (b :: t) = if b.toNat = 34 then some ([], 1) else if b.toNat = 92 then (if (escI t).2 = 0 then none else (unqF f (t.drop (escI t).2)).map fun r => (UInt8.ofNat (escI t).1 :: r.1, r.2 + 1 + (escI t).2)) else (unqF f t).map fun r => (b :: r.1, r.2 + 1) := rfl
theorem escI_cons (b : UInt8) (t : List UInt8) : escI (b :: t) = if b.toNat = 34 ∨ b.toNat = 92 then (b.toNat, 1) else if b.toNat = 110 then (10, 1) else if b.toNat = 116 then (9, 1) else if b.toNat = 114 then (13, 1) else if b.toNat = 117 then ues t else (0, 0) := rfl
def loopI : Nat → Nat → List UInt8 → Option (List St)
  | 0, _, _ => some []
  | f + 1, k, l => if l = [] ∨ 48 < k then some [] else match stepI l with
    | some r => (loopI f (k + 1) r.2).map fun p => r.1 :: p
    | none => none
def strip (l : List UInt8) : List UInt8 := if l.take 2 = [46, 91] then l.drop 1 else l
def accept (s : List UInt8) (o : Option (List St)) : List St × Nat := match o with
  | some p => if p ≠ [] ∧ validP p = true ∧ textL p = s then (p, 0) else ([], 3)
  | none => ([], 3)
def parseL (s : List UInt8) : List St × Nat :=
  if badL s ≠ s.length then ([], 5) else if s = [46] then ([], 0) else accept s (loopI 49 0 (strip s))
end Go.Proofs.YtemiihkmpojpgaaGreatDoor

namespace Go.Proofs.YtemiihkmpojpgaaGreatDoor
open Go.RowKit
set_option maxHeartbeats 1000000
set_option maxRecDepth 100000

/-! Valid UTF-8. -/
theorem valid_pre (a t : List UInt8) (ha : ∀ b ∈ a, b.toNat < 128) (h : badL t = t.length) : badL (a ++ t) = (a ++ t).length := by
  induction a with
  | nil => exact h
  | cons b a ih => exact valid_ascii b (a ++ t) (ha b (by simp)) (ih fun c hc => ha c (by simp [hc]))
theorem valid_app : ∀ (f : Nat) (l t : List UInt8), l.length ≤ f → badL l = l.length → badL t = t.length → badL (l ++ t) = (l ++ t).length
  | 0, l, t, hf, _, ht => by
    obtain rfl : l = [] := List.length_eq_zero_iff.1 (by omega)
    exact ht
  | f + 1, l, t, hf, hl, ht => by
    rcases valid_cons l hl with rfl | ⟨h0, h1⟩
    · exact ht
    have hle := dec_le l
    have hd : dec (l ++ t) = dec l := dec_app l t h0
    refine valid_step (l ++ t) (by rw [hd]; exact h0) ?_
    rw [hd, List.drop_append_of_le_length hle]
    exact valid_app f (l.drop (dec l).2) t (by rw [List.length_drop]; omega) h1 ht
theorem hx_lt : ∀ n : Fin 16, (hx n.val).toNat < 128 ∧ (hx n.val).toNat ≠ 93 ∧ hexd1 (hx n.val) = some n.val := by decide +kernel
theorem sgn_ascii : ∀ n : Fin 128, ∀ c ∈ sgn (UInt8.ofNat n.val), c.toNat < 128 := by decide +kernel
theorem sgn_high (c : UInt8) (h : 128 ≤ c.toNat) : sgn c = [c] := by
  unfold sgn
  rw [if_neg (by omega), if_neg (by omega), if_neg (by omega), if_neg (by omega), if_neg (by omega), if_neg (by omega)]
theorem sgn_low (c : UInt8) (h : c.toNat < 128) : ∀ b ∈ sgn c, b.toNat < 128 := by
  have := sgn_ascii ⟨c.toNat, h⟩
  simpa using this
theorem flat_high (l : List UInt8) (h : ∀ c ∈ l, 128 ≤ c.toNat) : l.flatMap sgn = l := by
  induction l with
  | nil => rfl
  | cons c t ih =>
    rw [List.flatMap_cons, sgn_high c (h c (by simp)), ih (fun d hd => h d (by simp [hd]))]
    rfl
theorem valid_quote : ∀ (f : Nat) (l t : List UInt8), l.length ≤ f → badL l = l.length → badL t = t.length → badL (l.flatMap sgn ++ t) = (l.flatMap sgn ++ t).length
  | 0, l, t, hf, _, ht => by
    obtain rfl : l = [] := List.length_eq_zero_iff.1 (by omega)
    exact ht
  | f + 1, l, t, hf, hl, ht => by
    rcases valid_cons l hl with rfl | ⟨h0, h1⟩
    · exact ht
    have hle := dec_le l
    have ih := valid_quote f (l.drop (dec l).2) t (by rw [List.length_drop]; omega) h1 ht
    by_cases h2 : (dec l).2 = 1
    · rcases l with _ | ⟨b, u⟩
      · exact ht
      rw [h2] at ih
      have hb := dec_one b u h2
      rw [List.flatMap_cons, List.append_assoc]
      exact valid_pre (sgn b) _ (sgn_low b hb) ih
    · have hh := high_bytes l h0 h2
      have hs : l = l.take (dec l).2 ++ l.drop (dec l).2 := (List.take_append_drop _ _).symm
      rw [hs, List.flatMap_append, flat_high _ hh, List.append_assoc]
      have hx : dec (l.take (dec l).2 ++ ((l.drop (dec l).2).flatMap sgn ++ t)) = dec l :=
        dec_congr l _ h0 (by rw [List.take_append_of_le_length (by rw [List.length_take]; omega), List.take_take, Nat.min_self])
      refine valid_step _ (by rw [hx]; exact h0) ?_
      rw [hx, List.drop_append, List.length_take, Nat.min_eq_left hle, Nat.sub_self, List.drop_of_length_le (by rw [List.length_take]; omega), List.nil_append, List.drop_zero]
      exact ih
theorem dec_ascii' : ∀ (u : Nat), ∀ b ∈ Lib.decDigits u, 48 ≤ b.toNat ∧ b.toNat ≤ 57 := by
  intro u
  induction u using Nat.strongRecOn with
  | _ u ih =>
    intro b hb
    rw [Lib.decDigits] at hb
    split at hb
    · simp only [List.mem_singleton] at hb
      subst hb
      rename_i h
      simp; omega
    · rw [List.mem_append, List.mem_singleton] at hb
      rcases hb with hb | rfl
      · exact ih _ (by omega) b hb
      · simp; omega
theorem valid_stepT (s : St) (t : List UInt8) (hs : okSt s = true) (ht : badL t = t.length) : badL (stepT s ++ t) = (stepT s ++ t).length := by
  obtain ⟨b, k, i⟩ := s
  unfold okSt at hs
  unfold stepT
  simp only [] at hs ⊢
  cases b with
  | true =>
    simp only [decide_eq_true_eq, if_pos] at hs ⊢
    refine valid_pre _ t ?_ ht
    intro c hc
    simp only [List.mem_cons, List.mem_append, List.not_mem_nil, or_false] at hc
    rcases hc with rfl | hc | rfl
    · decide
    · unfold Lib.itoa at hc
      rw [if_neg (by omega)] at hc
      have := dec_ascii' _ c hc
      omega
    · decide
  | false =>
    rw [if_neg (by simp)] at hs ⊢
    simp only [decide_eq_true_eq] at hs
    split
    · exact valid_ascii 46 _ (by decide) (valid_app _ _ t (Nat.le_refl _) hs.2.2 ht)
    · have h34 : badL (34 :: t) = (34 :: t).length := valid_ascii 34 t (by decide) ht
      have := valid_quote _ (L k) (34 :: t) (Nat.le_refl _) hs.2.2 h34
      simp only [List.cons_append, List.append_assoc, List.nil_append]
      exact valid_ascii 46 _ (by decide) (valid_ascii 34 _ (by decide) this)
theorem valid_flat : ∀ (p : List St), p.all okSt = true → badL (p.flatMap stepT) = (p.flatMap stepT).length
  | [], _ => rfl
  | s :: p, h => by
    simp only [List.all_cons, Bool.and_eq_true] at h
    rw [List.flatMap_cons]
    exact valid_stepT s _ h.1 (valid_flat p h.2)
theorem valid_textL (p : List St) (h : p.all okSt = true) : badL (textL p) = (textL p).length := by
  unfold textL
  rcases p with _ | ⟨s, p⟩
  · rfl
  rw [if_neg (by simp)]
  refine valid_pre _ _ ?_ (valid_flat _ h)
  intro c hc
  unfold preT at hc
  simp only [] at hc
  split at hc
  · simp only [List.mem_singleton] at hc; subst hc; decide
  · simp at hc

/-! A step is read back. -/
def ends (r : List UInt8) : Prop := r = [] ∨ ∃ b t, r = b :: t ∧ (b.toNat = 46 ∨ b.toNat = 91)
theorem nmL_app (k r : List UInt8) (h : nmL k = k.length) (hr : ends r) : nmL (k ++ r) = k.length := by
  induction k with
  | nil =>
    rcases hr with rfl | ⟨b, t, rfl, hb⟩
    · rfl
    · simp only [List.nil_append, List.length_nil]
      unfold nmL
      rw [if_neg]
      unfold nmc alpha dig
      simp only [Bool.or_eq_true, decide_eq_true_eq, not_or]
      exact ⟨⟨by omega, by omega⟩, by omega⟩
  | cons b k ih =>
    unfold nmL at h
    split at h
    · rename_i hb
      rw [List.cons_append]
      unfold nmL
      rw [if_pos hb, ih (by simpa using h)]
      rfl
    · simp at h
theorem folL_app (k r : List UInt8) (h : folL k = k.length) (h0 : k ≠ []) (hr : ends r) : folL (k ++ r) = k.length := by
  rcases k with _ | ⟨b, k⟩
  · exact absurd rfl h0
  simp only [folL] at h
  split at h
  · rename_i hb
    rw [List.cons_append]
    simp only [folL]
    rw [if_pos hb, nmL_app k r (by simpa using h) hr]
    rfl
  · simp at h
theorem idx93_app (d r : List UInt8) (h : ∀ b ∈ d, b.toNat ≠ 93) : idx93 (d ++ 93 :: r) = d.length := by
  induction d with
  | nil =>
    rw [List.nil_append]
    unfold idx93
    rw [if_pos (by decide)]
    rfl
  | cons b d ih =>
    rw [List.cons_append]
    unfold idx93
    rw [if_neg (h b (by simp)), ih fun c hc => h c (by simp [hc])]
    rfl
theorem decFrom_snoc (l : List UInt8) (b : UInt8) (d : Nat) (hd : Lib.digitVal b = some d) : ∀ acc n, Lib.decFrom acc l = some n → Lib.decFrom acc (l ++ [b]) = some (n * 10 + d) := by
  induction l with
  | nil =>
    intro acc n h
    simp only [Lib.decFrom, Option.some.injEq] at h
    subst h
    simp [Lib.decFrom, hd]
  | cons a t ih =>
    intro acc n h
    rw [List.cons_append]
    unfold Lib.decFrom at h ⊢
    cases ha : Lib.digitVal a with
    | none => rw [ha] at h; simp at h
    | some e =>
      rw [ha] at h
      exact ih _ n h
theorem decDigits_val (u : Nat) : Lib.decFrom 0 (Lib.decDigits u) = some u ∧ Lib.decDigits u ≠ [] := by
  induction u using Nat.strongRecOn with
  | _ u ih =>
    have hdg : ∀ d : Nat, d < 10 → Lib.digitVal (UInt8.ofNat (48 + d)) = some d := by
      intro d hd
      unfold Lib.digitVal
      rw [if_pos (by simp; omega)]
      simp; omega
    rw [Lib.decDigits]
    split
    · rename_i h
      refine ⟨?_, by simp⟩
      unfold Lib.decFrom
      rw [hdg u h]
      simp [Lib.decFrom]
    · rename_i h
      refine ⟨?_, by simp⟩
      rw [decFrom_snoc _ _ _ (hdg (u % 10) (by omega)) 0 (u / 10) (ih (u / 10) (by omega)).1]
      congr 1
      omega
theorem atoi_digits (u : Nat) : Lib.atoi (Lib.decDigits u) = some (u : Int) := by
  have h := decDigits_val u
  have ha := dec_ascii' u
  generalize Lib.decDigits u = l at *
  rcases l with _ | ⟨b, t⟩
  · exact absurd rfl h.2
  have hb := ha b (by simp)
  unfold Lib.atoi
  have n45 : (b == 45) = false := by
    rw [beq_eq_false_iff_ne]; rintro rfl; simp at hb
  have n43 : (b == 43) = false := by
    rw [beq_eq_false_iff_ne]; rintro rfl; simp at hb
  simp only [n45, n43, Bool.false_eq_true, if_false]
  unfold Lib.decNat
  simp [h.1]
theorem decDigits_len (u : Nat) (h : u ≤ 65536) : (Lib.decDigits u).length ≤ 5 := by
  rw [Lib.decDigits_length]
  rw [Lib.nDigits]; split
  · omega
  rw [Lib.nDigits]; split
  · omega
  rw [Lib.nDigits]; split
  · omega
  rw [Lib.nDigits]; split
  · omega
  rw [Lib.nDigits]; split
  · omega
  omega
theorem take_len (a r : List UInt8) : (a ++ r).take a.length = a := by simp
theorem drop_len (a r : List UInt8) : (a ++ r).drop a.length = r := by simp
theorem stepI_index (i : Int) (r : List UInt8) (h0 : 0 ≤ i) (h1 : i ≤ 65536) : stepI (91 :: (Lib.itoa i ++ 93 :: r)) = some ((true, ⟨#[]⟩, i), r) := by
  obtain ⟨u, rfl⟩ : ∃ u : Nat, i = (u : Int) := ⟨i.toNat, by omega⟩
  have hi : Lib.itoa (u : Int) = Lib.decDigits u := by unfold Lib.itoa; rw [if_neg (by omega)]; simp
  have hl := decDigits_len u (by omega)
  have hd := dec_ascii' u
  have hv := decDigits_val u
  have ha := atoi_digits u
  rw [hi]
  generalize Lib.decDigits u = d at *
  have hx := idx93_app d r (fun b hb => by have := hd b hb; omega)
  have hn : d.length ≠ 0 := by
    intro h
    exact hv.2 (List.length_eq_zero_iff.1 h)
  rw [stepI_cons, if_pos (by decide), hx, if_neg (by rw [not_or, not_or]; exact ⟨hn, by omega, by rw [List.length_append, List.length_cons]; omega⟩), take_len, ha]
  simp only []
  rw [List.drop_append, Nat.add_sub_cancel_left, List.drop_of_length_le (by omega)]
  rfl
theorem stepI_name (k r : List UInt8) (h : isName k = true) (hr : ends r) : stepI (46 :: (k ++ r)) = some ((false, ⟨k.toArray⟩, 0), r) := by
  unfold isName at h
  simp only [decide_eq_true_eq] at h
  have hf := folL_app k r h.2 h.1 hr
  have hp : 0 < k.length := List.length_pos_iff.2 h.1
  have hh : ¬ ((k ++ r).head? = some 34) := by
    intro he
    rcases k with _ | ⟨b, k⟩
    · exact h.1 rfl
    simp at he
    subst he
    have := h.2
    simp only [folL] at this
    rw [if_neg (by decide)] at this
    simp at this
  rw [stepI_cons, if_neg (by decide), if_neg (by rintro ⟨_, h⟩; exact hh h), if_pos ⟨by decide, by omega⟩, hf, take_len, drop_len]
theorem escI_back : ∀ n : Fin 128, (sgn (UInt8.ofNat n.val) = [UInt8.ofNat n.val] ∧ n.val ≠ 34 ∧ n.val ≠ 92) ∨ (∃ e : Fin 128, sgn (UInt8.ofNat n.val) = [92, UInt8.ofNat e.val] ∧ e.val ≠ 117 ∧ escI [UInt8.ofNat e.val] = (n.val, 1)) ∨ (sgn (UInt8.ofNat n.val) = [92, 117, 123, hx n.val, 125] ∧ n.val < 16) ∨ (sgn (UInt8.ofNat n.val) = [92, 117, 123, hx (n.val / 16), hx (n.val % 16), 125] ∧ 16 ≤ n.val) := by decide +kernel
theorem escI_one (b : UInt8) (u : List UInt8) (h : b.toNat ≠ 117) : escI (b :: u) = escI [b] := by
  rw [escI_cons, escI_cons, if_neg (c := b.toNat = 117) h, if_neg (c := b.toNat = 117) h]
theorem ues_one (n : Nat) (h : n < 16) (u : List UInt8) : ues (123 :: hx n :: 125 :: u) = (n, 4) := by
  have := hx_lt ⟨n, h⟩
  simp [ues, hexs, this.2.2]
theorem ues_two (n : Nat) (h : n < 128) (u : List UInt8) : ues (123 :: hx (n / 16) :: hx (n % 16) :: 125 :: u) = (n, 5) := by
  have h1 := hx_lt ⟨n / 16, by omega⟩
  have h2 := hx_lt ⟨n % 16, by omega⟩
  have h3 : ∀ m : Fin 16, ¬ hx m.val = 125 := by decide +kernel
  have h4 := h3 ⟨n % 16, by omega⟩
  simp only [] at h1 h2 h4
  simp [ues, hexs, h1.2.2, h2.2.2, h4]
  omega
theorem unqF_byte (f : Nat) (b : UInt8) (u : List UInt8) (o : List UInt8 × Nat) (h : unqF f u = some o) : unqF (f + 1) (sgn b ++ u) = some (b :: o.1, o.2 + (sgn b).length) := by
  by_cases hb : b.toNat < 128
  · have hcase := escI_back ⟨b.toNat, hb⟩
    simp only [UInt8.ofNat_toNat] at hcase
    rcases hcase with ⟨h1, h2, h3⟩ | ⟨e, h1, h2, h3⟩ | ⟨h1, h2⟩ | ⟨h1, h2⟩
    · rw [h1]
      simp only [List.cons_append, List.nil_append]
      rw [unqF_cons, if_neg h2, if_neg h3, h]
      rfl
    · rw [h1]
      have he : escI (UInt8.ofNat e.val :: u) = (b.toNat, 1) := by
        rw [escI_one _ _ (by simp; have := e.isLt; omega), h3]
      simp only [List.cons_append, List.nil_append]
      rw [unqF_cons, if_neg (by decide), if_pos (by decide), he]
      simp [h]
    · rw [h1]
      have he : escI (117 :: 123 :: hx b.toNat :: 125 :: u) = (b.toNat, 4) := by
        rw [escI_cons, if_neg (by decide), if_neg (by decide), if_neg (by decide), if_neg (by decide), if_pos (by decide), ues_one _ h2]
      simp only [List.cons_append, List.nil_append]
      rw [unqF_cons, if_neg (by decide), if_pos (by decide), he]
      simp [h]
    · rw [h1]
      have he : escI (117 :: 123 :: hx (b.toNat / 16) :: hx (b.toNat % 16) :: 125 :: u) = (b.toNat, 5) := by
        rw [escI_cons, if_neg (by decide), if_neg (by decide), if_neg (by decide), if_neg (by decide), if_pos (by decide), ues_two _ hb]
      simp only [List.cons_append, List.nil_append]
      rw [unqF_cons, if_neg (by decide), if_pos (by decide), he]
      simp [h]
  · rw [sgn_high b (by omega)]
    simp only [List.cons_append, List.nil_append]
    rw [unqF_cons, if_neg (by omega), if_neg (by omega), h]
    rfl
theorem unqF_back : ∀ (k r : List UInt8) (f : Nat), k.length < f → unqF f (k.flatMap sgn ++ 34 :: r) = some (k, (k.flatMap sgn).length + 1)
  | [], r, f, h => by
    obtain ⟨f, rfl⟩ : ∃ g, f = g + 1 := ⟨f - 1, by simp at h; omega⟩
    simp [unqF]
  | b :: k, r, f, h => by
    obtain ⟨f, rfl⟩ : ∃ g, f = g + 1 := ⟨f - 1, by simp at h; omega⟩
    rw [List.flatMap_cons, List.append_assoc, unqF_byte f b _ _ (unqF_back k r f (by simp at h; omega))]
    simp only [List.length_append]
    congr 2
    omega
theorem flat_len (k : List UInt8) : k.length ≤ (k.flatMap sgn).length := by
  induction k with
  | nil => exact Nat.le_refl _
  | cons b k ih =>
    have : 1 ≤ (sgn b).length := by
      unfold sgn
      repeat' split
      all_goals simp
    rw [List.flatMap_cons, List.length_append, List.length_cons]
    omega
theorem stepI_quoted (k r : List UInt8) : stepI (46 :: 34 :: (k.flatMap sgn ++ 34 :: r)) = some ((false, ⟨k.toArray⟩, 0), r) := by
  have := flat_len k
  rw [stepI_cons, if_neg (by decide), if_pos ⟨by decide, rfl⟩]
  simp only [List.drop_succ_cons, List.drop_zero]
  rw [unqF_back k r _ (by simp only [List.length_cons, List.length_append]; omega)]
  simp only []
  rw [show (k.flatMap sgn).length + 1 = (k.flatMap sgn ++ [34]).length by rw [List.length_append]; rfl, show k.flatMap sgn ++ 34 :: r = (k.flatMap sgn ++ [34]) ++ r by simp, drop_len]
theorem stepI_back (s : St) (r : List UInt8) (hs : okSt s = true) (hr : ends r) : stepI (stepT s ++ r) = some (s, r) := by
  obtain ⟨b, k, i⟩ := s
  unfold okSt at hs
  unfold stepT
  simp only [] at hs ⊢
  cases b with
  | true =>
    simp only [decide_eq_true_eq, if_pos] at hs ⊢
    have hk : k = ⟨#[]⟩ := L_inj (List.length_eq_zero_iff.1 (by rw [L_len]; exact hs.1))
    subst hk
    simp only [List.cons_append, List.append_assoc, List.nil_append]
    exact stepI_index i r hs.2.1 hs.2.2
  | false =>
    rw [if_neg (by simp)] at hs ⊢
    simp only [decide_eq_true_eq] at hs
    obtain ⟨rfl, _⟩ := hs
    split
    · rename_i hn
      exact stepI_name (L k) r hn hr
    · simp only [List.cons_append, List.append_assoc, List.nil_append]
      exact stepI_quoted (L k) r
theorem ends_flat (p : List St) : ends (p.flatMap stepT) := by
  rcases p with _ | ⟨s, p⟩
  · exact .inl rfl
  right
  unfold stepT
  rw [List.flatMap_cons]
  split
  · exact ⟨91, _, rfl, by decide⟩
  · split
    · exact ⟨46, _, rfl, by decide⟩
    · exact ⟨46, _, rfl, by decide⟩
theorem stepT_ne (s : St) : stepT s ≠ [] := by
  unfold stepT
  repeat' split
  all_goals simp
theorem loopI_back : ∀ (p : List St) (f k : Nat), p.all okSt = true → k + p.length ≤ 48 → p.length < f → loopI f k (p.flatMap stepT) = some p
  | [], f, k, _, _, hf => by
    obtain ⟨f, rfl⟩ : ∃ g, f = g + 1 := ⟨f - 1, by simp at hf; omega⟩
    simp [loopI]
  | s :: p, f, k, h, hk, hf => by
    obtain ⟨f, rfl⟩ : ∃ g, f = g + 1 := ⟨f - 1, by simp at hf; omega⟩
    simp only [List.all_cons, Bool.and_eq_true] at h
    simp only [List.length_cons] at hk hf
    rw [List.flatMap_cons]
    unfold loopI
    rw [if_neg (by simp [stepT_ne]; omega), stepI_back s _ h.1 (ends_flat p)]
    simp only []
    rw [loopI_back p f (k + 1) h.2 (by omega) (by omega)]
    rfl
theorem strip_text (p : List St) (h0 : p ≠ []) (h : p.all okSt = true) : strip (textL p) = p.flatMap stepT := by
  rcases p with _ | ⟨⟨b, k, i⟩, p⟩
  · exact absurd rfl h0
  unfold textL
  rw [if_neg (by simp)]
  unfold preT
  simp only []
  cases b with
  | true =>
    rw [if_pos rfl, List.flatMap_cons]
    simp [stepT, strip]
  | false =>
    rw [if_neg (by simp), List.nil_append]
    unfold strip
    rw [if_neg]
    rw [List.flatMap_cons]
    intro he
    unfold stepT at he
    simp only [Bool.false_eq_true, if_false] at he
    split at he
    · rename_i hn
      unfold isName at hn
      simp only [decide_eq_true_eq] at hn
      generalize L k = l at *
      rcases l with _ | ⟨c, l⟩
      · exact hn.1 rfl
      simp only [List.cons_append, List.take_succ_cons, List.take_zero, List.cons.injEq, and_true, true_and] at he
      subst he
      have := hn.2
      simp only [folL] at this
      rw [if_neg (by decide)] at this
      simp at this
    · simp only [List.cons_append, List.take_succ_cons, List.take_zero, List.cons.injEq, and_true, true_and] at he
      exact absurd he (by decide)
theorem all_ok {p : List St} (h : validP p = true) : p.all okSt = true ∧ p.length ≤ 48 := by
  unfold validP at h
  simp only [Bool.and_eq_true, decide_eq_true_eq] at h
  exact ⟨h.2, h.1⟩
/-- What the program makes of a valid path's text. -/
theorem loop_text (p : List St) (h0 : p ≠ []) (h : validP p = true) : loopI 49 0 (strip (textL p)) = some p := by
  obtain ⟨h1, h2⟩ := all_ok h
  rw [strip_text p h0 h1]
  exact loopI_back p 49 0 h1 (by omega) (by omega)
theorem text_dot (p : List St) (h0 : p ≠ []) (h : validP p = true) : textL p ≠ [46] := by
  intro he
  have h1 := loop_text p h0 h
  rw [he] at h1
  have : loopI 49 0 (strip [46]) = none := by decide +kernel
  rw [this] at h1
  cases h1
theorem parse_text (p : List St) (h : validP p = true) : parseL (textL p) = (p, 0) := by
  unfold parseL
  rw [if_neg (by rw [valid_textL p (all_ok h).1]; simp)]
  by_cases h0 : p = []
  · subst h0; rfl
  rw [if_neg (text_dot p h0 h), loop_text p h0 h]
  unfold accept
  simp only []
  rw [if_pos ⟨h0, h, trivial⟩]
/-- Different valid paths have different texts. -/
theorem text_inj {p q : List St} (hp : validP p = true) (hq : validP q = true) (h : textL p = textL q) : p = q := by
  have h1 := parse_text p hp
  rw [h, parse_text q hq] at h1
  exact (congrArg Prod.fst h1).symm
end Go.Proofs.YtemiihkmpojpgaaGreatDoor

namespace Go.Proofs.YtemiihkmpojpgaaGreatDoor
open Go.RowKit
set_option maxHeartbeats 1000000
set_option maxRecDepth 100000

def digR (acc : Nat) : Nat → List UInt8 → Nat × Nat
  | 0, _ => (acc, 0)
  | _ + 1, [] => (acc, 0)
  | f + 1, b :: t => if dig b then ((digR (10 * acc + (b.toNat - 48)) f t).1, (digR (10 * acc + (b.toNat - 48)) f t).2 + 1) else (acc, 0)
def unsP (s : List UInt8) (n : Nat) : Bool := decide (1 < (sgn (UInt8.ofNat n)).length) && (sgn (UInt8.ofNat n)).isPrefixOf s
def unsR (s : List UInt8) : Nat × Nat := match (List.range 128).find? (unsP s) with
  | some n => (n, (sgn (UInt8.ofNat n)).length)
  | none => match s with
    | b :: _ => if b.toNat ≠ 34 ∧ b.toNat ≠ 92 then (b.toNat, 1) else (0, 0)
    | [] => (0, 0)
def quoF : Nat → List UInt8 → Option (List UInt8 × Nat)
  | 0, _ => none
  | _ + 1, [] => none
  | f + 1, b :: t => if b.toNat = 34 then some ([], 1) else if (unsR (b :: t)).2 = 0 then none else (quoF f ((b :: t).drop (unsR (b :: t)).2)).map fun r => (UInt8.ofNat (unsR (b :: t)).1 :: r.1, r.2 + (unsR (b :: t)).2)
def stepR : List UInt8 → Option (St × Nat)
  | [] => none
  | c :: t => if c.toNat = 91 then
      (if (digR 0 8 t).2 = 0 ∨ t[(digR 0 8 t).2]? ≠ some 93 then none else some ((true, ⟨#[]⟩, ((digR 0 8 t).1 : Int)), (digR 0 8 t).2 + 2))
    else if c.toNat ≠ 46 ∨ t = [] then none
    else if t.head? = some 34 then match quoF t.length (t.drop 1) with
      | some r => some ((false, ⟨r.1.toArray⟩, 0), r.2 + 2)
      | none => none
    else some ((false, ⟨(t.take (nmL t)).toArray⟩, 0), nmL t + 1)
def loopR : Nat → Nat → List UInt8 → Option (List St)
  | 0, _, _ => none
  | f + 1, k, l => if l = [] then some [] else match stepR l with
    | some r => if 48 ≤ k then none else (loopR f (k + 1) (l.drop r.2)).map fun p => r.1 :: p
    | none => none
def acceptR (s : List UInt8) (o : Option (List St)) : List St × Nat := match o with
  | some p => if validP p = true ∧ textL p = s then (p, 0) else ([], 3)
  | none => ([], 3)
def parseR (s : List UInt8) : List St × Nat :=
  if badL s ≠ s.length then ([], 5) else if s = [46] then ([], 0) else acceptR s (loopR 49 0 (strip s))

theorem stepR_cons (c : UInt8) (t : List UInt8) : stepR (c :: t) = if c.toNat = 91 then
      (if (digR 0 8 t).2 = 0 ∨ t[(digR 0 8 t).2]? ≠ some 93 then none else some ((true, ⟨#[]⟩, ((digR 0 8 t).1 : Int)), (digR 0 8 t).2 + 2))
    else if c.toNat ≠ 46 ∨ t = [] then none
    else if t.head? = some 34 then match quoF t.length (t.drop 1) with
      | some r => some ((false, ⟨r.1.toArray⟩, 0), r.2 + 2)
      | none => none
    else some ((false, ⟨(t.take (nmL t)).toArray⟩, 0), nmL t + 1) := rfl
theorem quoF_cons (f : Nat) (b : UInt8) (t : List UInt8) : quoF (f + 1) (b :: t) = if b.toNat = 34 then some ([], 1) else if (unsR (b :: t)).2 = 0 then none else (quoF f ((b :: t).drop (unsR (b :: t)).2)).map fun r => (UInt8.ofNat (unsR (b :: t)).1 :: r.1, r.2 + (unsR (b :: t)).2) := rfl

theorem digR_app (d r : List UInt8) : ∀ (acc n f : Nat), Lib.decFrom acc d = some n → d.length ≤ f → digR acc f (d ++ 93 :: r) = (n, d.length) := by
  induction d with
  | nil =>
    intro acc n f h _
    simp only [Lib.decFrom, Option.some.injEq] at h
    subst h
    rcases f with _ | f
    · rfl
    · simp only [List.nil_append, digR]
      rw [if_neg (by decide)]
      rfl
  | cons b d ih =>
    intro acc n f h hf
    obtain ⟨f, rfl⟩ : ∃ g, f = g + 1 := ⟨f - 1, by simp at hf; omega⟩
    unfold Lib.decFrom at h
    cases hb : Lib.digitVal b with
    | none => rw [hb] at h; simp at h
    | some e =>
      rw [hb] at h
      simp only [] at h
      have hdb : dig b = true ∧ e = b.toNat - 48 := by
        unfold Lib.digitVal at hb
        split at hb
        · rename_i hc
          simp only [Option.some.injEq] at hb
          exact ⟨by unfold dig; simpa using hc, hb.symm⟩
        · cases hb
      obtain ⟨h1, rfl⟩ := hdb
      have := ih (10 * acc + (b.toNat - 48)) n f (by rw [Nat.mul_comm]; exact h) (by simp at hf; omega)
      simp only [List.cons_append, digR]
      rw [if_pos h1, this]
      rfl
theorem sgn_free : ∀ j b : Fin 128, 1 < (sgn (UInt8.ofNat j.val)).length → 1 < (sgn (UInt8.ofNat b.val)).length → j ≠ b → (sgn (UInt8.ofNat j.val)).isPrefixOf (sgn (UInt8.ofNat b.val)) = false := by decide +kernel
theorem sgn_kind : ∀ b : Fin 128, (1 < (sgn (UInt8.ofNat b.val)).length ∧ (sgn (UInt8.ofNat b.val)).head? = some 92) ∨ (sgn (UInt8.ofNat b.val) = [UInt8.ofNat b.val] ∧ b.val ≠ 34 ∧ b.val ≠ 92) := by decide +kernel
theorem uns_none (b : UInt8) (u : List UInt8) (h : b.toNat ≠ 92) : (List.range 128).find? (unsP (b :: u)) = none := by
  rw [List.find?_eq_none]
  intro n hn
  have hn' := List.mem_range.1 hn
  unfold unsP
  simp only [Bool.and_eq_true, decide_eq_true_eq, not_and]
  intro h1 h2
  rcases sgn_kind ⟨n, hn'⟩ with ⟨_, h3⟩ | ⟨h3, _⟩
  · simp only [] at h3
    generalize sgn (UInt8.ofNat n) = l at *
    rcases l with _ | ⟨c, l⟩
    · cases h3
    simp only [List.head?_cons, Option.some.injEq] at h3
    subst h3
    simp only [List.isPrefixOf_cons_cons, Bool.and_eq_true, beq_iff_eq] at h2
    rw [← h2.1] at h
    exact h (by decide)
  · simp only [] at h3
    rw [h3] at h1
    simp at h1
theorem unsR_back (b : UInt8) (u : List UInt8) : unsR (sgn b ++ u) = (b.toNat, (sgn b).length) := by
  have plain : sgn b = [b] → b.toNat ≠ 34 → b.toNat ≠ 92 → unsR (sgn b ++ u) = (b.toNat, (sgn b).length) := by
    intro h1 h2 h3
    rw [h1]
    unfold unsR
    rw [List.cons_append, uns_none b _ h3]
    simp only []
    rw [if_pos ⟨h2, h3⟩]
    rfl
  by_cases hb : b.toNat < 128
  · rcases sgn_kind ⟨b.toNat, hb⟩ with ⟨h1, h2⟩ | ⟨h1, h2, h3⟩
    · simp only [UInt8.ofNat_toNat] at h1 h2
      have hf : (List.range 128).find? (unsP (sgn b ++ u)) = some b.toNat := by
        rw [List.find?_range_eq_some]
        refine ⟨?_, List.mem_range.2 hb, ?_⟩
        · unfold unsP
          rw [UInt8.ofNat_toNat]
          simp only [Bool.and_eq_true, decide_eq_true_eq, List.isPrefixOf_iff_prefix]
          exact ⟨h1, List.prefix_append _ _⟩
        · intro j hj
          have hj' : j < 128 := by omega
          unfold unsP
          simp only [Bool.not_eq_true', Bool.and_eq_false_iff, decide_eq_false_iff_not]
          by_cases hl : 1 < (sgn (UInt8.ofNat j)).length
          · right
            have hne : (⟨j, hj'⟩ : Fin 128) ≠ ⟨b.toNat, hb⟩ := by intro h; simp only [Fin.mk.injEq] at h; omega
            have f1 := sgn_free ⟨j, hj'⟩ ⟨b.toNat, hb⟩ hl (by simpa using h1) hne
            have f2 := sgn_free ⟨b.toNat, hb⟩ ⟨j, hj'⟩ (by simpa using h1) hl hne.symm
            simp only [UInt8.ofNat_toNat] at f1 f2
            rw [Bool.eq_false_iff] at f1 f2 ⊢
            simp only [ne_eq, List.isPrefixOf_iff_prefix] at f1 f2 ⊢
            intro hp
            rcases List.prefix_or_prefix_of_prefix hp (List.prefix_append (sgn b) u) with h | h
            · exact f1 h
            · exact f2 h
          · left; exact hl
      unfold unsR
      rw [hf]
      simp only [UInt8.ofNat_toNat]
    · simp only [UInt8.ofNat_toNat] at h1
      exact plain h1 h2 h3
  · exact plain (sgn_high b (by omega)) (by omega) (by omega)
theorem sgn_pos (b : UInt8) : 1 ≤ (sgn b).length := by
  unfold sgn
  repeat' split
  all_goals simp
theorem sgn_head (b : UInt8) : ∃ c t, sgn b = c :: t ∧ c.toNat ≠ 34 := by
  by_cases hb : b.toNat < 128
  · rcases sgn_kind ⟨b.toNat, hb⟩ with ⟨h1, h2⟩ | ⟨h1, h2, h3⟩
    · simp only [UInt8.ofNat_toNat] at h1 h2
      generalize sgn b = l at *
      rcases l with _ | ⟨c, l⟩
      · cases h2
      simp only [List.head?_cons, Option.some.injEq] at h2
      exact ⟨c, l, rfl, by rw [h2]; decide⟩
    · simp only [UInt8.ofNat_toNat] at h1
      exact ⟨b, [], h1, h2⟩
  · exact ⟨b, [], sgn_high b (by omega), by omega⟩
theorem quoF_back : ∀ (k r : List UInt8) (f : Nat), k.length < f → quoF f (k.flatMap sgn ++ 34 :: r) = some (k, (k.flatMap sgn).length + 1)
  | [], r, f, h => by
    obtain ⟨f, rfl⟩ : ∃ g, f = g + 1 := ⟨f - 1, by simp at h; omega⟩
    simp [quoF]
  | b :: k, r, f, h => by
    obtain ⟨f, rfl⟩ : ∃ g, f = g + 1 := ⟨f - 1, by simp at h; omega⟩
    have ih := quoF_back k r f (by simp at h; omega)
    rw [List.flatMap_cons, List.append_assoc]
    have hu := unsR_back b (k.flatMap sgn ++ 34 :: r)
    have hp := sgn_pos b
    obtain ⟨c, t, hc, h34⟩ := sgn_head b
    have hd : (sgn b ++ (k.flatMap sgn ++ 34 :: r)).drop (sgn b).length = k.flatMap sgn ++ 34 :: r := drop_len _ _
    generalize hn : (sgn b).length = n at *
    rw [hc] at hu hd ⊢
    rw [List.cons_append] at hu hd ⊢
    rw [quoF_cons, if_neg h34, hu]
    simp only []
    rw [if_neg (by omega), hd, ih]
    simp only [Option.map_some, UInt8.ofNat_toNat, List.length_append, Option.some.injEq, Prod.mk.injEq, true_and]
    rw [← hc, hn]
    omega
theorem stepR_back (s : St) (r : List UInt8) (hs : okSt s = true) (hr : ends r) : stepR (stepT s ++ r) = some (s, (stepT s).length) := by
  obtain ⟨b, k, i⟩ := s
  unfold okSt at hs
  unfold stepT
  simp only [] at hs ⊢
  cases b with
  | true =>
    simp only [decide_eq_true_eq, if_pos] at hs ⊢
    have hk : k = ⟨#[]⟩ := L_inj (List.length_eq_zero_iff.1 (by rw [L_len]; exact hs.1))
    subst hk
    obtain ⟨u, rfl⟩ : ∃ u : Nat, i = (u : Int) := ⟨i.toNat, by omega⟩
    have hi : Lib.itoa (u : Int) = Lib.decDigits u := by unfold Lib.itoa; rw [if_neg (by omega)]; simp
    have hl := decDigits_len u (by omega)
    have hv := decDigits_val u
    rw [hi]
    generalize Lib.decDigits u = d at *
    have hn : d.length ≠ 0 := by
      intro h
      exact hv.2 (List.length_eq_zero_iff.1 h)
    simp only [List.cons_append, List.append_assoc, List.nil_append]
    rw [stepR_cons, if_pos (by decide), digR_app d r 0 u 8 hv.1 (by omega)]
    simp only []
    rw [if_neg]
    · simp
    · rw [not_or]
      exact ⟨hn, by simp⟩
  | false =>
    rw [if_neg (by simp)] at hs ⊢
    simp only [decide_eq_true_eq] at hs
    obtain ⟨rfl, _⟩ := hs
    split
    · rename_i hn
      unfold isName at hn
      simp only [decide_eq_true_eq] at hn
      obtain ⟨h0, hf⟩ := hn
      have hk : k = ⟨(L k).toArray⟩ := rfl
      rw [hk]
      generalize L k = l at *
      have hnm : nmL l = l.length := by
        rcases l with _ | ⟨c, l⟩
        · rfl
        simp only [folL] at hf
        split at hf
        · rename_i hc
          simp only [nmL]
          rw [hc, Bool.true_or, if_pos rfl]
          exact hf
        · simp at hf
      have ha := nmL_app l r hnm hr
      have hh : ¬ ((l ++ r).head? = some 34) := by
        intro he
        rcases l with _ | ⟨c, l⟩
        · exact h0 rfl
        simp at he
        subst he
        simp only [folL] at hf
        rw [if_neg (by decide)] at hf
        simp at hf
      rw [show L ({ data := l.toArray } : ByteArray) = l from rfl, List.cons_append, stepR_cons, if_neg (by decide), if_neg (by rw [not_or]; exact ⟨by decide, by simp [h0]⟩), if_neg hh, ha, take_len]
      rfl
    · have hfl := flat_len (L k)
      simp only [List.cons_append, List.append_assoc, List.nil_append]
      rw [stepR_cons, if_neg (by decide), if_neg (by rw [not_or]; exact ⟨by decide, by simp⟩), if_pos (by rfl)]
      simp only [List.drop_succ_cons, List.drop_zero]
      rw [quoF_back (L k) r _ (by simp only [List.length_cons, List.length_append]; omega)]
      simp only [mk_L, List.length_cons, List.length_append, List.length_nil]
theorem loopR_back : ∀ (p : List St) (f k : Nat), p.all okSt = true → k + p.length ≤ 48 → p.length < f → loopR f k (p.flatMap stepT) = some p
  | [], f, k, _, _, hf => by
    obtain ⟨f, rfl⟩ : ∃ g, f = g + 1 := ⟨f - 1, by simp at hf; omega⟩
    simp [loopR]
  | s :: p, f, k, h, hk, hf => by
    obtain ⟨f, rfl⟩ : ∃ g, f = g + 1 := ⟨f - 1, by simp at hf; omega⟩
    simp only [List.all_cons, Bool.and_eq_true] at h
    simp only [List.length_cons] at hk hf
    rw [List.flatMap_cons]
    unfold loopR
    rw [if_neg (by simp [stepT_ne]), stepR_back s _ h.1 (ends_flat p)]
    simp only []
    rw [if_neg (by omega), drop_len, loopR_back p f (k + 1) h.2 (by omega) (by omega)]
    rfl
theorem loopR_text (p : List St) (h0 : p ≠ []) (h : validP p = true) : loopR 49 0 (strip (textL p)) = some p := by
  obtain ⟨h1, h2⟩ := all_ok h
  rw [strip_text p h0 h1]
  exact loopR_back p 49 0 h1 (by omega) (by omega)
/-- The reference reads as the program does. -/
theorem parse_same (s : List UInt8) : parseR s = parseL s := by
  unfold parseR parseL
  by_cases hb : badL s ≠ s.length
  · rw [if_pos hb, if_pos hb]
  rw [if_neg hb, if_neg hb]
  by_cases hs : s = [46]
  · rw [if_pos hs, if_pos hs]
  rw [if_neg hs, if_neg hs]
  by_cases he : ∃ p, p ≠ [] ∧ validP p = true ∧ textL p = s
  · obtain ⟨p, h0, hv, rfl⟩ := he
    rw [loop_text p h0 hv, loopR_text p h0 hv]
    simp only [acceptR, accept]
    rw [if_pos ⟨hv, trivial⟩, if_pos ⟨h0, hv, trivial⟩]
  · have h1 : acceptR s (loopR 49 0 (strip s)) = ([], 3) := by
      unfold acceptR
      split
      · rename_i p _
        rw [if_neg]
        rintro ⟨hv, ht⟩
        refine he ⟨p, ?_, hv, ht⟩
        rintro rfl
        exact hs ht.symm
      · rfl
    have h2 : accept s (loopI 49 0 (strip s)) = ([], 3) := by
      unfold accept
      split
      · rename_i p _
        rw [if_neg]
        intro hc
        exact he ⟨p, hc⟩
      · rfl
    rw [h1, h2]
/-- What is read is valid and has the text. -/
theorem parse_sound (s : List UInt8) (h : (parseL s).2 = 0) : validP (parseL s).1 = true ∧ textL (parseL s).1 = s := by
  unfold parseL at h ⊢
  by_cases hb : badL s ≠ s.length
  · rw [if_pos hb] at h; cases h
  rw [if_neg hb] at h ⊢
  by_cases hs : s = [46]
  · rw [if_pos hs, hs]; exact ⟨rfl, rfl⟩
  rw [if_neg hs] at h ⊢
  unfold accept at h ⊢
  split at h
  · split at h
    · rename_i hc
      rw [if_pos hc]
      exact ⟨hc.2.1, hc.2.2⟩
    · cases h
  · cases h
end Go.Proofs.YtemiihkmpojpgaaGreatDoor
