/- Patterns read: how many nodes there can be. No program in sight. Conditions: none. -/
import Derived.Test.YtpkecepelcppiaaGreatDoorZa1
namespace Go.Proofs.YtpkecepelcppiaaGreatDoor
open Go.RowKit
open Classical
set_option maxRecDepth 100000
set_option maxHeartbeats 1000000

def img (n : Nat) (F : Nat → Prop) (M : Nat → Nat → Prop) (j : Nat) : Prop := ∃ i, i ≤ n ∧ F i ∧ M i j
def EqS (n : Nat) (F G : Nat → Prop) : Prop := ∀ j, j ≤ n → (F j ↔ G j)
def powS (n : Nat) (F : Nat → Prop) (M : Nat → Nat → Prop) (k : Nat) : Nat → Prop := img n F (powM M k)
def outS (n : Nat) (F : Nat → Prop) (M : Nat → Nat → Prop) (mn t : Nat) (j : Nat) : Prop := ∃ m, mn ≤ m ∧ m ≤ mn + t ∧ powS n F M m j
theorem pow_leM {n : Nat} {M : Nat → Nat → Prop} (h : ∀ i j, i ≤ n → M i j → i ≤ j ∧ j ≤ n) : ∀ k i j, i ≤ n → powM M k i j → i ≤ j ∧ j ≤ n
 | 0, i, j, hi, e => by cases e; exact ⟨Nat.le_refl _, hi⟩
 | k + 1, i, j, hi, ⟨x, h1, h2⟩ => by
  have a := h i x hi h1
  have b := pow_leM h k x j a.2 h2
  omega
theorem powS_zero {n : Nat} {F : Nat → Prop} {M : Nat → Nat → Prop} : EqS n (powS n F M 0) F := fun j hj => ⟨fun ⟨i, _, h, e⟩ => by cases e; exact h, fun h => ⟨j, hj, h, rfl⟩⟩
theorem powS_succ {n : Nat} {F : Nat → Prop} {M : Nat → Nat → Prop} (h : ∀ i j, i ≤ n → M i j → i ≤ j ∧ j ≤ n) (k : Nat) (j : Nat) : powS n F M (k + 1) j ↔ img n (powS n F M k) M j := by
 constructor
 ·rintro ⟨i, hi, hF, hp⟩
  obtain ⟨x, h1, h2⟩ := (powM_snoc M k i j).1 hp
  exact ⟨x, (pow_leM h k i x hi h1).2, ⟨i, hi, hF, h1⟩, h2⟩
 ·rintro ⟨x, hx, ⟨i, hi, hF, h1⟩, h2⟩
  exact ⟨i, hi, hF, (powM_snoc M k i j).2 ⟨x, h1, h2⟩⟩
theorem powS_stays {n : Nat} {F : Nat → Prop} {M : Nat → Nat → Prop} (h : ∀ i j, i ≤ n → M i j → i ≤ j ∧ j ≤ n) {k : Nat} (he : EqS n (powS n F M (k + 1)) (powS n F M k)) : ∀ t, EqS n (powS n F M (k + t)) (powS n F M k)
 | 0, j, _ => Iff.rfl
 | t + 1, j, hj => by
  have ih := powS_stays h he t
  rw [← Nat.add_assoc, powS_succ h, ← he j hj, powS_succ h]
  constructor
  ·rintro ⟨x, hx, h1, h2⟩
   exact ⟨x, hx, (ih x hx).1 h1, h2⟩
  ·rintro ⟨x, hx, h1, h2⟩
   exact ⟨x, hx, (ih x hx).2 h1, h2⟩
theorem outS_zero {n : Nat} {F : Nat → Prop} {M : Nat → Nat → Prop} {mn : Nat} (j : Nat) : outS n F M mn 0 j ↔ powS n F M mn j :=
 ⟨fun ⟨m, h1, h2, h3⟩ => by obtain rfl : m = mn := by omega
                            exact h3, fun h => ⟨mn, Nat.le_refl _, Nat.le_refl _, h⟩⟩
theorem outS_succ {n : Nat} {F : Nat → Prop} {M : Nat → Nat → Prop} {mn t : Nat} (j : Nat) : outS n F M mn (t + 1) j ↔ outS n F M mn t j ∨ powS n F M (mn + (t + 1)) j := by
 constructor
 ·rintro ⟨m, h1, h2, h3⟩
  by_cases he : m = mn + (t + 1)
  ·subst he
   exact .inr h3
  ·exact .inl ⟨m, h1, by omega, h3⟩
 ·rintro (⟨m, h1, h2, h3⟩ | h)
  ·exact ⟨m, h1, by omega, h3⟩
  ·exact ⟨_, by omega, Nat.le_refl _, h⟩
theorem outS_closed {n : Nat} {F : Nat → Prop} {M : Nat → Nat → Prop} (h : ∀ i j, i ≤ n → M i j → i ≤ j ∧ j ≤ n) {mn t : Nat} (he : EqS n (outS n F M mn (t + 1)) (outS n F M mn t)) : ∀ m, mn ≤ m → ∀ j, j ≤ n → powS n F M m j → outS n F M mn t j
 | m, hm, j, hj, hp => by
  by_cases h1 : m ≤ mn + (t + 1)
  ·exact (he j hj).1 ⟨m, hm, h1, hp⟩
  ·obtain ⟨m, rfl⟩ : ∃ k, m = k + 1 := ⟨m - 1, by omega⟩
   obtain ⟨x, hx, h2, h3⟩ := (powS_succ h m j).1 hp
   obtain ⟨m', a1, a2, a3⟩ := outS_closed h he m (by omega) x hx h2
   exact (he j hj).1 ⟨m' + 1, by omega, by omega, (powS_succ h m' j).2 ⟨x, hx, a3, h3⟩⟩
noncomputable def cardS (n : Nat) (F : Nat → Prop) : Nat := ((List.range (n + 1)).filter fun j => decide (F j)).length
theorem cardS_le (n : Nat) (F : Nat → Prop) : cardS n F ≤ n + 1 := by
 have := List.length_filter_le (fun j => decide (F j)) (List.range (n + 1))
 simpa [cardS] using this
theorem filter_lt (F G : Nat → Prop) : ∀ (l : List Nat), (∀ j ∈ l, F j → G j) → (l.filter fun j => decide (F j)).length ≤ (l.filter fun j => decide (G j)).length ∧ ((∃ j ∈ l, G j ∧ ¬ F j) → (l.filter fun j => decide (F j)).length < (l.filter fun j => decide (G j)).length)
 | [], _ => ⟨Nat.le_refl _, fun ⟨_, h, _⟩ => by cases h⟩
 | a :: t, h => by
  obtain ⟨h1, h2⟩ := filter_lt F G t (fun j hj => h j (List.mem_cons_of_mem _ hj))
  have ha := h a List.mem_cons_self
  rw [List.filter_cons, List.filter_cons]
  by_cases hF : F a
  ·have hG := ha hF
   simp only [hF, hG, decide_true, if_true, List.length_cons]
   refine ⟨by omega, ?_⟩
   rintro ⟨j, hj, g1, g2⟩
   rcases List.mem_cons.1 hj with rfl | hj
   ·exact absurd hF g2
   ·have := h2 ⟨j, hj, g1, g2⟩
    omega
  ·by_cases hG : G a
   ·simp only [hF, hG, decide_true, decide_false, if_true, Bool.false_eq_true, if_false, List.length_cons]
    exact ⟨by omega, fun _ => by omega⟩
   ·simp only [hF, hG, decide_false, Bool.false_eq_true, if_false]
    refine ⟨h1, ?_⟩
    rintro ⟨j, hj, g1, g2⟩
    rcases List.mem_cons.1 hj with rfl | hj
    ·exact absurd g1 hG
    ·exact h2 ⟨j, hj, g1, g2⟩
theorem cardS_lt {n : Nat} {F G : Nat → Prop} (h : ∀ j, j ≤ n → F j → G j) (hne : ¬ EqS n G F) : cardS n F < cardS n G := by
 refine (filter_lt F G (List.range (n + 1)) (fun j hj => h j (by have := List.mem_range.1 hj; omega))).2 ?_
 refine Classical.byContradiction fun hc => hne fun j hj => ⟨fun hg => Classical.byContradiction fun hf => hc ⟨j, List.mem_range.2 (by omega), hg, hf⟩, h j hj⟩
theorem memR5 (s : List UInt8) (d : Nat) (lo hi mn mx : Int) (q : RX) (i j : Nat) : memR s (d + 1) (.mk 5 lo hi mn mx [q]) i j ↔ ∃ n : Nat, mn ≤ n ∧ (mx < 0 ∨ (n : Int) ≤ mx) ∧ powM (memR s d q) n i j := by simp [memR]
theorem rep_done (s : List UInt8) (d : Nat) (lo hi mn mx : Int) (q : RX) (F : Nat → Prop) (t : Nat) (hmn : 0 ≤ mn)
  (hle : ∀ i j, i ≤ s.length → memR s d q i j → i ≤ j ∧ j ≤ s.length)
  (h : (0 ≤ mx ∧ mn + t = mx) ∨ ((mx < 0 ∨ mn + t < mx) ∧ EqS s.length (outS s.length F (memR s d q) mn.toNat (t + 1)) (outS s.length F (memR s d q) mn.toNat t))) :
  EqS s.length (outS s.length F (memR s d q) mn.toNat t) (img s.length F (memR s (d + 1) (.mk 5 lo hi mn mx [q]))) := by
 intro j hj
 constructor
 ·rintro ⟨m, h1, h2, i, hi', hF, hp⟩
  exact ⟨i, hi', hF, (memR5 s d lo hi mn mx q i j).2 ⟨m, by omega, by omega, hp⟩⟩
 ·rintro ⟨i, hi', hF, hm⟩
  obtain ⟨m, h1, h2, hp⟩ := (memR5 s d lo hi mn mx q i j).1 hm
  rcases h with ⟨h3, h4⟩ | ⟨h3, h4⟩
  ·exact ⟨m, by omega, by omega, i, hi', hF, hp⟩
  ·exact outS_closed hle h4 m (by omega) j hj ⟨i, hi', hF, hp⟩
theorem low_done {n : Nat} {F : Nat → Prop} {M : Nat → Nat → Prop} (h : ∀ i j, i ≤ n → M i j → i ≤ j ∧ j ≤ n) {k mn : Nat} (hk : k ≤ mn) (he : k = mn ∨ EqS n (powS n F M (k + 1)) (powS n F M k)) : EqS n (powS n F M k) (powS n F M mn) := by
 rcases he with rfl | he
 ·exact fun _ _ => Iff.rfl
 ·intro j hj
  have := powS_stays h he (mn - k) j hj
  rw [show k + (mn - k) = mn by omega] at this
  exact this.symm
end Go.Proofs.YtpkecepelcppiaaGreatDoor

namespace Go.Proofs.YtpkecepelcppiaaGreatDoor
open Go.RowKit
set_option maxRecDepth 100000
set_option maxHeartbeats 1000000

def hexQ (b : UInt8) : Option Nat := if 48 ≤ b.toNat ∧ b.toNat ≤ 57 then some (b.toNat - 48) else if 97 ≤ b.toNat ∧ b.toNat ≤ 102 then some (b.toNat - 87) else none
def oneQ : List UInt8 → Option (Nat × List UInt8)
 | [] => none
 | c :: t =>
  if c = 92 then
   (if t.head? = some 120 then
    (match t[1]?.bind hexQ, t[2]?.bind hexQ with
     | some a, some b => some (a * 16 + b, t.drop 3)
     | _, _ => none)
    else none)
  else if byteT c.toNat = [c] then some (c.toNat, t) else none
def bndQ (l : List UInt8) : BndP :=
 match bndP l with
 | .bad => .no
 | x => x
def pgQ : PG := ⟨oneQ, bndQ, fun p l => some (p, l)⟩
def parseQ (l : List UInt8) : Option RX :=
 match inf1 (preP pgQ 48) l with
 | none => none
 | some (p, r) => if r ≠ [] ∨ textR p ≠ l then none else some p
theorem hexQ_back0 : ∀ n : Fin 16, hexQ (hexR n.val) = some n.val := by decide +kernel
theorem hexQ_back (n : Nat) (h : n < 16) : hexQ (hexR n) = some n := hexQ_back0 ⟨n, h⟩
theorem oneQ_back (b : Nat) (h : b ≤ 255) (r : List UInt8) : oneQ (byteT b ++ r) = some (b, r) := by
 rcases byteT_ways b with ⟨h1, h2, h3, h4⟩ | h4
 ·rw [h4]
  show oneQ (UInt8.ofNat b :: r) = _
  rw [oneQ, if_neg, ofNat_b b h, if_pos h4]
  intro h92
  rw [h92] at h3
  exact h3 (by decide)
 ·rw [h4]
  show oneQ (92 :: 120 :: hexR (b / 16) :: hexR (b % 16) :: r) = _
  rw [oneQ, if_pos rfl]
  rw [if_pos (by rfl)]
  show (match hexQ (hexR (b / 16)), hexQ (hexR (b % 16)) with
    | some a, some b => some (a * 16 + b, r)
    | _, _ => none) = _
  rw [hexQ_back _ (by omega), hexQ_back _ (by omega)]
  show some (b / 16 * 16 + b % 16, r) = _
  congr 2
  omega
theorem pgQ_ok : PGok pgQ := by
 refine ⟨oneQ_back, fun mn mx h0 h1 h2 r => ?_, fun r h => ?_⟩
 ·show bndQ _ = _
  unfold bndQ
  rw [bnd_back mn mx h0 h1 h2]
 ·show bndQ _ = _
  unfold bndQ
  rw [bnd_no h]
theorem parseQ_back (p : RX) (h : valR p = true) : parseQ (textR p) = some p := by
 have hs : sndR 48 p = true := by
  unfold valR at h
  rw [Bool.and_eq_true] at h
  exact h.1
 have ht : textR p = showR 48 p := by unfold textR; rw [if_pos h]
 have h4 := ((JR_all pgQ_ok 48 (by omega)).1 p hs 48 (by unfold needR; split <;> omega)).2.2.2 [] (fun c t e => by cases e)
 rw [List.append_nil] at h4
 unfold parseQ
 rw [ht, h4]
 show (if [] ≠ [] ∨ textR p ≠ showR 48 p then none else some p) = some p
 rw [if_neg]
 rintro (h | h)
 ·exact h rfl
 ·exact h ht
theorem inf1_nil (g : PG) (n : Nat) : inf1 (preP g n) [] = none := by
 have : preP g n [] = none := by
  rw [pre_atom g n [] (by simp)]
  cases n <;> rfl
 show infP 4 (some 124) (inf2 (preP g n)) [] = none
 have h3 : inf3 (preP g n) [] = none := by
  show infP 3 none (preP g n) [] = none
  unfold infP
  rw [this]
 have h2 : inf2 (preP g n) [] = none := by
  show infP 6 (some 38) (inf3 (preP g n)) [] = none
  unfold infP
  rw [h3]
 unfold infP
 rw [h2]
theorem parseQ_text {l : List UInt8} {p : RX} (h : parseQ l = some p) : textR p = l ∧ valR p = true := by
 unfold parseQ at h
 split at h
 ·cases h
 ·rename_i hx
  split at h
  ·cases h
  ·rename_i hc
   cases h
   rw [not_or] at hc
   have h2 : textR _ = l := Classical.not_not.1 hc.2
   refine ⟨h2, ?_⟩
   unfold textR at h2
   split at h2
   ·assumption
   ·rw [← h2, inf1_nil] at hx
    cases hx
theorem parse_same (l : List UInt8) : parseR l = parseQ l := by
 cases h : parseR l with
 | some p =>
  obtain ⟨h1, h2⟩ := parse_text h
  rw [← h1, parseQ_back p h2]
 | none =>
  cases h' : parseQ l with
  | none => rfl
  | some p =>
   obtain ⟨h1, h2⟩ := parseQ_text h'
   rw [← h1, parse_back p h2] at h
   cases h
end Go.Proofs.YtpkecepelcppiaaGreatDoor

namespace Go.Proofs.YtpkecepelcppiaaGreatDoor
open Go.RowKit
set_option maxRecDepth 100000
set_option maxHeartbeats 1000000

def namesF : List (List UInt8) := [
 [98, 97, 115, 101, 54, 52],
 [100, 97, 116, 101],
 [100, 97, 116, 101, 116, 105, 109, 101],
 [104, 101, 120],
 [105, 110, 115, 116, 97, 110, 116],
 [105, 110, 116, 101, 103, 101, 114],
 [105, 112, 118, 52],
 [110, 97, 109, 101],
 [110, 117, 109, 98, 101, 114],
 [112, 97, 116, 104],
 [116, 105, 109, 101],
 [117, 117, 105, 100]]
def srcF : List (List UInt8) := [
 [40, 91, 65, 45, 90, 93, 124, 91, 97, 45, 122, 93, 124, 91, 48, 45, 57, 93, 124, 92, 120, 50, 98, 124, 47, 41, 123, 52, 44, 52, 125, 42, 40, 40, 91, 65, 45, 90, 93, 124, 91, 97, 45, 122, 93, 124, 91, 48, 45, 57, 93, 124, 92, 120, 50, 98, 124, 47, 41, 123, 50, 44, 50, 125, 61, 61, 124, 40, 91, 65, 45, 90, 93, 124, 91, 97, 45, 122, 93, 124, 91, 48, 45, 57, 93, 124, 92, 120, 50, 98, 124, 47, 41, 123, 51, 44, 51, 125, 61, 41, 63],
 [91, 48, 45, 57, 93, 123, 52, 44, 52, 125, 45, 40, 48, 91, 49, 45, 57, 93, 124, 49, 91, 48, 45, 50, 93, 41, 45, 40, 48, 91, 49, 45, 57, 93, 124, 91, 49, 45, 50, 93, 91, 48, 45, 57, 93, 124, 51, 91, 48, 45, 49, 93, 41],
 [91, 48, 45, 57, 93, 123, 52, 44, 52, 125, 45, 40, 48, 91, 49, 45, 57, 93, 124, 49, 91, 48, 45, 50, 93, 41, 45, 40, 48, 91, 49, 45, 57, 93, 124, 91, 49, 45, 50, 93, 91, 48, 45, 57, 93, 124, 51, 91, 48, 45, 49, 93, 41, 84, 40, 91, 48, 45, 49, 93, 91, 48, 45, 57, 93, 124, 50, 91, 48, 45, 51, 93, 41, 58, 91, 48, 45, 53, 93, 91, 48, 45, 57, 93, 58, 91, 48, 45, 53, 93, 91, 48, 45, 57, 93, 40, 92, 120, 50, 101, 91, 48, 45, 57, 93, 123, 49, 44, 57, 125, 41, 63],
 [40, 91, 48, 45, 57, 93, 124, 91, 97, 45, 102, 93, 41, 123, 50, 44, 50, 125, 43],
 [91, 48, 45, 57, 93, 123, 52, 44, 52, 125, 45, 40, 48, 91, 49, 45, 57, 93, 124, 49, 91, 48, 45, 50, 93, 41, 45, 40, 48, 91, 49, 45, 57, 93, 124, 91, 49, 45, 50, 93, 91, 48, 45, 57, 93, 124, 51, 91, 48, 45, 49, 93, 41, 84, 40, 91, 48, 45, 49, 93, 91, 48, 45, 57, 93, 124, 50, 91, 48, 45, 51, 93, 41, 58, 91, 48, 45, 53, 93, 91, 48, 45, 57, 93, 58, 91, 48, 45, 53, 93, 91, 48, 45, 57, 93, 40, 92, 120, 50, 101, 91, 48, 45, 57, 93, 123, 49, 44, 57, 125, 41, 63, 40, 90, 124, 40, 92, 120, 50, 98, 124, 45, 41, 40, 91, 48, 45, 49, 93, 91, 48, 45, 57, 93, 124, 50, 91, 48, 45, 51, 93, 41, 58, 91, 48, 45, 53, 93, 91, 48, 45, 57, 93, 41],
 [48, 124, 45, 63, 91, 49, 45, 57, 93, 91, 48, 45, 57, 93, 42],
 [40, 91, 48, 45, 57, 93, 124, 91, 49, 45, 57, 93, 91, 48, 45, 57, 93, 124, 49, 91, 48, 45, 57, 93, 91, 48, 45, 57, 93, 124, 50, 91, 48, 45, 52, 93, 91, 48, 45, 57, 93, 124, 50, 53, 91, 48, 45, 53, 93, 41, 40, 92, 120, 50, 101, 40, 91, 48, 45, 57, 93, 124, 91, 49, 45, 57, 93, 91, 48, 45, 57, 93, 124, 49, 91, 48, 45, 57, 93, 91, 48, 45, 57, 93, 124, 50, 91, 48, 45, 52, 93, 91, 48, 45, 57, 93, 124, 50, 53, 91, 48, 45, 53, 93, 41, 41, 123, 51, 44, 51, 125],
 [40, 91, 65, 45, 90, 93, 124, 91, 97, 45, 122, 93, 124, 95, 41, 40, 91, 65, 45, 90, 93, 124, 91, 97, 45, 122, 93, 124, 91, 48, 45, 57, 93, 124, 95, 41, 42],
 [45, 63, 40, 48, 124, 91, 49, 45, 57, 93, 91, 48, 45, 57, 93, 42, 41, 40, 92, 120, 50, 101, 91, 48, 45, 57, 93, 43, 41, 63, 40, 40, 101, 124, 69, 41, 40, 92, 120, 50, 98, 124, 45, 41, 63, 91, 48, 45, 57, 93, 43, 41, 63],
 [40, 47, 40, 91, 65, 45, 90, 93, 124, 91, 97, 45, 122, 93, 124, 91, 48, 45, 57, 93, 124, 95, 124, 45, 124, 92, 120, 50, 101, 41, 42, 41, 43],
 [40, 91, 48, 45, 49, 93, 91, 48, 45, 57, 93, 124, 50, 91, 48, 45, 51, 93, 41, 58, 91, 48, 45, 53, 93, 91, 48, 45, 57, 93, 58, 91, 48, 45, 53, 93, 91, 48, 45, 57, 93, 40, 92, 120, 50, 101, 91, 48, 45, 57, 93, 123, 49, 44, 57, 125, 41, 63],
 [40, 91, 48, 45, 57, 93, 124, 91, 97, 45, 102, 93, 41, 123, 56, 44, 56, 125, 45, 40, 91, 48, 45, 57, 93, 124, 91, 97, 45, 102, 93, 41, 123, 52, 44, 52, 125, 45, 40, 91, 48, 45, 57, 93, 124, 91, 97, 45, 102, 93, 41, 123, 52, 44, 52, 125, 45, 40, 91, 48, 45, 57, 93, 124, 91, 97, 45, 102, 93, 41, 123, 52, 44, 52, 125, 45, 40, 91, 48, 45, 57, 93, 124, 91, 97, 45, 102, 93, 41, 123, 49, 50, 44, 49, 50, 125]]
def numF (name : List UInt8) : Nat := namesF.findIdx (fun x => decide (x = name))
def patF (name : List UInt8) : Option RX := match srcF[numF name]? with
 | some l => parseR l
 | none => none
def chkF (name s : List UInt8) : Bool := match patF name with
 | some p => matR p s
 | none => false
def detF (s : List UInt8) : List (List UInt8) := namesF.filter fun n => chkF n s
theorem src_ok : srcF.all (fun l => (parseR l).isSome) = true := by decide +kernel
theorem src_some (n : Nat) (l : List UInt8) (h : srcF[n]? = some l) : (parseR l).isSome = true :=
 List.all_eq_true.1 src_ok l (List.mem_of_getElem? h)
theorem det_12 : detF [49, 50] = [[104, 101, 120], [105, 110, 116, 101, 103, 101, 114], [110, 117, 109, 98, 101, 114]] := by decide +kernel
theorem det_a1 : detF [97, 49] = [[104, 101, 120], [110, 97, 109, 101]] := by decide +kernel
theorem det_nil : detF [] = [[98, 97, 115, 101, 54, 52]] := by decide +kernel
theorem chk_dates : chkF [100, 97, 116, 101] [50, 48, 50, 52, 45, 48, 50, 45, 51, 48] = true ∧ chkF [100, 97, 116, 101] [50, 48, 50, 52, 45, 49, 51, 45, 48, 49] = false := by decide +kernel
/-! The search for a name, step by step. -/
def numG (name : List UInt8) (k : Nat) : Nat := k + (namesF.drop k).findIdx (fun x => decide (x = name))
theorem num_G (name : List UInt8) : numF name = numG name 0 := by
 unfold numF numG
 rw [List.drop_zero, Nat.zero_add]
theorem numG_step (name : List UInt8) (k : Nat) (hk : k < namesF.length) : numG name k = if namesF[k] = name then k else numG name (k + 1) := by
 unfold numG
 rw [List.drop_eq_getElem_cons hk, List.findIdx_cons]
 by_cases h : namesF[k] = name
 ·rw [if_pos h, decide_eq_true h]
  rfl
 ·rw [if_neg h, decide_eq_false h]
  show k + (List.findIdx _ _ + 1) = _
  omega
theorem numG_end (name : List UInt8) : numG name 12 = 12 := rfl
theorem num_le (name : List UInt8) : numF name ≤ 12 := List.findIdx_le_length
def srcOf (name : List UInt8) : List UInt8 := (srcF[numF name]?).getD []
theorem num_none (name : List UInt8) (h : ∀ i (hi : i < namesF.length), namesF[i] ≠ name) : numF name = 12 := by
 unfold numF
 rw [List.findIdx_eq_length.2 (fun x hx => by
  obtain ⟨i, hi, rfl⟩ := List.getElem_of_mem hx
  exact decide_eq_false (h i hi))]
 rfl
theorem pat_src (name : List UInt8) (h : numF name < 12) : ∃ p, parseR (srcOf name) = some p ∧ patF name = some p := by
 have hl : numF name < srcF.length := h
 have h1 : srcF[numF name]? = some srcF[numF name] := List.getElem?_eq_getElem hl
 have h2 := src_some _ _ h1
 obtain ⟨p, hp⟩ := Option.isSome_iff_exists.1 h2
 refine ⟨p, ?_, ?_⟩
 ·unfold srcOf
  rw [h1]
  exact hp
 ·unfold patF
  rw [h1]
  exact hp
theorem pat_none (name : List UInt8) (h : ¬ numF name < 12) : patF name = none ∧ srcOf name = [] := by
 have h1 : srcF[numF name]? = none := List.getElem?_eq_none (Nat.le_of_not_lt h)
 unfold patF srcOf
 rw [h1]
 exact ⟨rfl, rfl⟩
theorem src_ne : srcF.all (fun l => decide (l ≠ [])) = true := by decide +kernel
theorem src_empty (name : List UInt8) : (srcOf name = []) ↔ ¬ numF name < 12 := by
 constructor
 ·intro h hl
  have h1 : srcF[numF name]? = some srcF[numF name] := List.getElem?_eq_getElem (show numF name < srcF.length from hl)
  have h2 := of_decide_eq_true (List.all_eq_true.1 src_ne _ (List.getElem_mem (show numF name < srcF.length from hl)))
  unfold srcOf at h
  rw [h1] at h
  exact h2 h
 ·intro h
  exact (pat_none name h).2
def detG (s : List UInt8) (k : Nat) : List (List UInt8) := (namesF.take k).filter fun n => chkF n s
theorem detG_end (s : List UInt8) : detG s 12 = detF s := rfl
theorem detG_step (s : List UInt8) (k : Nat) (hk : k < namesF.length) : detG s (k + 1) = if chkF namesF[k] s = true then detG s k ++ [namesF[k]] else detG s k := by
 unfold detG
 rw [List.take_succ_eq_append_getElem hk, List.filter_append]
 by_cases h : chkF namesF[k] s = true
 ·rw [if_pos h]
  simp [h]
 ·rw [if_neg h]
  simp [h]
end Go.Proofs.YtpkecepelcppiaaGreatDoor

namespace Go.Proofs.YtpkecepelcppiaaGreatDoor
open Go.RowKit
set_option maxRecDepth 100000
set_option maxHeartbeats 1000000

def Eats {α : Type} (f : List UInt8 → Option (α × List UInt8)) : Prop := ∀ l p r, f l = some (p, r) → r.length < l.length
theorem one_eats : Eats oneP := by
 intro l p r h
 cases l with
 | nil => cases h
 | cons c t =>
  rw [List.length_cons]
  unfold oneP at h
  dsimp only at h
  by_cases hc : c = 92 ∧ 3 ≤ t.length ∧ t.head? = some 120
  ·rw [if_pos hc] at h
   cases h1 : hexV (t.getD 1 0) with
   | none => rw [h1] at h; cases h
   | some a =>
    cases h2 : hexV (t.getD 2 0) with
    | none => rw [h1, h2] at h; cases h
    | some b =>
     rw [h1, h2] at h
     simp only [Option.some.injEq, Prod.mk.injEq] at h
     rw [← h.2, List.length_drop]
     omega
  ·rw [if_neg hc] at h
   by_cases h2 : byteT c.toNat = [c]
   ·rw [if_pos h2] at h
    simp only [Option.some.injEq, Prod.mk.injEq] at h
    rw [← h.2]
    omega
   ·rw [if_neg h2] at h
    cases h
theorem numP3_eats : ∀ (k n : Nat) (l : List UInt8), (numP3 k n l).2.length ≤ l.length
 | 0, n, l => by rw [numP3]; exact Nat.le_refl _
 | k + 1, n, [] => by rw [numP3]; exact Nat.le_refl _
 | k + 1, n, c :: t => by
  rw [numP3]
  split
  ·have := numP3_eats k (10 * n + (c.toNat - 48)) t
   rw [List.length_cons]
   omega
  ·exact Nat.le_refl _
theorem num_eats {l : List UInt8} {n : Nat} {r : List UInt8} (h : numPR l = some (n, r)) : r.length ≤ l.length := by
 unfold numPR at h
 split at h
 ·cases h
 ·rename_i c t
  split at h
  ·have := numP3_eats 3 0 (c :: t)
   rw [Option.some.injEq] at h
   rw [h] at this
   exact this
  ·cases h
theorem need_eats {c : UInt8} {l r : List UInt8} (h : needP c l = some r) : r.length < l.length := by
 cases l with
 | nil => cases h
 | cons b t =>
  unfold needP at h
  dsimp only at h
  by_cases h1 : b = c
  ·rw [if_pos h1] at h
   cases h
   rw [List.length_cons]
   omega
  ·rw [if_neg h1] at h
   cases h
theorem bnd_eats {l r : List UInt8} {mn mx : Int} (h : bndP l = .yes mn mx r) : r.length < l.length := by
 cases l with
 | nil => cases h
 | cons c t =>
  rw [List.length_cons]
  unfold bndP at h
  dsimp only at h
  by_cases c1 : c = 42
  ·rw [if_pos c1] at h; cases h; omega
  rw [if_neg c1] at h
  by_cases c2 : c = 43
  ·rw [if_pos c2] at h; cases h; omega
  rw [if_neg c2] at h
  by_cases c3 : c = 63
  ·rw [if_pos c3] at h; cases h; omega
  rw [if_neg c3] at h
  by_cases c4 : c = 123
  ·rw [if_pos c4] at h
   cases e1 : numPR t with
   | none => rw [e1] at h; cases h
   | some x =>
    obtain ⟨n, t1⟩ := x
    rw [e1] at h
    have h1 := num_eats e1
    simp only at h
    cases e2 : needP 44 t1 with
    | none => rw [e2] at h; cases h
    | some t2 =>
     rw [e2] at h
     have h2 := need_eats e2
     simp only at h
     by_cases c5 : t2.head? = some 125
     ·rw [if_pos c5] at h
      cases h
      rw [List.length_drop]
      omega
     ·rw [if_neg c5] at h
      cases e3 : numPR t2 with
      | none => rw [e3] at h; cases h
      | some y =>
       obtain ⟨m, t3⟩ := y
       rw [e3] at h
       have h3 := num_eats e3
       simp only at h
       cases e4 : needP 125 t3 with
       | none => rw [e4] at h; cases h
       | some t4 =>
        rw [e4] at h
        have h4 := need_eats e4
        cases h
        omega
  ·rw [if_neg c4] at h
   cases h
theorem post_eats : ∀ (f : Nat) (p : RX) (l : List UInt8) (q : RX) (r : List UInt8), postP pgP f p l = some (q, r) → r.length ≤ l.length
 | 0, p, l, q, r, h => by rw [postP] at h; cases h
 | f + 1, p, l, q, r, h => by
  rw [postP] at h
  split at h
  ·cases h
   exact Nat.le_refl _
  ·cases h
  ·rename_i mn mx r' e
   have h1 := bnd_eats e
   have h2 := post_eats f _ _ _ _ h
   omega
theorem rest_eats (sep : Option UInt8) (one : List UInt8 → Option (RX × List UInt8)) (h1 : Eats one) : ∀ (f : Nat) (acc : List RX) (l : List UInt8) (ps : List RX) (r : List UInt8), restP sep one f acc l = some (ps, r) → r.length ≤ l.length
 | 0, acc, l, ps, r, h => by cases h
 | f + 1, acc, l, ps, r, h => by
  rw [restP] at h
  split at h
  ·cases h
   exact Nat.le_refl _
  ·rename_i l' e
   have hl : l'.length ≤ l.length := by
    cases l with
    | nil => cases e
    | cons c t =>
     unfold moreP at e
     dsimp only at e
     split at e
     ·split at e
      ·cases e; rw [List.length_cons]; omega
      ·cases e
     ·split at e
      ·cases e
      ·cases e; exact Nat.le_refl _
   split at h
   ·cases h
   ·rename_i p r' e2
    have h2 := h1 _ _ _ e2
    have h3 := rest_eats sep one h1 f _ _ _ _ h
    omega
theorem more_le {sep : Option UInt8} {l l' : List UInt8} (e : moreP sep l = some l') : l'.length ≤ l.length := by
 cases l with
 | nil => cases e
 | cons c t =>
  unfold moreP at e
  dsimp only at e
  split at e
  ·split at e
   ·cases e; rw [List.length_cons]; omega
   ·cases e
  ·split at e
   ·cases e
   ·cases e; exact Nat.le_refl _
theorem inf_eats (op : Int) (sep : Option UInt8) {one : List UInt8 → Option (RX × List UInt8)} (h1 : Eats one) : Eats (infP op sep one) := by
 intro l p r h
 unfold infP at h
 split at h
 ·cases h
 ·rename_i q r1 e1
  have h2 := h1 _ _ _ e1
  split at h
  ·cases h
  ·rename_i ps r2 e2
   have h3 := rest_eats sep one h1 _ _ _ _ _ e2
   cases h
   omega
theorem atom_eats (sub : Option (List UInt8 → Option (RX × List UInt8))) (h1 : ∀ f, sub = some f → Eats f) : Eats (atomP pgP sub) := by
 intro l p r h
 cases l with
 | nil => cases h
 | cons c t =>
  rw [List.length_cons]
  unfold atomP at h
  dsimp only at h
  split at h
  ·split at h
   ·cases h
    rw [List.length_drop]
    omega
   ·split at h
    ·cases h
    ·rename_i f
     split at h
     ·cases h
     ·rename_i q r1 e1
      have h2 := h1 _ rfl _ _ _ e1
      rw [Option.map_eq_some_iff] at h
      obtain ⟨r2, e2, e3⟩ := h
      have h3 := need_eats e2
      cases e3
      omega
  split at h
  ·split at h
   ·cases h
    rw [List.length_drop]
    omega
   ·split at h
    ·cases h
    ·rename_i lo t1 e1
     have h2 := one_eats _ _ _ e1
     split at h
     ·cases h
     ·rename_i t2 e2
      have h3 := need_eats e2
      split at h
      ·cases h
      ·rename_i hi t3 e3
       have h4 := one_eats _ _ _ e3
       rw [Option.map_eq_some_iff] at h
       obtain ⟨r2, e4, e5⟩ := h
       have h5 := need_eats e4
       cases e5
       omega
  split at h
  ·cases h
   omega
  ·rw [Option.map_eq_some_iff] at h
   obtain ⟨⟨b, r2⟩, e4, e5⟩ := h
   have h5 := one_eats (c :: t) _ _ e4
   rw [List.length_cons] at h5
   cases e5
   omega
theorem pre_eats : ∀ n, Eats (preP pgP n)
 | 0 => by
  intro l p r h
  rw [preP] at h
  split at h
  ·cases h
  ·rw [Option.bind_eq_some_iff] at h
   obtain ⟨⟨q, r1⟩, e1, e2⟩ := h
   have h1 := atom_eats none (fun f h => by cases h) _ _ _ e1
   have h2 := post_eats _ _ _ _ _ e2
   omega
 | n + 1 => by
  intro l p r h
  have ih := pre_eats n
  rw [preP] at h
  split at h
  ·rw [Option.map_eq_some_iff] at h
   obtain ⟨⟨q, r1⟩, e1, e2⟩ := h
   have h1 := ih _ _ _ e1
   rw [List.length_drop] at h1
   cases e2
   omega
  ·rw [Option.bind_eq_some_iff] at h
   obtain ⟨⟨q, r1⟩, e1, e2⟩ := h
   have h1 := atom_eats (some (inf1 (preP pgP n))) (fun f h => by cases h; exact inf_eats 4 _ (inf_eats 6 _ (inf_eats 3 _ ih))) _ _ _ e1
   have h2 := post_eats _ _ _ _ _ e2
   omega
theorem rest_fuel (sep : Option UInt8) (one : List UInt8 → Option (RX × List UInt8)) (h1 : Eats one) : ∀ (f k : Nat) (acc : List RX) (l : List UInt8), l.length < f → l.length < k → restP sep one f acc l = restP sep one k acc l
 | 0, _, _, _, h, _ => absurd h (Nat.not_lt_zero _)
 | _ + 1, 0, _, _, _, h => absurd h (Nat.not_lt_zero _)
 | f + 1, k + 1, acc, l, hf, hk => by
  rw [restP, restP]
  split
  ·rfl
  ·rename_i l' e
   have hl := more_le e
   split
   ·rfl
   ·rename_i p r e2
    have h2 := h1 _ _ _ e2
    exact rest_fuel sep one h1 f k _ _ (by omega) (by omega)
end Go.Proofs.YtpkecepelcppiaaGreatDoor

namespace Go.Proofs.YtpkecepelcppiaaGreatDoor
open Go.RowKit
set_option maxRecDepth 100000
set_option maxHeartbeats 1000000

theorem val_parts {p : RX} (h : valR p = true) : sndR 48 p = true ∧ cntR 48 p ≤ 512 := by
 unfold valR at h
 rw [Bool.and_eq_true, decide_eq_true_eq] at h
 exact h
theorem mat_iff (p : RX) (s : List UInt8) : matR p s = true ↔ valR p = true ∧ memR s 48 p 0 s.length := by
 unfold matR
 rw [Bool.and_eq_true, decide_eq_true_eq]
 constructor
 ·rintro ⟨h1, h2⟩
  obtain ⟨i, hi, hm⟩ := ((ends_finds s 48 p (val_parts h1).1).mem [0] (by simp) (by simp) _).1 h2
  rw [List.mem_singleton.1 hi] at hm
  exact ⟨h1, hm⟩
 ·rintro ⟨h1, h2⟩
  exact ⟨h1, ((ends_finds s 48 p (val_parts h1).1).mem [0] (by simp) (by simp) _).2 ⟨0, by simp, h2⟩⟩

/-! How many nodes there are. -/
def cntN : Nat → RX → Nat
 | 0, _ => 0
 | d + 1, .mk _ _ _ _ _ l => 1 + (l.map (cntN d)).sum
theorem wrap_small (n : Int) (h1 : -9223372036854775808 ≤ n) (h2 : n ≤ 9223372036854775807) : wrap64 n = n := by
 unfold wrap64
 omega
theorem fold_cnt (f : RX → Int) (g : RX → Nat) : ∀ (l : List RX) (n : Nat), (∀ a ∈ l, f a = g a) → n + (l.map g).sum ≤ 9223372036854775807 → l.foldl (fun n a => wrap64 (n + f a)) (n : Int) = ((n + (l.map g).sum : Nat) : Int)
 | [], n, _, _ => by simp
 | a :: t, n, h, hb => by
  have hs : ((a :: t).map g).sum = g a + (t.map g).sum := by simp
  rw [hs] at hb ⊢
  rw [List.foldl_cons, h a List.mem_cons_self, wrap_small _ (by omega) (by omega)]
  have := fold_cnt f g t (n + g a) (fun x hx => h x (List.mem_cons_of_mem _ hx)) (by omega)
  rw [show ((n : Int) + (g a : Int)) = ((n + g a : Nat) : Int) by omega, this]
  congr 1
  omega
theorem sum_le_of_mem {g : RX → Nat} : ∀ {l : List RX} {a : RX}, a ∈ l → g a ≤ (l.map g).sum
 | b :: t, a, h => by
  have hs : ((b :: t).map g).sum = g b + (t.map g).sum := by simp
  rw [hs]
  rcases List.mem_cons.1 h with rfl | h
  ·omega
  ·have := sum_le_of_mem (g := g) h
   omega
theorem cnt_nat : ∀ (d : Nat) (p : RX), cntN d p ≤ 9223372036854775807 → cntR d p = (cntN d p : Int)
 | 0, p, _ => rfl
 | d + 1, .mk op lo hi mn mx l, h => by
  rw [cntN] at h ⊢
  rw [cntR]
  exact fold_cnt (cntR d) (cntN d) l 1 (fun a ha => cnt_nat d a (by have := sum_le_of_mem (g := cntN d) ha; omega)) (by omega)

/-! Literals. -/
/-! Reversed patterns. -/
theorem catM_app (f : List (Nat → Nat → Prop)) : ∀ (g : List (Nat → Nat → Prop)) (i j : Nat), catM (f ++ g) i j ↔ ∃ k, catM f i k ∧ catM g k j := by
 induction f with
 | nil => intro g i j; exact ⟨fun h => ⟨i, rfl, h⟩, fun ⟨k, h1, h2⟩ => by cases h1; exact h2⟩
 | cons a f ih =>
  intro g i j
  constructor
  ·rintro ⟨k, h1, h2⟩
   obtain ⟨m, h3, h4⟩ := (ih g k j).1 h2
   exact ⟨m, ⟨k, h1, h3⟩, h4⟩
  ·rintro ⟨m, ⟨k, h1, h3⟩, h4⟩
   exact ⟨k, h1, (ih g k j).2 ⟨m, h3, h4⟩⟩
theorem rng1_lt {s : List UInt8} {lo hi : Int} {i : Nat} (h : rng1 s lo hi i = true) : i < s.length := by
 unfold rng1 at h
 split at h
 ·cases h
 ·rename_i c hc
  exact (List.getElem?_eq_some_iff.1 hc).1
end Go.Proofs.YtpkecepelcppiaaGreatDoor

namespace Go.Proofs.YtpkecepelcppiaaGreatDoor
open Go.RowKit
set_option maxRecDepth 100000
set_option maxHeartbeats 2000000

theorem snd_mono : ∀ (d : Nat) (p : RX), sndR d p = true → sndR (d + 1) p = true
 | 0, p, h => by cases h
 | d + 1, .mk op lo hi mn mx l, h => by
  obtain ⟨hf, hl⟩ := snd_node h
  rw [sndR, Bool.and_eq_true, List.all_eq_true]
  exact ⟨hf, fun q hq => snd_mono d q (hl q hq)⟩
theorem snd_le {d e : Nat} (h : d ≤ e) {p : RX} (hp : sndR d p = true) : sndR e p = true := by
 induction h with
 | refl => exact hp
 | step _ ih => exact snd_mono _ p ih
theorem mem_mono (s : List UInt8) : ∀ (d : Nat) (p : RX), sndR d p = true → memR s (d + 1) p = memR s d p
 | 0, p, h => by cases h
 | d + 1, .mk op lo hi mn mx l, h => by
  obtain ⟨hf, hl⟩ := snd_node h
  have ih : ∀ q ∈ l, memR s (d + 1) q = memR s d q := fun q hq => mem_mono s d q (hl q hq)
  funext i j
  rw [memR, memR]
  have e1 : l.map (memR s (d + 1)) = l.map (memR s d) := List.map_congr_left ih
  have e2 : (∃ q ∈ l, memR s (d + 1) q i j) = ∃ q ∈ l, memR s d q i j := by
   apply propext
   constructor
   ·rintro ⟨q, hq, h⟩
    exact ⟨q, hq, by rw [← ih q hq]; exact h⟩
   ·rintro ⟨q, hq, h⟩
    exact ⟨q, hq, by rw [ih q hq]; exact h⟩
  have e3 : (∀ q ∈ l, memR s (d + 1) q i j) = ∀ q ∈ l, memR s d q i j := by
   apply propext
   constructor
   ·intro h q hq
    rw [← ih q hq]
    exact h q hq
   ·intro h q hq
    rw [ih q hq]
    exact h q hq
  have e4 : (∀ q ∈ l, ¬ memR s (d + 1) q i j) = ∀ q ∈ l, ¬ memR s d q i j := by
   apply propext
   constructor
   ·intro h q hq
    rw [← ih q hq]
    exact h q hq
   ·intro h q hq
    rw [ih q hq]
    exact h q hq
  have e5 : (∃ q, l = [q] ∧ ∃ n : Nat, mn ≤ n ∧ (mx < 0 ∨ (n : Int) ≤ mx) ∧ powM (memR s (d + 1) q) n i j) = ∃ q, l = [q] ∧ ∃ n : Nat, mn ≤ n ∧ (mx < 0 ∨ (n : Int) ≤ mx) ∧ powM (memR s d q) n i j := by
   apply propext
   constructor
   ·rintro ⟨q, rfl, g⟩
    rw [ih q List.mem_cons_self] at g
    exact ⟨q, rfl, g⟩
   ·rintro ⟨q, rfl, g⟩
    rw [← ih q List.mem_cons_self] at g
    exact ⟨q, rfl, g⟩
  rw [e1, e2, e3, e4, e5]
theorem mem_le (s : List UInt8) {d e : Nat} (h : d ≤ e) {p : RX} (hp : sndR d p = true) : memR s e p = memR s d p := by
 induction h with
 | refl => rfl
 | step hle ih => rw [mem_mono s _ p (snd_le hle hp), ih]
end Go.Proofs.YtpkecepelcppiaaGreatDoor

namespace Go.Proofs.YtpkecepelcppiaaGreatDoor
open Go.RowKit
set_option maxRecDepth 100000
set_option maxHeartbeats 2000000

theorem mem_op0 (s : List UInt8) (d : Nat) (p : RX) (h : p.op = 0) (i j : Nat) : ¬ memR s d p i j := by
 obtain ⟨op, lo, hi, mn, mx, l⟩ := p
 obtain rfl : op = 0 := h
 cases d <;> simp [memR]
theorem mem_op1 (s : List UInt8) (d : Nat) (p : RX) (h : p.op = 1) (i j : Nat) : memR s (d + 1) p i j ↔ i = j := by
 obtain ⟨op, lo, hi, mn, mx, l⟩ := p
 obtain rfl : op = 1 := h
 simp [memR]
end Go.Proofs.YtpkecepelcppiaaGreatDoor

namespace Go.Proofs.YtpkecepelcppiaaGreatDoor
open Go.RowKit
set_option maxRecDepth 100000
set_option maxHeartbeats 2000000

end Go.Proofs.YtpkecepelcppiaaGreatDoor

namespace Go.Proofs.YtpkecepelcppiaaGreatDoor
open Go.RowKit
set_option maxRecDepth 100000
set_option maxHeartbeats 1000000

theorem byteT_le (b : Nat) : (byteT b).length ≤ 4 := by
 unfold byteT
 split <;> simp
theorem decT_le (n : Nat) : (decT n).length ≤ 3 := by
 unfold decT
 split
 ·simp
 ·split <;> simp
theorem rngT_le (lo hi : Int) : (rngT lo hi).length ≤ 11 := by
 have h1 := byteT_le lo.toNat
 have h2 := byteT_le hi.toNat
 unfold rngT
 split
 ·omega
 ·split
  ·simp
  ·simp only [List.length_cons, List.length_append, List.length_nil]
   omega
theorem bndT_le (mn mx : Int) : (bndT mn mx).length ≤ 9 := by
 have h1 := decT_le mn.toNat
 have h2 := decT_le mx.toNat
 unfold bndT
 repeat' split
 all_goals simp only [List.length_cons, List.length_append, List.length_nil]
 all_goals omega
theorem argT_le (f : RX → List UInt8) (least : Nat) (p : RX) : (argT f least p).length ≤ (f p).length + 2 := by
 unfold argT
 split
 ·simp only [List.length_cons, List.length_append, List.length_nil]
  omega
 ·omega
theorem joinT_le (sep : List UInt8) (hs : sep.length ≤ 1) : ∀ xs : List (List UInt8), (joinT sep xs).length ≤ (xs.map fun x => x.length + 1).sum
 | [] => by simp [joinT]
 | [x] => by simp [joinT]
 | x :: y :: t => by
  have ih := joinT_le sep hs (y :: t)
  rw [List.map_cons, List.sum_cons]
  show (x ++ (sep ++ joinT sep (y :: t))).length ≤ _
  rw [List.length_append, List.length_append]
  omega
theorem args_le (d : Nat) (sep : List UInt8) (hs : sep.length ≤ 1) (least : Nat) (l : List RX) (h : ∀ q ∈ l, (showR d q).length + 3 ≤ 14 * cntN d q) :
  (joinT sep (l.map (argT (showR d) least))).length ≤ 14 * (l.map (cntN d)).sum := by
 refine Nat.le_trans (joinT_le sep hs _) ?_
 induction l with
 | nil => simp
 | cons q t ih =>
  have h1 := h q (by simp)
  have h2 := ih (fun x hx => h x (by simp [hx]))
  have h3 := argT_le (showR d) least q
  simp only [List.map_cons, List.sum_cons]
  simp only [List.map_map] at h2 ⊢
  omega
theorem show_le : ∀ (d : Nat) (p : RX), sndR d p = true → (showR d p).length + 3 ≤ 14 * cntN d p
 | 0, p, h => by cases h
 | d + 1, .mk op lo hi mn mx l, h => by
  have hk := (snd_node h).2
  have ih : ∀ q ∈ l, (showR d q).length + 3 ≤ 14 * cntN d q := fun q hq => show_le d q (hk q hq)
  have h1 := rngT_le lo hi
  have h2 := bndT_le mn mx
  have a1 := args_le d [124] (by simp) 2 l ih
  have a2 := args_le d [38] (by simp) 3 l ih
  have a3 := args_le d [] (by simp) 4 l ih
  have a5 := args_le d [] (by simp) 5 l ih
  have hc : cntN (d + 1) (.mk op lo hi mn mx l) = 1 + (l.map (cntN d)).sum := by rw [cntN]
  rw [hc]
  rw [showR]
  repeat' split
  all_goals try simp only [List.length_cons, List.length_append, List.length_nil]
  all_goals omega
theorem text_le {p : RX} (h : valR p = true) (hc : cntN 48 p ≤ 9223372036854775807) : (showR 48 p).length ≤ 8000 := by
 obtain ⟨h1, h2⟩ := val_parts h
 rw [cnt_nat 48 p hc] at h2
 have := show_le 48 p h1
 omega
theorem cnt_pos {d : Nat} {p : RX} (h : 1 ≤ d) : 1 ≤ cntN d p := by
 cases d with
 | zero => omega
 | succ d =>
  cases p
  rw [cntN]
  omega
end Go.Proofs.YtpkecepelcppiaaGreatDoor

namespace Go.Proofs.YtpkecepelcppiaaGreatDoor
open Go.RowKit
set_option maxRecDepth 100000
set_option maxHeartbeats 1000000

def Few (D : Nat) (f : List UInt8 → Option (RX × List UInt8)) : Prop := ∀ l p r, f l = some (p, r) → cntN D p + 2 * r.length + 1 ≤ 2 * l.length
theorem cnt_node (D : Nat) (op lo hi mn mx : Int) (l : List RX) (n : Nat) (h : (l.map (cntN (D - 1))).sum ≤ n) : cntN D (.mk op lo hi mn mx l) ≤ 1 + n := by
 cases D with
 | zero => rw [cntN]; omega
 | succ D => rw [cntN]; exact Nat.add_le_add_left h 1
theorem cnt_down : ∀ (D : Nat) (p : RX), cntN (D - 1) p ≤ cntN D p
 | 0, p => Nat.le_refl _
 | 1, p => by
  show cntN 0 p ≤ _
  rw [cntN]
  omega
 | D + 2, .mk op lo hi mn mx l => by
  show cntN (D + 1) _ ≤ _
  rw [cntN, cntN]
  refine Nat.add_le_add_left ?_ 1
  induction l with
  | nil => exact Nat.le_refl _
  | cons a t ih =>
   rw [List.map_cons, List.map_cons, List.sum_cons, List.sum_cons]
   have := cnt_down (D + 1) a
   exact Nat.add_le_add this ih
theorem cnt_leaf (D : Nat) (op lo hi mn mx : Int) : cntN D (.mk op lo hi mn mx []) ≤ 1 := cnt_node D op lo hi mn mx [] 0 (by simp)
theorem cnt_sng (D : Nat) (op lo hi mn mx : Int) (p : RX) : cntN D (.mk op lo hi mn mx [p]) ≤ 1 + cntN D p :=
 cnt_node D op lo hi mn mx [p] _ (by simp only [List.map_cons, List.map_nil, List.sum_cons, List.sum_nil, Nat.add_zero]; exact cnt_down D p)
theorem post_few (D : Nat) : ∀ (f : Nat) (p : RX) (l : List UInt8) (q : RX) (r : List UInt8), postP pgP f p l = some (q, r) → cntN D q + 2 * r.length ≤ cntN D p + 2 * l.length
 | 0, p, l, q, r, h => by rw [postP] at h; cases h
 | f + 1, p, l, q, r, h => by
  rw [postP] at h
  split at h
  ·cases h
   exact Nat.le_refl _
  ·cases h
  ·rename_i mn mx r' e
   have h1 := bnd_eats e
   have h2 := post_few D f _ _ _ _ h
   have h3 := cnt_sng D 5 0 0 mn mx p
   omega
def sumN (D : Nat) (l : List RX) : Nat := (l.map (cntN D)).sum
theorem sumN_snoc (D : Nat) (l : List RX) (p : RX) : sumN D (l ++ [p]) = sumN D l + cntN D p := by
 unfold sumN
 simp
theorem rest_few (D : Nat) (sep : Option UInt8) (one : List UInt8 → Option (RX × List UInt8)) (h1 : Few D one) : ∀ (f : Nat) (acc : List RX) (l : List UInt8) (ps : List RX) (r : List UInt8), restP sep one f acc l = some (ps, r) → sumN D ps + ps.length + 2 * r.length ≤ sumN D acc + acc.length + 2 * l.length ∧ acc.length ≤ ps.length
 | 0, acc, l, ps, r, h => by cases h
 | f + 1, acc, l, ps, r, h => by
  rw [restP] at h
  split at h
  ·cases h
   exact ⟨Nat.le_refl _, Nat.le_refl _⟩
  ·rename_i l' e
   have hl := more_le e
   split at h
   ·cases h
   ·rename_i p r' e2
    have h2 := h1 _ _ _ e2
    have h3 := rest_few D sep one h1 f _ _ _ _ h
    rw [sumN_snoc, List.length_append] at h3
    simp only [List.length_cons, List.length_nil] at h3
    omega
theorem join_few (D : Nat) (op : Int) (ps : List RX) (h : 1 ≤ ps.length) : cntN D (joinP op ps) + 1 ≤ sumN D ps + ps.length := by
 match ps, h with
 | [p], _ =>
  show cntN D p + 1 ≤ _
  unfold sumN
  simp
 | p :: q :: t, _ =>
  show cntN D (.mk op 0 0 0 0 (p :: q :: t)) + 1 ≤ _
  have h1 : ((p :: q :: t).map (cntN (D - 1))).sum ≤ sumN D (p :: q :: t) := by
   unfold sumN
   generalize p :: q :: t = l
   induction l with
   | nil => exact Nat.le_refl _
   | cons a t ih =>
    rw [List.map_cons, List.map_cons, List.sum_cons, List.sum_cons]
    exact Nat.add_le_add (cnt_down D a) ih
  have h2 := cnt_node D op 0 0 0 0 (p :: q :: t) _ h1
  simp only [List.length_cons]
  omega
theorem inf_few (D : Nat) (op : Int) (sep : Option UInt8) {one : List UInt8 → Option (RX × List UInt8)} (h1 : Few D one) : Few D (infP op sep one) := by
 intro l p r h
 unfold infP at h
 split at h
 ·cases h
 ·rename_i q r1 e1
  have h2 := h1 _ _ _ e1
  split at h
  ·cases h
  ·rename_i ps r2 e2
   obtain ⟨h3, h4⟩ := rest_few D sep one h1 _ _ _ _ _ e2
   have h5 := join_few D op ps (by simpa using h4)
   cases h
   have h6 : sumN D [q] = cntN D q := by unfold sumN; simp
   rw [h6] at h3
   simp only [List.length_cons, List.length_nil] at h3
   omega
theorem atom_few (D : Nat) (sub : Option (List UInt8 → Option (RX × List UInt8))) (h1 : ∀ f, sub = some f → Few D f) : Few D (atomP pgP sub) := by
 intro l p r h
 cases l with
 | nil => cases h
 | cons c t =>
  rw [List.length_cons]
  unfold atomP at h
  dsimp only at h
  split at h
  ·split at h
   ·cases h
    have := cnt_leaf D 1 0 0 0 0
    rw [List.length_drop]
    omega
   ·split at h
    ·cases h
    ·rename_i f
     split at h
     ·cases h
     ·rename_i q r1 e1
      have h2 := h1 _ rfl _ _ _ e1
      rw [Option.map_eq_some_iff] at h
      obtain ⟨r2, e2, e3⟩ := h
      have h3 := need_eats e2
      cases e3
      omega
  split at h
  ·split at h
   ·cases h
    have := cnt_leaf D 0 0 0 0 0
    rw [List.length_drop]
    omega
   ·split at h
    ·cases h
    ·rename_i lo t1 e1
     have h2 := one_eats _ _ _ e1
     split at h
     ·cases h
     ·rename_i t2 e2
      have h3 := need_eats e2
      split at h
      ·cases h
      ·rename_i hi t3 e3
       have h4 := one_eats _ _ _ e3
       rw [Option.map_eq_some_iff] at h
       obtain ⟨r2, e4, e5⟩ := h
       have h5 := need_eats e4
       have := cnt_leaf D 2 lo hi 0 0
       cases e5
       unfold rngR
       omega
  split at h
  ·cases h
   have := cnt_leaf D 2 (0 : Nat) (255 : Nat) 0 0
   unfold rngR
   omega
  ·rw [Option.map_eq_some_iff] at h
   obtain ⟨⟨b, r2⟩, e4, e5⟩ := h
   have h5 := one_eats (c :: t) _ _ e4
   rw [List.length_cons] at h5
   have := cnt_leaf D 2 b b 0 0
   have e6 : rngR b b = p := congrArg Prod.fst e5
   have e7 : r2 = r := congrArg Prod.snd e5
   rw [← e6, ← e7]
   unfold rngR
   omega
theorem pre_few (D : Nat) : ∀ n, Few D (preP pgP n)
 | 0 => by
  intro l p r h
  rw [preP] at h
  split at h
  ·cases h
  ·rw [Option.bind_eq_some_iff] at h
   obtain ⟨⟨q, r1⟩, e1, e2⟩ := h
   have h1 := atom_few D none (fun f h => by cases h) _ _ _ e1
   have h2 := post_few D _ _ _ _ _ e2
   omega
 | n + 1 => by
  intro l p r h
  have ih := pre_few D n
  rw [preP] at h
  split at h
  ·rw [Option.map_eq_some_iff] at h
   obtain ⟨⟨q, r1⟩, e1, e2⟩ := h
   have h1 := ih _ _ _ e1
   rw [List.length_drop] at h1
   have h2 := cnt_sng D 7 0 0 0 0 q
   cases e2
   unfold sngR
   omega
  ·rw [Option.bind_eq_some_iff] at h
   obtain ⟨⟨q, r1⟩, e1, e2⟩ := h
   have h1 := atom_few D (some (inf1 (preP pgP n))) (fun f h => by cases h; exact inf_few D 4 _ (inf_few D 6 _ (inf_few D 3 _ ih))) _ _ _ e1
   have h2 := post_few D _ _ _ _ _ e2
   omega
theorem inf1_few (D n : Nat) : Few D (inf1 (preP pgP n)) := inf_few D 4 _ (inf_few D 6 _ (inf_few D 3 _ (pre_few D n)))
end Go.Proofs.YtpkecepelcppiaaGreatDoor
