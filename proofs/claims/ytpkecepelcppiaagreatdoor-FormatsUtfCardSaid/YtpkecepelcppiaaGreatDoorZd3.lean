/- Patterns read: how many nodes there can be. No program in sight. Conditions: none. -/
import Derived.Test.YtpkecepelcppiaaGreatDoorZd1
namespace Go.Proofs.YtpkecepelcppiaaGreatDoor
open Go.RowKit
set_option maxRecDepth 100000
set_option maxHeartbeats 1000000

def hexQ (b : UInt8) : Option Nat := if 48 ≤ b.toNat ∧ b.toNat ≤ 57 then some (b.toNat - 48) else if 97 ≤ b.toNat ∧ b.toNat ≤ 102 then some (b.toNat - 87) else none
def oneQ : List UInt8 → Option (Nat × List UInt8)
 | [] => none
 | c :: t =>
  if c = 92 then
   (if t.head? = some 120 then
    (match t[1]?.bind hexQ, t[2]?.bind hexQ with
     | some a, some b => some (a * 16 + b, t.drop 3)
     | _, _ => none)
    else none)
  else if byteT c.toNat = [c] then some (c.toNat, t) else none
end Go.Proofs.YtpkecepelcppiaaGreatDoor

namespace Go.Proofs.YtpkecepelcppiaaGreatDoor
open Go.RowKit
set_option maxRecDepth 100000
set_option maxHeartbeats 1000000

def namesF : List (List UInt8) := [
 [98, 97, 115, 101, 54, 52],
 [100, 97, 116, 101],
 [100, 97, 116, 101, 116, 105, 109, 101],
 [104, 101, 120],
 [105, 110, 115, 116, 97, 110, 116],
 [105, 110, 116, 101, 103, 101, 114],
 [105, 112, 118, 52],
 [110, 97, 109, 101],
 [110, 117, 109, 98, 101, 114],
 [112, 97, 116, 104],
 [116, 105, 109, 101],
 [117, 117, 105, 100]]
def srcF : List (List UInt8) := [
 [40, 91, 65, 45, 90, 93, 124, 91, 97, 45, 122, 93, 124, 91, 48, 45, 57, 93, 124, 92, 120, 50, 98, 124, 47, 41, 123, 52, 44, 52, 125, 42, 40, 40, 91, 65, 45, 90, 93, 124, 91, 97, 45, 122, 93, 124, 91, 48, 45, 57, 93, 124, 92, 120, 50, 98, 124, 47, 41, 123, 50, 44, 50, 125, 61, 61, 124, 40, 91, 65, 45, 90, 93, 124, 91, 97, 45, 122, 93, 124, 91, 48, 45, 57, 93, 124, 92, 120, 50, 98, 124, 47, 41, 123, 51, 44, 51, 125, 61, 41, 63],
 [91, 48, 45, 57, 93, 123, 52, 44, 52, 125, 45, 40, 48, 91, 49, 45, 57, 93, 124, 49, 91, 48, 45, 50, 93, 41, 45, 40, 48, 91, 49, 45, 57, 93, 124, 91, 49, 45, 50, 93, 91, 48, 45, 57, 93, 124, 51, 91, 48, 45, 49, 93, 41],
 [91, 48, 45, 57, 93, 123, 52, 44, 52, 125, 45, 40, 48, 91, 49, 45, 57, 93, 124, 49, 91, 48, 45, 50, 93, 41, 45, 40, 48, 91, 49, 45, 57, 93, 124, 91, 49, 45, 50, 93, 91, 48, 45, 57, 93, 124, 51, 91, 48, 45, 49, 93, 41, 84, 40, 91, 48, 45, 49, 93, 91, 48, 45, 57, 93, 124, 50, 91, 48, 45, 51, 93, 41, 58, 91, 48, 45, 53, 93, 91, 48, 45, 57, 93, 58, 91, 48, 45, 53, 93, 91, 48, 45, 57, 93, 40, 92, 120, 50, 101, 91, 48, 45, 57, 93, 123, 49, 44, 57, 125, 41, 63],
 [40, 91, 48, 45, 57, 93, 124, 91, 97, 45, 102, 93, 41, 123, 50, 44, 50, 125, 43],
 [91, 48, 45, 57, 93, 123, 52, 44, 52, 125, 45, 40, 48, 91, 49, 45, 57, 93, 124, 49, 91, 48, 45, 50, 93, 41, 45, 40, 48, 91, 49, 45, 57, 93, 124, 91, 49, 45, 50, 93, 91, 48, 45, 57, 93, 124, 51, 91, 48, 45, 49, 93, 41, 84, 40, 91, 48, 45, 49, 93, 91, 48, 45, 57, 93, 124, 50, 91, 48, 45, 51, 93, 41, 58, 91, 48, 45, 53, 93, 91, 48, 45, 57, 93, 58, 91, 48, 45, 53, 93, 91, 48, 45, 57, 93, 40, 92, 120, 50, 101, 91, 48, 45, 57, 93, 123, 49, 44, 57, 125, 41, 63, 40, 90, 124, 40, 92, 120, 50, 98, 124, 45, 41, 40, 91, 48, 45, 49, 93, 91, 48, 45, 57, 93, 124, 50, 91, 48, 45, 51, 93, 41, 58, 91, 48, 45, 53, 93, 91, 48, 45, 57, 93, 41],
 [48, 124, 45, 63, 91, 49, 45, 57, 93, 91, 48, 45, 57, 93, 42],
 [40, 91, 48, 45, 57, 93, 124, 91, 49, 45, 57, 93, 91, 48, 45, 57, 93, 124, 49, 91, 48, 45, 57, 93, 91, 48, 45, 57, 93, 124, 50, 91, 48, 45, 52, 93, 91, 48, 45, 57, 93, 124, 50, 53, 91, 48, 45, 53, 93, 41, 40, 92, 120, 50, 101, 40, 91, 48, 45, 57, 93, 124, 91, 49, 45, 57, 93, 91, 48, 45, 57, 93, 124, 49, 91, 48, 45, 57, 93, 91, 48, 45, 57, 93, 124, 50, 91, 48, 45, 52, 93, 91, 48, 45, 57, 93, 124, 50, 53, 91, 48, 45, 53, 93, 41, 41, 123, 51, 44, 51, 125],
 [40, 91, 65, 45, 90, 93, 124, 91, 97, 45, 122, 93, 124, 95, 41, 40, 91, 65, 45, 90, 93, 124, 91, 97, 45, 122, 93, 124, 91, 48, 45, 57, 93, 124, 95, 41, 42],
 [45, 63, 40, 48, 124, 91, 49, 45, 57, 93, 91, 48, 45, 57, 93, 42, 41, 40, 92, 120, 50, 101, 91, 48, 45, 57, 93, 43, 41, 63, 40, 40, 101, 124, 69, 41, 40, 92, 120, 50, 98, 124, 45, 41, 63, 91, 48, 45, 57, 93, 43, 41, 63],
 [40, 47, 40, 91, 65, 45, 90, 93, 124, 91, 97, 45, 122, 93, 124, 91, 48, 45, 57, 93, 124, 95, 124, 45, 124, 92, 120, 50, 101, 41, 42, 41, 43],
 [40, 91, 48, 45, 49, 93, 91, 48, 45, 57, 93, 124, 50, 91, 48, 45, 51, 93, 41, 58, 91, 48, 45, 53, 93, 91, 48, 45, 57, 93, 58, 91, 48, 45, 53, 93, 91, 48, 45, 57, 93, 40, 92, 120, 50, 101, 91, 48, 45, 57, 93, 123, 49, 44, 57, 125, 41, 63],
 [40, 91, 48, 45, 57, 93, 124, 91, 97, 45, 102, 93, 41, 123, 56, 44, 56, 125, 45, 40, 91, 48, 45, 57, 93, 124, 91, 97, 45, 102, 93, 41, 123, 52, 44, 52, 125, 45, 40, 91, 48, 45, 57, 93, 124, 91, 97, 45, 102, 93, 41, 123, 52, 44, 52, 125, 45, 40, 91, 48, 45, 57, 93, 124, 91, 97, 45, 102, 93, 41, 123, 52, 44, 52, 125, 45, 40, 91, 48, 45, 57, 93, 124, 91, 97, 45, 102, 93, 41, 123, 49, 50, 44, 49, 50, 125]]
def numF (name : List UInt8) : Nat := namesF.findIdx (fun x => decide (x = name))
def patF (name : List UInt8) : Option RX := match srcF[numF name]? with
 | some l => parseR l
 | none => none
def chkF (name s : List UInt8) : Bool := match patF name with
 | some p => matR p s
 | none => false
def detF (s : List UInt8) : List (List UInt8) := namesF.filter fun n => chkF n s
theorem src_ok : srcF.all (fun l => (parseR l).isSome) = true := by decide +kernel
theorem src_some (n : Nat) (l : List UInt8) (h : srcF[n]? = some l) : (parseR l).isSome = true :=
 List.all_eq_true.1 src_ok l (List.mem_of_getElem? h)
theorem det_12 : detF [49, 50] = [[104, 101, 120], [105, 110, 116, 101, 103, 101, 114], [110, 117, 109, 98, 101, 114]] := by decide +kernel
theorem det_a1 : detF [97, 49] = [[104, 101, 120], [110, 97, 109, 101]] := by decide +kernel
theorem det_nil : detF [] = [[98, 97, 115, 101, 54, 52]] := by decide +kernel
theorem chk_dates : chkF [100, 97, 116, 101] [50, 48, 50, 52, 45, 48, 50, 45, 51, 48] = true ∧ chkF [100, 97, 116, 101] [50, 48, 50, 52, 45, 49, 51, 45, 48, 49] = false := by decide +kernel
/-! The search for a name, step by step. -/
def numG (name : List UInt8) (k : Nat) : Nat := k + (namesF.drop k).findIdx (fun x => decide (x = name))
theorem num_G (name : List UInt8) : numF name = numG name 0 := by
 unfold numF numG
 rw [List.drop_zero, Nat.zero_add]
theorem numG_step (name : List UInt8) (k : Nat) (hk : k < namesF.length) : numG name k = if namesF[k] = name then k else numG name (k + 1) := by
 unfold numG
 rw [List.drop_eq_getElem_cons hk, List.findIdx_cons]
 by_cases h : namesF[k] = name
 ·rw [if_pos h, decide_eq_true h]
  rfl
 ·rw [if_neg h, decide_eq_false h]
  show k + (List.findIdx _ _ + 1) = _
  omega
theorem numG_end (name : List UInt8) : numG name 12 = 12 := rfl
theorem num_le (name : List UInt8) : numF name ≤ 12 := List.findIdx_le_length
def srcOf (name : List UInt8) : List UInt8 := (srcF[numF name]?).getD []
theorem pat_src (name : List UInt8) (h : numF name < 12) : ∃ p, parseR (srcOf name) = some p ∧ patF name = some p := by
 have hl : numF name < srcF.length := h
 have h1 : srcF[numF name]? = some srcF[numF name] := List.getElem?_eq_getElem hl
 have h2 := src_some _ _ h1
 obtain ⟨p, hp⟩ := Option.isSome_iff_exists.1 h2
 refine ⟨p, ?_, ?_⟩
 ·unfold srcOf
  rw [h1]
  exact hp
 ·unfold patF
  rw [h1]
  exact hp
theorem pat_none (name : List UInt8) (h : ¬ numF name < 12) : patF name = none ∧ srcOf name = [] := by
 have h1 : srcF[numF name]? = none := List.getElem?_eq_none (Nat.le_of_not_lt h)
 unfold patF srcOf
 rw [h1]
 exact ⟨rfl, rfl⟩
def detG (s : List UInt8) (k : Nat) : List (List UInt8) := (namesF.take k).filter fun n => chkF n s
theorem detG_end (s : List UInt8) : detG s 12 = detF s := rfl
theorem detG_step (s : List UInt8) (k : Nat) (hk : k < namesF.length) : detG s (k + 1) = if chkF namesF[k] s = true then detG s k ++ [namesF[k]] else detG s k := by
 unfold detG
 rw [List.take_succ_eq_append_getElem hk, List.filter_append]
 by_cases h : chkF namesF[k] s = true
 ·rw [if_pos h]
  simp [h]
 ·rw [if_neg h]
  simp [h]
end Go.Proofs.YtpkecepelcppiaaGreatDoor

namespace Go.Proofs.YtpkecepelcppiaaGreatDoor
open Go.RowKit
set_option maxRecDepth 100000
set_option maxHeartbeats 1000000

def Eats {α : Type} (f : List UInt8 → Option (α × List UInt8)) : Prop := ∀ l p r, f l = some (p, r) → r.length < l.length
theorem one_eats : Eats oneP := by
 intro l p r h
 cases l with
 | nil => cases h
 | cons c t =>
  rw [List.length_cons]
  unfold oneP at h
  dsimp only at h
  by_cases hc : c = 92 ∧ 3 ≤ t.length ∧ t.head? = some 120
  ·rw [if_pos hc] at h
   cases h1 : hexV (t.getD 1 0) with
   | none => rw [h1] at h; cases h
   | some a =>
    cases h2 : hexV (t.getD 2 0) with
    | none => rw [h1, h2] at h; cases h
    | some b =>
     rw [h1, h2] at h
     simp only [Option.some.injEq, Prod.mk.injEq] at h
     rw [← h.2, List.length_drop]
     omega
  ·rw [if_neg hc] at h
   by_cases h2 : byteT c.toNat = [c]
   ·rw [if_pos h2] at h
    simp only [Option.some.injEq, Prod.mk.injEq] at h
    rw [← h.2]
    omega
   ·rw [if_neg h2] at h
    cases h
theorem numP3_eats : ∀ (k n : Nat) (l : List UInt8), (numP3 k n l).2.length ≤ l.length
 | 0, n, l => by rw [numP3]; exact Nat.le_refl _
 | k + 1, n, [] => by rw [numP3]; exact Nat.le_refl _
 | k + 1, n, c :: t => by
  rw [numP3]
  split
  ·have := numP3_eats k (10 * n + (c.toNat - 48)) t
   rw [List.length_cons]
   omega
  ·exact Nat.le_refl _
theorem num_eats {l : List UInt8} {n : Nat} {r : List UInt8} (h : numPR l = some (n, r)) : r.length ≤ l.length := by
 unfold numPR at h
 split at h
 ·cases h
 ·rename_i c t
  split at h
  ·have := numP3_eats 3 0 (c :: t)
   rw [Option.some.injEq] at h
   rw [h] at this
   exact this
  ·cases h
theorem need_eats {c : UInt8} {l r : List UInt8} (h : needP c l = some r) : r.length < l.length := by
 cases l with
 | nil => cases h
 | cons b t =>
  unfold needP at h
  dsimp only at h
  by_cases h1 : b = c
  ·rw [if_pos h1] at h
   cases h
   rw [List.length_cons]
   omega
  ·rw [if_neg h1] at h
   cases h
theorem bnd_eats {l r : List UInt8} {mn mx : Int} (h : bndP l = .yes mn mx r) : r.length < l.length := by
 cases l with
 | nil => cases h
 | cons c t =>
  rw [List.length_cons]
  unfold bndP at h
  dsimp only at h
  by_cases c1 : c = 42
  ·rw [if_pos c1] at h; cases h; omega
  rw [if_neg c1] at h
  by_cases c2 : c = 43
  ·rw [if_pos c2] at h; cases h; omega
  rw [if_neg c2] at h
  by_cases c3 : c = 63
  ·rw [if_pos c3] at h; cases h; omega
  rw [if_neg c3] at h
  by_cases c4 : c = 123
  ·rw [if_pos c4] at h
   cases e1 : numPR t with
   | none => rw [e1] at h; cases h
   | some x =>
    obtain ⟨n, t1⟩ := x
    rw [e1] at h
    have h1 := num_eats e1
    simp only at h
    cases e2 : needP 44 t1 with
    | none => rw [e2] at h; cases h
    | some t2 =>
     rw [e2] at h
     have h2 := need_eats e2
     simp only at h
     by_cases c5 : t2.head? = some 125
     ·rw [if_pos c5] at h
      cases h
      rw [List.length_drop]
      omega
     ·rw [if_neg c5] at h
      cases e3 : numPR t2 with
      | none => rw [e3] at h; cases h
      | some y =>
       obtain ⟨m, t3⟩ := y
       rw [e3] at h
       have h3 := num_eats e3
       simp only at h
       cases e4 : needP 125 t3 with
       | none => rw [e4] at h; cases h
       | some t4 =>
        rw [e4] at h
        have h4 := need_eats e4
        cases h
        omega
  ·rw [if_neg c4] at h
   cases h
theorem post_eats : ∀ (f : Nat) (p : RX) (l : List UInt8) (q : RX) (r : List UInt8), postP pgP f p l = some (q, r) → r.length ≤ l.length
 | 0, p, l, q, r, h => by rw [postP] at h; cases h
 | f + 1, p, l, q, r, h => by
  rw [postP] at h
  split at h
  ·cases h
   exact Nat.le_refl _
  ·cases h
  ·rename_i mn mx r' e
   have h1 := bnd_eats e
   have h2 := post_eats f _ _ _ _ h
   omega
theorem rest_eats (sep : Option UInt8) (one : List UInt8 → Option (RX × List UInt8)) (h1 : Eats one) : ∀ (f : Nat) (acc : List RX) (l : List UInt8) (ps : List RX) (r : List UInt8), restP sep one f acc l = some (ps, r) → r.length ≤ l.length
 | 0, acc, l, ps, r, h => by cases h
 | f + 1, acc, l, ps, r, h => by
  rw [restP] at h
  split at h
  ·cases h
   exact Nat.le_refl _
  ·rename_i l' e
   have hl : l'.length ≤ l.length := by
    cases l with
    | nil => cases e
    | cons c t =>
     unfold moreP at e
     dsimp only at e
     split at e
     ·split at e
      ·cases e; rw [List.length_cons]; omega
      ·cases e
     ·split at e
      ·cases e
      ·cases e; exact Nat.le_refl _
   split at h
   ·cases h
   ·rename_i p r' e2
    have h2 := h1 _ _ _ e2
    have h3 := rest_eats sep one h1 f _ _ _ _ h
    omega
theorem more_le {sep : Option UInt8} {l l' : List UInt8} (e : moreP sep l = some l') : l'.length ≤ l.length := by
 cases l with
 | nil => cases e
 | cons c t =>
  unfold moreP at e
  dsimp only at e
  split at e
  ·split at e
   ·cases e; rw [List.length_cons]; omega
   ·cases e
  ·split at e
   ·cases e
   ·cases e; exact Nat.le_refl _
theorem inf_eats (op : Int) (sep : Option UInt8) {one : List UInt8 → Option (RX × List UInt8)} (h1 : Eats one) : Eats (infP op sep one) := by
 intro l p r h
 unfold infP at h
 split at h
 ·cases h
 ·rename_i q r1 e1
  have h2 := h1 _ _ _ e1
  split at h
  ·cases h
  ·rename_i ps r2 e2
   have h3 := rest_eats sep one h1 _ _ _ _ _ e2
   cases h
   omega
theorem atom_eats (sub : Option (List UInt8 → Option (RX × List UInt8))) (h1 : ∀ f, sub = some f → Eats f) : Eats (atomP pgP sub) := by
 intro l p r h
 cases l with
 | nil => cases h
 | cons c t =>
  rw [List.length_cons]
  unfold atomP at h
  dsimp only at h
  split at h
  ·split at h
   ·cases h
    rw [List.length_drop]
    omega
   ·split at h
    ·cases h
    ·rename_i f
     split at h
     ·cases h
     ·rename_i q r1 e1
      have h2 := h1 _ rfl _ _ _ e1
      rw [Option.map_eq_some_iff] at h
      obtain ⟨r2, e2, e3⟩ := h
      have h3 := need_eats e2
      cases e3
      omega
  split at h
  ·split at h
   ·cases h
    rw [List.length_drop]
    omega
   ·split at h
    ·cases h
    ·rename_i lo t1 e1
     have h2 := one_eats _ _ _ e1
     split at h
     ·cases h
     ·rename_i t2 e2
      have h3 := need_eats e2
      split at h
      ·cases h
      ·rename_i hi t3 e3
       have h4 := one_eats _ _ _ e3
       rw [Option.map_eq_some_iff] at h
       obtain ⟨r2, e4, e5⟩ := h
       have h5 := need_eats e4
       cases e5
       omega
  split at h
  ·cases h
   omega
  ·rw [Option.map_eq_some_iff] at h
   obtain ⟨⟨b, r2⟩, e4, e5⟩ := h
   have h5 := one_eats (c :: t) _ _ e4
   rw [List.length_cons] at h5
   cases e5
   omega
theorem pre_eats : ∀ n, Eats (preP pgP n)
 | 0 => by
  intro l p r h
  rw [preP] at h
  split at h
  ·cases h
  ·rw [Option.bind_eq_some_iff] at h
   obtain ⟨⟨q, r1⟩, e1, e2⟩ := h
   have h1 := atom_eats none (fun f h => by cases h) _ _ _ e1
   have h2 := post_eats _ _ _ _ _ e2
   omega
 | n + 1 => by
  intro l p r h
  have ih := pre_eats n
  rw [preP] at h
  split at h
  ·rw [Option.map_eq_some_iff] at h
   obtain ⟨⟨q, r1⟩, e1, e2⟩ := h
   have h1 := ih _ _ _ e1
   rw [List.length_drop] at h1
   cases e2
   omega
  ·rw [Option.bind_eq_some_iff] at h
   obtain ⟨⟨q, r1⟩, e1, e2⟩ := h
   have h1 := atom_eats (some (inf1 (preP pgP n))) (fun f h => by cases h; exact inf_eats 4 _ (inf_eats 6 _ (inf_eats 3 _ ih))) _ _ _ e1
   have h2 := post_eats _ _ _ _ _ e2
   omega
theorem rest_fuel (sep : Option UInt8) (one : List UInt8 → Option (RX × List UInt8)) (h1 : Eats one) : ∀ (f k : Nat) (acc : List RX) (l : List UInt8), l.length < f → l.length < k → restP sep one f acc l = restP sep one k acc l
 | 0, _, _, _, h, _ => absurd h (Nat.not_lt_zero _)
 | _ + 1, 0, _, _, _, h => absurd h (Nat.not_lt_zero _)
 | f + 1, k + 1, acc, l, hf, hk => by
  rw [restP, restP]
  split
  ·rfl
  ·rename_i l' e
   have hl := more_le e
   split
   ·rfl
   ·rename_i p r e2
    have h2 := h1 _ _ _ e2
    exact rest_fuel sep one h1 f k _ _ (by omega) (by omega)
end Go.Proofs.YtpkecepelcppiaaGreatDoor

namespace Go.Proofs.YtpkecepelcppiaaGreatDoor
open Go.RowKit
set_option maxRecDepth 100000
set_option maxHeartbeats 1000000

theorem val_parts {p : RX} (h : valR p = true) : sndR 48 p = true ∧ cntR 48 p ≤ 512 := by
 unfold valR at h
 rw [Bool.and_eq_true, decide_eq_true_eq] at h
 exact h
/-! How many nodes there are. -/
def cntN : Nat → RX → Nat
 | 0, _ => 0
 | d + 1, .mk _ _ _ _ _ l => 1 + (l.map (cntN d)).sum
theorem wrap_small (n : Int) (h1 : -9223372036854775808 ≤ n) (h2 : n ≤ 9223372036854775807) : wrap64 n = n := by
 unfold wrap64
 omega
theorem fold_cnt (f : RX → Int) (g : RX → Nat) : ∀ (l : List RX) (n : Nat), (∀ a ∈ l, f a = g a) → n + (l.map g).sum ≤ 9223372036854775807 → l.foldl (fun n a => wrap64 (n + f a)) (n : Int) = ((n + (l.map g).sum : Nat) : Int)
 | [], n, _, _ => by simp
 | a :: t, n, h, hb => by
  have hs : ((a :: t).map g).sum = g a + (t.map g).sum := by simp
  rw [hs] at hb ⊢
  rw [List.foldl_cons, h a List.mem_cons_self, wrap_small _ (by omega) (by omega)]
  have := fold_cnt f g t (n + g a) (fun x hx => h x (List.mem_cons_of_mem _ hx)) (by omega)
  rw [show ((n : Int) + (g a : Int)) = ((n + g a : Nat) : Int) by omega, this]
  congr 1
  omega
theorem sum_le_of_mem {g : RX → Nat} : ∀ {l : List RX} {a : RX}, a ∈ l → g a ≤ (l.map g).sum
 | b :: t, a, h => by
  have hs : ((b :: t).map g).sum = g b + (t.map g).sum := by simp
  rw [hs]
  rcases List.mem_cons.1 h with rfl | h
  ·omega
  ·have := sum_le_of_mem (g := g) h
   omega
theorem cnt_nat : ∀ (d : Nat) (p : RX), cntN d p ≤ 9223372036854775807 → cntR d p = (cntN d p : Int)
 | 0, p, _ => rfl
 | d + 1, .mk op lo hi mn mx l, h => by
  rw [cntN] at h ⊢
  rw [cntR]
  exact fold_cnt (cntR d) (cntN d) l 1 (fun a ha => cnt_nat d a (by have := sum_le_of_mem (g := cntN d) ha; omega)) (by omega)

/-! Literals. -/
/-! Reversed patterns. -/
theorem rng1_lt {s : List UInt8} {lo hi : Int} {i : Nat} (h : rng1 s lo hi i = true) : i < s.length := by
 unfold rng1 at h
 split at h
 ·cases h
 ·rename_i c hc
  exact (List.getElem?_eq_some_iff.1 hc).1
end Go.Proofs.YtpkecepelcppiaaGreatDoor

namespace Go.Proofs.YtpkecepelcppiaaGreatDoor
open Go.RowKit
set_option maxRecDepth 100000
set_option maxHeartbeats 2000000

end Go.Proofs.YtpkecepelcppiaaGreatDoor

namespace Go.Proofs.YtpkecepelcppiaaGreatDoor
open Go.RowKit
set_option maxRecDepth 100000
set_option maxHeartbeats 2000000

end Go.Proofs.YtpkecepelcppiaaGreatDoor

namespace Go.Proofs.YtpkecepelcppiaaGreatDoor
open Go.RowKit
set_option maxRecDepth 100000
set_option maxHeartbeats 2000000

end Go.Proofs.YtpkecepelcppiaaGreatDoor

namespace Go.Proofs.YtpkecepelcppiaaGreatDoor
open Go.RowKit
set_option maxRecDepth 100000
set_option maxHeartbeats 1000000

theorem byteT_le (b : Nat) : (byteT b).length ≤ 4 := by
 unfold byteT
 split <;> simp
theorem decT_le (n : Nat) : (decT n).length ≤ 3 := by
 unfold decT
 split
 ·simp
 ·split <;> simp
theorem rngT_le (lo hi : Int) : (rngT lo hi).length ≤ 11 := by
 have h1 := byteT_le lo.toNat
 have h2 := byteT_le hi.toNat
 unfold rngT
 split
 ·omega
 ·split
  ·simp
  ·simp only [List.length_cons, List.length_append, List.length_nil]
   omega
theorem bndT_le (mn mx : Int) : (bndT mn mx).length ≤ 9 := by
 have h1 := decT_le mn.toNat
 have h2 := decT_le mx.toNat
 unfold bndT
 repeat' split
 all_goals simp only [List.length_cons, List.length_append, List.length_nil]
 all_goals omega
theorem argT_le (f : RX → List UInt8) (least : Nat) (p : RX) : (argT f least p).length ≤ (f p).length + 2 := by
 unfold argT
 split
 ·simp only [List.length_cons, List.length_append, List.length_nil]
  omega
 ·omega
theorem joinT_le (sep : List UInt8) (hs : sep.length ≤ 1) : ∀ xs : List (List UInt8), (joinT sep xs).length ≤ (xs.map fun x => x.length + 1).sum
 | [] => by simp [joinT]
 | [x] => by simp [joinT]
 | x :: y :: t => by
  have ih := joinT_le sep hs (y :: t)
  rw [List.map_cons, List.sum_cons]
  show (x ++ (sep ++ joinT sep (y :: t))).length ≤ _
  rw [List.length_append, List.length_append]
  omega
theorem args_le (d : Nat) (sep : List UInt8) (hs : sep.length ≤ 1) (least : Nat) (l : List RX) (h : ∀ q ∈ l, (showR d q).length + 3 ≤ 14 * cntN d q) :
  (joinT sep (l.map (argT (showR d) least))).length ≤ 14 * (l.map (cntN d)).sum := by
 refine Nat.le_trans (joinT_le sep hs _) ?_
 induction l with
 | nil => simp
 | cons q t ih =>
  have h1 := h q (by simp)
  have h2 := ih (fun x hx => h x (by simp [hx]))
  have h3 := argT_le (showR d) least q
  simp only [List.map_cons, List.sum_cons]
  simp only [List.map_map] at h2 ⊢
  omega
theorem show_le : ∀ (d : Nat) (p : RX), sndR d p = true → (showR d p).length + 3 ≤ 14 * cntN d p
 | 0, p, h => by cases h
 | d + 1, .mk op lo hi mn mx l, h => by
  have hk := (snd_node h).2
  have ih : ∀ q ∈ l, (showR d q).length + 3 ≤ 14 * cntN d q := fun q hq => show_le d q (hk q hq)
  have h1 := rngT_le lo hi
  have h2 := bndT_le mn mx
  have a1 := args_le d [124] (by simp) 2 l ih
  have a2 := args_le d [38] (by simp) 3 l ih
  have a3 := args_le d [] (by simp) 4 l ih
  have a5 := args_le d [] (by simp) 5 l ih
  have hc : cntN (d + 1) (.mk op lo hi mn mx l) = 1 + (l.map (cntN d)).sum := by rw [cntN]
  rw [hc]
  rw [showR]
  repeat' split
  all_goals try simp only [List.length_cons, List.length_append, List.length_nil]
  all_goals omega
theorem text_le {p : RX} (h : valR p = true) (hc : cntN 48 p ≤ 9223372036854775807) : (showR 48 p).length ≤ 8000 := by
 obtain ⟨h1, h2⟩ := val_parts h
 rw [cnt_nat 48 p hc] at h2
 have := show_le 48 p h1
 omega
end Go.Proofs.YtpkecepelcppiaaGreatDoor

namespace Go.Proofs.YtpkecepelcppiaaGreatDoor
open Go.RowKit
set_option maxRecDepth 100000
set_option maxHeartbeats 1000000

def Few (D : Nat) (f : List UInt8 → Option (RX × List UInt8)) : Prop := ∀ l p r, f l = some (p, r) → cntN D p + 2 * r.length + 1 ≤ 2 * l.length
theorem cnt_node (D : Nat) (op lo hi mn mx : Int) (l : List RX) (n : Nat) (h : (l.map (cntN (D - 1))).sum ≤ n) : cntN D (.mk op lo hi mn mx l) ≤ 1 + n := by
 cases D with
 | zero => rw [cntN]; omega
 | succ D => rw [cntN]; exact Nat.add_le_add_left h 1
theorem cnt_down : ∀ (D : Nat) (p : RX), cntN (D - 1) p ≤ cntN D p
 | 0, p => Nat.le_refl _
 | 1, p => by
  show cntN 0 p ≤ _
  rw [cntN]
  omega
 | D + 2, .mk op lo hi mn mx l => by
  show cntN (D + 1) _ ≤ _
  rw [cntN, cntN]
  refine Nat.add_le_add_left ?_ 1
  induction l with
  | nil => exact Nat.le_refl _
  | cons a t ih =>
   rw [List.map_cons, List.map_cons, List.sum_cons, List.sum_cons]
   have := cnt_down (D + 1) a
   exact Nat.add_le_add this ih
theorem cnt_leaf (D : Nat) (op lo hi mn mx : Int) : cntN D (.mk op lo hi mn mx []) ≤ 1 := cnt_node D op lo hi mn mx [] 0 (by simp)
theorem cnt_sng (D : Nat) (op lo hi mn mx : Int) (p : RX) : cntN D (.mk op lo hi mn mx [p]) ≤ 1 + cntN D p :=
 cnt_node D op lo hi mn mx [p] _ (by simp only [List.map_cons, List.map_nil, List.sum_cons, List.sum_nil, Nat.add_zero]; exact cnt_down D p)
theorem post_few (D : Nat) : ∀ (f : Nat) (p : RX) (l : List UInt8) (q : RX) (r : List UInt8), postP pgP f p l = some (q, r) → cntN D q + 2 * r.length ≤ cntN D p + 2 * l.length
 | 0, p, l, q, r, h => by rw [postP] at h; cases h
 | f + 1, p, l, q, r, h => by
  rw [postP] at h
  split at h
  ·cases h
   exact Nat.le_refl _
  ·cases h
  ·rename_i mn mx r' e
   have h1 := bnd_eats e
   have h2 := post_few D f _ _ _ _ h
   have h3 := cnt_sng D 5 0 0 mn mx p
   omega
def sumN (D : Nat) (l : List RX) : Nat := (l.map (cntN D)).sum
theorem sumN_snoc (D : Nat) (l : List RX) (p : RX) : sumN D (l ++ [p]) = sumN D l + cntN D p := by
 unfold sumN
 simp
theorem rest_few (D : Nat) (sep : Option UInt8) (one : List UInt8 → Option (RX × List UInt8)) (h1 : Few D one) : ∀ (f : Nat) (acc : List RX) (l : List UInt8) (ps : List RX) (r : List UInt8), restP sep one f acc l = some (ps, r) → sumN D ps + ps.length + 2 * r.length ≤ sumN D acc + acc.length + 2 * l.length ∧ acc.length ≤ ps.length
 | 0, acc, l, ps, r, h => by cases h
 | f + 1, acc, l, ps, r, h => by
  rw [restP] at h
  split at h
  ·cases h
   exact ⟨Nat.le_refl _, Nat.le_refl _⟩
  ·rename_i l' e
   have hl := more_le e
   split at h
   ·cases h
   ·rename_i p r' e2
    have h2 := h1 _ _ _ e2
    have h3 := rest_few D sep one h1 f _ _ _ _ h
    rw [sumN_snoc, List.length_append] at h3
    simp only [List.length_cons, List.length_nil] at h3
    omega
theorem join_few (D : Nat) (op : Int) (ps : List RX) (h : 1 ≤ ps.length) : cntN D (joinP op ps) + 1 ≤ sumN D ps + ps.length := by
 match ps, h with
 | [p], _ =>
  show cntN D p + 1 ≤ _
  unfold sumN
  simp
 | p :: q :: t, _ =>
  show cntN D (.mk op 0 0 0 0 (p :: q :: t)) + 1 ≤ _
  have h1 : ((p :: q :: t).map (cntN (D - 1))).sum ≤ sumN D (p :: q :: t) := by
   unfold sumN
   generalize p :: q :: t = l
   induction l with
   | nil => exact Nat.le_refl _
   | cons a t ih =>
    rw [List.map_cons, List.map_cons, List.sum_cons, List.sum_cons]
    exact Nat.add_le_add (cnt_down D a) ih
  have h2 := cnt_node D op 0 0 0 0 (p :: q :: t) _ h1
  simp only [List.length_cons]
  omega
theorem inf_few (D : Nat) (op : Int) (sep : Option UInt8) {one : List UInt8 → Option (RX × List UInt8)} (h1 : Few D one) : Few D (infP op sep one) := by
 intro l p r h
 unfold infP at h
 split at h
 ·cases h
 ·rename_i q r1 e1
  have h2 := h1 _ _ _ e1
  split at h
  ·cases h
  ·rename_i ps r2 e2
   obtain ⟨h3, h4⟩ := rest_few D sep one h1 _ _ _ _ _ e2
   have h5 := join_few D op ps (by simpa using h4)
   cases h
   have h6 : sumN D [q] = cntN D q := by unfold sumN; simp
   rw [h6] at h3
   simp only [List.length_cons, List.length_nil] at h3
   omega
theorem atom_few (D : Nat) (sub : Option (List UInt8 → Option (RX × List UInt8))) (h1 : ∀ f, sub = some f → Few D f) : Few D (atomP pgP sub) := by
 intro l p r h
 cases l with
 | nil => cases h
 | cons c t =>
  rw [List.length_cons]
  unfold atomP at h
  dsimp only at h
  split at h
  ·split at h
   ·cases h
    have := cnt_leaf D 1 0 0 0 0
    rw [List.length_drop]
    omega
   ·split at h
    ·cases h
    ·rename_i f
     split at h
     ·cases h
     ·rename_i q r1 e1
      have h2 := h1 _ rfl _ _ _ e1
      rw [Option.map_eq_some_iff] at h
      obtain ⟨r2, e2, e3⟩ := h
      have h3 := need_eats e2
      cases e3
      omega
  split at h
  ·split at h
   ·cases h
    have := cnt_leaf D 0 0 0 0 0
    rw [List.length_drop]
    omega
   ·split at h
    ·cases h
    ·rename_i lo t1 e1
     have h2 := one_eats _ _ _ e1
     split at h
     ·cases h
     ·rename_i t2 e2
      have h3 := need_eats e2
      split at h
      ·cases h
      ·rename_i hi t3 e3
       have h4 := one_eats _ _ _ e3
       rw [Option.map_eq_some_iff] at h
       obtain ⟨r2, e4, e5⟩ := h
       have h5 := need_eats e4
       have := cnt_leaf D 2 lo hi 0 0
       cases e5
       unfold rngR
       omega
  split at h
  ·cases h
   have := cnt_leaf D 2 (0 : Nat) (255 : Nat) 0 0
   unfold rngR
   omega
  ·rw [Option.map_eq_some_iff] at h
   obtain ⟨⟨b, r2⟩, e4, e5⟩ := h
   have h5 := one_eats (c :: t) _ _ e4
   rw [List.length_cons] at h5
   have := cnt_leaf D 2 b b 0 0
   have e6 : rngR b b = p := congrArg Prod.fst e5
   have e7 : r2 = r := congrArg Prod.snd e5
   rw [← e6, ← e7]
   unfold rngR
   omega
theorem pre_few (D : Nat) : ∀ n, Few D (preP pgP n)
 | 0 => by
  intro l p r h
  rw [preP] at h
  split at h
  ·cases h
  ·rw [Option.bind_eq_some_iff] at h
   obtain ⟨⟨q, r1⟩, e1, e2⟩ := h
   have h1 := atom_few D none (fun f h => by cases h) _ _ _ e1
   have h2 := post_few D _ _ _ _ _ e2
   omega
 | n + 1 => by
  intro l p r h
  have ih := pre_few D n
  rw [preP] at h
  split at h
  ·rw [Option.map_eq_some_iff] at h
   obtain ⟨⟨q, r1⟩, e1, e2⟩ := h
   have h1 := ih _ _ _ e1
   rw [List.length_drop] at h1
   have h2 := cnt_sng D 7 0 0 0 0 q
   cases e2
   unfold sngR
   omega
  ·rw [Option.bind_eq_some_iff] at h
   obtain ⟨⟨q, r1⟩, e1, e2⟩ := h
   have h1 := atom_few D (some (inf1 (preP pgP n))) (fun f h => by cases h; exact inf_few D 4 _ (inf_few D 6 _ (inf_few D 3 _ ih))) _ _ _ e1
   have h2 := post_few D _ _ _ _ _ e2
   omega
theorem inf1_few (D n : Nat) : Few D (inf1 (preP pgP n)) := inf_few D 4 _ (inf_few D 6 _ (inf_few D 3 _ (pre_few D n)))
end Go.Proofs.YtpkecepelcppiaaGreatDoor
