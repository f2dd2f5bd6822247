/- What a pattern matches, and that the program's way finds it: plain words, no program in sight. Conditions: sound patterns. -/
import Derived.Test.YtpkecepelcppiaaGreatDoorRows
import Derived.ProofKit
import Derived.Deep.Slices
namespace Go.Proofs.YtpkecepelcppiaaGreatDoor
open Go.RowKit
set_option maxRecDepth 100000

end Go.Proofs.YtpkecepelcppiaaGreatDoor

namespace Go.Proofs.YtpkecepelcppiaaGreatDoor
open Go.RowKit
set_option maxRecDepth 100000
set_option maxHeartbeats 1000000

inductive RX where
 | mk (op lo hi mn mx : Int) (args : List RX)
def RX.op : RX → Int | .mk a _ _ _ _ _ => a
def RX.lo : RX → Int | .mk _ a _ _ _ _ => a
def RX.hi : RX → Int | .mk _ _ a _ _ _ => a
def RX.mn : RX → Int | .mk _ _ _ a _ _ => a
def RX.mx : RX → Int | .mk _ _ _ _ a _ => a
def RX.args : RX → List RX | .mk _ _ _ _ _ a => a
def formR (op lo hi mn mx : Int) (n : Nat) : Bool :=
 if op = 0 ∨ op = 1 then decide (n = 0 ∧ lo = 0 ∧ hi = 0 ∧ mn = 0 ∧ mx = 0)
 else if op = 2 then decide (n = 0 ∧ 0 ≤ lo ∧ lo ≤ hi ∧ hi ≤ 255 ∧ mn = 0 ∧ mx = 0)
 else if op = 3 ∨ op = 4 ∨ op = 6 then decide (2 ≤ n ∧ lo = 0 ∧ hi = 0 ∧ mn = 0 ∧ mx = 0)
 else if op = 5 then decide (n = 1 ∧ lo = 0 ∧ hi = 0 ∧ 0 ≤ mn ∧ mn ≤ 64 ∧ (mx = -1 ∨ (mn ≤ mx ∧ mx ≤ 64)))
 else if op = 7 then decide (n = 1 ∧ lo = 0 ∧ hi = 0 ∧ mn = 0 ∧ mx = 0)
 else false
def sndR : Nat → RX → Bool
 | 0, _ => false
 | d + 1, .mk op lo hi mn mx l => formR op lo hi mn mx l.length && l.all (sndR d)
def cntR : Nat → RX → Int
 | 0, _ => 0
 | d + 1, .mk _ _ _ _ _ l => l.foldl (fun n a => wrap64 (n + cntR d a)) 1
def valR (p : RX) : Bool := sndR 48 p && decide (cntR 48 p ≤ 512)

/-! Texts. -/
def signR : List UInt8 := [124, 38, 33, 42, 43, 63, 123, 125, 40, 41, 91, 93, 46, 92]
def hexR (n : Nat) : UInt8 := if n < 10 then UInt8.ofNat (48 + n) else UInt8.ofNat (87 + n)
def byteT (b : Nat) : List UInt8 := if 33 ≤ b ∧ b ≤ 126 ∧ UInt8.ofNat b ∉ signR then [UInt8.ofNat b] else [92, 120, hexR (b / 16), hexR (b % 16)]
def decT (n : Nat) : List UInt8 := if n < 10 then [UInt8.ofNat (48 + n)] else if n < 100 then [UInt8.ofNat (48 + n / 10), UInt8.ofNat (48 + n % 10)] else [UInt8.ofNat (48 + n / 100), UInt8.ofNat (48 + n / 10 % 10), UInt8.ofNat (48 + n % 10)]
def bndT (mn mx : Int) : List UInt8 :=
 if mn = 0 ∧ mx = -1 then [42] else if mn = 1 ∧ mx = -1 then [43] else if mn = 0 ∧ mx = 1 then [63]
 else if mx = -1 then 123 :: (decT mn.toNat ++ [44, 125]) else 123 :: (decT mn.toNat ++ (44 :: (decT mx.toNat ++ [125])))
def rowR (op : Int) : Nat := if op = 4 then 1 else if op = 6 then 2 else if op = 3 then 3 else if op = 7 then 4 else if op = 5 then 5 else 6
def argT (f : RX → List UInt8) (least : Nat) (p : RX) : List UInt8 := if rowR p.op < least then 40 :: (f p ++ [41]) else f p
def joinT (sep : List UInt8) : List (List UInt8) → List UInt8
 | [] => []
 | [x] => x
 | x :: t => x ++ (sep ++ joinT sep t)
def rngT (lo hi : Int) : List UInt8 := if lo = hi then byteT lo.toNat else if lo = 0 ∧ hi = 255 then [46] else 91 :: (byteT lo.toNat ++ (45 :: (byteT hi.toNat ++ [93])))
def showR : Nat → RX → List UInt8
 | 0, _ => []
 | d + 1, .mk op lo hi mn mx l =>
  if op = 0 then [91, 93] else if op = 1 then [40, 41] else if op = 2 then rngT lo hi
  else if op = 4 then joinT [124] (l.map (argT (showR d) 2))
  else if op = 6 then joinT [38] (l.map (argT (showR d) 3))
  else if op = 3 then joinT [] (l.map (argT (showR d) 4))
  else if op = 7 then 33 :: joinT [] (l.map (argT (showR d) 4))
  else joinT [] (l.map (argT (showR d) 5)) ++ bndT mn mx
def textR (p : RX) : List UInt8 := if valR p then showR 48 p else []

/-! Texts read: none: it is no text of a pattern (the program panics). -/
def sngR (op : Int) (p : RX) : RX := .mk op 0 0 0 0 [p]
def rngR (lo hi : Nat) : RX := .mk 2 lo hi 0 0 []
def hexV (b : UInt8) : Option Nat := if 48 ≤ b.toNat ∧ b.toNat ≤ 57 then some (b.toNat - 48) else if 97 ≤ b.toNat ∧ b.toNat ≤ 102 then some (b.toNat - 87) else if 65 ≤ b.toNat ∧ b.toNat ≤ 70 then some (b.toNat - 55) else none
def oneP : List UInt8 → Option (Nat × List UInt8)
 | [] => none
 | c :: t =>
  if c = 92 ∧ 3 ≤ t.length ∧ t.head? = some 120 then
   (match hexV (t.getD 1 0), hexV (t.getD 2 0) with
    | some a, some b => some (16 * a + b, t.drop 3)
    | _, _ => none)
  else if byteT c.toNat = [c] then some (c.toNat, t) else none
def numP3 : Nat → Nat → List UInt8 → Nat × List UInt8
 | 0, n, l => (n, l)
 | _ + 1, n, [] => (n, [])
 | k + 1, n, c :: t => if 48 ≤ c.toNat ∧ c.toNat ≤ 57 then numP3 k (10 * n + (c.toNat - 48)) t else (n, c :: t)
def numPR (l : List UInt8) : Option (Nat × List UInt8) :=
 match l with
 | [] => none
 | c :: _ => if 48 ≤ c.toNat ∧ c.toNat ≤ 57 then some (numP3 3 0 l) else none
def needP (c : UInt8) : List UInt8 → Option (List UInt8)
 | [] => none
 | b :: t => if b = c then some t else none
inductive BndP where
 | no
 | bad
 | yes (mn mx : Int) (r : List UInt8)
structure PG where
 one : List UInt8 → Option (Nat × List UInt8)
 bnd : List UInt8 → BndP
 fin : RX → List UInt8 → Option (RX × List UInt8)
def bndP : List UInt8 → BndP
 | [] => .no
 | c :: t =>
  if c = 42 then .yes 0 (-1) t else if c = 43 then .yes 1 (-1) t else if c = 63 then .yes 0 1 t
  else if c = 123 then
   (match numPR t with
    | none => .bad
    | some (n, t1) =>
     match needP 44 t1 with
     | none => .bad
     | some t2 =>
      if t2.head? = some 125 then .yes n (-1) (t2.drop 1)
      else
       match numPR t2 with
       | none => .bad
       | some (m, t3) =>
        match needP 125 t3 with
        | none => .bad
        | some t4 => .yes n m t4)
  else .no
def postP (g : PG) : Nat → RX → List UInt8 → Option (RX × List UInt8)
 | 0, p, l => g.fin p l
 | f + 1, p, l =>
  match g.bnd l with
  | .no => some (p, l)
  | .bad => none
  | .yes mn mx r => postP g f (.mk 5 0 0 mn mx [p]) r
def atomP (g : PG) (sub : Option (List UInt8 → Option (RX × List UInt8))) : List UInt8 → Option (RX × List UInt8)
 | [] => none
 | c :: t =>
  if c = 40 then
   (if t.head? = some 41 then some (.mk 1 0 0 0 0 [], t.drop 1)
    else
     match sub with
     | none => none
     | some f =>
      match f t with
      | none => none
      | some (p, r) => (needP 41 r).map fun r' => (p, r'))
  else if c = 91 then
   (if t.head? = some 93 then some (.mk 0 0 0 0 0 [], t.drop 1)
    else
     match g.one t with
     | none => none
     | some (lo, t1) =>
      match needP 45 t1 with
      | none => none
      | some t2 =>
       match g.one t2 with
       | none => none
       | some (hi, t3) => (needP 93 t3).map fun r => (rngR lo hi, r))
  else if c = 46 then some (rngR 0 255, t)
  else (g.one (c :: t)).map fun (b, r) => (rngR b b, r)
def moreP (sep : Option UInt8) : List UInt8 → Option (List UInt8)
 | [] => none
 | c :: t =>
  match sep with
  | some b => if c = b then some t else none
  | none => if c = 124 ∨ c = 38 ∨ c = 41 then none else some (c :: t)
def restP (sep : Option UInt8) (one : List UInt8 → Option (RX × List UInt8)) : Nat → List RX → List UInt8 → Option (List RX × List UInt8)
 | 0, _, _ => none
 | f + 1, acc, l =>
  match moreP sep l with
  | none => some (acc, l)
  | some l' =>
   match one l' with
   | none => none
   | some (p, r) => restP sep one f (acc ++ [p]) r
def joinP (op : Int) (l : List RX) : RX :=
 match l with
 | [p] => p
 | l => .mk op 0 0 0 0 l
def infP (op : Int) (sep : Option UInt8) (one : List UInt8 → Option (RX × List UInt8)) (l : List UInt8) : Option (RX × List UInt8) :=
 match one l with
 | none => none
 | some (p, r) =>
  match restP sep one (r.length + 1) [p] r with
  | none => none
  | some (ps, r') => some (joinP op ps, r')
def inf3 (pre : List UInt8 → Option (RX × List UInt8)) := infP 3 none pre
def inf2 (pre : List UInt8 → Option (RX × List UInt8)) := infP 6 (some 38) (inf3 pre)
def inf1 (pre : List UInt8 → Option (RX × List UInt8)) := infP 4 (some 124) (inf2 pre)
def preP (g : PG) : Nat → List UInt8 → Option (RX × List UInt8)
 | 0, l => if l.head? = some 33 then none else (atomP g none l).bind fun (p, r) => postP g 49 p r
 | n + 1, l =>
  if l.head? = some 33 then (preP g n (l.drop 1)).map fun (p, r) => (sngR 7 p, r)
  else (atomP g (some (inf1 (preP g n))) l).bind fun (p, r) => postP g 49 p r
def pgP : PG := ⟨oneP, bndP, fun _ _ => none⟩
def parseR (l : List UInt8) : Option RX :=
 match inf1 (preP pgP 96) l with
 | none => none
 | some (p, r) => if r ≠ [] ∨ textR p ≠ l ∨ l = [] then none else some p
end Go.Proofs.YtpkecepelcppiaaGreatDoor

namespace Go.Proofs.YtpkecepelcppiaaGreatDoor
open Go.RowKit
set_option maxRecDepth 100000
set_option maxHeartbeats 1000000

theorem hexR_back0 : ∀ n : Fin 16, hexV (hexR n.val) = some n.val := by decide +kernel
theorem hexR_back (n : Nat) (h : n < 16) : hexV (hexR n) = some n := hexR_back0 ⟨n, h⟩
theorem byteT_ways (b : Nat) : (33 ≤ b ∧ b ≤ 126 ∧ UInt8.ofNat b ∉ signR ∧ byteT b = [UInt8.ofNat b]) ∨ byteT b = [92, 120, hexR (b / 16), hexR (b % 16)] := by
 unfold byteT
 by_cases h : 33 ≤ b ∧ b ≤ 126 ∧ UInt8.ofNat b ∉ signR
 ·rw [if_pos h]
  exact .inl ⟨h.1, h.2.1, h.2.2, rfl⟩
 ·rw [if_neg h]
  exact .inr rfl
theorem ofNat_b (b : Nat) (h : b ≤ 255) : (UInt8.ofNat b).toNat = b := by
 rw [UInt8.toNat_ofNat']
 omega
theorem one_back (b : Nat) (h : b ≤ 255) (r : List UInt8) : oneP (byteT b ++ r) = some (b, r) := by
 rcases byteT_ways b with ⟨h1, h2, h3, h4⟩ | h4
 ·rw [h4]
  show oneP (UInt8.ofNat b :: r) = _
  rw [oneP]
  rw [if_neg, ofNat_b b h, if_pos h4]
  rintro ⟨h92, -⟩
  rw [h92] at h3
  exact h3 (by decide)
 ·rw [h4]
  show oneP (92 :: 120 :: hexR (b / 16) :: hexR (b % 16) :: r) = _
  rw [oneP]
  rw [if_pos ⟨rfl, by simp, rfl⟩]
  show (match hexV (hexR (b / 16)), hexV (hexR (b % 16)) with
    | some a, some b => some (16 * a + b, r)
    | _, _ => none) = _
  rw [hexR_back _ (by omega), hexR_back _ (by omega)]
  show some (16 * (b / 16) + b % 16, r) = _
  congr 2
  omega
def goodR (c : UInt8) : Bool := !([42, 43, 63, 123, 124, 38, 41].contains c)
theorem byteT_head (b : Nat) : ∃ c t, byteT b = c :: t ∧ (c = 92 ∨ c ∉ signR) := by
 rcases byteT_ways b with ⟨_, _, h3, h4⟩ | h4
 ·exact ⟨_, _, h4, .inr h3⟩
 ·exact ⟨_, _, h4, .inl rfl⟩
theorem sign_good {c : UInt8} (h : c = 92 ∨ c ∉ signR) : goodR c = true ∧ c ≠ 33 ∧ c ≠ 40 ∧ c ≠ 91 ∧ c ≠ 46 ∧ c ≠ 93 := by
 rcases h with rfl | h
 ·decide
 ·refine ⟨?_, ?_, ?_, ?_, ?_, ?_⟩
  ·unfold goodR
   rw [Bool.not_eq_true', Bool.eq_false_iff]
   intro hc
   apply h
   have := List.contains_iff_mem.1 hc
   simp only [List.mem_cons, List.not_mem_nil, or_false] at this
   rcases this with rfl | rfl | rfl | rfl | rfl | rfl | rfl <;> decide
  all_goals
   rintro rfl
   exact h (by decide)

/-! Bounds. -/
def digR3 (c : UInt8) : Bool := decide (48 ≤ c.toNat ∧ c.toNat ≤ 57)
theorem num_back (n : Nat) (h : n < 100) (c : UInt8) (t : List UInt8) (hc : digR3 c = false) : numPR (decT n ++ c :: t) = some (n, c :: t) := by
 have hstop : ¬ (48 ≤ c.toNat ∧ c.toNat ≤ 57) := of_decide_eq_false hc
 unfold decT
 by_cases h1 : n < 10
 ·rw [if_pos h1]
  have e1 := ofNat_b (48 + n) (by omega)
  show (if 48 ≤ (UInt8.ofNat (48 + n)).toNat ∧ (UInt8.ofNat (48 + n)).toNat ≤ 57 then some (numP3 3 0 (UInt8.ofNat (48 + n) :: c :: t)) else none) = _
  rw [e1, if_pos (by omega)]
  show some (if 48 ≤ (UInt8.ofNat (48 + n)).toNat ∧ (UInt8.ofNat (48 + n)).toNat ≤ 57 then numP3 2 (10 * 0 + ((UInt8.ofNat (48 + n)).toNat - 48)) (c :: t) else _) = _
  rw [e1, if_pos (by omega)]
  show some (if 48 ≤ c.toNat ∧ c.toNat ≤ 57 then _ else (10 * 0 + (48 + n - 48), c :: t)) = _
  rw [if_neg hstop]
  congr 2
  omega
 ·rw [if_neg h1, if_pos h]
  have e1 := ofNat_b (48 + n / 10) (by omega)
  have e2 := ofNat_b (48 + n % 10) (by omega)
  show (if 48 ≤ (UInt8.ofNat (48 + n / 10)).toNat ∧ (UInt8.ofNat (48 + n / 10)).toNat ≤ 57 then some (numP3 3 0 (UInt8.ofNat (48 + n / 10) :: UInt8.ofNat (48 + n % 10) :: c :: t)) else none) = _
  rw [e1, if_pos (by omega)]
  show some (if 48 ≤ (UInt8.ofNat (48 + n / 10)).toNat ∧ (UInt8.ofNat (48 + n / 10)).toNat ≤ 57 then numP3 2 (10 * 0 + ((UInt8.ofNat (48 + n / 10)).toNat - 48)) (UInt8.ofNat (48 + n % 10) :: c :: t) else _) = _
  rw [e1, if_pos (by omega)]
  show some (if 48 ≤ (UInt8.ofNat (48 + n % 10)).toNat ∧ (UInt8.ofNat (48 + n % 10)).toNat ≤ 57 then numP3 1 (10 * (10 * 0 + (48 + n / 10 - 48)) + ((UInt8.ofNat (48 + n % 10)).toNat - 48)) (c :: t) else _) = _
  rw [e2, if_pos (by omega)]
  show some (if 48 ≤ c.toNat ∧ c.toNat ≤ 57 then _ else (10 * (10 * 0 + (48 + n / 10 - 48)) + (48 + n % 10 - 48), c :: t)) = _
  rw [if_neg hstop]
  congr 2
  omega
theorem decT_head (n : Nat) (h : n < 100) : ∃ c t, decT n = c :: t ∧ digR3 c = true := by
 unfold decT digR3
 by_cases h1 : n < 10
 ·rw [if_pos h1]
  exact ⟨_, _, rfl, decide_eq_true (by rw [ofNat_b _ (by omega)]; omega)⟩
 ·rw [if_neg h1, if_pos h]
  exact ⟨_, _, rfl, decide_eq_true (by rw [ofNat_b _ (by omega)]; omega)⟩
theorem bnd_back (mn mx : Int) (h0 : 0 ≤ mn) (h1 : mn ≤ 64) (h2 : mx = -1 ∨ (mn ≤ mx ∧ mx ≤ 64)) (r : List UInt8) : bndP (bndT mn mx ++ r) = .yes mn mx r := by
 unfold bndT
 by_cases c1 : mn = 0 ∧ mx = -1
 ·rw [if_pos c1, c1.1, c1.2]
  rfl
 rw [if_neg c1]
 by_cases c2 : mn = 1 ∧ mx = -1
 ·rw [if_pos c2, c2.1, c2.2]
  rfl
 rw [if_neg c2]
 by_cases c3 : mn = 0 ∧ mx = 1
 ·rw [if_pos c3, c3.1, c3.2]
  rfl
 rw [if_neg c3]
 obtain ⟨a, rfl⟩ : ∃ a : Nat, mn = (a : Int) := ⟨mn.toNat, by omega⟩
 rw [Int.toNat_natCast]
 by_cases c4 : mx = -1
 ·rw [if_pos c4, c4]
  show bndP (123 :: (decT a ++ [44, 125] ++ r)) = _
  rw [List.append_assoc]
  rw [bndP]
  rw [if_neg (by decide), if_neg (by decide), if_neg (by decide), if_pos rfl, show decT a ++ ([44, 125] ++ r) = decT a ++ 44 :: (125 :: r) from rfl, num_back a (by omega) 44 _ (by decide)]
  rfl
 ·rw [if_neg c4]
  obtain ⟨b, rfl⟩ : ∃ b : Nat, mx = (b : Int) := ⟨mx.toNat, by omega⟩
  rw [Int.toNat_natCast]
  show bndP (123 :: (decT a ++ (44 :: (decT b ++ [125])) ++ r)) = _
  rw [List.append_assoc]
  rw [bndP]
  rw [if_neg (by decide), if_neg (by decide), if_neg (by decide), if_pos rfl, show decT a ++ ((44 :: (decT b ++ [125])) ++ r) = decT a ++ 44 :: (decT b ++ [125] ++ r) from rfl, num_back a (by omega) 44 _ (by decide)]
  show (if (decT b ++ [125] ++ r).head? = some 125 then _ else
           match numPR (decT b ++ [125] ++ r) with
           | none => _
           | some (m, t3) =>
            match needP 125 t3 with
            | none => _
            | some t4 => BndP.yes a m t4) = _
  obtain ⟨c, t, hd, hc⟩ := decT_head b (by omega)
  rw [if_neg, List.append_assoc, show decT b ++ ([125] ++ r) = decT b ++ 125 :: r from rfl, num_back b (by omega) 125 _ (by decide)]
  ·rfl
  ·rw [hd]
   intro h
   have : c = 125 := by simpa using h
   rw [this] at hc
   revert hc
   decide

/-! Nodes. -/
theorem snd_node {d : Nat} {op lo hi mn mx : Int} {l : List RX} (h : sndR (d + 1) (.mk op lo hi mn mx l) = true) : formR op lo hi mn mx l.length = true ∧ ∀ q ∈ l, sndR d q = true := by
 unfold sndR at h
 rw [Bool.and_eq_true, List.all_eq_true] at h
 exact h
theorem form_ways {op lo hi mn mx : Int} {n : Nat} (h : formR op lo hi mn mx n = true) :
  ((op = 0 ∨ op = 1) ∧ n = 0 ∧ lo = 0 ∧ hi = 0 ∧ mn = 0 ∧ mx = 0) ∨ (op = 2 ∧ n = 0 ∧ 0 ≤ lo ∧ lo ≤ hi ∧ hi ≤ 255 ∧ mn = 0 ∧ mx = 0) ∨
  ((op = 3 ∨ op = 4 ∨ op = 6) ∧ 2 ≤ n ∧ lo = 0 ∧ hi = 0 ∧ mn = 0 ∧ mx = 0) ∨ (op = 5 ∧ n = 1 ∧ lo = 0 ∧ hi = 0 ∧ 0 ≤ mn ∧ mn ≤ 64 ∧ (mx = -1 ∨ (mn ≤ mx ∧ mx ≤ 64))) ∨
  (op = 7 ∧ n = 1 ∧ lo = 0 ∧ hi = 0 ∧ mn = 0 ∧ mx = 0) := by
 unfold formR at h
 split at h
 ·rename_i h0
  have := of_decide_eq_true h
  exact .inl ⟨h0, this⟩
 split at h
 ·rename_i h0
  exact .inr (.inl ⟨h0, of_decide_eq_true h⟩)
 split at h
 ·rename_i h0
  exact .inr (.inr (.inl ⟨h0, of_decide_eq_true h⟩))
 split at h
 ·rename_i h0
  exact .inr (.inr (.inr (.inl ⟨h0, of_decide_eq_true h⟩)))
 split at h
 ·rename_i h0
  exact .inr (.inr (.inr (.inr ⟨h0, of_decide_eq_true h⟩)))
 ·cases h
theorem joinT_cons (sep x : List UInt8) (t : List (List UInt8)) : joinT sep (x :: t) = x ++ t.flatMap (sep ++ ·) := by
 induction t generalizing x with
 | nil => rw [joinT, List.flatMap_nil, List.append_nil]
 | cons y u ih =>
  rw [joinT, ih y, List.flatMap_cons, List.append_assoc]
  exact fun h => by cases h
structure HdR (l : List UInt8) : Prop where
 ne : ∃ c t, l = c :: t ∧ goodR c = true
theorem HdR.app {l : List UInt8} (h : HdR l) (r : List UInt8) : HdR (l ++ r) := by
 obtain ⟨c, t, rfl, hc⟩ := h.ne
 exact ⟨c, t ++ r, rfl, hc⟩
theorem rng_head (lo hi : Int) : HdR (rngT lo hi) ∧ (rngT lo hi).head? ≠ some 33 := by
 unfold rngT
 split
 ·obtain ⟨c, t, h, hc⟩ := byteT_head lo.toNat
  rw [h]
  exact ⟨⟨c, t, rfl, (sign_good hc).1⟩, fun h => (sign_good hc).2.1 (by simpa using h)⟩
 split
 ·exact ⟨⟨46, [], rfl, by decide⟩, by decide⟩
 ·exact ⟨⟨91, _, rfl, by decide⟩, by simp⟩
theorem show_head : ∀ (d : Nat) (p : RX), sndR d p = true → HdR (showR d p) ∧ (5 ≤ rowR p.op → (showR d p).head? ≠ some 33)
 | 0, p, h => by cases h
 | d + 1, .mk op lo hi mn mx l, h => by
  obtain ⟨hf, hl⟩ := snd_node h
  have harg : ∀ least q, q ∈ l → HdR (argT (showR d) least q) := by
   intro least q hq
   unfold argT
   split
   ·exact ⟨40, _, rfl, by decide⟩
   ·exact (show_head d q (hl q hq)).1
  have hjoin : ∀ sep least, l ≠ [] → HdR (joinT sep (l.map (argT (showR d) least))) := by
   intro sep least hne
   obtain ⟨q, u, rfl⟩ : ∃ q u, l = q :: u := by
    rcases l with _ | ⟨q, u⟩
    ·exact absurd rfl hne
    ·exact ⟨q, u, rfl⟩
   rw [List.map_cons, joinT_cons]
   exact (harg least q List.mem_cons_self).app _
  rcases form_ways hf with ⟨h0, hn, rfl, rfl, rfl, rfl⟩ | ⟨rfl, hn, h1, h2, h3, rfl, rfl⟩ | ⟨h0, hn, rfl, rfl, rfl, rfl⟩ | ⟨rfl, hn, rfl, rfl, h1, h2, h3⟩ | ⟨rfl, hn, rfl, rfl, rfl, rfl⟩
  ·rcases h0 with rfl | rfl
   ·exact ⟨⟨91, [93], rfl, by decide⟩, fun _ => show ([91, 93] : List UInt8).head? ≠ some 33 by decide⟩
   ·exact ⟨⟨40, [41], rfl, by decide⟩, fun _ => show ([40, 41] : List UInt8).head? ≠ some 33 by decide⟩
  ·have := rng_head lo hi
   exact ⟨this.1, fun _ => this.2⟩
  ·have hne : l ≠ [] := by rintro rfl; simp at hn
   rcases h0 with rfl | rfl | rfl
   ·exact ⟨hjoin [] 4 hne, fun h => absurd h (show ¬ 5 ≤ rowR 3 by decide)⟩
   ·exact ⟨hjoin [124] 2 hne, fun h => absurd h (show ¬ 5 ≤ rowR 4 by decide)⟩
   ·exact ⟨hjoin [38] 3 hne, fun h => absurd h (show ¬ 5 ≤ rowR 6 by decide)⟩
  ·obtain ⟨q, rfl⟩ := List.length_eq_one_iff.1 hn
   have hq := hl q List.mem_cons_self
   refine ⟨?_, fun _ => ?_⟩
   ·show HdR (joinT [] ([q].map (argT (showR d) 5)) ++ bndT mn mx)
    exact (hjoin [] 5 (by simp)).app _
   ·show (argT (showR d) 5 q ++ bndT mn mx).head? ≠ some 33
    obtain ⟨c, t, hct, -⟩ := (harg 5 q List.mem_cons_self).ne
    have h33 : (argT (showR d) 5 q).head? ≠ some 33 := by
     unfold argT
     split
     ·simp
     ·rename_i hr
      exact (show_head d q hq).2 (by omega)
    rw [hct] at h33 ⊢
    exact h33
  ·obtain ⟨q, rfl⟩ := List.length_eq_one_iff.1 hn
   exact ⟨⟨33, _, rfl, by decide⟩, fun h => absurd h (show ¬ 5 ≤ rowR 7 by decide)⟩
end Go.Proofs.YtpkecepelcppiaaGreatDoor

namespace Go.Proofs.YtpkecepelcppiaaGreatDoor
open Go.RowKit
set_option maxRecDepth 100000
set_option maxHeartbeats 1000000

def okF (r : List UInt8) : Prop := ∀ c t, r = c :: t → c ≠ 42 ∧ c ≠ 43 ∧ c ≠ 63 ∧ c ≠ 123
def stop3 (r : List UInt8) : Prop := ∀ c t, r = c :: t → c = 124 ∨ c = 38 ∨ c = 41
def stop2 (r : List UInt8) : Prop := ∀ c t, r = c :: t → c = 124 ∨ c = 41
def stop1 (r : List UInt8) : Prop := ∀ c t, r = c :: t → c = 41
theorem stop12 {r : List UInt8} (h : stop1 r) : stop2 r := fun c t e => .inr (h c t e)
theorem stop23 {r : List UInt8} (h : stop2 r) : stop3 r := fun c t e => by
 rcases h c t e with h | h
 ·exact .inl h
 ·exact .inr (.inr h)
theorem stop3F {r : List UInt8} (h : stop3 r) : okF r := fun c t e => by
 rcases h c t e with rfl | rfl | rfl <;> decide
theorem good_ne {c : UInt8} (h : goodR c = true) : c ≠ 42 ∧ c ≠ 43 ∧ c ≠ 63 ∧ c ≠ 123 ∧ c ≠ 124 ∧ c ≠ 38 ∧ c ≠ 41 := by
 refine ⟨?_, ?_, ?_, ?_, ?_, ?_, ?_⟩
 all_goals
  rintro rfl
  revert h
  decide
theorem HdR.okF {l : List UInt8} (h : HdR l) : okF l := by
 obtain ⟨c, t, rfl, hc⟩ := h.ne
 intro c' t' e
 injection e with e _
 obtain ⟨h1, h2, h3, h4, -⟩ := good_ne hc
 rw [← e]
 exact ⟨h1, h2, h3, h4⟩
theorem bnd_no {r : List UInt8} (h : okF r) : bndP r = .no := by
 rcases r with _ | ⟨c, t⟩
 ·rfl
 ·obtain ⟨h1, h2, h3, h4⟩ := h c t rfl
  rw [bndP, if_neg h1, if_neg h2, if_neg h3, if_neg h4]
def sepT : Option UInt8 → List UInt8
 | none => []
 | some b => [b]
theorem rest_back (sep : Option UInt8) (one : List UInt8 → Option (RX × List UInt8)) (T : RX → List UInt8) (ok : List UInt8 → Prop) (r : List UInt8) (hr : ok r) (hm : moreP sep r = none) :
  ∀ (qs : List RX), (∀ q ∈ qs, ∀ u, moreP sep (sepT sep ++ (T q ++ u)) = some (T q ++ u)) → (∀ q ∈ qs, ∀ u, ok u → one (T q ++ u) = some (q, u)) → (∀ q ∈ qs, ∀ u, ok (sepT sep ++ (T q ++ u))) →
  ∀ f acc, qs.length < f → restP sep one f acc (qs.flatMap (fun q => sepT sep ++ T q) ++ r) = some (acc ++ qs, r)
 | [], _, _, _, f, acc, hf => by
  obtain ⟨f, rfl⟩ : ∃ g, f = g + 1 := ⟨f - 1, by simp at hf; omega⟩
  rw [List.flatMap_nil, List.nil_append, restP, hm, List.append_nil]
 | q :: qs, hA, hB, hC, f, acc, hf => by
  obtain ⟨f, rfl⟩ : ∃ g, f = g + 1 := ⟨f - 1, by simp at hf; omega⟩
  have hok : ok (qs.flatMap (fun q => sepT sep ++ T q) ++ r) := by
   rcases qs with _ | ⟨q', qs'⟩
   ·exact hr
   ·rw [List.flatMap_cons, List.append_assoc, List.append_assoc]
    exact hC q' (by simp) _
  rw [List.flatMap_cons, List.append_assoc, List.append_assoc, restP, hA q List.mem_cons_self]
  show (match one (T q ++ (qs.flatMap (fun q => sepT sep ++ T q) ++ r)) with
   | none => none
   | some (p, r') => restP sep one f (acc ++ [p]) r') = _
  rw [hB q List.mem_cons_self _ hok]
  show restP sep one f (acc ++ [q]) _ = _
  rw [rest_back sep one T ok r hr hm qs (fun x hx => hA x (List.mem_cons_of_mem _ hx)) (fun x hx => hB x (List.mem_cons_of_mem _ hx)) (fun x hx => hC x (List.mem_cons_of_mem _ hx)) f (acc ++ [q]) (by simp at hf; omega), List.append_assoc]
  rfl
theorem inf_back (op : Int) (sep : Option UInt8) (one : List UInt8 → Option (RX × List UInt8)) (T : RX → List UInt8) (ok : List UInt8 → Prop) (r : List UInt8) (hr : ok r) (hm : moreP sep r = none) (q0 : RX) (qs : List RX)
  (hA : ∀ q ∈ qs, ∀ u, moreP sep (sepT sep ++ (T q ++ u)) = some (T q ++ u)) (hB : ∀ q ∈ q0 :: qs, ∀ u, ok u → one (T q ++ u) = some (q, u)) (hC : ∀ q ∈ qs, ∀ u, ok (sepT sep ++ (T q ++ u))) (hD : ∀ q ∈ qs, T q ≠ []) :
  infP op sep one (T q0 ++ (qs.flatMap (fun q => sepT sep ++ T q) ++ r)) = some (joinP op (q0 :: qs), r) := by
 have hok : ok (qs.flatMap (fun q => sepT sep ++ T q) ++ r) := by
  rcases qs with _ | ⟨q', qs'⟩
  ·exact hr
  ·rw [List.flatMap_cons, List.append_assoc, List.append_assoc]
   exact hC q' (by simp) _
 have hlen : ∀ l : List RX, (∀ q ∈ l, T q ≠ []) → l.length ≤ (l.flatMap (fun q => sepT sep ++ T q)).length := by
  intro l
  induction l with
  | nil => intro _; exact Nat.le_refl _
  | cons x t ih =>
   intro h
   have h1 := ih (fun q hq => h q (List.mem_cons_of_mem _ hq))
   have h2 := List.length_pos_iff.2 (h x List.mem_cons_self)
   rw [List.flatMap_cons, List.length_append, List.length_append, List.length_cons]
   omega
 have hl := hlen qs hD
 unfold infP
 rw [hB q0 List.mem_cons_self _ hok]
 show (match restP sep one ((qs.flatMap (fun q => sepT sep ++ T q) ++ r).length + 1) [q0] _ with
  | none => none
  | some (ps, r') => some (joinP op ps, r')) = _
 rw [rest_back sep one T ok r hr hm qs hA (fun q hq => hB q (List.mem_cons_of_mem _ hq)) hC _ [q0] (by rw [List.length_append]; omega)]
 rfl
theorem inf_one (op : Int) (sep : Option UInt8) (one : List UInt8 → Option (RX × List UInt8)) (l : List UInt8) (p : RX) (r : List UInt8) (h : one l = some (p, r)) (hm : moreP sep r = none) : infP op sep one l = some (p, r) := by
 unfold infP
 rw [h]
 show (match restP sep one (r.length + 1) [p] r with
  | none => none
  | some (ps, r') => some (joinP op ps, r')) = _
 rw [restP, hm]
 rfl
theorem more3 {r : List UInt8} (h : stop3 r) : moreP none r = none := by
 rcases r with _ | ⟨c, t⟩
 ·rfl
 ·show (if c = 124 ∨ c = 38 ∨ c = 41 then none else some (c :: t)) = none
  rw [if_pos (h c t rfl)]
theorem more2 {r : List UInt8} (h : stop2 r) : moreP (some 38) r = none := by
 rcases r with _ | ⟨c, t⟩
 ·rfl
 ·show (if c = 38 then some t else none) = none
  rw [if_neg]
  rcases h c t rfl with rfl | rfl <;> decide
theorem more1 {r : List UInt8} (h : stop1 r) : moreP (some 124) r = none := by
 rcases r with _ | ⟨c, t⟩
 ·rfl
 ·show (if c = 124 then some t else none) = none
  rw [if_neg]
  rw [h c t rfl]
  decide
theorem more_sep (b : UInt8) (u : List UInt8) : moreP (some b) (sepT (some b) ++ u) = some u := by
 show (if b = b then some u else none) = some u
 rw [if_pos rfl]
structure PGok (g : PG) : Prop where
 one : ∀ b, b ≤ 255 → ∀ r, g.one (byteT b ++ r) = some (b, r)
 bnd : ∀ mn mx : Int, 0 ≤ mn → mn ≤ 64 → (mx = -1 ∨ (mn ≤ mx ∧ mx ≤ 64)) → ∀ r, g.bnd (bndT mn mx ++ r) = .yes mn mx r
 no : ∀ r, okF r → g.bnd r = .no
theorem pgP_ok : PGok pgP := ⟨one_back, bnd_back, fun _ h => bnd_no h⟩
def subP (g : PG) : Nat → Option (List UInt8 → Option (RX × List UInt8))
 | 0 => none
 | n + 1 => some (inf1 (preP g n))
theorem pre_atom (g : PG) (n : Nat) (l : List UInt8) (h : l.head? ≠ some 33) : preP g n l = (atomP g (subP g n) l).bind fun (p, r) => postP g 49 p r := by
 cases n <;> (rw [preP, if_neg h]; rfl)
theorem atom_sq (g : PG) (sub : Option (List UInt8 → Option (RX × List UInt8))) (t : List UInt8) : atomP g sub (91 :: t) = (if t.head? = some 93 then some (.mk 0 0 0 0 0 [], t.drop 1)
       else
        match g.one t with
        | none => none
        | some (lo, t1) =>
         match needP 45 t1 with
         | none => none
         | some t2 =>
          match g.one t2 with
          | none => none
          | some (hi, t3) => (needP 93 t3).map fun r => (rngR lo hi, r)) := by
 cases sub <;> rfl
def needR (d : Nat) (op : Int) : Nat := if rowR op < 4 then d - 2 else d - 1
theorem need_lo {d : Nat} {op : Int} (h : rowR op < 4) : needR d op = d - 2 := if_pos h
theorem need_hi {d : Nat} {op : Int} (h : 4 ≤ rowR op) : needR d op = d - 1 := if_neg (by omega)
theorem snd_pos {d : Nat} {p : RX} (h : sndR d p = true) : 1 ≤ d := by
 rcases d with _ | d
 ·cases h
 ·omega
theorem snd_two {d : Nat} {p : RX} (h : sndR d p = true) (hr : rowR p.op < 4) : 2 ≤ d := by
 rcases d with _ | d
 ·cases h
 obtain ⟨op, lo, hi, mn, mx, l⟩ := p
 obtain ⟨hf, hl⟩ := snd_node h
 have hr' : rowR op < 4 := hr
 rcases form_ways hf with ⟨h0, hn, rfl, rfl, rfl, rfl⟩ | ⟨rfl, hn, h1, h2, h3, rfl, rfl⟩ | ⟨h0, hn, rfl, rfl, rfl, rfl⟩ | ⟨rfl, hn, rfl, rfl, h1, h2, h3⟩ | ⟨rfl, hn, rfl, rfl, rfl, rfl⟩
 ·rcases h0 with rfl | rfl <;> exact absurd hr' (by decide)
 ·exact absurd hr' (by decide)
 ·obtain ⟨q, u, rfl⟩ : ∃ q u, l = q :: u := by
   rcases l with _ | ⟨q, u⟩
   ·simp at hn
   ·exact ⟨q, u, rfl⟩
  have := snd_pos (hl q List.mem_cons_self)
  omega
 ·exact absurd hr' (by decide)
 ·exact absurd hr' (by decide)
def JR (g : PG) (d : Nat) : Prop := ∀ p, sndR d p = true → ∀ n, needR d p.op ≤ n →
 (4 ≤ rowR p.op → ∀ r, okF r → preP g n (showR d p ++ r) = some (p, r)) ∧
 (3 ≤ rowR p.op → ∀ r, stop3 r → inf3 (preP g n) (showR d p ++ r) = some (p, r)) ∧
 (2 ≤ rowR p.op → ∀ r, stop2 r → inf2 (preP g n) (showR d p ++ r) = some (p, r)) ∧
 (∀ r, stop1 r → inf1 (preP g n) (showR d p ++ r) = some (p, r))
theorem paren_back {g : PG} {d : Nat} (hJ : JR g d) (p : RX) (hp : sndR d p = true) (n : Nat) (hn : needR d p.op ≤ n) (r : List UInt8) : atomP g (some (inf1 (preP g n))) (40 :: (showR d p ++ 41 :: r)) = some (p, r) := by
 have h4 := (hJ p hp n hn).2.2.2 (41 :: r) (fun c t e => by injection e with e _; exact e.symm)
 obtain ⟨c, t, hct, hc⟩ := (show_head d p hp).1.ne
 rw [atomP, if_pos rfl, if_neg]
 ·show (match inf1 (preP g n) (showR d p ++ 41 :: r) with
          | none => none
          | some (p, r) => (needP 41 r).map fun r' => (p, r')) = _
  rw [h4]
  show (needP 41 (41 :: r)).map _ = _
  rw [needP, if_pos rfl]
  rfl
 ·rw [hct]
  intro h
  have : c = 41 := by simpa using h
  exact (good_ne hc).2.2.2.2.2.2 this
theorem argT_low {f : RX → List UInt8} {least : Nat} {q : RX} (h : rowR q.op < least) (r : List UInt8) : argT f least q ++ r = 40 :: (f q ++ 41 :: r) := by
 unfold argT
 rw [if_pos h, List.cons_append, List.append_assoc]
 rfl
theorem argT_high {f : RX → List UInt8} {least : Nat} {q : RX} (h : ¬ rowR q.op < least) : argT f least q = f q := by
 unfold argT
 rw [if_neg h]
theorem paren_pre {g : PG} (hg : PGok g) {d : Nat} (hJ : JR g d) (p : RX) (hp : sndR d p = true) (n : Nat) (hn : needR d p.op + 1 ≤ n) (r : List UInt8) (hr : okF r) : preP g n (40 :: (showR d p ++ 41 :: r)) = some (p, r) := by
 obtain ⟨n, rfl⟩ : ∃ m, n = m + 1 := ⟨n - 1, by omega⟩
 rw [pre_atom g _ _ (by simp)]
 show (atomP g (some (inf1 (preP g n))) (40 :: (showR d p ++ 41 :: r))).bind _ = _
 rw [paren_back hJ p hp n (by omega)]
 show postP g 49 p r = _
 rw [postP, hg.no r hr]
theorem arg4 {g : PG} (hg : PGok g) {d : Nat} (hJ : JR g d) (q : RX) (hq : sndR d q = true) (n : Nat) (hn : d ≤ n + 1) (r : List UInt8) (hr : okF r) : preP g n (argT (showR d) 4 q ++ r) = some (q, r) := by
 by_cases h : rowR q.op < 4
 ·have := snd_two hq h
  rw [argT_low h]
  exact paren_pre hg hJ q hq n (by rw [need_lo h]; omega) r hr
 ·rw [argT_high h]
  exact (hJ q hq n (by rw [need_hi (by omega)]; omega)).1 (by omega) r hr
theorem arg3 {g : PG} (hg : PGok g) {d : Nat} (hJ : JR g d) (q : RX) (hq : sndR d q = true) (n : Nat) (hn : d ≤ n + 1) (r : List UInt8) (hr : stop3 r) : inf3 (preP g n) (argT (showR d) 3 q ++ r) = some (q, r) := by
 have hnd : needR d q.op ≤ n := by
  unfold needR
  split <;> omega
 by_cases h : rowR q.op < 3
 ·have := snd_two hq (by omega)
  rw [argT_low h]
  exact inf_one _ _ _ _ _ _ (paren_pre hg hJ q hq n (by rw [need_lo (by omega)]; omega) r (stop3F hr)) (more3 hr)
 ·rw [argT_high h]
  exact (hJ q hq n hnd).2.1 (by omega) r hr
theorem arg2 {g : PG} (hg : PGok g) {d : Nat} (hJ : JR g d) (q : RX) (hq : sndR d q = true) (n : Nat) (hn : d ≤ n + 1) (r : List UInt8) (hr : stop2 r) : inf2 (preP g n) (argT (showR d) 2 q ++ r) = some (q, r) := by
 have hnd : needR d q.op ≤ n := by
  unfold needR
  split <;> omega
 by_cases h : rowR q.op < 2
 ·have := snd_two hq (by omega)
  rw [argT_low h]
  exact inf_one _ _ _ _ _ _ (inf_one _ _ _ _ _ _ (paren_pre hg hJ q hq n (by rw [need_lo (by omega)]; omega) r (stop3F (stop23 hr))) (more3 (stop23 hr))) (more2 hr)
 ·rw [argT_high h]
  exact (hJ q hq n hnd).2.2.1 (by omega) r hr
theorem arg_head (d : Nat) (least : Nat) (q : RX) (hq : sndR d q = true) : HdR (argT (showR d) least q) := by
 unfold argT
 split
 ·exact ⟨40, _, rfl, by decide⟩
 ·exact (show_head d q hq).1
theorem atom_rng {g : PG} (hg : PGok g) (sub : Option (List UInt8 → Option (RX × List UInt8))) (lo hi : Int) (h1 : 0 ≤ lo) (h2 : lo ≤ hi) (h3 : hi ≤ 255) (r : List UInt8) : atomP g sub (rngT lo hi ++ r) = some (.mk 2 lo hi 0 0 [], r) := by
 obtain ⟨a, rfl⟩ : ∃ a : Nat, lo = (a : Int) := ⟨lo.toNat, by omega⟩
 obtain ⟨b, rfl⟩ : ∃ b : Nat, hi = (b : Int) := ⟨hi.toNat, by omega⟩
 unfold rngT
 rw [Int.toNat_natCast, Int.toNat_natCast]
 by_cases c1 : (a : Int) = b
 ·rw [if_pos c1]
  obtain rfl : a = b := by omega
  have hb := hg.one a (by omega) r
  obtain ⟨c, t, hct, hc⟩ := byteT_head a
  obtain ⟨-, -, g1, g2, g3, -⟩ := sign_good hc
  rw [hct] at hb ⊢
  rw [List.cons_append] at hb ⊢
  cases sub <;> (rw [atomP, if_neg g1, if_neg g2, if_neg g3, hb]; rfl)
 rw [if_neg c1]
 by_cases c2 : (a : Int) = 0 ∧ (b : Int) = 255
 ·rw [if_pos c2]
  obtain rfl : a = 0 := by omega
  obtain rfl : b = 255 := by omega
  cases sub <;> rfl
 ·rw [if_neg c2]
  obtain ⟨c, t, hct, hc⟩ := byteT_head a
  obtain ⟨-, -, -, -, -, g4⟩ := sign_good hc
  have hl : byteT a ++ (45 :: (byteT b ++ [93])) ++ r = byteT a ++ (45 :: (byteT b ++ (93 :: r))) := by
   rw [List.append_assoc, List.cons_append, List.append_assoc]
   rfl
  rw [List.cons_append, hl, atom_sq, if_neg, hg.one a (by omega)]
  ·show (match needP 45 (45 :: (byteT b ++ (93 :: r))) with
         | none => none
         | some t2 =>
          match g.one t2 with
          | none => none
          | some (hi, t3) => (needP 93 t3).map fun r => (rngR a hi, r)) = _
   rw [needP, if_pos rfl]
   show (match g.one (byteT b ++ (93 :: r)) with
          | none => none
          | some (hi, t3) => (needP 93 t3).map fun r => (rngR a hi, r)) = _
   rw [hg.one b (by omega)]
   show (needP 93 (93 :: r)).map _ = _
   rw [needP, if_pos rfl]
   rfl
  ·rw [hct]
   intro h
   exact g4 (by simpa using h)
def PR (g : PG) (d : Nat) : Prop := ∀ p, sndR d p = true → 5 ≤ rowR p.op → ∀ n, d ≤ n + 1 → ∃ a tail k, k ≤ d ∧ (∀ r, atomP g (subP g n) (showR d p ++ r) = some (a, tail ++ r)) ∧ (∀ r f, postP g (f + k) a (tail ++ r) = postP g f p r)
theorem row_of {op lo hi mn mx : Int} {l : List RX} : rowR (RX.mk op lo hi mn mx l).op = rowR op := rfl
theorem PR_step {g : PG} (hg : PGok g) (d : Nat) (hJ : JR g d) (hP : PR g d) : PR g (d + 1) := by
 intro p hp hrow n hn
 obtain ⟨op, lo, hi, mn, mx, l⟩ := p
 obtain ⟨hf, hl⟩ := snd_node hp
 rcases form_ways hf with ⟨h0, hn0, rfl, rfl, rfl, rfl⟩ | ⟨rfl, hn0, h1, h2, h3, rfl, rfl⟩ | ⟨h0, hn0, rfl, rfl, rfl, rfl⟩ | ⟨rfl, hn0, rfl, rfl, h1, h2, h3⟩ | ⟨rfl, hn0, rfl, rfl, rfl, rfl⟩
 ·obtain rfl := List.length_eq_zero_iff.1 hn0
  rcases h0 with rfl | rfl
  ·exact ⟨_, [], 0, by omega, fun r => by cases n <;> rfl, fun r f => rfl⟩
  ·exact ⟨_, [], 0, by omega, fun r => by cases n <;> rfl, fun r f => rfl⟩
 ·obtain rfl := List.length_eq_zero_iff.1 hn0
  exact ⟨_, [], 0, by omega, fun r => atom_rng hg _ lo hi h1 h2 h3 r, fun r f => rfl⟩
 ·rcases h0 with rfl | rfl | rfl <;> exact absurd hrow (by rw [row_of]; decide)
 ·obtain ⟨q, rfl⟩ := List.length_eq_one_iff.1 hn0
  have hq := hl q List.mem_cons_self
  have hs : ∀ r, showR (d + 1) (.mk 5 0 0 mn mx [q]) ++ r = argT (showR d) 5 q ++ (bndT mn mx ++ r) := fun r => by
   show argT (showR d) 5 q ++ bndT mn mx ++ r = _
   rw [List.append_assoc]
  by_cases h : rowR q.op < 5
  ·refine ⟨q, bndT mn mx, 1, by omega, fun r => ?_, fun r f => ?_⟩
   ·have hd := snd_pos hq
    obtain ⟨n, rfl⟩ : ∃ m, n = m + 1 := ⟨n - 1, by omega⟩
    rw [hs, argT_low h]
    exact paren_back hJ q hq n (by unfold needR; split <;> omega) _
   ·rw [postP, hg.bnd mn mx h1 h2 h3]
  ·obtain ⟨a, tail, k, hk, hA, hB⟩ := hP q hq (by omega) n (by omega)
   refine ⟨a, tail ++ bndT mn mx, k + 1, by omega, fun r => ?_, fun r f => ?_⟩
   ·rw [hs, argT_high h, hA, List.append_assoc]
   ·rw [List.append_assoc, show f + (k + 1) = (f + 1) + k by omega, hB, postP, hg.bnd mn mx h1 h2 h3]
 ·exact absurd hrow (by rw [row_of]; decide)
theorem flat_args (sep : List UInt8) (T : RX → List UInt8) (q0 : RX) (qs : List RX) (r : List UInt8) : joinT sep ((q0 :: qs).map T) ++ r = T q0 ++ (qs.flatMap (fun q => sep ++ T q) ++ r) := by
 rw [List.map_cons, joinT_cons, List.flatMap_map, List.append_assoc]
theorem join_many (op : Int) (q0 q1 : RX) (qs : List RX) : joinP op (q0 :: q1 :: qs) = .mk op 0 0 0 0 (q0 :: q1 :: qs) := rfl
theorem JR_step {g : PG} (hg : PGok g) (d : Nat) (hd : d + 1 ≤ 48) (hJ : JR g d) (hP : PR g (d + 1)) : JR g (d + 1) := by
 intro p hp n hn
 have s1 : 4 ≤ rowR p.op → ∀ r, okF r → preP g n (showR (d + 1) p ++ r) = some (p, r) := by
  intro hrow r hr
  by_cases h5 : 5 ≤ rowR p.op
  ·rw [need_hi (by omega)] at hn
   obtain ⟨a, tail, k, hk, hA, hB⟩ := hP p hp h5 n (by omega)
   obtain ⟨⟨c, t, hct, -⟩, h33⟩ := show_head (d + 1) p hp
   have h33' := h33 h5
   have hh : ¬ (showR (d + 1) p ++ r).head? = some 33 := by
    rw [hct] at h33' ⊢
    exact h33'
   rw [pre_atom g n _ hh, hA]
   show postP g 49 a (tail ++ r) = _
   rw [show 49 = (49 - k) + k by omega, hB]
   obtain ⟨m, hm⟩ : ∃ m, 49 - k = m + 1 := ⟨48 - k, by omega⟩
   rw [hm, postP, hg.no r hr]
  ·obtain ⟨op, lo, hi, mn, mx, l⟩ := p
   obtain ⟨hf, hl⟩ := snd_node hp
   rw [row_of] at hrow h5
   rcases form_ways hf with ⟨h0, hn0, rfl, rfl, rfl, rfl⟩ | ⟨rfl, hn0, h1, h2, h3, rfl, rfl⟩ | ⟨h0, hn0, rfl, rfl, rfl, rfl⟩ | ⟨rfl, hn0, rfl, rfl, h1, h2, h3⟩ | ⟨rfl, hn0, rfl, rfl, rfl, rfl⟩
   ·rcases h0 with rfl | rfl <;> exact absurd (by decide) h5
   ·exact absurd (by decide) h5
   ·rcases h0 with rfl | rfl | rfl <;> exact absurd hrow (by decide)
   ·exact absurd (by decide) h5
   ·obtain ⟨q, rfl⟩ := List.length_eq_one_iff.1 hn0
    have hn' : d ≤ n := by
     have := hn
     rw [need_hi (by rw [row_of]; decide)] at this
     omega
    have hd1 := snd_pos (hl q List.mem_cons_self)
    obtain ⟨n, rfl⟩ : ∃ m, n = m + 1 := ⟨n - 1, by omega⟩
    show preP g (n + 1) (33 :: argT (showR d) 4 q ++ r) = _
    rw [preP, if_pos (by rfl)]
    show (preP g n (argT (showR d) 4 q ++ r)).map _ = _
    rw [arg4 hg hJ q (hl q List.mem_cons_self) n (by omega) r hr]
    rfl
 have s2 : 3 ≤ rowR p.op → ∀ r, stop3 r → inf3 (preP g n) (showR (d + 1) p ++ r) = some (p, r) := by
  intro hrow r hr
  by_cases h4 : 4 ≤ rowR p.op
  ·exact inf_one _ _ _ _ _ _ (s1 h4 r (stop3F hr)) (more3 hr)
  ·obtain ⟨op, lo, hi, mn, mx, l⟩ := p
   obtain ⟨hf, hl⟩ := snd_node hp
   rw [row_of] at hrow h4
   rcases form_ways hf with ⟨h0, hn0, rfl, rfl, rfl, rfl⟩ | ⟨rfl, hn0, h1, h2, h3, rfl, rfl⟩ | ⟨h0, hn0, rfl, rfl, rfl, rfl⟩ | ⟨rfl, hn0, rfl, rfl, h1, h2, h3⟩ | ⟨rfl, hn0, rfl, rfl, rfl, rfl⟩
   ·rcases h0 with rfl | rfl <;> exact absurd (by decide) h4
   ·exact absurd (by decide) h4
   ·rcases h0 with rfl | rfl | rfl
    ·obtain ⟨q0, q1, qs, rfl⟩ : ∃ q0 q1 qs, l = q0 :: q1 :: qs := by
      match l, hn0 with
      | q0 :: q1 :: qs, _ => exact ⟨q0, q1, qs, rfl⟩
     show inf3 (preP g n) (joinT [] ((q0 :: q1 :: qs).map (argT (showR d) 4)) ++ r) = _
     rw [flat_args, ← join_many]
     refine inf_back 3 none (preP g n) (argT (showR d) 4) okF r (stop3F hr) (more3 hr) q0 (q1 :: qs) ?_ ?_ ?_ ?_
     ·intro q hq u
      obtain ⟨c, t, hct, hc⟩ := (arg_head d 4 q (hl q (List.mem_cons_of_mem _ hq))).ne
      rw [hct]
      obtain ⟨-, -, -, -, g1, g2, g3⟩ := good_ne hc
      show (if c = 124 ∨ c = 38 ∨ c = 41 then none else some (c :: (t ++ u))) = some (c :: (t ++ u))
      rw [if_neg]
      rintro (h | h | h)
      ·exact g1 h
      ·exact g2 h
      ·exact g3 h
     ·intro q hq u hu
      exact arg4 hg hJ q (hl q hq) n (by have := hn; rw [need_lo (by rw [row_of]; decide)] at this; omega) u hu
     ·intro q hq u
      exact ((arg_head d 4 q (hl q (List.mem_cons_of_mem _ hq))).app u).okF
     ·intro q hq h
      obtain ⟨c, t, hct, -⟩ := (arg_head d 4 q (hl q (List.mem_cons_of_mem _ hq))).ne
      rw [hct] at h
      cases h
    ·exact absurd hrow (by decide)
    ·exact absurd hrow (by decide)
   ·exact absurd (by decide) h4
   ·exact absurd (by decide) h4
 have s3 : 2 ≤ rowR p.op → ∀ r, stop2 r → inf2 (preP g n) (showR (d + 1) p ++ r) = some (p, r) := by
  intro hrow r hr
  by_cases h4 : 3 ≤ rowR p.op
  ·exact inf_one _ _ _ _ _ _ (s2 h4 r (stop23 hr)) (more2 hr)
  ·obtain ⟨op, lo, hi, mn, mx, l⟩ := p
   obtain ⟨hf, hl⟩ := snd_node hp
   rw [row_of] at hrow h4
   rcases form_ways hf with ⟨h0, hn0, rfl, rfl, rfl, rfl⟩ | ⟨rfl, hn0, h1, h2, h3, rfl, rfl⟩ | ⟨h0, hn0, rfl, rfl, rfl, rfl⟩ | ⟨rfl, hn0, rfl, rfl, h1, h2, h3⟩ | ⟨rfl, hn0, rfl, rfl, rfl, rfl⟩
   ·rcases h0 with rfl | rfl <;> exact absurd (by decide) h4
   ·exact absurd (by decide) h4
   ·rcases h0 with rfl | rfl | rfl
    ·exact absurd (by decide) h4
    ·exact absurd hrow (by decide)
    ·obtain ⟨q0, q1, qs, rfl⟩ : ∃ q0 q1 qs, l = q0 :: q1 :: qs := by
      match l, hn0 with
      | q0 :: q1 :: qs, _ => exact ⟨q0, q1, qs, rfl⟩
     show inf2 (preP g n) (joinT [38] ((q0 :: q1 :: qs).map (argT (showR d) 3)) ++ r) = _
     rw [flat_args, ← join_many]
     refine inf_back 6 (some 38) (inf3 (preP g n)) (argT (showR d) 3) stop3 r (stop23 hr) (more2 hr) q0 (q1 :: qs) ?_ ?_ ?_ ?_
     ·intro q hq u
      exact more_sep 38 _
     ·intro q hq u hu
      exact arg3 hg hJ q (hl q hq) n (by have := hn; rw [need_lo (by rw [row_of]; decide)] at this; omega) u hu
     ·intro q hq u c t e
      injection e with e _
      exact .inr (.inl e.symm)
     ·intro q hq h
      obtain ⟨c, t, hct, -⟩ := (arg_head d 3 q (hl q (List.mem_cons_of_mem _ hq))).ne
      rw [hct] at h
      cases h
   ·exact absurd (by decide) h4
   ·exact absurd (by decide) h4
 refine ⟨s1, s2, s3, ?_⟩
 intro r hr
 by_cases h4 : 2 ≤ rowR p.op
 ·exact inf_one _ _ _ _ _ _ (s3 h4 r (stop12 hr)) (more1 hr)
 ·obtain ⟨op, lo, hi, mn, mx, l⟩ := p
  obtain ⟨hf, hl⟩ := snd_node hp
  rw [row_of] at h4
  rcases form_ways hf with ⟨h0, hn0, rfl, rfl, rfl, rfl⟩ | ⟨rfl, hn0, h1, h2, h3, rfl, rfl⟩ | ⟨h0, hn0, rfl, rfl, rfl, rfl⟩ | ⟨rfl, hn0, rfl, rfl, h1, h2, h3⟩ | ⟨rfl, hn0, rfl, rfl, rfl, rfl⟩
  ·rcases h0 with rfl | rfl <;> exact absurd (by decide) h4
  ·exact absurd (by decide) h4
  ·rcases h0 with rfl | rfl | rfl
   ·exact absurd (by decide) h4
   ·obtain ⟨q0, q1, qs, rfl⟩ : ∃ q0 q1 qs, l = q0 :: q1 :: qs := by
     match l, hn0 with
     | q0 :: q1 :: qs, _ => exact ⟨q0, q1, qs, rfl⟩
    show inf1 (preP g n) (joinT [124] ((q0 :: q1 :: qs).map (argT (showR d) 2)) ++ r) = _
    rw [flat_args, ← join_many]
    refine inf_back 4 (some 124) (inf2 (preP g n)) (argT (showR d) 2) stop2 r (stop12 hr) (more1 hr) q0 (q1 :: qs) ?_ ?_ ?_ ?_
    ·intro q hq u
     exact more_sep 124 _
    ·intro q hq u hu
     exact arg2 hg hJ q (hl q hq) n (by have := hn; rw [need_lo (by rw [row_of]; decide)] at this; omega) u hu
    ·intro q hq u c t e
     injection e with e _
     exact .inl e.symm
    ·intro q hq h
     obtain ⟨c, t, hct, -⟩ := (arg_head d 2 q (hl q (List.mem_cons_of_mem _ hq))).ne
     rw [hct] at h
     cases h
   ·exact absurd (by decide) h4
  ·exact absurd (by decide) h4
  ·exact absurd (by decide) h4
theorem JR_all {g : PG} (hg : PGok g) : ∀ d, d ≤ 48 → JR g d ∧ PR g d
 | 0, _ => ⟨fun p hp => by (cases hp), fun p hp => by (cases hp)⟩
 | d + 1, h => by
  obtain ⟨hJ, hP⟩ := JR_all hg d (by omega)
  have hP' := PR_step hg d hJ hP
  exact ⟨JR_step hg d h hJ hP', hP'⟩
theorem parse_back (p : RX) (h : valR p = true) : parseR (textR p) = some p := by
 have hs : sndR 48 p = true := by
  unfold valR at h
  rw [Bool.and_eq_true] at h
  exact h.1
 have ht : textR p = showR 48 p := by unfold textR; rw [if_pos h]
 have h4 := ((JR_all pgP_ok 48 (by omega)).1 p hs 96 (by unfold needR; split <;> omega)).2.2.2 [] (fun c t e => by cases e)
 rw [List.append_nil] at h4
 obtain ⟨c, t, hct, -⟩ := (show_head 48 p hs).1.ne
 unfold parseR
 rw [ht, h4]
 show (if [] ≠ [] ∨ textR p ≠ showR 48 p ∨ showR 48 p = [] then none else some p) = some p
 rw [if_neg]
 rintro (h | h | h)
 ·exact h rfl
 ·exact h ht
 ·rw [hct] at h
  cases h
theorem parse_text {l : List UInt8} {p : RX} (h : parseR l = some p) : textR p = l ∧ valR p = true := by
 unfold parseR at h
 split at h
 ·cases h
 ·split at h
  ·cases h
  ·rename_i hc
   cases h
   rw [not_or, not_or] at hc
   have h2 : textR _ = l := Classical.not_not.1 hc.2.1
   refine ⟨h2, ?_⟩
   unfold textR at h2
   split at h2
   ·assumption
   ·exact absurd h2.symm hc.2.2
end Go.Proofs.YtpkecepelcppiaaGreatDoor

namespace Go.Proofs.YtpkecepelcppiaaGreatDoor
open Go.RowKit
set_option maxRecDepth 100000
set_option maxHeartbeats 1000000

def add1 (o : List Nat) (i : Nat) : List Nat := if i ∈ o then o else o ++ [i]
def addL (o l : List Nat) : List Nat := l.foldl add1 o
def rng1 (s : List UInt8) (lo hi : Int) (i : Nat) : Bool :=
 match s[i]? with
 | none => false
 | some c => decide (lo ≤ (c.toNat : Int) ∧ (c.toNat : Int) ≤ hi)
def cntL (ls : List (List Nat)) (i : Nat) : Nat := (ls.map fun l => l.count i).sum
def sglL (s : List UInt8) (op : Int) (ls : List (List Nat)) (from' : Nat) : List Nat :=
 (List.range' from' (s.length + 1 - from')).filter fun i => decide (op = 6 ∧ cntL ls i = ls.length ∨ op = 7 ∧ cntL ls i = 0)
def repN (f : List Nat → List Nat) : Nat → List Nat → List Nat
 | 0, l => l
 | n + 1, l => repN f n (f l)
def repL (f : List Nat → List Nat) : Nat → Option Nat → List Nat → List Nat → List Nat
 | 0, _, out, _ => out
 | fuel + 1, left, out, from' =>
  if from' = [] ∨ left = some 0 then out
  else repL f fuel (left.map (· - 1)) (addL out (f from')) ((addL out (f from')).drop out.length)
def repE (n : Nat) (e : RX → List Nat → List Nat) (mn mx : Int) (l : List RX) (fr : List Nat) : List Nat :=
 match l with
 | [] => []
 | a :: _ => repL (e a) (n + 2) (if mx < 0 then none else some (mx - mn).toNat) (addL [] (repN (e a) mn.toNat fr)) (repN (e a) mn.toNat fr)
def endsL (s : List UInt8) : Nat → RX → List Nat → List Nat
 | 0, _, _ => []
 | d + 1, .mk op lo hi mn mx l, from' =>
  if from' = [] then []
  else if op = 1 then from'
  else if op = 2 then from'.foldl (fun o i => if rng1 s lo hi i then add1 o (i + 1) else o) []
  else if op = 3 then l.foldl (fun f a => endsL s d a f) from'
  else if op = 4 then l.foldl (fun o a => addL o (endsL s d a from')) []
  else if op = 6 ∨ op = 7 then from'.foldl (fun o i => addL o (sglL s op (l.map fun a => endsL s d a [i]) i)) []
  else if op = 5 then repE s.length (endsL s d) mn mx l from'
  else []
def matR (p : RX) (s : List UInt8) : Bool := valR p && decide (s.length ∈ endsL s 48 p [0])

/-! Derivatives. -/
/-! The chapter's examples. -/
end Go.Proofs.YtpkecepelcppiaaGreatDoor

namespace Go.Proofs.YtpkecepelcppiaaGreatDoor
open Go.RowKit
set_option maxRecDepth 100000
set_option maxHeartbeats 1000000

structure ArcA where
 lo : Nat
 hi : Nat
 nx : Nat
structure StA where
 acc : Bool
 arcs : List ArcA
def okArcs (n : Nat) : Nat → List ArcA → Bool
 | b, [] => decide (b = 256)
 | b, a :: t => decide (a.lo = b) && decide (a.lo ≤ a.hi) && decide (a.hi ≤ 255) && decide (a.nx < n) && okArcs n (a.hi + 1) t
def valA (m : List StA) : Bool := decide (1 ≤ m.length) && decide (m.length ≤ 1024) && m.all fun s => okArcs m.length 0 s.arcs
def stepL : List ArcA → Nat → Nat
 | [], _ => 0
 | a :: t, b => if b ≤ a.hi then a.nx else stepL t b
def nextL : List ArcA → Nat → Nat
 | [], _ => 0
 | a :: t, b => if a.lo ≤ b ∧ b ≤ a.hi then a.nx else nextL t b
def arcsOf (m : List StA) (q : Nat) : List ArcA := match m[q]? with
 | some s => s.arcs
 | none => []
def accOf (m : List StA) (q : Nat) : Bool := match m[q]? with
 | some s => s.acc
 | none => false
def runA (m : List StA) : Nat → List UInt8 → Nat
 | q, [] => q
 | q, c :: t => runA m (nextL (arcsOf m q) c.toNat) t
def accA (m : List StA) (s : List UInt8) : Bool := valA m && accOf m (runA m 0 s)
def startsA (m : List StA) : List Nat := (List.range 256).filter fun b => m.any fun s => s.arcs.any fun a => decide (a.lo = b)
def decN (n : Nat) : List UInt8 := decT n
def keyA (cl : List Nat) (nx : List (List Nat)) (q : Nat) : List UInt8 := decN (cl.getD q 0) ++ (nx.getD q []).flatMap fun t => 44 :: decN (cl.getD t 0)
def roundA : List (List UInt8) → List (List UInt8) → List Nat × Nat
 | [], seen => ([], seen.length)
 | k :: t, seen => match seen.findIdx? (fun x => decide (x = k)) with
  | some i => let r := roundA t seen; (i :: r.1, r.2)
  | none => let r := roundA t (seen ++ [k]); (seen.length :: r.1, r.2)
def loopA (nx : List (List Nat)) : Nat → List Nat → Nat → Option (List Nat)
 | 0, _, _ => none
 | f + 1, cl, known =>
  let r := roundA ((List.range cl.length).map (keyA cl nx)) []
  if r.2 = known then some r.1 else loopA nx f r.1 r.2
def addArcA (l : List ArcA) (lo hi nx : Nat) : List ArcA := match l.getLast? with
 | none => [⟨lo, hi, nx⟩]
 | some a => if a.nx = nx then l.dropLast ++ [⟨a.lo, hi, a.nx⟩] else l ++ [⟨lo, hi, nx⟩]
def hiA (bytes : List Nat) (i : Nat) : Nat := match bytes[i + 1]? with
 | some b => b - 1
 | none => 255
def rowA (bytes cl : List Nat) : List Nat → Nat → List ArcA → List Nat → List ArcA × List Nat
 | [], _, arcs, order => (arcs, order)
 | t :: ts, k, arcs, order => match order.findIdx? (fun o => decide (cl.getD o 0 = cl.getD t 0)) with
  | some n => rowA bytes cl ts (k + 1) (addArcA arcs (bytes.getD k 0) (hiA bytes k) n) order
  | none => rowA bytes cl ts (k + 1) (addArcA arcs (bytes.getD k 0) (hiA bytes k) order.length) (order ++ [t])
def numA (m : List StA) (bytes cl : List Nat) (nx : List (List Nat)) : Nat → Nat → List Nat → List StA → Option (List StA)
 | 0, _, _, _ => none
 | f + 1, i, order, out => match order[i]? with
  | none => some out
  | some q =>
   let r := rowA bytes cl (nx.getD q []) 0 [] order
   numA m bytes cl nx f (i + 1) r.2 (out ++ [⟨accOf m q, r.1⟩])
def leastA (f : Nat) (m : List StA) : Option (List StA) :=
 let bytes := startsA m
 let nx := m.map fun s => bytes.map (stepL s.arcs)
 match loopA nx f (m.map fun s => if s.acc then 1 else 0) 0 with
 | none => none
 | some cl => numA m bytes cl nx f 0 [0] []
def spansA : Nat → List ArcA
 | 0 => [⟨0, 127, 0⟩, ⟨194, 223, 1⟩, ⟨224, 224, 4⟩, ⟨225, 236, 2⟩, ⟨237, 237, 5⟩, ⟨238, 239, 2⟩, ⟨240, 240, 6⟩, ⟨241, 243, 3⟩, ⟨244, 244, 7⟩]
 | 1 => [⟨128, 191, 0⟩]
 | 2 => [⟨128, 191, 1⟩]
 | 3 => [⟨128, 191, 2⟩]
 | 4 => [⟨160, 191, 1⟩]
 | 5 => [⟨128, 159, 1⟩]
 | 6 => [⟨144, 191, 2⟩]
 | _ => [⟨128, 143, 2⟩]
def nextC (mx : Int) (top count want nx : Nat) : Nat :=
 if want ≠ 0 then count * 8 + nx else if count < top then (count + 1) * 8 + nx else if mx = -1 then count * 8 + nx else (top + 1) * 8
def arcsGo (dead : Nat) (f : Nat → Nat) : List ArcA → Nat → List ArcA → List ArcA
 | out, b, [] => if b ≤ 255 then out ++ [⟨b, 255, dead⟩] else out
 | out, b, a :: t => arcsGo dead f ((if b < a.lo then out ++ [⟨b, a.lo - 1, dead⟩] else out) ++ [⟨a.lo, a.hi, f a.nx⟩]) (a.hi + 1) t
def arcsC (mx : Int) (top count want : Nat) : List ArcA := arcsGo ((top + 1) * 8) (nextC mx top count want) [] 0 (spansA want)
def statesC (mn : Nat) (mx : Int) (top : Nat) : List StA :=
 (List.range (top + 1)).flatMap fun count => (List.range 8).map fun want => ⟨decide (want = 0) && decide (mn ≤ count), arcsC mx top count want⟩
def machC (mn : Nat) (mx : Int) (top : Nat) : List StA := statesC mn mx top ++ [⟨false, [⟨0, 255, (top + 1) * 8⟩]⟩]
/-! Step by step. -/
theorem step_at (l : List ArcA) (k b : Nat) (hk : k < l.length) : stepL (l.drop k) b = if b ≤ l[k].hi then l[k].nx else stepL (l.drop (k + 1)) b := by
 rw [List.drop_eq_getElem_cons hk]
 rfl
theorem step_end (l : List ArcA) (k b : Nat) (hk : ¬ k < l.length) : stepL (l.drop k) b = 0 := by
 rw [List.drop_of_length_le (by omega)]
 rfl
theorem next_at (l : List ArcA) (k b : Nat) (hk : k < l.length) : nextL (l.drop k) b = if l[k].lo ≤ b ∧ b ≤ l[k].hi then l[k].nx else nextL (l.drop (k + 1)) b := by
 rw [List.drop_eq_getElem_cons hk]
 rfl
theorem next_end (l : List ArcA) (k b : Nat) (hk : ¬ k < l.length) : nextL (l.drop k) b = 0 := by
 rw [List.drop_of_length_le (by omega)]
 rfl
theorem ok_at (n : Nat) (l : List ArcA) (k b : Nat) (hk : k < l.length) : okArcs n b (l.drop k) = (decide (l[k].lo = b) && decide (l[k].lo ≤ l[k].hi) && decide (l[k].hi ≤ 255) && decide (l[k].nx < n) && okArcs n (l[k].hi + 1) (l.drop (k + 1))) := by
 rw [List.drop_eq_getElem_cons hk]
 rfl
theorem ok_end (n : Nat) (l : List ArcA) (k b : Nat) (hk : ¬ k < l.length) : okArcs n b (l.drop k) = decide (b = 256) := by
 rw [List.drop_of_length_le (by omega)]
 rfl
theorem go_at (dead : Nat) (f : Nat → Nat) (l out : List ArcA) (k b : Nat) (hk : k < l.length) : arcsGo dead f out b (l.drop k) = arcsGo dead f ((if b < l[k].lo then out ++ [⟨b, l[k].lo - 1, dead⟩] else out) ++ [⟨l[k].lo, l[k].hi, f l[k].nx⟩]) (l[k].hi + 1) (l.drop (k + 1)) := by
 rw [List.drop_eq_getElem_cons hk]
 rfl
theorem go_end (dead : Nat) (f : Nat → Nat) (l out : List ArcA) (k b : Nat) (hk : ¬ k < l.length) : arcsGo dead f out b (l.drop k) = if b ≤ 255 then out ++ [⟨b, 255, dead⟩] else out := by
 rw [List.drop_of_length_le (by omega)]
 rfl
def utfA : List StA := (leastA 20 (machC 0 (-1) 0)).getD []
def oneA : List StA := (leastA 20 (machC 1 1 1)).getD []
theorem utf_least : (leastA 20 (machC 0 (-1) 0)).isSome = true ∧ valA (machC 0 (-1) 0) = true ∧ utfA.length = 9 := by decide +kernel
theorem one_least : (leastA 20 (machC 1 1 1)).isSome = true ∧ valA (machC 1 1 1) = true := by decide +kernel
theorem one_acc : accA oneA [195, 169] = true ∧ accA oneA [97, 98] = false := by decide +kernel
end Go.Proofs.YtpkecepelcppiaaGreatDoor

namespace Go.Proofs.YtpkecepelcppiaaGreatDoor
open Go.RowKit
set_option maxRecDepth 100000
set_option maxHeartbeats 1000000

def catM : List (Nat → Nat → Prop) → Nat → Nat → Prop
 | [], i, j => i = j
 | f :: t, i, j => ∃ k, f i k ∧ catM t k j
def powM (f : Nat → Nat → Prop) : Nat → Nat → Nat → Prop
 | 0, i, j => i = j
 | n + 1, i, j => ∃ k, f i k ∧ powM f n k j
def memR (s : List UInt8) : Nat → RX → Nat → Nat → Prop
 | 0, _, _, _ => False
 | d + 1, .mk op lo hi mn mx l, i, j =>
  (op = 1 ∧ i = j) ∨ (op = 2 ∧ j = i + 1 ∧ rng1 s lo hi i = true) ∨ (op = 3 ∧ catM (l.map (memR s d)) i j) ∨ (op = 4 ∧ ∃ q ∈ l, memR s d q i j) ∨
  (op = 5 ∧ ∃ q, l = [q] ∧ ∃ n : Nat, mn ≤ n ∧ (mx < 0 ∨ (n : Int) ≤ mx) ∧ powM (memR s d q) n i j) ∨
  (op = 6 ∧ i ≤ j ∧ j ≤ s.length ∧ ∀ q ∈ l, memR s d q i j) ∨ (op = 7 ∧ i ≤ j ∧ j ≤ s.length ∧ ∀ q ∈ l, ¬ memR s d q i j)
theorem powM_add (f : Nat → Nat → Prop) : ∀ a b i j, powM f (a + b) i j ↔ ∃ k, powM f a i k ∧ powM f b k j
 | 0, b, i, j => by
  rw [Nat.zero_add]
  exact ⟨fun h => ⟨i, rfl, h⟩, fun ⟨k, h1, h2⟩ => by cases h1; exact h2⟩
 | a + 1, b, i, j => by
  rw [show a + 1 + b = (a + b) + 1 by omega]
  constructor
  ·rintro ⟨k, h1, h2⟩
   obtain ⟨m, h3, h4⟩ := (powM_add f a b k j).1 h2
   exact ⟨m, ⟨k, h1, h3⟩, h4⟩
  ·rintro ⟨m, ⟨k, h1, h3⟩, h4⟩
   exact ⟨k, h1, (powM_add f a b k j).2 ⟨m, h3, h4⟩⟩
theorem powM_snoc (f : Nat → Nat → Prop) (n i j : Nat) : powM f (n + 1) i j ↔ ∃ k, powM f n i k ∧ f k j := by
 rw [powM_add]
 constructor
 ·rintro ⟨k, h1, m, h2, rfl⟩
  exact ⟨k, h1, h2⟩
 ·rintro ⟨k, h1, h2⟩
  exact ⟨k, h1, j, h2, rfl⟩
theorem add1_mem (o : List Nat) (i x : Nat) : x ∈ add1 o i ↔ x ∈ o ∨ x = i := by
 unfold add1
 split
 ·rename_i h
  exact ⟨.inl, fun h' => h'.elim id (fun e => by rw [e]; exact h)⟩
 ·simp
theorem add1_nodup {o : List Nat} (h : o.Nodup) (i : Nat) : (add1 o i).Nodup := by
 unfold add1
 split
 ·exact h
 ·rename_i hi
  rw [List.nodup_append]
  refine ⟨h, by simp, fun a ha b hb => ?_⟩
  rw [List.mem_singleton.1 hb]
  rintro rfl
  exact hi ha
theorem addL_mem : ∀ (l o : List Nat) (x : Nat), x ∈ addL o l ↔ x ∈ o ∨ x ∈ l
 | [], o, x => by simp [addL]
 | i :: t, o, x => by
  show x ∈ addL (add1 o i) t ↔ _
  rw [addL_mem t, add1_mem, List.mem_cons, or_assoc]
theorem addL_nodup : ∀ (l o : List Nat), o.Nodup → (addL o l).Nodup
 | [], _, h => h
 | i :: t, o, h => addL_nodup t (add1 o i) (add1_nodup h i)
theorem addL_pre : ∀ (l o : List Nat), ∃ n, addL o l = o ++ n
 | [], o => ⟨[], by simp [addL]⟩
 | i :: t, o => by
  obtain ⟨n, hn⟩ := addL_pre t (add1 o i)
  show ∃ n, addL (add1 o i) t = o ++ n
  unfold add1 at hn ⊢
  split at hn
  ·rename_i h
   rw [if_pos h]
   exact ⟨n, hn⟩
  ·rename_i h
   rw [if_neg h, hn, List.append_assoc]
   exact ⟨_, rfl⟩
theorem addL_new (l o : List Nat) (h : o.Nodup) : ((addL o l).drop o.length).Nodup ∧ ∀ x, x ∈ (addL o l).drop o.length ↔ x ∈ addL o l ∧ x ∉ o := by
 obtain ⟨n, hn⟩ := addL_pre l o
 have hd := addL_nodup l o h
 rw [hn] at hd ⊢
 rw [List.drop_left]
 rw [List.nodup_append] at hd
 refine ⟨hd.2.1, fun x => ⟨fun hx => ⟨List.mem_append_right _ hx, fun ho => hd.2.2 x ho x hx rfl⟩, fun ⟨h1, h2⟩ => ?_⟩⟩
 rcases List.mem_append.1 h1 with h | h
 ·exact absurd h h2
 ·exact h
theorem bound_len {l : List Nat} {N : Nat} (h : l.Nodup) (hb : ∀ x ∈ l, x ≤ N) : l.length ≤ N + 1 := by
 have : l ⊆ List.range (N + 1) := fun x hx => List.mem_range.2 (by have := hb x hx; omega)
 have := h.length_le_of_subset this
 simpa using this
structure Finds (N : Nat) (f : List Nat → List Nat) (M : Nat → Nat → Prop) : Prop where
 mem : ∀ l, l.Nodup → (∀ x ∈ l, x ≤ N) → ∀ j, j ∈ f l ↔ ∃ i ∈ l, M i j
 nod : ∀ l, l.Nodup → (∀ x ∈ l, x ≤ N) → (f l).Nodup
 le : ∀ i j, i ≤ N → M i j → i ≤ j ∧ j ≤ N
theorem Finds.bd {N : Nat} {f : List Nat → List Nat} {M : Nat → Nat → Prop} (h : Finds N f M) {l : List Nat} (hl : l.Nodup) (hb : ∀ x ∈ l, x ≤ N) : ∀ x ∈ f l, x ≤ N := by
 intro x hx
 obtain ⟨i, hi, hm⟩ := (h.mem l hl hb x).1 hx
 exact (h.le i x (hb i hi) hm).2
theorem pow_le {N : Nat} {f : List Nat → List Nat} {M : Nat → Nat → Prop} (h : Finds N f M) : ∀ n i j, i ≤ N → powM M n i j → i ≤ j ∧ j ≤ N
 | 0, i, j, hi, hm => by cases hm; omega
 | n + 1, i, j, hi, ⟨k, h1, h2⟩ => by
  have a := h.le i k hi h1
  have b := pow_le h n k j a.2 h2
  omega
theorem repN_finds {N : Nat} {f : List Nat → List Nat} {M : Nat → Nat → Prop} (h : Finds N f M) : ∀ n, Finds N (repN f n) (powM M n)
 | 0 => ⟨fun l hl hb j => ⟨fun hj => ⟨j, hj, rfl⟩, fun ⟨i, hi, e⟩ => by cases e; exact hi⟩, fun l hl hb => hl, fun i j hi hm => by cases hm; omega⟩
 | n + 1 => by
  have ih := repN_finds h n
  refine ⟨fun l hl hb j => ?_, fun l hl hb => ih.nod _ (h.nod l hl hb) (h.bd hl hb), pow_le h (n + 1)⟩
  show j ∈ repN f n (f l) ↔ _
  rw [ih.mem _ (h.nod l hl hb) (h.bd hl hb)]
  constructor
  ·rintro ⟨k, hk, hm⟩
   obtain ⟨i, hi, h1⟩ := (h.mem l hl hb k).1 hk
   exact ⟨i, hi, k, h1, hm⟩
  ·rintro ⟨i, hi, k, h1, hm⟩
   exact ⟨k, (h.mem l hl hb k).2 ⟨i, hi, h1⟩, hm⟩
def leftM (t : Nat) : Option Nat → Nat → Prop
 | none, _ => True
 | some k, m => m ≤ t + k
theorem repL_mem {N : Nat} {f : List Nat → List Nat} {M : Nat → Nat → Prop} (h : Finds N f M) (F : List Nat) (hF : ∀ x ∈ F, x ≤ N) :
  ∀ (fuel t : Nat) (left : Option Nat) (out fr : List Nat), out.Nodup → fr.Nodup → (∀ j, j ∈ out ↔ ∃ i ∈ F, ∃ m, m ≤ t ∧ powM M m i j) → (∀ j, j ∈ fr ↔ j ∈ out ∧ ¬ ∃ i ∈ F, ∃ m, m < t ∧ powM M m i j) → (fr = [] ∨ N + 2 ≤ fuel + out.length) →
  (repL f fuel left out fr).Nodup ∧ ∀ j, j ∈ repL f fuel left out fr ↔ ∃ i ∈ F, ∃ m, leftM t left m ∧ powM M m i j := by
 have hclosed : ∀ (t : Nat) (out : List Nat), (∀ j, j ∈ out ↔ ∃ i ∈ F, ∃ m, m ≤ t ∧ powM M m i j) → (∀ j, ¬ (j ∈ out ∧ ¬ ∃ i ∈ F, ∃ m, m < t ∧ powM M m i j)) → ∀ m i j, i ∈ F → powM M m i j → j ∈ out := by
  intro t out ho hf m
  induction m with
  | zero => intro i j hi hm; exact (ho j).2 ⟨i, hi, 0, Nat.zero_le _, hm⟩
  | succ m ih =>
   intro i j hi hm
   obtain ⟨k, h1, h2⟩ := (powM_snoc M m i j).1 hm
   have hk := ih i k hi h1
   have : ∃ i ∈ F, ∃ m, m < t ∧ powM M m i k := Classical.byContradiction fun hc => hf k ⟨hk, hc⟩
   obtain ⟨i', hi', m', hm', hp⟩ := this
   exact (ho j).2 ⟨i', hi', m' + 1, by omega, (powM_snoc M m' i' j).2 ⟨k, hp, h2⟩⟩
 have hbd : ∀ (t : Nat) (out : List Nat), (∀ j, j ∈ out ↔ ∃ i ∈ F, ∃ m, m ≤ t ∧ powM M m i j) → ∀ x ∈ out, x ≤ N := by
  intro t out ho x hx
  obtain ⟨i, hi, m, -, hp⟩ := (ho x).1 hx
  exact (pow_le h m i x (hF i hi) hp).2
 have hstop : ∀ (t : Nat) (left : Option Nat) (out fr : List Nat), (∀ j, j ∈ out ↔ ∃ i ∈ F, ∃ m, m ≤ t ∧ powM M m i j) → (∀ j, j ∈ fr ↔ j ∈ out ∧ ¬ ∃ i ∈ F, ∃ m, m < t ∧ powM M m i j) → (fr = [] ∨ left = some 0) → ∀ j, j ∈ out ↔ ∃ i ∈ F, ∃ m, leftM t left m ∧ powM M m i j := by
  intro t left out fr ho hf hs j
  constructor
  ·intro hj
   obtain ⟨i, hi, m, hm, hp⟩ := (ho j).1 hj
   refine ⟨i, hi, m, ?_, hp⟩
   cases left with
   | none => trivial
   | some k => show m ≤ t + k; omega
  ·rintro ⟨i, hi, m, hm, hp⟩
   rcases hs with rfl | rfl
   ·exact hclosed t out ho (fun j hj => by have := (hf j).2 hj; cases this) m i j hi hp
   ·have hm' : m ≤ t + 0 := hm
    exact (ho j).2 ⟨i, hi, m, by omega, hp⟩
 intro fuel
 induction fuel with
 | zero =>
  intro t left out fr hn hnf ho hf hl
  rcases hl with hl | hl
  ·exact ⟨hn, hstop t left out fr ho hf (.inl hl)⟩
  ·have := bound_len hn (hbd t out ho)
   omega
 | succ fuel ih =>
  intro t left out fr hn hnf ho hf hl
  by_cases hs : fr = [] ∨ left = some 0
  ·rw [repL, if_pos hs]
   exact ⟨hn, hstop t left out fr ho hf hs⟩
  rw [repL, if_neg hs]
  rw [not_or] at hs
  have hb := hbd t out ho
  have hbf : ∀ x ∈ fr, x ≤ N := fun x hx => hb x ((hf x).1 hx).1
  obtain ⟨hnew, hmem⟩ := addL_new (f fr) out hn
  have ho' : ∀ j, j ∈ addL out (f fr) ↔ ∃ i ∈ F, ∃ m, m ≤ t + 1 ∧ powM M m i j := by
   intro j
   rw [addL_mem, h.mem fr hnf hbf]
   constructor
   ·rintro (hj | ⟨k, hk, hm⟩)
    ·obtain ⟨i, hi, m, hm, hp⟩ := (ho j).1 hj
     exact ⟨i, hi, m, by omega, hp⟩
    ·obtain ⟨i, hi, m, hm', hp⟩ := (ho k).1 ((hf k).1 hk).1
     exact ⟨i, hi, m + 1, by omega, (powM_snoc M m i j).2 ⟨k, hp, hm⟩⟩
   ·rintro ⟨i, hi, m, hm, hp⟩
    by_cases hle : m ≤ t
    ·exact .inl ((ho j).2 ⟨i, hi, m, hle, hp⟩)
    obtain rfl : m = t + 1 := by omega
    obtain ⟨k, h1, h2⟩ := (powM_snoc M t i j).1 hp
    by_cases hk : ∃ i ∈ F, ∃ m, m < t ∧ powM M m i k
    ·obtain ⟨i', hi', m', hm', hp'⟩ := hk
     exact .inl ((ho j).2 ⟨i', hi', m' + 1, by omega, (powM_snoc M m' i' j).2 ⟨k, hp', h2⟩⟩)
    ·exact .inr ⟨k, (hf k).2 ⟨(ho k).2 ⟨i, hi, t, Nat.le_refl _, h1⟩, hk⟩, h2⟩
  have key := ih (t + 1) (left.map (· - 1)) (addL out (f fr)) ((addL out (f fr)).drop out.length) (addL_nodup _ _ hn) hnew ho' (fun j => by
   rw [hmem j]
   constructor
   ·rintro ⟨h1, h2⟩
    refine ⟨h1, ?_⟩
    rintro ⟨i, hi, m, hm, hp⟩
    exact h2 ((ho j).2 ⟨i, hi, m, by omega, hp⟩)
   ·rintro ⟨h1, h2⟩
    refine ⟨h1, fun hj => h2 ?_⟩
    obtain ⟨i, hi, m, hm, hp⟩ := (ho j).1 hj
    exact ⟨i, hi, m, by omega, hp⟩) (by
   rcases hl with hl | hl
   ·exact absurd hl hs.1
   obtain ⟨n, hn'⟩ := addL_pre (f fr) out
   rcases hz : n with _ | ⟨x, u⟩
   ·left
    rw [hn', hz, List.append_nil, List.drop_length]
   ·right
    rw [hn', hz, List.length_append, List.length_cons]
    omega)
  refine ⟨key.1, fun j => ?_⟩
  rw [key.2 j]
  have hleft : ∀ m, leftM (t + 1) (left.map (· - 1)) m ↔ leftM t left m := by
   intro m
   rcases left with _ | k
   ·exact Iff.rfl
   ·have : k ≠ 0 := fun e => hs.2 (by rw [e])
    show m ≤ t + 1 + (k - 1) ↔ m ≤ t + k
    omega
  constructor
  ·rintro ⟨i, hi, m, hm, hp⟩
   exact ⟨i, hi, m, (hleft m).1 hm, hp⟩
  ·rintro ⟨i, hi, m, hm, hp⟩
   exact ⟨i, hi, m, (hleft m).2 hm, hp⟩
theorem nodup_count : ∀ (l : List Nat), l.Nodup → ∀ i, l.count i ≤ 1
 | [], _, i => by simp
 | b :: t, h, i => by
  rw [List.nodup_cons] at h
  have := nodup_count t h.2 i
  rw [List.count_cons]
  by_cases hb : b = i
  ·subst hb
   rw [List.count_eq_zero.2 h.1]
   split <;> omega
  ·rw [if_neg (by simpa using hb)]
   omega
theorem count_all : ∀ (ls : List (List Nat)) (i : Nat), (∀ l ∈ ls, l.Nodup) → (cntL ls i = ls.length ↔ ∀ l ∈ ls, i ∈ l) ∧ (cntL ls i = 0 ↔ ∀ l ∈ ls, i ∉ l) ∧ cntL ls i ≤ ls.length
 | [], i, _ => by simp [cntL]
 | l :: t, i, h => by
  obtain ⟨h1, h2, h3⟩ := count_all t i (fun x hx => h x (List.mem_cons_of_mem _ hx))
  have hc : cntL (l :: t) i = l.count i + cntL t i := by simp [cntL]
  have hl : l.count i ≤ 1 := nodup_count l (h l List.mem_cons_self) i
  have hp : 0 < l.count i ↔ i ∈ l := List.count_pos_iff
  rw [hc]
  simp only [List.length_cons, List.forall_mem_cons]
  refine ⟨?_, ?_, by omega⟩
  ·rw [← h1, ← hp]
   omega
  ·rw [← h2, ← hp]
   omega
theorem foldl_addL (f : Nat → List Nat) : ∀ (l o : List Nat) (x : Nat), x ∈ l.foldl (fun o i => addL o (f i)) o ↔ x ∈ o ∨ ∃ i ∈ l, x ∈ f i
 | [], o, x => by simp
 | i :: t, o, x => by
  rw [List.foldl_cons, foldl_addL f t, addL_mem]
  simp only [List.mem_cons, exists_eq_or_imp, or_assoc]
theorem foldl_addL_nodup {α : Type} (f : α → List Nat) : ∀ (l : List α) (o : List Nat), o.Nodup → (l.foldl (fun o i => addL o (f i)) o).Nodup
 | [], _, h => h
 | _ :: t, _, h => foldl_addL_nodup f t _ (addL_nodup _ _ h)
theorem foldl_addA {α : Type} (f : α → List Nat) : ∀ (l : List α) (o : List Nat) (x : Nat), x ∈ l.foldl (fun o i => addL o (f i)) o ↔ x ∈ o ∨ ∃ i ∈ l, x ∈ f i
 | [], o, x => by simp
 | i :: t, o, x => by
  rw [List.foldl_cons, foldl_addA f t, addL_mem]
  simp only [List.mem_cons, exists_eq_or_imp, or_assoc]
theorem foldl_rng (s : List UInt8) (lo hi : Int) : ∀ (l o : List Nat), o.Nodup → (l.foldl (fun o i => if rng1 s lo hi i then add1 o (i + 1) else o) o).Nodup ∧ ∀ x, x ∈ l.foldl (fun o i => if rng1 s lo hi i then add1 o (i + 1) else o) o ↔ x ∈ o ∨ ∃ i ∈ l, x = i + 1 ∧ rng1 s lo hi i = true
 | [], o, h => ⟨h, fun x => by simp⟩
 | i :: t, o, h => by
  rw [List.foldl_cons]
  by_cases hr : rng1 s lo hi i = true
  ·rw [if_pos hr]
   obtain ⟨h1, h2⟩ := foldl_rng s lo hi t _ (add1_nodup h (i + 1))
   refine ⟨h1, fun x => ?_⟩
   rw [h2 x, add1_mem]
   simp only [List.mem_cons, exists_eq_or_imp, or_assoc, hr, and_true]
  ·rw [if_neg hr]
   obtain ⟨h1, h2⟩ := foldl_rng s lo hi t _ h
   refine ⟨h1, fun x => ?_⟩
   rw [h2 x]
   simp only [List.mem_cons, exists_eq_or_imp, hr, and_false, false_or, Bool.false_eq_true]
theorem foldl_cat {N : Nat} : ∀ (ps : List ((List Nat → List Nat) × (Nat → Nat → Prop))), (∀ p ∈ ps, Finds N p.1 p.2) → Finds N (fun l => ps.foldl (fun f a => a.1 f) l) (catM (ps.map (·.2)))
 | [], _ => ⟨fun l hl hb j => ⟨fun hj => ⟨j, hj, rfl⟩, fun ⟨i, hi, e⟩ => by cases e; exact hi⟩, fun l hl hb => hl, fun i j hi hm => by cases hm; omega⟩
 | p :: t, h => by
  have hp := h p List.mem_cons_self
  have ih := foldl_cat t (fun x hx => h x (List.mem_cons_of_mem _ hx))
  refine ⟨fun l hl hb j => ?_, fun l hl hb => ih.nod _ (hp.nod l hl hb) (hp.bd hl hb), fun i j hi hm => ?_⟩
  ·show j ∈ t.foldl (fun f a => a.1 f) (p.1 l) ↔ _
   rw [ih.mem _ (hp.nod l hl hb) (hp.bd hl hb)]
   constructor
   ·rintro ⟨k, hk, hm⟩
    obtain ⟨i, hi, h1⟩ := (hp.mem l hl hb k).1 hk
    exact ⟨i, hi, k, h1, hm⟩
   ·rintro ⟨i, hi, k, h1, hm⟩
    exact ⟨k, (hp.mem l hl hb k).2 ⟨i, hi, h1⟩, hm⟩
  ·obtain ⟨k, h1, h2⟩ := hm
   have a := hp.le i k hi h1
   have b := ih.le k j a.2 h2
   omega
theorem ends_finds (s : List UInt8) : ∀ (d : Nat) (p : RX), sndR d p = true → Finds s.length (endsL s d p) (memR s d p)
 | 0, p, h => by cases h
 | d + 1, .mk op lo hi mn mx l, h => by
  obtain ⟨hf, hl⟩ := snd_node h
  have ih : ∀ q ∈ l, Finds s.length (endsL s d q) (memR s d q) := fun q hq => ends_finds s d q (hl q hq)
  have hnil : endsL s (d + 1) (.mk op lo hi mn mx l) [] = [] := by rw [endsL, if_pos rfl]
  suffices hs : (∀ fr, fr ≠ [] → fr.Nodup → (∀ x ∈ fr, x ≤ s.length) → (endsL s (d + 1) (.mk op lo hi mn mx l) fr).Nodup ∧ ∀ j, j ∈ endsL s (d + 1) (.mk op lo hi mn mx l) fr ↔ ∃ i ∈ fr, memR s (d + 1) (.mk op lo hi mn mx l) i j) ∧ ∀ i j, i ≤ s.length → memR s (d + 1) (.mk op lo hi mn mx l) i j → i ≤ j ∧ j ≤ s.length by
   refine ⟨fun fr hn hb j => ?_, fun fr hn hb => ?_, hs.2⟩
   ·by_cases he : fr = []
    ·subst he
     rw [hnil]
     simp
    ·exact (hs.1 fr he hn hb).2 j
   ·by_cases he : fr = []
    ·subst he
     rw [hnil]
     exact List.nodup_nil
    ·exact (hs.1 fr he hn hb).1
  rcases form_ways hf with ⟨h0, hn0, rfl, rfl, rfl, rfl⟩ | ⟨rfl, hn0, h1, h2, h3, rfl, rfl⟩ | ⟨h0, hn0, rfl, rfl, rfl, rfl⟩ | ⟨rfl, hn0, rfl, rfl, h1, h2, h3⟩ | ⟨rfl, hn0, rfl, rfl, rfl, rfl⟩
  ·rcases h0 with rfl | rfl
   ·refine ⟨fun fr he hn hb => ?_, fun i j hi hm => ?_⟩
    ·rw [endsL, if_neg he]
     simp [memR]
    ·simp [memR] at hm
   ·refine ⟨fun fr he hn hb => ?_, fun i j hi hm => ?_⟩
    ·rw [endsL, if_neg he, if_pos rfl]
     refine ⟨hn, fun j => ?_⟩
     simp [memR]
    ·simp [memR] at hm
     omega
  ·refine ⟨fun fr he hn hb => ?_, fun i j hi hm => ?_⟩
   ·rw [endsL, if_neg he, if_neg (by decide), if_pos rfl]
    obtain ⟨g1, g2⟩ := foldl_rng s lo hi fr [] List.nodup_nil
    refine ⟨g1, fun j => ?_⟩
    rw [g2 j]
    simp [memR]
   ·simp [memR] at hm
    obtain ⟨rfl, hr⟩ := hm
    unfold rng1 at hr
    split at hr
    ·cases hr
    ·rename_i c hc
     have := (List.getElem?_eq_some_iff.1 hc).1
     omega
  ·rcases h0 with rfl | rfl | rfl
   ·have hcat := foldl_cat (N := s.length) (l.map fun a => (endsL s d a, memR s d a)) (by
     intro p hp
     obtain ⟨a, ha, rfl⟩ := List.mem_map.1 hp
     exact ih a ha)
    rw [List.map_map] at hcat
    refine ⟨fun fr he hn hb => ?_, fun i j hi hm => ?_⟩
    ·rw [endsL, if_neg he, if_neg (by decide), if_neg (by decide), if_pos rfl]
     have e : l.foldl (fun f a => endsL s d a f) fr = (l.map fun a => (endsL s d a, memR s d a)).foldl (fun f a => a.1 f) fr := by rw [List.foldl_map]
     rw [e]
     refine ⟨hcat.nod fr hn hb, fun j => ?_⟩
     rw [hcat.mem fr hn hb j]
     simp [memR, Function.comp_def]
    ·simp [memR] at hm
     exact hcat.le i j hi (by simpa [Function.comp_def] using hm)
   ·refine ⟨fun fr he hn hb => ?_, fun i j hi hm => ?_⟩
    ·rw [endsL, if_neg he, if_neg (by decide), if_neg (by decide), if_neg (by decide), if_pos rfl]
     refine ⟨foldl_addL_nodup _ l [] List.nodup_nil, fun j => ?_⟩
     rw [foldl_addA]
     simp only [List.not_mem_nil, false_or]
     constructor
     ·rintro ⟨q, hq, hj⟩
      obtain ⟨i, hi, hm⟩ := ((ih q hq).mem fr hn hb j).1 hj
      exact ⟨i, hi, by simp [memR]; exact ⟨q, hq, hm⟩⟩
     ·rintro ⟨i, hi, hm⟩
      simp [memR] at hm
      obtain ⟨q, hq, hm⟩ := hm
      exact ⟨q, hq, ((ih q hq).mem fr hn hb j).2 ⟨i, hi, hm⟩⟩
    ·simp [memR] at hm
     obtain ⟨q, hq, hm⟩ := hm
     exact (ih q hq).le i j hi hm
   ·refine ⟨fun fr he hn hb => ?_, fun i j hi hm => ?_⟩
    ·rw [endsL, if_neg he, if_neg (by decide), if_neg (by decide), if_neg (by decide), if_neg (by decide), if_pos (.inl rfl)]
     refine ⟨foldl_addL_nodup _ fr [] List.nodup_nil, fun j => ?_⟩
     rw [foldl_addL]
     simp only [List.not_mem_nil, false_or]
     have hone : ∀ i ∈ fr, (j ∈ sglL s 6 (l.map fun a => endsL s d a [i]) i ↔ memR s (d + 1) (.mk 6 0 0 0 0 l) i j) := by
      intro i hi
      have hi' := hb i hi
      have hnd : ∀ x ∈ l.map fun a => endsL s d a [i], x.Nodup := by
       intro x hx
       obtain ⟨a, ha, rfl⟩ := List.mem_map.1 hx
       exact (ih a ha).nod [i] (by simp) (by simp; exact hi')
      obtain ⟨k1, -, -⟩ := count_all _ j hnd
      unfold sglL
      rw [List.mem_filter, decide_eq_true_eq, List.mem_range'_1, k1]
      have k2 : (∀ x ∈ l.map fun a => endsL s d a [i], j ∈ x) ↔ ∀ q ∈ l, memR s d q i j := by
       constructor
       ·intro g q hq
        obtain ⟨i', hi'', hm⟩ := ((ih q hq).mem [i] (by simp) (by simp; exact hi') j).1 (g _ (List.mem_map.2 ⟨q, hq, rfl⟩))
        rw [List.mem_singleton.1 hi''] at hm
        exact hm
       ·intro g x hx
        obtain ⟨a, ha, rfl⟩ := List.mem_map.1 hx
        exact ((ih a ha).mem [i] (by simp) (by simp; exact hi') j).2 ⟨i, by simp, g a ha⟩
      rw [k2]
      simp [memR]
      constructor
      ·rintro ⟨⟨g1, g2⟩, g3⟩
       exact ⟨g1, by omega, g3⟩
      ·rintro ⟨g1, g2, g3⟩
       exact ⟨⟨g1, by omega⟩, g3⟩
     constructor
     ·rintro ⟨i, hi, hj⟩
      exact ⟨i, hi, (hone i hi).1 hj⟩
     ·rintro ⟨i, hi, hm⟩
      exact ⟨i, hi, (hone i hi).2 hm⟩
    ·simp [memR] at hm
     omega
  ·obtain ⟨q, rfl⟩ := List.length_eq_one_iff.1 hn0
   have hq := ih q List.mem_cons_self
   have hle : ∀ i j, i ≤ s.length → memR s (d + 1) (.mk 5 0 0 mn mx [q]) i j → i ≤ j ∧ j ≤ s.length := by
    intro i j hi hm
    simp [memR] at hm
    obtain ⟨n, -, -, hp⟩ := hm
    exact pow_le hq n i j hi hp
   refine ⟨fun fr he hn hb => ?_, hle⟩
   rw [endsL, if_neg he, if_neg (by decide), if_neg (by decide), if_neg (by decide), if_neg (by decide), if_neg (by decide), if_pos rfl]
   have hN := repN_finds hq mn.toNat
   have hF := hN.bd hn hb
   have hFn := hN.nod fr hn hb
   show (repL (endsL s d q) (s.length + 2) (if mx < 0 then none else some (mx - mn).toNat) (addL [] (repN (endsL s d q) mn.toNat fr)) (repN (endsL s d q) mn.toNat fr)).Nodup ∧ _
   have key := repL_mem hq (repN (endsL s d q) mn.toNat fr) hF (s.length + 2) 0 (if mx < 0 then none else some (mx - mn).toNat) (addL [] (repN (endsL s d q) mn.toNat fr)) (repN (endsL s d q) mn.toNat fr) (addL_nodup _ _ List.nodup_nil) hFn (fun j => by
    rw [addL_mem]
    simp only [List.not_mem_nil, false_or]
    constructor
    ·intro hj
     exact ⟨j, hj, 0, Nat.le_refl _, rfl⟩
    ·rintro ⟨i, hi, m, hm, hp⟩
     obtain rfl : m = 0 := by omega
     cases hp
     exact hi) (fun j => by
    rw [addL_mem]
    simp only [List.not_mem_nil, false_or, Nat.not_lt_zero, false_and, exists_false, and_false, not_false_iff, and_true]) (.inr (by omega))
   refine ⟨key.1, fun j => ?_⟩
   refine (key.2 j).trans ?_
   have hfin : ∀ i, memR s (d + 1) (.mk 5 0 0 mn mx [q]) i j ↔ ∃ n : Nat, mn ≤ n ∧ (mx < 0 ∨ (n : Int) ≤ mx) ∧ powM (memR s d q) n i j := by
    intro i
    simp [memR]
   constructor
   ·rintro ⟨k, hk, m, hm, hp⟩
    obtain ⟨i, hi, hp'⟩ := (hN.mem fr hn hb k).1 hk
    refine ⟨i, hi, (hfin i).2 ⟨mn.toNat + m, by omega, ?_, (powM_add _ _ _ _ _).2 ⟨k, hp', hp⟩⟩⟩
    by_cases hx : mx < 0
    ·exact .inl hx
    ·rw [if_neg hx] at hm
     have hm' : m ≤ 0 + (mx - mn).toNat := hm
     exact .inr (by omega)
   ·rintro ⟨i, hi, hm⟩
    obtain ⟨n, g1, g2, g3⟩ := (hfin i).1 hm
    obtain ⟨m, rfl⟩ : ∃ m, n = mn.toNat + m := ⟨n - mn.toNat, by omega⟩
    obtain ⟨k, hk, hp⟩ := (powM_add _ _ _ _ _).1 g3
    refine ⟨k, (hN.mem fr hn hb k).2 ⟨i, hi, hk⟩, m, ?_, hp⟩
    by_cases hx : mx < 0
    ·rw [if_pos hx]
     trivial
    ·rw [if_neg hx]
     show m ≤ 0 + (mx - mn).toNat
     omega
  ·obtain ⟨q, rfl⟩ := List.length_eq_one_iff.1 hn0
   have hq := ih q List.mem_cons_self
   refine ⟨fun fr he hn hb => ?_, fun i j hi hm => ?_⟩
   ·rw [endsL, if_neg he, if_neg (by decide), if_neg (by decide), if_neg (by decide), if_neg (by decide), if_pos (.inr rfl)]
    refine ⟨foldl_addL_nodup _ fr [] List.nodup_nil, fun j => ?_⟩
    rw [foldl_addL]
    simp only [List.not_mem_nil, false_or]
    have hone : ∀ i ∈ fr, (j ∈ sglL s 7 ([q].map fun a => endsL s d a [i]) i ↔ memR s (d + 1) (.mk 7 0 0 0 0 [q]) i j) := by
     intro i hi
     have hi' := hb i hi
     have hnd : ∀ x ∈ [q].map fun a => endsL s d a [i], x.Nodup := by
      intro x hx
      obtain ⟨a, ha, rfl⟩ := List.mem_map.1 hx
      rw [List.mem_singleton.1 ha]
      exact hq.nod [i] (by simp) (by simp; exact hi')
     obtain ⟨-, k1, -⟩ := count_all _ j hnd
     unfold sglL
     rw [List.mem_filter, decide_eq_true_eq, List.mem_range'_1, k1]
     have k2 : (∀ x ∈ [q].map fun a => endsL s d a [i], j ∉ x) ↔ ¬ memR s d q i j := by
      rw [List.map_singleton, List.forall_mem_singleton, hq.mem [i] (by simp) (by simp; exact hi') j]
      simp
     rw [k2]
     simp [memR]
     constructor
     ·rintro ⟨⟨g1, g2⟩, g3⟩
      exact ⟨g1, by omega, g3⟩
     ·rintro ⟨g1, g2, g3⟩
      exact ⟨⟨g1, by omega⟩, g3⟩
    constructor
    ·rintro ⟨i, hi, hj⟩
     exact ⟨i, hi, (hone i hi).1 hj⟩
    ·rintro ⟨i, hi, hm⟩
     exact ⟨i, hi, (hone i hi).2 hm⟩
   ·simp [memR] at hm
    omega
end Go.Proofs.YtpkecepelcppiaaGreatDoor
