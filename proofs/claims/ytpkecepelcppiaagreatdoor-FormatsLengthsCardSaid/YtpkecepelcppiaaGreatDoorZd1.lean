/- What a pattern matches, and that the program's way finds it: plain words, no program in sight. Conditions: sound patterns. -/
import Derived.Test.YtpkecepelcppiaaGreatDoorRows
import Derived.ProofKit
import Derived.Deep.Slices
namespace Go.Proofs.YtpkecepelcppiaaGreatDoor
open Go.RowKit
set_option maxRecDepth 100000

end Go.Proofs.YtpkecepelcppiaaGreatDoor

namespace Go.Proofs.YtpkecepelcppiaaGreatDoor
open Go.RowKit
set_option maxRecDepth 100000
set_option maxHeartbeats 1000000

inductive RX where
 | mk (op lo hi mn mx : Int) (args : List RX)
def RX.op : RX → Int | .mk a _ _ _ _ _ => a
def RX.lo : RX → Int | .mk _ a _ _ _ _ => a
def RX.hi : RX → Int | .mk _ _ a _ _ _ => a
def RX.mn : RX → Int | .mk _ _ _ a _ _ => a
def RX.mx : RX → Int | .mk _ _ _ _ a _ => a
def RX.args : RX → List RX | .mk _ _ _ _ _ a => a
def formR (op lo hi mn mx : Int) (n : Nat) : Bool :=
 if op = 0 ∨ op = 1 then decide (n = 0 ∧ lo = 0 ∧ hi = 0 ∧ mn = 0 ∧ mx = 0)
 else if op = 2 then decide (n = 0 ∧ 0 ≤ lo ∧ lo ≤ hi ∧ hi ≤ 255 ∧ mn = 0 ∧ mx = 0)
 else if op = 3 ∨ op = 4 ∨ op = 6 then decide (2 ≤ n ∧ lo = 0 ∧ hi = 0 ∧ mn = 0 ∧ mx = 0)
 else if op = 5 then decide (n = 1 ∧ lo = 0 ∧ hi = 0 ∧ 0 ≤ mn ∧ mn ≤ 64 ∧ (mx = -1 ∨ (mn ≤ mx ∧ mx ≤ 64)))
 else if op = 7 then decide (n = 1 ∧ lo = 0 ∧ hi = 0 ∧ mn = 0 ∧ mx = 0)
 else false
def sndR : Nat → RX → Bool
 | 0, _ => false
 | d + 1, .mk op lo hi mn mx l => formR op lo hi mn mx l.length && l.all (sndR d)
def cntR : Nat → RX → Int
 | 0, _ => 0
 | d + 1, .mk _ _ _ _ _ l => l.foldl (fun n a => wrap64 (n + cntR d a)) 1
def valR (p : RX) : Bool := sndR 48 p && decide (cntR 48 p ≤ 512)

/-! Texts. -/
def signR : List UInt8 := [124, 38, 33, 42, 43, 63, 123, 125, 40, 41, 91, 93, 46, 92]
def hexR (n : Nat) : UInt8 := if n < 10 then UInt8.ofNat (48 + n) else UInt8.ofNat (87 + n)
def byteT (b : Nat) : List UInt8 := if 33 ≤ b ∧ b ≤ 126 ∧ UInt8.ofNat b ∉ signR then [UInt8.ofNat b] else [92, 120, hexR (b / 16), hexR (b % 16)]
def decT (n : Nat) : List UInt8 := if n < 10 then [UInt8.ofNat (48 + n)] else if n < 100 then [UInt8.ofNat (48 + n / 10), UInt8.ofNat (48 + n % 10)] else [UInt8.ofNat (48 + n / 100), UInt8.ofNat (48 + n / 10 % 10), UInt8.ofNat (48 + n % 10)]
def bndT (mn mx : Int) : List UInt8 :=
 if mn = 0 ∧ mx = -1 then [42] else if mn = 1 ∧ mx = -1 then [43] else if mn = 0 ∧ mx = 1 then [63]
 else if mx = -1 then 123 :: (decT mn.toNat ++ [44, 125]) else 123 :: (decT mn.toNat ++ (44 :: (decT mx.toNat ++ [125])))
def rowR (op : Int) : Nat := if op = 4 then 1 else if op = 6 then 2 else if op = 3 then 3 else if op = 7 then 4 else if op = 5 then 5 else 6
def argT (f : RX → List UInt8) (least : Nat) (p : RX) : List UInt8 := if rowR p.op < least then 40 :: (f p ++ [41]) else f p
def joinT (sep : List UInt8) : List (List UInt8) → List UInt8
 | [] => []
 | [x] => x
 | x :: t => x ++ (sep ++ joinT sep t)
def rngT (lo hi : Int) : List UInt8 := if lo = hi then byteT lo.toNat else if lo = 0 ∧ hi = 255 then [46] else 91 :: (byteT lo.toNat ++ (45 :: (byteT hi.toNat ++ [93])))
def showR : Nat → RX → List UInt8
 | 0, _ => []
 | d + 1, .mk op lo hi mn mx l =>
  if op = 0 then [91, 93] else if op = 1 then [40, 41] else if op = 2 then rngT lo hi
  else if op = 4 then joinT [124] (l.map (argT (showR d) 2))
  else if op = 6 then joinT [38] (l.map (argT (showR d) 3))
  else if op = 3 then joinT [] (l.map (argT (showR d) 4))
  else if op = 7 then 33 :: joinT [] (l.map (argT (showR d) 4))
  else joinT [] (l.map (argT (showR d) 5)) ++ bndT mn mx
def textR (p : RX) : List UInt8 := if valR p then showR 48 p else []

/-! Texts read: none: it is no text of a pattern (the program panics). -/
def sngR (op : Int) (p : RX) : RX := .mk op 0 0 0 0 [p]
def rngR (lo hi : Nat) : RX := .mk 2 lo hi 0 0 []
def hexV (b : UInt8) : Option Nat := if 48 ≤ b.toNat ∧ b.toNat ≤ 57 then some (b.toNat - 48) else if 97 ≤ b.toNat ∧ b.toNat ≤ 102 then some (b.toNat - 87) else if 65 ≤ b.toNat ∧ b.toNat ≤ 70 then some (b.toNat - 55) else none
def oneP : List UInt8 → Option (Nat × List UInt8)
 | [] => none
 | c :: t =>
  if c = 92 ∧ 3 ≤ t.length ∧ t.head? = some 120 then
   (match hexV (t.getD 1 0), hexV (t.getD 2 0) with
    | some a, some b => some (16 * a + b, t.drop 3)
    | _, _ => none)
  else if byteT c.toNat = [c] then some (c.toNat, t) else none
def numP3 : Nat → Nat → List UInt8 → Nat × List UInt8
 | 0, n, l => (n, l)
 | _ + 1, n, [] => (n, [])
 | k + 1, n, c :: t => if 48 ≤ c.toNat ∧ c.toNat ≤ 57 then numP3 k (10 * n + (c.toNat - 48)) t else (n, c :: t)
def numPR (l : List UInt8) : Option (Nat × List UInt8) :=
 match l with
 | [] => none
 | c :: _ => if 48 ≤ c.toNat ∧ c.toNat ≤ 57 then some (numP3 3 0 l) else none
def needP (c : UInt8) : List UInt8 → Option (List UInt8)
 | [] => none
 | b :: t => if b = c then some t else none
inductive BndP where
 | no
 | bad
 | yes (mn mx : Int) (r : List UInt8)
structure PG where
 one : List UInt8 → Option (Nat × List UInt8)
 bnd : List UInt8 → BndP
 fin : RX → List UInt8 → Option (RX × List UInt8)
def bndP : List UInt8 → BndP
 | [] => .no
 | c :: t =>
  if c = 42 then .yes 0 (-1) t else if c = 43 then .yes 1 (-1) t else if c = 63 then .yes 0 1 t
  else if c = 123 then
   (match numPR t with
    | none => .bad
    | some (n, t1) =>
     match needP 44 t1 with
     | none => .bad
     | some t2 =>
      if t2.head? = some 125 then .yes n (-1) (t2.drop 1)
      else
       match numPR t2 with
       | none => .bad
       | some (m, t3) =>
        match needP 125 t3 with
        | none => .bad
        | some t4 => .yes n m t4)
  else .no
def postP (g : PG) : Nat → RX → List UInt8 → Option (RX × List UInt8)
 | 0, p, l => g.fin p l
 | f + 1, p, l =>
  match g.bnd l with
  | .no => some (p, l)
  | .bad => none
  | .yes mn mx r => postP g f (.mk 5 0 0 mn mx [p]) r
def atomP (g : PG) (sub : Option (List UInt8 → Option (RX × List UInt8))) : List UInt8 → Option (RX × List UInt8)
 | [] => none
 | c :: t =>
  if c = 40 then
   (if t.head? = some 41 then some (.mk 1 0 0 0 0 [], t.drop 1)
    else
     match sub with
     | none => none
     | some f =>
      match f t with
      | none => none
      | some (p, r) => (needP 41 r).map fun r' => (p, r'))
  else if c = 91 then
   (if t.head? = some 93 then some (.mk 0 0 0 0 0 [], t.drop 1)
    else
     match g.one t with
     | none => none
     | some (lo, t1) =>
      match needP 45 t1 with
      | none => none
      | some t2 =>
       match g.one t2 with
       | none => none
       | some (hi, t3) => (needP 93 t3).map fun r => (rngR lo hi, r))
  else if c = 46 then some (rngR 0 255, t)
  else (g.one (c :: t)).map fun (b, r) => (rngR b b, r)
def moreP (sep : Option UInt8) : List UInt8 → Option (List UInt8)
 | [] => none
 | c :: t =>
  match sep with
  | some b => if c = b then some t else none
  | none => if c = 124 ∨ c = 38 ∨ c = 41 then none else some (c :: t)
def restP (sep : Option UInt8) (one : List UInt8 → Option (RX × List UInt8)) : Nat → List RX → List UInt8 → Option (List RX × List UInt8)
 | 0, _, _ => none
 | f + 1, acc, l =>
  match moreP sep l with
  | none => some (acc, l)
  | some l' =>
   match one l' with
   | none => none
   | some (p, r) => restP sep one f (acc ++ [p]) r
def joinP (op : Int) (l : List RX) : RX :=
 match l with
 | [p] => p
 | l => .mk op 0 0 0 0 l
def infP (op : Int) (sep : Option UInt8) (one : List UInt8 → Option (RX × List UInt8)) (l : List UInt8) : Option (RX × List UInt8) :=
 match one l with
 | none => none
 | some (p, r) =>
  match restP sep one (r.length + 1) [p] r with
  | none => none
  | some (ps, r') => some (joinP op ps, r')
def inf3 (pre : List UInt8 → Option (RX × List UInt8)) := infP 3 none pre
def inf2 (pre : List UInt8 → Option (RX × List UInt8)) := infP 6 (some 38) (inf3 pre)
def inf1 (pre : List UInt8 → Option (RX × List UInt8)) := infP 4 (some 124) (inf2 pre)
def preP (g : PG) : Nat → List UInt8 → Option (RX × List UInt8)
 | 0, l => if l.head? = some 33 then none else (atomP g none l).bind fun (p, r) => postP g 49 p r
 | n + 1, l =>
  if l.head? = some 33 then (preP g n (l.drop 1)).map fun (p, r) => (sngR 7 p, r)
  else (atomP g (some (inf1 (preP g n))) l).bind fun (p, r) => postP g 49 p r
def pgP : PG := ⟨oneP, bndP, fun _ _ => none⟩
def parseR (l : List UInt8) : Option RX :=
 match inf1 (preP pgP 96) l with
 | none => none
 | some (p, r) => if r ≠ [] ∨ textR p ≠ l ∨ l = [] then none else some p
end Go.Proofs.YtpkecepelcppiaaGreatDoor

namespace Go.Proofs.YtpkecepelcppiaaGreatDoor
open Go.RowKit
set_option maxRecDepth 100000
set_option maxHeartbeats 1000000

/-! Bounds. -/
/-! Nodes. -/
theorem snd_node {d : Nat} {op lo hi mn mx : Int} {l : List RX} (h : sndR (d + 1) (.mk op lo hi mn mx l) = true) : formR op lo hi mn mx l.length = true ∧ ∀ q ∈ l, sndR d q = true := by
 unfold sndR at h
 rw [Bool.and_eq_true, List.all_eq_true] at h
 exact h
theorem form_ways {op lo hi mn mx : Int} {n : Nat} (h : formR op lo hi mn mx n = true) :
  ((op = 0 ∨ op = 1) ∧ n = 0 ∧ lo = 0 ∧ hi = 0 ∧ mn = 0 ∧ mx = 0) ∨ (op = 2 ∧ n = 0 ∧ 0 ≤ lo ∧ lo ≤ hi ∧ hi ≤ 255 ∧ mn = 0 ∧ mx = 0) ∨
  ((op = 3 ∨ op = 4 ∨ op = 6) ∧ 2 ≤ n ∧ lo = 0 ∧ hi = 0 ∧ mn = 0 ∧ mx = 0) ∨ (op = 5 ∧ n = 1 ∧ lo = 0 ∧ hi = 0 ∧ 0 ≤ mn ∧ mn ≤ 64 ∧ (mx = -1 ∨ (mn ≤ mx ∧ mx ≤ 64))) ∨
  (op = 7 ∧ n = 1 ∧ lo = 0 ∧ hi = 0 ∧ mn = 0 ∧ mx = 0) := by
 unfold formR at h
 split at h
 ·rename_i h0
  have := of_decide_eq_true h
  exact .inl ⟨h0, this⟩
 split at h
 ·rename_i h0
  exact .inr (.inl ⟨h0, of_decide_eq_true h⟩)
 split at h
 ·rename_i h0
  exact .inr (.inr (.inl ⟨h0, of_decide_eq_true h⟩))
 split at h
 ·rename_i h0
  exact .inr (.inr (.inr (.inl ⟨h0, of_decide_eq_true h⟩)))
 split at h
 ·rename_i h0
  exact .inr (.inr (.inr (.inr ⟨h0, of_decide_eq_true h⟩)))
 ·cases h
end Go.Proofs.YtpkecepelcppiaaGreatDoor

namespace Go.Proofs.YtpkecepelcppiaaGreatDoor
open Go.RowKit
set_option maxRecDepth 100000
set_option maxHeartbeats 1000000

end Go.Proofs.YtpkecepelcppiaaGreatDoor

namespace Go.Proofs.YtpkecepelcppiaaGreatDoor
open Go.RowKit
set_option maxRecDepth 100000
set_option maxHeartbeats 1000000

def add1 (o : List Nat) (i : Nat) : List Nat := if i ∈ o then o else o ++ [i]
def addL (o l : List Nat) : List Nat := l.foldl add1 o
def rng1 (s : List UInt8) (lo hi : Int) (i : Nat) : Bool :=
 match s[i]? with
 | none => false
 | some c => decide (lo ≤ (c.toNat : Int) ∧ (c.toNat : Int) ≤ hi)
def cntL (ls : List (List Nat)) (i : Nat) : Nat := (ls.map fun l => l.count i).sum
def sglL (s : List UInt8) (op : Int) (ls : List (List Nat)) (from' : Nat) : List Nat :=
 (List.range' from' (s.length + 1 - from')).filter fun i => decide (op = 6 ∧ cntL ls i = ls.length ∨ op = 7 ∧ cntL ls i = 0)
def repN (f : List Nat → List Nat) : Nat → List Nat → List Nat
 | 0, l => l
 | n + 1, l => repN f n (f l)
def repL (f : List Nat → List Nat) : Nat → Option Nat → List Nat → List Nat → List Nat
 | 0, _, out, _ => out
 | fuel + 1, left, out, from' =>
  if from' = [] ∨ left = some 0 then out
  else repL f fuel (left.map (· - 1)) (addL out (f from')) ((addL out (f from')).drop out.length)
def repE (n : Nat) (e : RX → List Nat → List Nat) (mn mx : Int) (l : List RX) (fr : List Nat) : List Nat :=
 match l with
 | [] => []
 | a :: _ => repL (e a) (n + 2) (if mx < 0 then none else some (mx - mn).toNat) (addL [] (repN (e a) mn.toNat fr)) (repN (e a) mn.toNat fr)
def endsL (s : List UInt8) : Nat → RX → List Nat → List Nat
 | 0, _, _ => []
 | d + 1, .mk op lo hi mn mx l, from' =>
  if from' = [] then []
  else if op = 1 then from'
  else if op = 2 then from'.foldl (fun o i => if rng1 s lo hi i then add1 o (i + 1) else o) []
  else if op = 3 then l.foldl (fun f a => endsL s d a f) from'
  else if op = 4 then l.foldl (fun o a => addL o (endsL s d a from')) []
  else if op = 6 ∨ op = 7 then from'.foldl (fun o i => addL o (sglL s op (l.map fun a => endsL s d a [i]) i)) []
  else if op = 5 then repE s.length (endsL s d) mn mx l from'
  else []
def matR (p : RX) (s : List UInt8) : Bool := valR p && decide (s.length ∈ endsL s 48 p [0])

/-! Derivatives. -/
/-! The chapter's examples. -/
end Go.Proofs.YtpkecepelcppiaaGreatDoor

namespace Go.Proofs.YtpkecepelcppiaaGreatDoor
open Go.RowKit
set_option maxRecDepth 100000
set_option maxHeartbeats 1000000

structure ArcA where
 lo : Nat
 hi : Nat
 nx : Nat
structure StA where
 acc : Bool
 arcs : List ArcA
def okArcs (n : Nat) : Nat → List ArcA → Bool
 | b, [] => decide (b = 256)
 | b, a :: t => decide (a.lo = b) && decide (a.lo ≤ a.hi) && decide (a.hi ≤ 255) && decide (a.nx < n) && okArcs n (a.hi + 1) t
def valA (m : List StA) : Bool := decide (1 ≤ m.length) && decide (m.length ≤ 1024) && m.all fun s => okArcs m.length 0 s.arcs
def stepL : List ArcA → Nat → Nat
 | [], _ => 0
 | a :: t, b => if b ≤ a.hi then a.nx else stepL t b
def nextL : List ArcA → Nat → Nat
 | [], _ => 0
 | a :: t, b => if a.lo ≤ b ∧ b ≤ a.hi then a.nx else nextL t b
def arcsOf (m : List StA) (q : Nat) : List ArcA := match m[q]? with
 | some s => s.arcs
 | none => []
def accOf (m : List StA) (q : Nat) : Bool := match m[q]? with
 | some s => s.acc
 | none => false
def runA (m : List StA) : Nat → List UInt8 → Nat
 | q, [] => q
 | q, c :: t => runA m (nextL (arcsOf m q) c.toNat) t
def accA (m : List StA) (s : List UInt8) : Bool := valA m && accOf m (runA m 0 s)
def startsA (m : List StA) : List Nat := (List.range 256).filter fun b => m.any fun s => s.arcs.any fun a => decide (a.lo = b)
def decN (n : Nat) : List UInt8 := decT n
def keyA (cl : List Nat) (nx : List (List Nat)) (q : Nat) : List UInt8 := decN (cl.getD q 0) ++ (nx.getD q []).flatMap fun t => 44 :: decN (cl.getD t 0)
def roundA : List (List UInt8) → List (List UInt8) → List Nat × Nat
 | [], seen => ([], seen.length)
 | k :: t, seen => match seen.findIdx? (fun x => decide (x = k)) with
  | some i => let r := roundA t seen; (i :: r.1, r.2)
  | none => let r := roundA t (seen ++ [k]); (seen.length :: r.1, r.2)
def loopA (nx : List (List Nat)) : Nat → List Nat → Nat → Option (List Nat)
 | 0, _, _ => none
 | f + 1, cl, known =>
  let r := roundA ((List.range cl.length).map (keyA cl nx)) []
  if r.2 = known then some r.1 else loopA nx f r.1 r.2
def addArcA (l : List ArcA) (lo hi nx : Nat) : List ArcA := match l.getLast? with
 | none => [⟨lo, hi, nx⟩]
 | some a => if a.nx = nx then l.dropLast ++ [⟨a.lo, hi, a.nx⟩] else l ++ [⟨lo, hi, nx⟩]
def hiA (bytes : List Nat) (i : Nat) : Nat := match bytes[i + 1]? with
 | some b => b - 1
 | none => 255
def rowA (bytes cl : List Nat) : List Nat → Nat → List ArcA → List Nat → List ArcA × List Nat
 | [], _, arcs, order => (arcs, order)
 | t :: ts, k, arcs, order => match order.findIdx? (fun o => decide (cl.getD o 0 = cl.getD t 0)) with
  | some n => rowA bytes cl ts (k + 1) (addArcA arcs (bytes.getD k 0) (hiA bytes k) n) order
  | none => rowA bytes cl ts (k + 1) (addArcA arcs (bytes.getD k 0) (hiA bytes k) order.length) (order ++ [t])
def numA (m : List StA) (bytes cl : List Nat) (nx : List (List Nat)) : Nat → Nat → List Nat → List StA → Option (List StA)
 | 0, _, _, _ => none
 | f + 1, i, order, out => match order[i]? with
  | none => some out
  | some q =>
   let r := rowA bytes cl (nx.getD q []) 0 [] order
   numA m bytes cl nx f (i + 1) r.2 (out ++ [⟨accOf m q, r.1⟩])
def leastA (f : Nat) (m : List StA) : Option (List StA) :=
 let bytes := startsA m
 let nx := m.map fun s => bytes.map (stepL s.arcs)
 match loopA nx f (m.map fun s => if s.acc then 1 else 0) 0 with
 | none => none
 | some cl => numA m bytes cl nx f 0 [0] []
def spansA : Nat → List ArcA
 | 0 => [⟨0, 127, 0⟩, ⟨194, 223, 1⟩, ⟨224, 224, 4⟩, ⟨225, 236, 2⟩, ⟨237, 237, 5⟩, ⟨238, 239, 2⟩, ⟨240, 240, 6⟩, ⟨241, 243, 3⟩, ⟨244, 244, 7⟩]
 | 1 => [⟨128, 191, 0⟩]
 | 2 => [⟨128, 191, 1⟩]
 | 3 => [⟨128, 191, 2⟩]
 | 4 => [⟨160, 191, 1⟩]
 | 5 => [⟨128, 159, 1⟩]
 | 6 => [⟨144, 191, 2⟩]
 | _ => [⟨128, 143, 2⟩]
def nextC (mx : Int) (top count want nx : Nat) : Nat :=
 if want ≠ 0 then count * 8 + nx else if count < top then (count + 1) * 8 + nx else if mx = -1 then count * 8 + nx else (top + 1) * 8
def arcsGo (dead : Nat) (f : Nat → Nat) : List ArcA → Nat → List ArcA → List ArcA
 | out, b, [] => if b ≤ 255 then out ++ [⟨b, 255, dead⟩] else out
 | out, b, a :: t => arcsGo dead f ((if b < a.lo then out ++ [⟨b, a.lo - 1, dead⟩] else out) ++ [⟨a.lo, a.hi, f a.nx⟩]) (a.hi + 1) t
def arcsC (mx : Int) (top count want : Nat) : List ArcA := arcsGo ((top + 1) * 8) (nextC mx top count want) [] 0 (spansA want)
def statesC (mn : Nat) (mx : Int) (top : Nat) : List StA :=
 (List.range (top + 1)).flatMap fun count => (List.range 8).map fun want => ⟨decide (want = 0) && decide (mn ≤ count), arcsC mx top count want⟩
def machC (mn : Nat) (mx : Int) (top : Nat) : List StA := statesC mn mx top ++ [⟨false, [⟨0, 255, (top + 1) * 8⟩]⟩]
/-! Step by step. -/
theorem step_at (l : List ArcA) (k b : Nat) (hk : k < l.length) : stepL (l.drop k) b = if b ≤ l[k].hi then l[k].nx else stepL (l.drop (k + 1)) b := by
 rw [List.drop_eq_getElem_cons hk]
 rfl
theorem step_end (l : List ArcA) (k b : Nat) (hk : ¬ k < l.length) : stepL (l.drop k) b = 0 := by
 rw [List.drop_of_length_le (by omega)]
 rfl
theorem next_at (l : List ArcA) (k b : Nat) (hk : k < l.length) : nextL (l.drop k) b = if l[k].lo ≤ b ∧ b ≤ l[k].hi then l[k].nx else nextL (l.drop (k + 1)) b := by
 rw [List.drop_eq_getElem_cons hk]
 rfl
theorem next_end (l : List ArcA) (k b : Nat) (hk : ¬ k < l.length) : nextL (l.drop k) b = 0 := by
 rw [List.drop_of_length_le (by omega)]
 rfl
theorem ok_at (n : Nat) (l : List ArcA) (k b : Nat) (hk : k < l.length) : okArcs n b (l.drop k) = (decide (l[k].lo = b) && decide (l[k].lo ≤ l[k].hi) && decide (l[k].hi ≤ 255) && decide (l[k].nx < n) && okArcs n (l[k].hi + 1) (l.drop (k + 1))) := by
 rw [List.drop_eq_getElem_cons hk]
 rfl
theorem ok_end (n : Nat) (l : List ArcA) (k b : Nat) (hk : ¬ k < l.length) : okArcs n b (l.drop k) = decide (b = 256) := by
 rw [List.drop_of_length_le (by omega)]
 rfl
theorem go_at (dead : Nat) (f : Nat → Nat) (l out : List ArcA) (k b : Nat) (hk : k < l.length) : arcsGo dead f out b (l.drop k) = arcsGo dead f ((if b < l[k].lo then out ++ [⟨b, l[k].lo - 1, dead⟩] else out) ++ [⟨l[k].lo, l[k].hi, f l[k].nx⟩]) (l[k].hi + 1) (l.drop (k + 1)) := by
 rw [List.drop_eq_getElem_cons hk]
 rfl
theorem go_end (dead : Nat) (f : Nat → Nat) (l out : List ArcA) (k b : Nat) (hk : ¬ k < l.length) : arcsGo dead f out b (l.drop k) = if b ≤ 255 then out ++ [⟨b, 255, dead⟩] else out := by
 rw [List.drop_of_length_le (by omega)]
 rfl
def utfA : List StA := (leastA 20 (machC 0 (-1) 0)).getD []
def oneA : List StA := (leastA 20 (machC 1 1 1)).getD []
theorem utf_least : (leastA 20 (machC 0 (-1) 0)).isSome = true ∧ valA (machC 0 (-1) 0) = true ∧ utfA.length = 9 := by decide +kernel
theorem one_least : (leastA 20 (machC 1 1 1)).isSome = true ∧ valA (machC 1 1 1) = true := by decide +kernel
theorem one_acc : accA oneA [195, 169] = true ∧ accA oneA [97, 98] = false := by decide +kernel
end Go.Proofs.YtpkecepelcppiaaGreatDoor

namespace Go.Proofs.YtpkecepelcppiaaGreatDoor
open Go.RowKit
set_option maxRecDepth 100000
set_option maxHeartbeats 1000000

def catM : List (Nat → Nat → Prop) → Nat → Nat → Prop
 | [], i, j => i = j
 | f :: t, i, j => ∃ k, f i k ∧ catM t k j
def powM (f : Nat → Nat → Prop) : Nat → Nat → Nat → Prop
 | 0, i, j => i = j
 | n + 1, i, j => ∃ k, f i k ∧ powM f n k j
def memR (s : List UInt8) : Nat → RX → Nat → Nat → Prop
 | 0, _, _, _ => False
 | d + 1, .mk op lo hi mn mx l, i, j =>
  (op = 1 ∧ i = j) ∨ (op = 2 ∧ j = i + 1 ∧ rng1 s lo hi i = true) ∨ (op = 3 ∧ catM (l.map (memR s d)) i j) ∨ (op = 4 ∧ ∃ q ∈ l, memR s d q i j) ∨
  (op = 5 ∧ ∃ q, l = [q] ∧ ∃ n : Nat, mn ≤ n ∧ (mx < 0 ∨ (n : Int) ≤ mx) ∧ powM (memR s d q) n i j) ∨
  (op = 6 ∧ i ≤ j ∧ j ≤ s.length ∧ ∀ q ∈ l, memR s d q i j) ∨ (op = 7 ∧ i ≤ j ∧ j ≤ s.length ∧ ∀ q ∈ l, ¬ memR s d q i j)
theorem powM_add (f : Nat → Nat → Prop) : ∀ a b i j, powM f (a + b) i j ↔ ∃ k, powM f a i k ∧ powM f b k j
 | 0, b, i, j => by
  rw [Nat.zero_add]
  exact ⟨fun h => ⟨i, rfl, h⟩, fun ⟨k, h1, h2⟩ => by cases h1; exact h2⟩
 | a + 1, b, i, j => by
  rw [show a + 1 + b = (a + b) + 1 by omega]
  constructor
  ·rintro ⟨k, h1, h2⟩
   obtain ⟨m, h3, h4⟩ := (powM_add f a b k j).1 h2
   exact ⟨m, ⟨k, h1, h3⟩, h4⟩
  ·rintro ⟨m, ⟨k, h1, h3⟩, h4⟩
   exact ⟨k, h1, (powM_add f a b k j).2 ⟨m, h3, h4⟩⟩
theorem powM_snoc (f : Nat → Nat → Prop) (n i j : Nat) : powM f (n + 1) i j ↔ ∃ k, powM f n i k ∧ f k j := by
 rw [powM_add]
 constructor
 ·rintro ⟨k, h1, m, h2, rfl⟩
  exact ⟨k, h1, h2⟩
 ·rintro ⟨k, h1, h2⟩
  exact ⟨k, h1, j, h2, rfl⟩
theorem add1_mem (o : List Nat) (i x : Nat) : x ∈ add1 o i ↔ x ∈ o ∨ x = i := by
 unfold add1
 split
 ·rename_i h
  exact ⟨.inl, fun h' => h'.elim id (fun e => by rw [e]; exact h)⟩
 ·simp
theorem add1_nodup {o : List Nat} (h : o.Nodup) (i : Nat) : (add1 o i).Nodup := by
 unfold add1
 split
 ·exact h
 ·rename_i hi
  rw [List.nodup_append]
  refine ⟨h, by simp, fun a ha b hb => ?_⟩
  rw [List.mem_singleton.1 hb]
  rintro rfl
  exact hi ha
theorem addL_mem : ∀ (l o : List Nat) (x : Nat), x ∈ addL o l ↔ x ∈ o ∨ x ∈ l
 | [], o, x => by simp [addL]
 | i :: t, o, x => by
  show x ∈ addL (add1 o i) t ↔ _
  rw [addL_mem t, add1_mem, List.mem_cons, or_assoc]
theorem addL_nodup : ∀ (l o : List Nat), o.Nodup → (addL o l).Nodup
 | [], _, h => h
 | i :: t, o, h => addL_nodup t (add1 o i) (add1_nodup h i)
theorem addL_pre : ∀ (l o : List Nat), ∃ n, addL o l = o ++ n
 | [], o => ⟨[], by simp [addL]⟩
 | i :: t, o => by
  obtain ⟨n, hn⟩ := addL_pre t (add1 o i)
  show ∃ n, addL (add1 o i) t = o ++ n
  unfold add1 at hn ⊢
  split at hn
  ·rename_i h
   rw [if_pos h]
   exact ⟨n, hn⟩
  ·rename_i h
   rw [if_neg h, hn, List.append_assoc]
   exact ⟨_, rfl⟩
theorem addL_new (l o : List Nat) (h : o.Nodup) : ((addL o l).drop o.length).Nodup ∧ ∀ x, x ∈ (addL o l).drop o.length ↔ x ∈ addL o l ∧ x ∉ o := by
 obtain ⟨n, hn⟩ := addL_pre l o
 have hd := addL_nodup l o h
 rw [hn] at hd ⊢
 rw [List.drop_left]
 rw [List.nodup_append] at hd
 refine ⟨hd.2.1, fun x => ⟨fun hx => ⟨List.mem_append_right _ hx, fun ho => hd.2.2 x ho x hx rfl⟩, fun ⟨h1, h2⟩ => ?_⟩⟩
 rcases List.mem_append.1 h1 with h | h
 ·exact absurd h h2
 ·exact h
theorem bound_len {l : List Nat} {N : Nat} (h : l.Nodup) (hb : ∀ x ∈ l, x ≤ N) : l.length ≤ N + 1 := by
 have : l ⊆ List.range (N + 1) := fun x hx => List.mem_range.2 (by have := hb x hx; omega)
 have := h.length_le_of_subset this
 simpa using this
structure Finds (N : Nat) (f : List Nat → List Nat) (M : Nat → Nat → Prop) : Prop where
 mem : ∀ l, l.Nodup → (∀ x ∈ l, x ≤ N) → ∀ j, j ∈ f l ↔ ∃ i ∈ l, M i j
 nod : ∀ l, l.Nodup → (∀ x ∈ l, x ≤ N) → (f l).Nodup
 le : ∀ i j, i ≤ N → M i j → i ≤ j ∧ j ≤ N
theorem Finds.bd {N : Nat} {f : List Nat → List Nat} {M : Nat → Nat → Prop} (h : Finds N f M) {l : List Nat} (hl : l.Nodup) (hb : ∀ x ∈ l, x ≤ N) : ∀ x ∈ f l, x ≤ N := by
 intro x hx
 obtain ⟨i, hi, hm⟩ := (h.mem l hl hb x).1 hx
 exact (h.le i x (hb i hi) hm).2
theorem pow_le {N : Nat} {f : List Nat → List Nat} {M : Nat → Nat → Prop} (h : Finds N f M) : ∀ n i j, i ≤ N → powM M n i j → i ≤ j ∧ j ≤ N
 | 0, i, j, hi, hm => by cases hm; omega
 | n + 1, i, j, hi, ⟨k, h1, h2⟩ => by
  have a := h.le i k hi h1
  have b := pow_le h n k j a.2 h2
  omega
theorem repN_finds {N : Nat} {f : List Nat → List Nat} {M : Nat → Nat → Prop} (h : Finds N f M) : ∀ n, Finds N (repN f n) (powM M n)
 | 0 => ⟨fun l hl hb j => ⟨fun hj => ⟨j, hj, rfl⟩, fun ⟨i, hi, e⟩ => by cases e; exact hi⟩, fun l hl hb => hl, fun i j hi hm => by cases hm; omega⟩
 | n + 1 => by
  have ih := repN_finds h n
  refine ⟨fun l hl hb j => ?_, fun l hl hb => ih.nod _ (h.nod l hl hb) (h.bd hl hb), pow_le h (n + 1)⟩
  show j ∈ repN f n (f l) ↔ _
  rw [ih.mem _ (h.nod l hl hb) (h.bd hl hb)]
  constructor
  ·rintro ⟨k, hk, hm⟩
   obtain ⟨i, hi, h1⟩ := (h.mem l hl hb k).1 hk
   exact ⟨i, hi, k, h1, hm⟩
  ·rintro ⟨i, hi, k, h1, hm⟩
   exact ⟨k, (h.mem l hl hb k).2 ⟨i, hi, h1⟩, hm⟩
def leftM (t : Nat) : Option Nat → Nat → Prop
 | none, _ => True
 | some k, m => m ≤ t + k
theorem repL_mem {N : Nat} {f : List Nat → List Nat} {M : Nat → Nat → Prop} (h : Finds N f M) (F : List Nat) (hF : ∀ x ∈ F, x ≤ N) :
  ∀ (fuel t : Nat) (left : Option Nat) (out fr : List Nat), out.Nodup → fr.Nodup → (∀ j, j ∈ out ↔ ∃ i ∈ F, ∃ m, m ≤ t ∧ powM M m i j) → (∀ j, j ∈ fr ↔ j ∈ out ∧ ¬ ∃ i ∈ F, ∃ m, m < t ∧ powM M m i j) → (fr = [] ∨ N + 2 ≤ fuel + out.length) →
  (repL f fuel left out fr).Nodup ∧ ∀ j, j ∈ repL f fuel left out fr ↔ ∃ i ∈ F, ∃ m, leftM t left m ∧ powM M m i j := by
 have hclosed : ∀ (t : Nat) (out : List Nat), (∀ j, j ∈ out ↔ ∃ i ∈ F, ∃ m, m ≤ t ∧ powM M m i j) → (∀ j, ¬ (j ∈ out ∧ ¬ ∃ i ∈ F, ∃ m, m < t ∧ powM M m i j)) → ∀ m i j, i ∈ F → powM M m i j → j ∈ out := by
  intro t out ho hf m
  induction m with
  | zero => intro i j hi hm; exact (ho j).2 ⟨i, hi, 0, Nat.zero_le _, hm⟩
  | succ m ih =>
   intro i j hi hm
   obtain ⟨k, h1, h2⟩ := (powM_snoc M m i j).1 hm
   have hk := ih i k hi h1
   have : ∃ i ∈ F, ∃ m, m < t ∧ powM M m i k := Classical.byContradiction fun hc => hf k ⟨hk, hc⟩
   obtain ⟨i', hi', m', hm', hp⟩ := this
   exact (ho j).2 ⟨i', hi', m' + 1, by omega, (powM_snoc M m' i' j).2 ⟨k, hp, h2⟩⟩
 have hbd : ∀ (t : Nat) (out : List Nat), (∀ j, j ∈ out ↔ ∃ i ∈ F, ∃ m, m ≤ t ∧ powM M m i j) → ∀ x ∈ out, x ≤ N := by
  intro t out ho x hx
  obtain ⟨i, hi, m, -, hp⟩ := (ho x).1 hx
  exact (pow_le h m i x (hF i hi) hp).2
 have hstop : ∀ (t : Nat) (left : Option Nat) (out fr : List Nat), (∀ j, j ∈ out ↔ ∃ i ∈ F, ∃ m, m ≤ t ∧ powM M m i j) → (∀ j, j ∈ fr ↔ j ∈ out ∧ ¬ ∃ i ∈ F, ∃ m, m < t ∧ powM M m i j) → (fr = [] ∨ left = some 0) → ∀ j, j ∈ out ↔ ∃ i ∈ F, ∃ m, leftM t left m ∧ powM M m i j := by
  intro t left out fr ho hf hs j
  constructor
  ·intro hj
   obtain ⟨i, hi, m, hm, hp⟩ := (ho j).1 hj
   refine ⟨i, hi, m, ?_, hp⟩
   cases left with
   | none => trivial
   | some k => show m ≤ t + k; omega
  ·rintro ⟨i, hi, m, hm, hp⟩
   rcases hs with rfl | rfl
   ·exact hclosed t out ho (fun j hj => by have := (hf j).2 hj; cases this) m i j hi hp
   ·have hm' : m ≤ t + 0 := hm
    exact (ho j).2 ⟨i, hi, m, by omega, hp⟩
 intro fuel
 induction fuel with
 | zero =>
  intro t left out fr hn hnf ho hf hl
  rcases hl with hl | hl
  ·exact ⟨hn, hstop t left out fr ho hf (.inl hl)⟩
  ·have := bound_len hn (hbd t out ho)
   omega
 | succ fuel ih =>
  intro t left out fr hn hnf ho hf hl
  by_cases hs : fr = [] ∨ left = some 0
  ·rw [repL, if_pos hs]
   exact ⟨hn, hstop t left out fr ho hf hs⟩
  rw [repL, if_neg hs]
  rw [not_or] at hs
  have hb := hbd t out ho
  have hbf : ∀ x ∈ fr, x ≤ N := fun x hx => hb x ((hf x).1 hx).1
  obtain ⟨hnew, hmem⟩ := addL_new (f fr) out hn
  have ho' : ∀ j, j ∈ addL out (f fr) ↔ ∃ i ∈ F, ∃ m, m ≤ t + 1 ∧ powM M m i j := by
   intro j
   rw [addL_mem, h.mem fr hnf hbf]
   constructor
   ·rintro (hj | ⟨k, hk, hm⟩)
    ·obtain ⟨i, hi, m, hm, hp⟩ := (ho j).1 hj
     exact ⟨i, hi, m, by omega, hp⟩
    ·obtain ⟨i, hi, m, hm', hp⟩ := (ho k).1 ((hf k).1 hk).1
     exact ⟨i, hi, m + 1, by omega, (powM_snoc M m i j).2 ⟨k, hp, hm⟩⟩
   ·rintro ⟨i, hi, m, hm, hp⟩
    by_cases hle : m ≤ t
    ·exact .inl ((ho j).2 ⟨i, hi, m, hle, hp⟩)
    obtain rfl : m = t + 1 := by omega
    obtain ⟨k, h1, h2⟩ := (powM_snoc M t i j).1 hp
    by_cases hk : ∃ i ∈ F, ∃ m, m < t ∧ powM M m i k
    ·obtain ⟨i', hi', m', hm', hp'⟩ := hk
     exact .inl ((ho j).2 ⟨i', hi', m' + 1, by omega, (powM_snoc M m' i' j).2 ⟨k, hp', h2⟩⟩)
    ·exact .inr ⟨k, (hf k).2 ⟨(ho k).2 ⟨i, hi, t, Nat.le_refl _, h1⟩, hk⟩, h2⟩
  have key := ih (t + 1) (left.map (· - 1)) (addL out (f fr)) ((addL out (f fr)).drop out.length) (addL_nodup _ _ hn) hnew ho' (fun j => by
   rw [hmem j]
   constructor
   ·rintro ⟨h1, h2⟩
    refine ⟨h1, ?_⟩
    rintro ⟨i, hi, m, hm, hp⟩
    exact h2 ((ho j).2 ⟨i, hi, m, by omega, hp⟩)
   ·rintro ⟨h1, h2⟩
    refine ⟨h1, fun hj => h2 ?_⟩
    obtain ⟨i, hi, m, hm, hp⟩ := (ho j).1 hj
    exact ⟨i, hi, m, by omega, hp⟩) (by
   rcases hl with hl | hl
   ·exact absurd hl hs.1
   obtain ⟨n, hn'⟩ := addL_pre (f fr) out
   rcases hz : n with _ | ⟨x, u⟩
   ·left
    rw [hn', hz, List.append_nil, List.drop_length]
   ·right
    rw [hn', hz, List.length_append, List.length_cons]
    omega)
  refine ⟨key.1, fun j => ?_⟩
  rw [key.2 j]
  have hleft : ∀ m, leftM (t + 1) (left.map (· - 1)) m ↔ leftM t left m := by
   intro m
   rcases left with _ | k
   ·exact Iff.rfl
   ·have : k ≠ 0 := fun e => hs.2 (by rw [e])
    show m ≤ t + 1 + (k - 1) ↔ m ≤ t + k
    omega
  constructor
  ·rintro ⟨i, hi, m, hm, hp⟩
   exact ⟨i, hi, m, (hleft m).1 hm, hp⟩
  ·rintro ⟨i, hi, m, hm, hp⟩
   exact ⟨i, hi, m, (hleft m).2 hm, hp⟩
theorem nodup_count : ∀ (l : List Nat), l.Nodup → ∀ i, l.count i ≤ 1
 | [], _, i => by simp
 | b :: t, h, i => by
  rw [List.nodup_cons] at h
  have := nodup_count t h.2 i
  rw [List.count_cons]
  by_cases hb : b = i
  ·subst hb
   rw [List.count_eq_zero.2 h.1]
   split <;> omega
  ·rw [if_neg (by simpa using hb)]
   omega
theorem count_all : ∀ (ls : List (List Nat)) (i : Nat), (∀ l ∈ ls, l.Nodup) → (cntL ls i = ls.length ↔ ∀ l ∈ ls, i ∈ l) ∧ (cntL ls i = 0 ↔ ∀ l ∈ ls, i ∉ l) ∧ cntL ls i ≤ ls.length
 | [], i, _ => by simp [cntL]
 | l :: t, i, h => by
  obtain ⟨h1, h2, h3⟩ := count_all t i (fun x hx => h x (List.mem_cons_of_mem _ hx))
  have hc : cntL (l :: t) i = l.count i + cntL t i := by simp [cntL]
  have hl : l.count i ≤ 1 := nodup_count l (h l List.mem_cons_self) i
  have hp : 0 < l.count i ↔ i ∈ l := List.count_pos_iff
  rw [hc]
  simp only [List.length_cons, List.forall_mem_cons]
  refine ⟨?_, ?_, by omega⟩
  ·rw [← h1, ← hp]
   omega
  ·rw [← h2, ← hp]
   omega
theorem foldl_addL (f : Nat → List Nat) : ∀ (l o : List Nat) (x : Nat), x ∈ l.foldl (fun o i => addL o (f i)) o ↔ x ∈ o ∨ ∃ i ∈ l, x ∈ f i
 | [], o, x => by simp
 | i :: t, o, x => by
  rw [List.foldl_cons, foldl_addL f t, addL_mem]
  simp only [List.mem_cons, exists_eq_or_imp, or_assoc]
theorem foldl_addL_nodup {α : Type} (f : α → List Nat) : ∀ (l : List α) (o : List Nat), o.Nodup → (l.foldl (fun o i => addL o (f i)) o).Nodup
 | [], _, h => h
 | _ :: t, _, h => foldl_addL_nodup f t _ (addL_nodup _ _ h)
theorem foldl_addA {α : Type} (f : α → List Nat) : ∀ (l : List α) (o : List Nat) (x : Nat), x ∈ l.foldl (fun o i => addL o (f i)) o ↔ x ∈ o ∨ ∃ i ∈ l, x ∈ f i
 | [], o, x => by simp
 | i :: t, o, x => by
  rw [List.foldl_cons, foldl_addA f t, addL_mem]
  simp only [List.mem_cons, exists_eq_or_imp, or_assoc]
theorem foldl_rng (s : List UInt8) (lo hi : Int) : ∀ (l o : List Nat), o.Nodup → (l.foldl (fun o i => if rng1 s lo hi i then add1 o (i + 1) else o) o).Nodup ∧ ∀ x, x ∈ l.foldl (fun o i => if rng1 s lo hi i then add1 o (i + 1) else o) o ↔ x ∈ o ∨ ∃ i ∈ l, x = i + 1 ∧ rng1 s lo hi i = true
 | [], o, h => ⟨h, fun x => by simp⟩
 | i :: t, o, h => by
  rw [List.foldl_cons]
  by_cases hr : rng1 s lo hi i = true
  ·rw [if_pos hr]
   obtain ⟨h1, h2⟩ := foldl_rng s lo hi t _ (add1_nodup h (i + 1))
   refine ⟨h1, fun x => ?_⟩
   rw [h2 x, add1_mem]
   simp only [List.mem_cons, exists_eq_or_imp, or_assoc, hr, and_true]
  ·rw [if_neg hr]
   obtain ⟨h1, h2⟩ := foldl_rng s lo hi t _ h
   refine ⟨h1, fun x => ?_⟩
   rw [h2 x]
   simp only [List.mem_cons, exists_eq_or_imp, hr, and_false, false_or, Bool.false_eq_true]
theorem foldl_cat {N : Nat} : ∀ (ps : List ((List Nat → List Nat) × (Nat → Nat → Prop))), (∀ p ∈ ps, Finds N p.1 p.2) → Finds N (fun l => ps.foldl (fun f a => a.1 f) l) (catM (ps.map (·.2)))
 | [], _ => ⟨fun l hl hb j => ⟨fun hj => ⟨j, hj, rfl⟩, fun ⟨i, hi, e⟩ => by cases e; exact hi⟩, fun l hl hb => hl, fun i j hi hm => by cases hm; omega⟩
 | p :: t, h => by
  have hp := h p List.mem_cons_self
  have ih := foldl_cat t (fun x hx => h x (List.mem_cons_of_mem _ hx))
  refine ⟨fun l hl hb j => ?_, fun l hl hb => ih.nod _ (hp.nod l hl hb) (hp.bd hl hb), fun i j hi hm => ?_⟩
  ·show j ∈ t.foldl (fun f a => a.1 f) (p.1 l) ↔ _
   rw [ih.mem _ (hp.nod l hl hb) (hp.bd hl hb)]
   constructor
   ·rintro ⟨k, hk, hm⟩
    obtain ⟨i, hi, h1⟩ := (hp.mem l hl hb k).1 hk
    exact ⟨i, hi, k, h1, hm⟩
   ·rintro ⟨i, hi, k, h1, hm⟩
    exact ⟨k, (hp.mem l hl hb k).2 ⟨i, hi, h1⟩, hm⟩
  ·obtain ⟨k, h1, h2⟩ := hm
   have a := hp.le i k hi h1
   have b := ih.le k j a.2 h2
   omega
theorem ends_finds (s : List UInt8) : ∀ (d : Nat) (p : RX), sndR d p = true → Finds s.length (endsL s d p) (memR s d p)
 | 0, p, h => by cases h
 | d + 1, .mk op lo hi mn mx l, h => by
  obtain ⟨hf, hl⟩ := snd_node h
  have ih : ∀ q ∈ l, Finds s.length (endsL s d q) (memR s d q) := fun q hq => ends_finds s d q (hl q hq)
  have hnil : endsL s (d + 1) (.mk op lo hi mn mx l) [] = [] := by rw [endsL, if_pos rfl]
  suffices hs : (∀ fr, fr ≠ [] → fr.Nodup → (∀ x ∈ fr, x ≤ s.length) → (endsL s (d + 1) (.mk op lo hi mn mx l) fr).Nodup ∧ ∀ j, j ∈ endsL s (d + 1) (.mk op lo hi mn mx l) fr ↔ ∃ i ∈ fr, memR s (d + 1) (.mk op lo hi mn mx l) i j) ∧ ∀ i j, i ≤ s.length → memR s (d + 1) (.mk op lo hi mn mx l) i j → i ≤ j ∧ j ≤ s.length by
   refine ⟨fun fr hn hb j => ?_, fun fr hn hb => ?_, hs.2⟩
   ·by_cases he : fr = []
    ·subst he
     rw [hnil]
     simp
    ·exact (hs.1 fr he hn hb).2 j
   ·by_cases he : fr = []
    ·subst he
     rw [hnil]
     exact List.nodup_nil
    ·exact (hs.1 fr he hn hb).1
  rcases form_ways hf with ⟨h0, hn0, rfl, rfl, rfl, rfl⟩ | ⟨rfl, hn0, h1, h2, h3, rfl, rfl⟩ | ⟨h0, hn0, rfl, rfl, rfl, rfl⟩ | ⟨rfl, hn0, rfl, rfl, h1, h2, h3⟩ | ⟨rfl, hn0, rfl, rfl, rfl, rfl⟩
  ·rcases h0 with rfl | rfl
   ·refine ⟨fun fr he hn hb => ?_, fun i j hi hm => ?_⟩
    ·rw [endsL, if_neg he]
     simp [memR]
    ·simp [memR] at hm
   ·refine ⟨fun fr he hn hb => ?_, fun i j hi hm => ?_⟩
    ·rw [endsL, if_neg he, if_pos rfl]
     refine ⟨hn, fun j => ?_⟩
     simp [memR]
    ·simp [memR] at hm
     omega
  ·refine ⟨fun fr he hn hb => ?_, fun i j hi hm => ?_⟩
   ·rw [endsL, if_neg he, if_neg (by decide), if_pos rfl]
    obtain ⟨g1, g2⟩ := foldl_rng s lo hi fr [] List.nodup_nil
    refine ⟨g1, fun j => ?_⟩
    rw [g2 j]
    simp [memR]
   ·simp [memR] at hm
    obtain ⟨rfl, hr⟩ := hm
    unfold rng1 at hr
    split at hr
    ·cases hr
    ·rename_i c hc
     have := (List.getElem?_eq_some_iff.1 hc).1
     omega
  ·rcases h0 with rfl | rfl | rfl
   ·have hcat := foldl_cat (N := s.length) (l.map fun a => (endsL s d a, memR s d a)) (by
     intro p hp
     obtain ⟨a, ha, rfl⟩ := List.mem_map.1 hp
     exact ih a ha)
    rw [List.map_map] at hcat
    refine ⟨fun fr he hn hb => ?_, fun i j hi hm => ?_⟩
    ·rw [endsL, if_neg he, if_neg (by decide), if_neg (by decide), if_pos rfl]
     have e : l.foldl (fun f a => endsL s d a f) fr = (l.map fun a => (endsL s d a, memR s d a)).foldl (fun f a => a.1 f) fr := by rw [List.foldl_map]
     rw [e]
     refine ⟨hcat.nod fr hn hb, fun j => ?_⟩
     rw [hcat.mem fr hn hb j]
     simp [memR, Function.comp_def]
    ·simp [memR] at hm
     exact hcat.le i j hi (by simpa [Function.comp_def] using hm)
   ·refine ⟨fun fr he hn hb => ?_, fun i j hi hm => ?_⟩
    ·rw [endsL, if_neg he, if_neg (by decide), if_neg (by decide), if_neg (by decide), if_pos rfl]
     refine ⟨foldl_addL_nodup _ l [] List.nodup_nil, fun j => ?_⟩
     rw [foldl_addA]
     simp only [List.not_mem_nil, false_or]
     constructor
     ·rintro ⟨q, hq, hj⟩
      obtain ⟨i, hi, hm⟩ := ((ih q hq).mem fr hn hb j).1 hj
      exact ⟨i, hi, by simp [memR]; exact ⟨q, hq, hm⟩⟩
     ·rintro ⟨i, hi, hm⟩
      simp [memR] at hm
      obtain ⟨q, hq, hm⟩ := hm
      exact ⟨q, hq, ((ih q hq).mem fr hn hb j).2 ⟨i, hi, hm⟩⟩
    ·simp [memR] at hm
     obtain ⟨q, hq, hm⟩ := hm
     exact (ih q hq).le i j hi hm
   ·refine ⟨fun fr he hn hb => ?_, fun i j hi hm => ?_⟩
    ·rw [endsL, if_neg he, if_neg (by decide), if_neg (by decide), if_neg (by decide), if_neg (by decide), if_pos (.inl rfl)]
     refine ⟨foldl_addL_nodup _ fr [] List.nodup_nil, fun j => ?_⟩
     rw [foldl_addL]
     simp only [List.not_mem_nil, false_or]
     have hone : ∀ i ∈ fr, (j ∈ sglL s 6 (l.map fun a => endsL s d a [i]) i ↔ memR s (d + 1) (.mk 6 0 0 0 0 l) i j) := by
      intro i hi
      have hi' := hb i hi
      have hnd : ∀ x ∈ l.map fun a => endsL s d a [i], x.Nodup := by
       intro x hx
       obtain ⟨a, ha, rfl⟩ := List.mem_map.1 hx
       exact (ih a ha).nod [i] (by simp) (by simp; exact hi')
      obtain ⟨k1, -, -⟩ := count_all _ j hnd
      unfold sglL
      rw [List.mem_filter, decide_eq_true_eq, List.mem_range'_1, k1]
      have k2 : (∀ x ∈ l.map fun a => endsL s d a [i], j ∈ x) ↔ ∀ q ∈ l, memR s d q i j := by
       constructor
       ·intro g q hq
        obtain ⟨i', hi'', hm⟩ := ((ih q hq).mem [i] (by simp) (by simp; exact hi') j).1 (g _ (List.mem_map.2 ⟨q, hq, rfl⟩))
        rw [List.mem_singleton.1 hi''] at hm
        exact hm
       ·intro g x hx
        obtain ⟨a, ha, rfl⟩ := List.mem_map.1 hx
        exact ((ih a ha).mem [i] (by simp) (by simp; exact hi') j).2 ⟨i, by simp, g a ha⟩
      rw [k2]
      simp [memR]
      constructor
      ·rintro ⟨⟨g1, g2⟩, g3⟩
       exact ⟨g1, by omega, g3⟩
      ·rintro ⟨g1, g2, g3⟩
       exact ⟨⟨g1, by omega⟩, g3⟩
     constructor
     ·rintro ⟨i, hi, hj⟩
      exact ⟨i, hi, (hone i hi).1 hj⟩
     ·rintro ⟨i, hi, hm⟩
      exact ⟨i, hi, (hone i hi).2 hm⟩
    ·simp [memR] at hm
     omega
  ·obtain ⟨q, rfl⟩ := List.length_eq_one_iff.1 hn0
   have hq := ih q List.mem_cons_self
   have hle : ∀ i j, i ≤ s.length → memR s (d + 1) (.mk 5 0 0 mn mx [q]) i j → i ≤ j ∧ j ≤ s.length := by
    intro i j hi hm
    simp [memR] at hm
    obtain ⟨n, -, -, hp⟩ := hm
    exact pow_le hq n i j hi hp
   refine ⟨fun fr he hn hb => ?_, hle⟩
   rw [endsL, if_neg he, if_neg (by decide), if_neg (by decide), if_neg (by decide), if_neg (by decide), if_neg (by decide), if_pos rfl]
   have hN := repN_finds hq mn.toNat
   have hF := hN.bd hn hb
   have hFn := hN.nod fr hn hb
   show (repL (endsL s d q) (s.length + 2) (if mx < 0 then none else some (mx - mn).toNat) (addL [] (repN (endsL s d q) mn.toNat fr)) (repN (endsL s d q) mn.toNat fr)).Nodup ∧ _
   have key := repL_mem hq (repN (endsL s d q) mn.toNat fr) hF (s.length + 2) 0 (if mx < 0 then none else some (mx - mn).toNat) (addL [] (repN (endsL s d q) mn.toNat fr)) (repN (endsL s d q) mn.toNat fr) (addL_nodup _ _ List.nodup_nil) hFn (fun j => by
    rw [addL_mem]
    simp only [List.not_mem_nil, false_or]
    constructor
    ·intro hj
     exact ⟨j, hj, 0, Nat.le_refl _, rfl⟩
    ·rintro ⟨i, hi, m, hm, hp⟩
     obtain rfl : m = 0 := by omega
     cases hp
     exact hi) (fun j => by
    rw [addL_mem]
    simp only [List.not_mem_nil, false_or, Nat.not_lt_zero, false_and, exists_false, and_false, not_false_iff, and_true]) (.inr (by omega))
   refine ⟨key.1, fun j => ?_⟩
   refine (key.2 j).trans ?_
   have hfin : ∀ i, memR s (d + 1) (.mk 5 0 0 mn mx [q]) i j ↔ ∃ n : Nat, mn ≤ n ∧ (mx < 0 ∨ (n : Int) ≤ mx) ∧ powM (memR s d q) n i j := by
    intro i
    simp [memR]
   constructor
   ·rintro ⟨k, hk, m, hm, hp⟩
    obtain ⟨i, hi, hp'⟩ := (hN.mem fr hn hb k).1 hk
    refine ⟨i, hi, (hfin i).2 ⟨mn.toNat + m, by omega, ?_, (powM_add _ _ _ _ _).2 ⟨k, hp', hp⟩⟩⟩
    by_cases hx : mx < 0
    ·exact .inl hx
    ·rw [if_neg hx] at hm
     have hm' : m ≤ 0 + (mx - mn).toNat := hm
     exact .inr (by omega)
   ·rintro ⟨i, hi, hm⟩
    obtain ⟨n, g1, g2, g3⟩ := (hfin i).1 hm
    obtain ⟨m, rfl⟩ : ∃ m, n = mn.toNat + m := ⟨n - mn.toNat, by omega⟩
    obtain ⟨k, hk, hp⟩ := (powM_add _ _ _ _ _).1 g3
    refine ⟨k, (hN.mem fr hn hb k).2 ⟨i, hi, hk⟩, m, ?_, hp⟩
    by_cases hx : mx < 0
    ·rw [if_pos hx]
     trivial
    ·rw [if_neg hx]
     show m ≤ 0 + (mx - mn).toNat
     omega
  ·obtain ⟨q, rfl⟩ := List.length_eq_one_iff.1 hn0
   have hq := ih q List.mem_cons_self
   refine ⟨fun fr he hn hb => ?_, fun i j hi hm => ?_⟩
   ·rw [endsL, if_neg he, if_neg (by decide), if_neg (by decide), if_neg (by decide), if_neg (by decide), if_pos (.inr rfl)]
    refine ⟨foldl_addL_nodup _ fr [] List.nodup_nil, fun j => ?_⟩
    rw [foldl_addL]
    simp only [List.not_mem_nil, false_or]
    have hone : ∀ i ∈ fr, (j ∈ sglL s 7 ([q].map fun a => endsL s d a [i]) i ↔ memR s (d + 1) (.mk 7 0 0 0 0 [q]) i j) := by
     intro i hi
     have hi' := hb i hi
     have hnd : ∀ x ∈ [q].map fun a => endsL s d a [i], x.Nodup := by
      intro x hx
      obtain ⟨a, ha, rfl⟩ := List.mem_map.1 hx
      rw [List.mem_singleton.1 ha]
      exact hq.nod [i] (by simp) (by simp; exact hi')
     obtain ⟨-, k1, -⟩ := count_all _ j hnd
     unfold sglL
     rw [List.mem_filter, decide_eq_true_eq, List.mem_range'_1, k1]
     have k2 : (∀ x ∈ [q].map fun a => endsL s d a [i], j ∉ x) ↔ ¬ memR s d q i j := by
      rw [List.map_singleton, List.forall_mem_singleton, hq.mem [i] (by simp) (by simp; exact hi') j]
      simp
     rw [k2]
     simp [memR]
     constructor
     ·rintro ⟨⟨g1, g2⟩, g3⟩
      exact ⟨g1, by omega, g3⟩
     ·rintro ⟨g1, g2, g3⟩
      exact ⟨⟨g1, by omega⟩, g3⟩
    constructor
    ·rintro ⟨i, hi, hj⟩
     exact ⟨i, hi, (hone i hi).1 hj⟩
    ·rintro ⟨i, hi, hm⟩
     exact ⟨i, hi, (hone i hi).2 hm⟩
   ·simp [memR] at hm
    omega
end Go.Proofs.YtpkecepelcppiaaGreatDoor
