/- The package bracelex, walked: bytes, bare words, numbers. Conditions: strings of at most 2^40 bytes. -/
import Derived.Test.YtpkecepelcppiaaGreatDoorZd5
import Derived.WalkSpells
import Derived.WalkLawsBesides
import Derived.Lib.Bytealg
namespace Go.Proofs.YtpkecepelcppiaaGreatDoor
open Go.RowKit
set_option maxHeartbeats 1000000
set_option maxRecDepth 100000

theorem run_index (s : ByteArray) (c : UInt8) (w : World) : (callFunc 179 #[.string s, .int .u8 c.toNat]).run Tryz.prog w = .ok (.value (.int .i64 (Lib.indexByte (L s) c))) w := by
  rw [run_callFunc_extern Tryz.func179 (by kernel_rfl) (by kernel_rfl) (by kernel_rfl) (e := Extern.BytealgIndexByte.indexByte) (by kernel_rfl), Lib.run_indexByteString]
  simp [L]
theorem IndexByte_any (s : ByteArray) (c : UInt8) (w : World) :
    Calls Tryz.prog 154 #[.string s, .int .u8 c.toNat] w fun e w' => e = .returned (.int .i64 (Lib.indexByte (L s) c)) ∧ w = w' := by
  have hi := fun w => run_index s c w
  go_enter Tryz.func154, Tryz.ntmps154
  go_wp2
  go_ret
  exact ⟨rfl, rfl⟩

def pre (l p : List UInt8) : Bool := l.take p.length == p
theorem pre_yes {s p : ByteArray} (h : pre (L s) (L p) = true) : p.size ≤ s.size := by
 have h1 : (L s).take (L p).length = L p := by simpa [pre] using h
 have := congrArg List.length h1
 rw [List.length_take, L_len, L_len] at this
 omega
theorem HasPrefix_lite (s p : ByteArray) (w : World) (_hs : s.size ≤ maxLen) (_hp : p.size ≤ maxLen) :
  Calls Tryz.prog 113 #[.string s, .string p] w fun e w' => e = .returned (.bool (pre (L s) (L p))) ∧ w = w' := by
 unfold maxLen at _hs _hp
 by_cases h : p.size ≤ s.size
 ·have h' : (p.size : Int) ≤ s.size := by omega
  have he : pre (L s) (L p) = ((s.extract 0 p.size).toList == p.toList) := by
   rw [toList_L, toList_L, L_upto]
   unfold pre
   rw [L_len]
  have HE := Lib.hid he; clear he
  go_enter Tryz.func113, Tryz.ntmps113
  go_wp2_with fail
  go_ret
  exact ⟨by rw [HE.out]; rfl, rfl⟩
 ·have h' : ¬ (p.size : Int) ≤ s.size := by omega
  have he : pre (L s) (L p) = false := by
   cases hb : pre (L s) (L p)
   ·rfl
   ·exact absurd (pre_yes hb) h
  have HE := Lib.hid he; clear he
  go_enter Tryz.func113, Tryz.ntmps113
  go_wp2_with fail
  go_ret
  exact ⟨by rw [HE.out]; rfl, rfl⟩
theorem HasPrefix_any (s p : ByteArray) (w : World) (hs : s.size ≤ maxLen) (hp : p.size ≤ maxLen) :
  Calls Tryz.prog 75 #[.string s, .string p] w fun e w' => e = .returned (.bool (pre (L s) (L p))) ∧ w = w' := by
 go_enter Tryz.func75, Tryz.ntmps75
 go_wp2_with fail
 refine (HasPrefix_lite s p _ hs hp).mono ?_
 rintro e w' ⟨rfl, rfl⟩
 go_wp2_with fail
 go_ret
 exact ⟨rfl, rfl⟩
def trimP (s p : ByteArray) : ByteArray := if pre (L s) (L p) then s.extract p.size s.size else s
theorem trimP_yes {s p : ByteArray} (h : pre (L s) (L p) = true) : trimP s p = s.extract p.size s.size := by unfold trimP; rw [if_pos h]
theorem trimP_no {s p : ByteArray} (h : pre (L s) (L p) = false) : trimP s p = s := by unfold trimP; rw [h]; rfl
end Go.Proofs.YtpkecepelcppiaaGreatDoor

namespace Go.Proofs.YtpkecepelcppiaaGreatDoor
open Go.RowKit

def wordb (b : UInt8) : Bool := alpha b || dig b || b.toNat == 95 || b.toNat == 36 || b.toNat == 43 || b.toNat == 45 || b.toNat == 46
def bare0 (b : UInt8) : Bool := alpha b || b.toNat == 95 || b.toNat == 36
def bareL : List UInt8 → Bool
 | [] => false
 | b :: t => bare0 b && t.all fun c => bare0 c || dig c

/-! Numbers, as the program reads them. -/
def sgn (b : UInt8) : Bool := b.toNat == 43 || b.toNat == 45
def dropSign : List UInt8 → List UInt8
 | [] => []
 | d :: u => if sgn d then u else d :: u
def expB : List UInt8 → Bool
 | [] => true
 | c :: t => (c.toNat == 101 || c.toNat == 69) && (decide (dropSign t ≠ []) && decide (runL (dropSign t) = (dropSign t).length))
def fracB (l : List UInt8) : Bool :=
 if pre l [46] then (if runL (l.drop 1) = 0 then false else expB (l.drop (1 + runL (l.drop 1)))) else expB l
def zero0 : List UInt8 → Bool
 | [] => false
 | b :: _ => b.toNat == 48
def intB (l : List UInt8) : Bool := if runL l = 0 ∨ (1 < runL l ∧ zero0 l) then false else fracB (l.drop (runL l))
def numB (l : List UInt8) : Bool := intB (if pre l [45] then l.drop 1 else l)

/-! Escapes and quoted strings. -/
def hexv (b : UInt8) : Option Nat :=
 if 48 ≤ b.toNat ∧ b.toNat ≤ 57 then some (b.toNat - 48) else if 97 ≤ b.toNat ∧ b.toNat ≤ 102 then some (b.toNat - 87) else if 65 ≤ b.toNat ∧ b.toNat ≤ 70 then some (b.toNat - 55) else none
def hexN : Nat → Nat → List UInt8 → Nat × Nat
 | 0, n, _ => (n, 0)
 | _ + 1, _, [] => (0, 4)
 | k + 1, n, b :: t => match hexv b with
  | some d => hexN k (16 * n + d) t
  | none => (0, 3)
def simpleEsc (b : UInt8) : Option Nat :=
 if b.toNat = 34 then some 34 else if b.toNat = 92 then some 92 else if b.toNat = 47 then some 47 else if b.toNat = 98 then some 8 else if b.toNat = 102 then some 12
 else if b.toNat = 110 then some 10 else if b.toNat = 114 then some 13 else if b.toNat = 116 then some 9 else none
def uniEsc (t : List UInt8) : Nat × Nat × Nat :=
 if (hexN 4 0 t).2 ≠ 0 then (0, 0, (hexN 4 0 t).2)
 else if (hexN 4 0 t).1 < 55296 ∨ 57343 < (hexN 4 0 t).1 then ((hexN 4 0 t).1, 5, 0)
 else if 56319 < (hexN 4 0 t).1 then (0, 0, 5)
 else match t.drop 4 with
  | [] => (0, 0, 4)
  | c :: t2 => if c.toNat ≠ 92 then (0, 0, 5) else match t2 with
   | [] => (0, 0, 4)
   | d :: t3 => if d.toNat ≠ 117 then (0, 0, 5)
    else if (hexN 4 0 t3).2 ≠ 0 then (0, 0, (hexN 4 0 t3).2)
    else if (hexN 4 0 t3).1 < 56320 ∨ 57343 < (hexN 4 0 t3).1 then (0, 0, 5)
    else (65536 + ((hexN 4 0 t).1 - 55296) * 1024 + (hexN 4 0 t3).1 - 56320, 11, 0)
def escL : List UInt8 → Nat × Nat × Nat
 | [] => (0, 0, 4)
 | c :: t => if c.toNat = 117 then uniEsc t else match simpleEsc c with
  | some r => (r, 1, 0)
  | none => (0, 0, 3)
def quotF : Nat → List UInt8 → List UInt8 × Nat × Nat
 | 0, _ => ([], 0, 4)
 | _ + 1, [] => ([], 0, 4)
 | f + 1, b :: t =>
  if b.toNat = 34 then ([], 1, 0)
  else if b.toNat = 92 then
   if (escL t).2.2 ≠ 0 then ([], 0, (escL t).2.2)
   else if (quotF f (t.drop (escL t).2.1)).2.2 ≠ 0 then ([], 0, (quotF f (t.drop (escL t).2.1)).2.2)
   else (enc (escL t).1 ++ (quotF f (t.drop (escL t).2.1)).1, 1 + (escL t).2.1 + (quotF f (t.drop (escL t).2.1)).2.1, 0)
  else if b.toNat < 32 ∨ (dec (b :: t)).2 = 0 then ([], 0, 5)
  else if (quotF f ((b :: t).drop (dec (b :: t)).2)).2.2 ≠ 0 then ([], 0, (quotF f ((b :: t).drop (dec (b :: t)).2)).2.2)
  else ((b :: t).take (dec (b :: t)).2 ++ (quotF f ((b :: t).drop (dec (b :: t)).2)).1, (dec (b :: t)).2 + (quotF f ((b :: t).drop (dec (b :: t)).2)).2.1, 0)
def quotL (l : List UInt8) : List UInt8 × Nat × Nat := quotF l.length l

/-! Comments: what stands behind the first two bytes (with fuel). -/
def comF (block : Bool) : Nat → List UInt8 → Nat × Nat
 | 0, _ => if block then (0, 4) else (0, 0)
 | _ + 1, [] => if block then (0, 4) else (0, 0)
 | f + 1, b :: t =>
  if block = false ∧ (b.toNat = 10 ∨ pre (b :: t) [13, 10]) then (0, 0)
  else if block = true ∧ pre (b :: t) [42, 47] then (2, 0)
  else if (dec (b :: t)).2 = 0 then (0, 5)
  else if (comF block f ((b :: t).drop (dec (b :: t)).2)).2 ≠ 0 then (0, (comF block f ((b :: t).drop (dec (b :: t)).2)).2)
  else ((dec (b :: t)).2 + (comF block f ((b :: t).drop (dec (b :: t)).2)).1, 0)
def comL : List UInt8 → Nat × Nat
 | _ :: c :: t =>
  if c.toNat = 47 then (if (comF false t.length t).2 ≠ 0 then (0, (comF false t.length t).2) else (2 + (comF false t.length t).1, 0))
  else if c.toNat = 42 then (if (comF true t.length t).2 ≠ 0 then (0, (comF true t.length t).2) else (2 + (comF true t.length t).1, 0))
  else (0, 3)
 | _ => (0, 4)

/-! Words and line ends. -/
def wordLen : List UInt8 → Nat
 | [] => 0
 | b :: t => if wordb b then wordLen t + 1 else 0
def wordL (l : List UInt8) : Nat × Nat :=
 if numB (l.take (wordLen l)) || bareL (l.take (wordLen l)) then (wordLen l, 0)
 else if wordLen l = l.length ∧ numB (l.take (wordLen l) ++ [48]) then (0, 4)
 else (0, 3)
def lineL : List UInt8 → Nat × Nat
 | [] => (0, 0)
 | b :: t => if b.toNat = 10 then (1, 0) else match t with
  | [] => (0, 4)
  | c :: _ => if c.toNat = 10 then (2, 0) else (0, 3)
def blank (b : UInt8) : Bool := b.toNat == 32 || b.toNat == 9
def spaceLen : List UInt8 → Nat
 | [] => 0
 | b :: t => if blank b then spaceLen t + 1 else 0
def punct (b : UInt8) : Bool := b.toNat == 91 || b.toNat == 93 || b.toNat == 123 || b.toNat == 125 || b.toNat == 44 || b.toNat == 58
def tok (kind : Nat) (x : Nat × Nat) : Nat × Nat × Nat := if x.2 ≠ 0 then (0, 0, x.2) else (kind, x.1, 0)
def oneL : List UInt8 → Nat × Nat × Nat
 | [] => (0, 0, 3)
 | c :: t =>
  if blank c then (1, spaceLen (c :: t), 0)
  else if c.toNat = 10 ∨ c.toNat = 13 then tok 2 (lineL (c :: t))
  else if c.toNat = 47 then tok 3 (comL (c :: t))
  else if punct c then (4, 1, 0)
  else if c.toNat = 34 then tok 5 (1 + (quotL t).2.1, (quotL t).2.2)
  else if (c.toNat = 116 ∨ c.toNat = 98) ∧ pre t [34] then tok 5 (2 + (quotL (t.drop 1)).2.1, (quotL (t.drop 1)).2.2)
  else if wordb c then tok 6 (wordL (c :: t))
  else (0, 0, 3)
end Go.Proofs.YtpkecepelcppiaaGreatDoor

namespace Go.Proofs.YtpkecepelcppiaaGreatDoor
open Go.RowKit
set_option maxHeartbeats 1000000
set_option maxRecDepth 100000

theorem ret_bool {a b : Bool} (h : a = b) : Ending.returned (.bool a) = Ending.returned (.bool b) := by rw [h]
theorem ret_i64 {a b : Int} (h : a = b) : Ending.returned (.int .i64 a) = Ending.returned (.int .i64 b) := by rw [h]
def bareG (k : Nat) (l : List UInt8) : Bool := if k = 0 then (match l with | [] => true | b :: t => bare0 b && t.all fun c => bare0 c || dig c) else l.all fun c => bare0 c || dig c
theorem bareG_step (k : Nat) (b : UInt8) (t : List UInt8) : bareG k (b :: t) = ((bare0 b || (decide (k ≠ 0) && dig b)) && bareG (k + 1) t) := by
 unfold bareG
 by_cases h : k = 0
 ·simp [h]
 ·simp [h]
theorem bareL_eq (l : List UInt8) : bareL l = (decide (l ≠ []) && bareG 0 l) := by
 cases l <;> simp [bareL, bareG]
end Go.Proofs.YtpkecepelcppiaaGreatDoor
