/- plain: Go's own decoding of strings. Conditions: none. -/
import Derived.Test.YtpkecepelcppiaaGreatDoorZd5
import Derived.WalkSpells
import Derived.WalkLawsBesides
import Derived.Lib.AppendStr
namespace Go.Proofs.YtpkecepelcppiaaGreatDoor
open Go.RowKit

theorem grown_of_below {w w' : World} (h : Below w.heap.size w w') (row : Option Nat) : w.grownBy w' row :=
 ⟨h.os, h.tape, h.output, h.size, fun k hk _ => h.block k hk⟩
theorem own_below {w w' : World} {base : Nat} {e : TypeId} {size : Nat} {v : Value} {n : Nat} {xs : List Value} (h : w.ownsRow base e size v n xs) (hb : Below w.heap.size w w') : w'.ownsRow base e size v n xs :=
 h.kept (grown_of_below hb none) (by cases hv : v.ownBlock <;> simp)
def Elem (P : Program) (t e : TypeId) (size : Nat) : Prop :=
 P.underlying t = some (.slice e) ∧ 0 < size ∧ ∃ (i : TypeInfo) (z : Value), P.info? e = some i ∧ i.zero = some z ∧ i.size = size ∧ i.bytes ≤ 1024 ∧ z.cells.size = size
theorem elem_of {P : Program} {t e : TypeId} {z : Value} {size bytes : Nat} (h0 : P.underlying t = some (.slice e)) (h : (P.info? e).map (fun i => (i.zero, i.size, i.bytes)) = some (some z, size, bytes)) (h1 : 0 < size) (h2 : bytes ≤ 1024) (h3 : z.cells.size = size) : Elem P t e size := by
 obtain ⟨i, hi, hz, hs, hb⟩ := info_parts h
 exact ⟨h0, h1, i, z, hi, hz, hs, by omega, h3⟩

theorem new_cells (w : World) (us : List Value) (e : TypeId) : ∀ j u, us[j]? = some u → (w.alloc (.cells us.toArray e)).cell? ((⟨w.heap.size, 0, none⟩ : Addr).add j) = some u := by
 intro j u hu
 have hadd : (⟨w.heap.size, 0, none⟩ : Addr).add j = ⟨w.heap.size, j, none⟩ := by unfold Addr.add; split <;> simp_all
 rw [hadd, cell_of_row (w.alloc (.cells us.toArray e)) w.heap.size j us.toArray e (0, 0) (heap_alloc_new w _)]
 simpa using hu

/-! Rows of bytes. -/
def bv (b : UInt8) : Value := .int .u8 (b.toNat : Int)
theorem strCells_L (s : ByteArray) : Lib.strCells s = (L s).map bv := rfl
def BytesT (P : Program) (t u e : TypeId) : Prop :=
 P.underlying t = some (.slice e) ∧ P.underlying u = some .string ∧ P.underlying e = some (.int .u8) ∧ ∃ i : TypeInfo, P.info? e = some i ∧ i.zero = some (.int .u8 0) ∧ i.size = 1 ∧ i.bytes = 1
theorem bytesT_of {P : Program} {t u e : TypeId} (h0 : P.underlying t = some (.slice e)) (h1 : P.underlying u = some .string) (h2 : P.underlying e = some (.int .u8)) (h : (P.info? e).map (fun i => (i.zero, i.size, i.bytes)) = some (some (.int .u8 0), 1, 1)) : BytesT P t u e := by
 obtain ⟨i, hi, hz, hs, hb⟩ := info_parts h
 exact ⟨h0, h1, h2, i, hi, hz, hs, hb⟩
theorem wp_pushS {P : Program} {w1 : World} {ops : Array Oper} {rest : List Oper} {o : Oper} {a : Act} {Q : Exit → Act → World → Prop} {t u e : TypeId} {base n : Nat} {v : Value} {bs : List UInt8}
  (he : BytesT P t u e) (hgd : o.guard = none) (sl x : Operand) (ho : o.op = .call { callee := .builtin .append, args := #[sl, x], argTypes := #[t, u] })
  (hown : w1.ownsRow base e 1 v n (bs.map bv)) (s : ByteArray) (hs : a.eval sl = v) (hx : a.eval x = .string s)
  (hn : n + s.size < 100000000000000) (hbase : base ≤ w1.heap.size)
  (h : ∀ v' w', w'.ownsRow base e 1 v' (n + s.size) ((bs ++ L s).map bv) → w1.grownBy w' v.ownBlock → Below base w1 w' → wpList P ops Q rest (a.put o.dst v') w') :
  wpList P ops Q (o :: rest) a w1 := by
 obtain ⟨ht, hu, _, i, hi, hz, hsi, hby⟩ := he
 refine Lib.wpList_append_own_string w1 hgd sl x t u ho base e i ht hu hi hz hsi hby v n _ hs hown s hx (by simp only [maxLen]; omega) (by omega) hbase ?_
 intro v' w' hown' hg _
 rw [strCells_L, ← List.map_append] at hown'
 exact h v' w' hown' hg ((Below.refl base w1).grown hg hbase (fun k hk => (hown.lt k hk).1))

theorem conv_own {P : Program} {w : World} {t u e : TypeId} {base n : Nat} {v : Value} {bs : List UInt8} (he : BytesT P t u e) (hown : w.ownsRow base e 1 v n (bs.map bv)) :
  (convert t u v).run P w = .ok (.string ⟨bs.toArray⟩) w := by
 obtain ⟨ht, hu, hb, _⟩ := he
 have hl := hown.1
 rw [List.length_map, Nat.mul_one] at hl
 rcases hown.2 with ⟨rfl, h0⟩ | ⟨g, cap, cur, rfl, _, hh, _, _, _, _⟩
 ·have : bs = [] := List.eq_nil_of_length_eq_zero (by omega)
  subst this
  exact run_convert_bytes_nil w t e ht hb 0 0 u hu
 ·subst hl
  refine run_convert_bytes_back w t u e ⟨g, 0, none⟩ cap bs ht hb hu (fun j hj => ?_)
  exact hown.cells (g := g) rfl j (bv bs[j]) (by rw [List.getElem?_map, List.getElem?_eq_getElem hj]; rfl)
end Go.Proofs.YtpkecepelcppiaaGreatDoor

namespace Go.Proofs.YtpkecepelcppiaaGreatDoor
open Go.RowKit
set_option maxHeartbeats 1000000
set_option maxRecDepth 100000

theorem hd_lt (b : Nat) : (hd b).1 ≤ 4 ∧ (hd b).2 < 128 := by
 unfold hd
 repeat' split
 all_goals constructor <;> simp <;> omega

end Go.Proofs.YtpkecepelcppiaaGreatDoor

namespace Go.Proofs.YtpkecepelcppiaaGreatDoor
open Go.RowKit
set_option maxHeartbeats 1000000
set_option maxRecDepth 100000

theorem conv_new (w : World) (xs : List Int) : (convert 56 9 (.slice (some ⟨w.heap.size, 0, none⟩) xs.length xs.length)).run Tryz.prog (w.alloc (.cells (xs.map (Value.int .u8)).toArray 5)) =
  .ok (.string ⟨(xs.map fun n => UInt8.ofNat n.toNat).toArray⟩) (w.alloc (.cells (xs.map (Value.int .u8)).toArray 5)) := by
 refine run_convert_bytes_arg (P := Tryz.prog) _ 56 5 Tryz.underlying56 Tryz.underlying5 w.heap.size 0 xs.length xs.length xs rfl (fun i hi => ?_) 9 Tryz.underlying9
 have := cell_of_row (w.alloc (.cells (xs.map (Value.int .u8)).toArray 5)) w.heap.size i (xs.map (Value.int .u8)).toArray 5 (0, 0) (heap_alloc_new w _)
 rw [Nat.zero_add, this]
 simp [List.getElem?_eq_getElem hi]
theorem conv1 (w : World) (a : Int) : (convert 56 9 (.slice (some ⟨w.heap.size, 0, none⟩) 1 1)).run Tryz.prog (w.alloc (.cells #[.int .u8 a] 5)) =
  .ok (.string ⟨#[UInt8.ofNat a.toNat]⟩) (w.alloc (.cells #[.int .u8 a] 5)) := conv_new w [a]
theorem conv2 (w : World) (a b : Int) : (convert 56 9 (.slice (some ⟨w.heap.size, 0, none⟩) 2 2)).run Tryz.prog (w.alloc (.cells #[.int .u8 a, .int .u8 b] 5)) =
  .ok (.string ⟨#[UInt8.ofNat a.toNat, UInt8.ofNat b.toNat]⟩) (w.alloc (.cells #[.int .u8 a, .int .u8 b] 5)) := conv_new w [a, b]
theorem conv3 (w : World) (a b c : Int) : (convert 56 9 (.slice (some ⟨w.heap.size, 0, none⟩) 3 3)).run Tryz.prog (w.alloc (.cells #[.int .u8 a, .int .u8 b, .int .u8 c] 5)) =
  .ok (.string ⟨#[UInt8.ofNat a.toNat, UInt8.ofNat b.toNat, UInt8.ofNat c.toNat]⟩) (w.alloc (.cells #[.int .u8 a, .int .u8 b, .int .u8 c] 5)) := conv_new w [a, b, c]
theorem conv4 (w : World) (a b c d : Int) : (convert 56 9 (.slice (some ⟨w.heap.size, 0, none⟩) 4 4)).run Tryz.prog (w.alloc (.cells #[.int .u8 a, .int .u8 b, .int .u8 c, .int .u8 d] 5)) =
  .ok (.string ⟨#[UInt8.ofNat a.toNat, UInt8.ofNat b.toNat, UInt8.ofNat c.toNat, UInt8.ofNat d.toNat]⟩) (w.alloc (.cells #[.int .u8 a, .int .u8 b, .int .u8 c, .int .u8 d] 5)) := conv_new w [a, b, c, d]

theorem shape_new (w : World) (C : Array Value) (e : TypeId) : (w.alloc (.cells C e)).shape? w.heap.size = some (e, C.size) := by
 have : (w.alloc (.cells C e)).heap[w.heap.size]? = some (.cells C e) := by
  show (w.heap.push (.cells C e))[w.heap.size]? = _
  simp
 unfold World.shape?
 rw [this]
theorem freeze_new (w : World) (C : Array Value) (e : TypeId) (n : Nat) : (w.alloc (.cells C e)).freeze ⟨w.heap.size, n, none⟩ 1 = w.alloc (.cells C e (n, n + 1)) := by
 have hm : ∀ (a : Array Obj) (x : Obj) (f : Obj → Obj), (a.push x).modify a.size f = a.push (f x) := by
  intro a x f
  apply Array.ext
  ·simp
  ·intro i h1 h2
   simp only [Array.getElem_modify, Array.getElem_push]
   by_cases h : a.size = i
   ·subst h
    simp
   ·have hi : i < a.size := by simp at h1; omega
    simp [h, hi]
 unfold World.freeze
 rw [if_neg (by decide)]
 show ({ w.alloc (.cells C e) with heap := (w.heap.push (.cells C e)).modify w.heap.size _ } : World) = _
 rw [hm]
 rfl
theorem conv_mark2 (w : World) (a b : Value) : (convert 56 56 (.slice (some ⟨w.heap.size, 0, none⟩) 2 2)).run Tryz.prog (w.alloc (.cells #[a, b] 5)) =
  .ok (.slice (some ⟨w.heap.size, 0, none⟩) 2 2) (w.alloc (.cells #[a, b] 5 (2, 3))) := by
 simp [convert, run_underlying Tryz.underlying56, run_underlying Tryz.underlying5, markStringish, shape_new]
 exact freeze_new w #[a, b] 5 2

theorem ret_str_ok {l l' : List UInt8} (h : l = l') : Ending.returned (.tuple #[.string ⟨l.toArray⟩, .int .i64 0]) = Ending.returned (.tuple #[.string ⟨l'.toArray⟩, .int .i64 0]) := by rw [h]
theorem div64 (r : Nat) : (r : Int) / 64 = ((r / 64 : Nat) : Int) := by omega
theorem div4096 (r : Nat) : (r : Int) / 64 / 64 = ((r / 4096 : Nat) : Int) := by omega
theorem div262144 (r : Nat) : (r : Int) / 64 / 64 / 64 = ((r / 262144 : Nat) : Int) := by omega
theorem and960 : bits BinOp.and IntKind.i64 960 255 = 192 := by decide +kernel
theorem and480 : bits BinOp.and IntKind.i64 480 255 = 224 := by decide +kernel
theorem and240 : bits BinOp.and IntKind.i64 240 255 = 240 := by decide +kernel

end Go.Proofs.YtpkecepelcppiaaGreatDoor

namespace Go.Proofs.YtpkecepelcppiaaGreatDoor
open Go.RowKit
set_option maxHeartbeats 1000000
set_option maxRecDepth 100000

end Go.Proofs.YtpkecepelcppiaaGreatDoor
